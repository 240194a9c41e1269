import Derived.Test.YgcfaaGreatBase
import Derived.OrdersHeld
import Derived.RegionTactic
namespace Go
open Go.RowKit

/-! ### A region that draws its order and holds, beside quiet operations, some that lay blocks ('loud'). -/

/-- Operations that hand back a value and never enter a function. -/
def Op.valueHead : Op → Bool
  | .move _ | .assign _ | .load .. | .unOp .. | .convert .. | .build .. | .fieldAddr .. | .indexAddr .. | .extract .. | .index .. | .nilCheck _ | .binOp .. | .pick .. => true
  | .call { callee := .builtin .len, .. } => true
  | _ => false

/-- A result that is a value, or an end. -/
def Result.isValue : Result Next → Bool
  | .ok (.value _) _ => true
  | .ok _ _ => false
  | .halt _ _ => true

theorem isValue_bind {P : Program} {w : World} (s : Sem Value) : (((do let x ← s; pure (Next.value x)) : Sem Next).run P w).isValue = true := by
  simp only [Sem.run_bind]
  cases s.run P w <;> rfl

theorem isValue_halt {P : Program} {w : World} {m : Sem Next} (h : ∀ n w', m.run P w ≠ .ok n w') : (m.run P w).isValue = true := by
  cases hr : m.run P w with
  | ok n w' => exact absurd hr (h n w')
  | halt x w' => rfl

theorem isValue_head {P : Program} {ρ : Operand → Value} {o : Oper} {w : World} (h : o.op.valueHead = true) : ((execOp ρ o).run P w).isValue = true := by
  obtain ⟨dst, op, type, pos, after, guard⟩ := o
  dsimp only at h
  cases op <;> simp only [Op.valueHead, Bool.false_eq_true] at h
  case move x => rfl
  case assign x => rfl
  case load t a => exact isValue_bind _
  case unOp => exact isValue_bind _
  case convert => exact isValue_bind _
  case build => exact isValue_bind _
  case fieldAddr => exact isValue_bind _
  case indexAddr => exact isValue_bind _
  case extract => exact isValue_bind _
  case index => exact isValue_bind _
  case binOp => exact isValue_bind _
  case pick c x y =>
    show (((do pure (.value (if ← asBool (ρ c) then ρ x else ρ y))) : Sem Next).run P w).isValue = true
    simp only [Sem.run_bind]
    cases (asBool (ρ c)).run P w <;> rfl
  case nilCheck x =>
    have hp : ((runtimePanic .nilDeref : Sem Next).run P w).isValue = true := by
      simp [runtimePanic, goPanic, Sem.run, Result.isValue]
    simp only [execOp]
    split
    · exact hp
    · exact hp
    · exact hp
    · split
      · exact hp
      · rename_i t v2 _
        simp only [Sem.run_bind]
        cases (program.run P w) with
        | halt x w' => rfl
        | ok p w' =>
          simp only [Result.andThen_ok]
          cases ((nilAhead (p.types.size + Made.depth) t v2 _).run P w') with
          | halt x w'' => rfl
          | ok b w'' =>
            simp only [Result.andThen_ok]
            split
            · simp only [Sem.run_bind]
              generalize unsupported (α := PUnit) _ = s
              cases s.run P w'' <;> rfl
            · rfl
      · rfl
    · rfl
  case call c =>
    obtain ⟨callee, args, argTypes⟩ := c
    cases callee with
    | value f => exact absurd h (by simp)
    | invoke r m => exact absurd h (by simp)
    | builtin b =>
      cases b
      case len =>
        simp only [execOp, resolve, invoke, builtin, Sem.run_bind, Sem.run_pure, Result.andThen_ok]
        generalize Builtin.len_ _ _ _ = s
        cases s.run P w <;> rfl
      all_goals exact absurd h (by simp)

section
variable {P : Program} {ops : Array Oper} {md : Region.Mode} {C : World → Prop} {Q : Exit → Act → World → Prop}

theorem YieldsIn.still {o : Oper} {v : Value} {a : Act} (hv : o.op.valueHead = true) (hy : YieldsIn P ops C o v a) : YieldsIf P ops C o v a := by
  refine (match hy with | .inl ⟨h1, h2⟩ => .inl ⟨h1, fun w hw => ?_⟩ | .inr h2 => .inr h2)
  have h3 := h2 w hw
  have h4 := isValue_head (P := P) (ρ := a.eval) (w := w) hv
  unfold Oper.quietAt at h3
  generalize (execOp a.eval o).run P w = r at *
  cases r with
  | halt x w' => simp only [Oper.quietUpon] at h3
  | ok n w' =>
    cases n <;> simp only [Oper.quietUpon] at h3 <;> simp only [Result.isValue, Bool.false_eq_true] at h4
    obtain ⟨rfl, rfl⟩ := h3
    rfl

/-- The head, in whatever order; behind each of its operations the world is of the class. -/
def segH (P : Program) (md : Region.Mode) (ops : Array Oper) (C : World → Prop) (Q : Exit → Act → World → Prop) (n : Nat) (L : Array Bool → Act → World → Prop) : Nat → Array Bool → Act → World → Prop
  | 0, listed, a, w => L listed a w
  | f + 1, listed, a, w =>
    Region.ready md ops listed ≠ [] ∧ ∀ i ∈ Region.ready md ops listed, i < n ∧ wpOp P ops Q i (fun a' w' => C w' ∧ segH P md ops C Q n L f (listed.setIfInBounds i true) a' w') a w

theorem wpAny_of_segH {n g : Nat} {L : Array Bool → Act → World → Prop} (hL : ∀ listed a w, L listed a w → wpAny P md ops Q g listed a w) :
    ∀ (f : Nat) (listed : Array Bool) (a : Act) (w : World), segH P md ops C Q n L f listed a w → wpAny P md ops Q (f + g) listed a w
  | 0, listed, a, w, h => by rw [Nat.zero_add]; exact hL _ _ _ h
  | f + 1, listed, a, w, h => by
    rw [show f + 1 + g = (f + g) + 1 by omega]
    exact ⟨fun h0 => absurd h0 h.1, fun i hi => wpOp_mono (fun a' w' h' => wpAny_of_segH hL f _ a' w' h'.2) (h.2 i hi).2⟩

theorem segH_first {n i : Nat} {oi : Oper} {v : Value} {L : Array Bool → Act → World → Prop} (hi : ops[i]? = some oi) (hsel : ∀ (j : Nat) (o : Oper) cs b, ops[j]? = some o → o.op ≠ .select cs b)
    (hs : Region.sinkB md ops n = true) (hc : Region.chainB md ops n = true) (hn : n < ops.size) (hin : i < n)
    (hQ : ∀ c a w, Q (.panic c) (a.put oi.dst v) w → Q (.panic c) a w)
    (hdone : ∀ listed a w, L listed a w → ∀ j ∈ Region.ready md ops listed, n ≤ j) :
    ∀ (f : Nat) (listed : Array Bool) (a : Act) (w : World), HeadInv md ops n listed →
      (∀ j oj, ops[j]? = some oj → j ≠ i → listed.getD j true = false → (∀ e ∈ oj.after, Region.binds md e = true → e.on ≠ i) → oi.apart ops oj = true) →
      i ∈ Region.ready md ops listed → YieldsIf P ops C oi v a → C w →
      segH P md ops C Q n L f (listed.setIfInBounds i true) (a.put oi.dst v) w → segH P md ops C Q n L (f + 1) listed a w := by
  intro f
  induction f with
  | zero =>
    intro listed a w inv _ hr hy hw H
    have hun := (mem_ready.1 hr).1
    refine ⟨fun h => (by rw [h] at hr; cases hr), fun j hj => ?_⟩
    have hjn : j < n := by
      rcases Nat.lt_or_ge j n with h | h
      · exact h
      · exact absurd hj (tail_waits hs hc hn inv _ i rfl hin hun j h)
    refine ⟨hjn, ?_⟩
    by_cases hji : j = i
    · subst hji; exact hy.wpOp hi hw ⟨hw, H⟩
    · have := hdone _ _ _ H j (ready_mono hj hji)
      omega
  | succ f ih =>
    intro listed a w inv hfree hr hy hw H
    have hun := (mem_ready.1 hr).1
    refine ⟨fun h => (by rw [h] at hr; cases hr), fun j hj => ?_⟩
    have hjn : j < n := by
      rcases Nat.lt_or_ge j n with h | h
      · exact h
      · exact absurd hj (tail_waits hs hc hn inv _ i rfl hin hun j h)
    refine ⟨hjn, ?_⟩
    by_cases hji : j = i
    · subst hji; exact hy.wpOp hi hw ⟨hw, H⟩
    · have h1 := (H.2 j (ready_mono hj hji)).2
      obtain ⟨hjun, oj, hoj, hall⟩ := mem_ready.1 hj
      have hnot : ∀ e ∈ oj.after, Region.binds md e = true → e.on ≠ i := fun e he hb heq => by
        have h1 := hall e he hb
        rw [heq, getD_both hun] at h1
        cases h1
      have h2 := wpOp_putIf hoj (hfree j oj hoj hji hjun hnot) (fun cs b => hsel i oi cs b hi) (fun cs b => hsel j oj cs b hoj) hQ hy h1
      have hfree' : ∀ k ok, ops[k]? = some ok → k ≠ i → (listed.setIfInBounds j true).getD k true = false →
          (∀ e ∈ ok.after, Region.binds md e = true → e.on ≠ i) → oi.apart ops ok = true := fun k ok hk hki hun hno => by
        refine hfree k ok hk hki ?_ hno
        by_cases hjk : j = k
        · subst hjk; exact hjun
        · rw [getD_set_ne true hjk] at hun; exact hun
      refine wpOp_mono (fun a' w' h3 => ⟨h3.2.1, ih (listed.setIfInBounds j true) a' w' (inv.set hj hjn) hfree' (ready_mono hr (Ne.symm hji)) h3.1 h3.2.1 ?_⟩) h2
      rw [Array.setIfInBounds_comm _ _ hji]
      exact h3.2.2

/-- The loud operations of the head, one by one; behind each the world is of the class. -/
def wpLd (P : Program) (ops : Array Oper) (C : World → Prop) (Q : Exit → Act → World → Prop) (K : Act → World → Prop) : List Oper → Act → World → Prop
  | [], a, w => K a w
  | o :: rest, a, w => if Region.wanted o (yielded ops a.tmps) then o.wp P a w (fun a' w' => C w' ∧ wpLd P ops C Q K rest a' w') Q ∨ (o.asks P a w ∧ LetsOut Q) else C w ∧ wpLd P ops C Q K rest (a.put o.dst undef) w

/-- The exits of Q, but K where it goes on. -/
def aft (Q : Exit → Act → World → Prop) (K : Act → World → Prop) : Exit → Act → World → Prop
  | .normal, a, w => K a w
  | e, a, w => Q e a w

theorem wp_of_aft {o : Oper} {a : Act} {w : World} {N K : Act → World → Prop} (h : o.wp P a w N (aft Q K)) : o.wp P a w N Q := by
  unfold Oper.wp at *
  generalize (execOp a.eval o).run P w = r at *
  cases r with
  | ok n w' =>
    cases n <;> simp only [Oper.upon] at h ⊢
    case enter f args => exact h.mono fun e w'' he => by cases e <;> exact he
    all_goals exact h
  | halt x w' => cases x <;> simp only [Oper.upon] at h ⊢ <;> exact h

theorem wpLd_cons {K : Act → World → Prop} {o : Oper} {rest : List Oper} {a : Act} {w : World}
    (h : wpList P ops (aft Q (fun a' w' => C w' ∧ wpLd P ops C Q K rest a' w')) [o] a w) : wpLd P ops C Q K (o :: rest) a w := by
  unfold wpList at h
  unfold wpLd
  split
  · rename_i hx
    rw [if_pos hx] at h
    refine (match h with | .inl h => .inl ?_ | .inr h2 => .inr h2)
    exact Oper.wp_mono (fun a' w' h' => h') (wp_of_aft h)
  · rename_i hx
    rw [if_neg hx] at h
    exact h
theorem wpLd_one {K : Act → World → Prop} {o : Oper} {rest : List Oper} {a : Act} {w : World} (hg : o.guard = none)
    (h : o.wp P a w (fun a' w' => C w' ∧ wpLd P ops C Q K rest a' w') Q) : wpLd P ops C Q K (o :: rest) a w := by
  unfold wpLd
  rw [if_pos (by simp [Region.wanted, hg])]
  exact .inl h

def Region.loudT (md : Region.Mode) (ops : Array Oper) (n : Nat) : List Nat → Array Bool → Bool
  | [], listed => Region.seqB md ops (ops.size - n) n listed
  | t :: ts, listed => decide (Region.ready md ops listed = [t]) && decide (t < n) && Region.loudT md ops n ts (listed.setIfInBounds t true)
def Region.loudQ (md : Region.Mode) (ops : Array Oper) (n : Nat) (ts : List Nat) : List Nat → Array Bool → Bool
  | [], listed => Region.loudT md ops n ts listed
  | i :: qs, listed => (Region.ready md ops listed).contains i && Region.free md ops listed i && decide (i < n) && ((ops[i]?).map (·.op.valueHead)).getD false && Region.loudQ md ops n ts qs (listed.setIfInBounds i true)
def Region.loudB (md : Region.Mode) (ops : Array Oper) (n : Nat) (qs ts : List Nat) : Bool :=
  Region.noSelect ops && decide (n < ops.size) && Region.sinkB md ops n && Region.chainB md ops n && decide (qs.length + ts.length = n) && Region.loudQ md ops n ts qs (Array.replicate ops.size false)

def pickOps (l : List Oper) : List Nat → List Oper
  | [] => []
  | i :: is => (l[i]?).toList ++ pickOps l is

theorem segH_loud {n : Nat} {l : List Oper} {K : Act → World → Prop} :
    ∀ (ts : List Nat) (listed : Array Bool) (a : Act) (w : World), Region.loudT md l.toArray n ts listed = true → HeadInv md l.toArray n listed →
    wpLd P l.toArray C Q K (pickOps l ts) a w →
    segH P md l.toArray C Q n (fun listed' a' w' => Region.seqB md l.toArray (l.toArray.size - n) n listed' = true ∧ K a' w') ts.length listed a w
  | [], listed, a, w, hB, inv, h => ⟨hB, h⟩
  | t :: ts, listed, a, w, hB, inv, h => by
    simp only [Region.loudT, Bool.and_eq_true, decide_eq_true_eq] at hB
    obtain ⟨⟨hr, htn⟩, hB'⟩ := hB
    have hrt : t ∈ Region.ready md l.toArray listed := by rw [hr]; simp
    obtain ⟨_, o, ho, _⟩ := mem_ready.1 hrt
    have ho' : l[t]? = some o := by simpa using ho
    have hp : pickOps l (t :: ts) = o :: pickOps l ts := by simp [pickOps, ho']
    rw [hp] at h
    refine ⟨by rw [hr]; simp, fun i hi => ?_⟩
    rw [hr] at hi
    have hit : i = t := by simpa using hi
    subst hit
    refine ⟨htn, ?_⟩
    unfold wpOp
    simp only [ho]
    unfold wpLd at h
    split
    · rename_i hw
      rw [if_pos hw] at h
      exact (match h with | .inl h => .inl (Oper.wp_mono (fun a' w' h' => ⟨h'.1, segH_loud ts _ a' w' hB' (inv.set hrt htn) h'.2⟩) h) | .inr h2 => .inr h2)
    · rename_i hw
      rw [if_neg hw] at h
      exact ⟨h.1, segH_loud ts _ _ _ hB' (inv.set hrt htn) h.2⟩

theorem segH_quiet {n : Nat} {l : List Oper} {K : Act → World → Prop} {ts : List Nat} (hsel : Region.noSelect l.toArray = true) (hs : Region.sinkB md l.toArray n = true) (hc : Region.chainB md l.toArray n = true) (hn : n < l.toArray.size)
    (hQ : ∀ d v c a w, Q (.panic c) (Act.put a d v) w → Q (.panic c) a w) :
    ∀ (qs : List Nat) (listed : Array Bool) (a : Act) (w : World), Region.loudQ md l.toArray n ts qs listed = true → HeadInv md l.toArray n listed → C w →
    wpQuiet P l.toArray C (fun a' => wpLd P l.toArray C Q K (pickOps l ts) a' w) (pickOps l qs) a →
    segH P md l.toArray C Q n (fun listed' a' w' => Region.seqB md l.toArray (l.toArray.size - n) n listed' = true ∧ K a' w') (qs.length + ts.length) listed a w
  | [], listed, a, w, hB, inv, hw, h => by
    rw [List.length_nil, Nat.zero_add]
    exact segH_loud ts listed a w hB inv h
  | i :: qs, listed, a, w, hB, inv, hw, h => by
    simp only [Region.loudQ, Bool.and_eq_true, decide_eq_true_eq] at hB
    obtain ⟨⟨⟨⟨hr, hf⟩, hin⟩, hv⟩, hB'⟩ := hB
    have hr' : i ∈ Region.ready md l.toArray listed := by simpa using hr
    obtain ⟨_, o, ho, _⟩ := mem_ready.1 hr'
    have ho' : l[i]? = some o := by simpa using ho
    have hp : pickOps l (i :: qs) = o :: pickOps l qs := by simp [pickOps, ho']
    rw [hp] at h
    have hv' : o.op.valueHead = true := by simpa [ho'] using hv
    have hst : qOp P l.toArray C i (wpQuiet P l.toArray C (fun a' => wpLd P l.toArray C Q K (pickOps l ts) a' w) (pickOps l qs)) a := by unfold qOp; simp only [ho]; exact h
    obtain ⟨v, hy, hK⟩ := yieldsIn_of_qOp ho hst
    rw [show (i :: qs).length + ts.length = (qs.length + ts.length) + 1 by simp only [List.length_cons]; omega]
    exact segH_first ho (Region.noSelect_spec hsel) hs hc hn hin (fun c a w => hQ _ _ c a w) (fun listed' a' w' hL => seqB_ready hL.1) _ listed a w inv (Region.free_spec ho hf) hr' (hy.still hv') hw
      (segH_quiet hsel hs hc hn hQ qs _ _ w hB' (inv.set hr' hin) hw hK)

/-- QUIET FIRST, THEN THE LOUD ONES OF THE HEAD, THEN THE TAIL. -/
theorem wp_region_ql {id : Nat} {a : Act} {w : World} {l : List Oper} (C : World → Prop) (n : Nat) (qs ts : List Nat) (hm : P.follows .mixedOrders = true) (hB : Region.loudB .any l.toArray n qs ts = true)
    (hQ : ∀ d v c a w, Q (.panic c) (Act.put a d v) w → Q (.panic c) a w) (hC : C w.drew)
    (h : wpQuiet P l.toArray C (fun a' => wpLd P l.toArray C Q (wpList P l.toArray Q (l.drop n)) (pickOps l ts) a' w.drew) (pickOps l qs) a) : (Code.region id l.toArray true).wp P Q a w := by
  simp only [Region.loudB, Bool.and_eq_true, decide_eq_true_eq] at hB
  obtain ⟨⟨⟨⟨⟨hsel, hn⟩, hs⟩, hc⟩, hlen⟩, hq⟩ := hB
  have inv0 : HeadInv .any l.toArray n (Array.replicate l.toArray.size false) :=
    ⟨by simp, fun j oj _ hl => (by rw [getD_replicate_false] at hl; cases hl), fun t _ ht => getD_in (by simpa using ht) (getD_replicate_false _ _)⟩
  have hdl : (l.drop n).length = l.toArray.size - n := by simp
  have H := segH_quiet (P := P) (md := .any) (ts := ts) hsel hs hc hn hQ qs _ a w.drew hq inv0 hC h
  refine wp_region_any hm ?_
  have := wpAny_of_segH (g := l.toArray.size - n) (fun listed a' w' hL => by
    have := wpAny_of_seq (md := .any) (Q' := Q) (l.drop n) n listed a' w' (fun j => by simp [List.getElem?_drop]) (by rw [hdl]; exact hL.1) hL.2
    rwa [hdl] at this) _ _ _ _ H
  rw [hlen, show n + (l.toArray.size - n) = l.toArray.size by omega] at this
  exact this
end

theorem ext_more {W w : World} (hw : ∃ x, w = W.ext x) : ∃ x, ({ w with drawn := w.drawn + 1 } : World) = W.ext x := by
  obtain ⟨x, rfl⟩ := hw
  exact ⟨{ x with drawn := x.drawn + 1 }, rfl⟩
theorem ext_below {W w w' : World} (hw : ∃ x, w = W.ext x) (h : Below w.heap.size w w') : ∃ x, w' = W.ext x := by
  obtain ⟨x, rfl⟩ := hw
  exact World.ext_of_below ((World.below_ext W x).step h)
/-- QUIET FIRST, THEN THE TAIL, at the class 'W with blocks laid on top'. -/
theorem wp_region_qy {P : Program} {id : Nat} {Q : Exit → Act → World → Prop} {a : Act} {w : World} {l : List Oper} (W : World) (n : Nat) (hm : P.follows .mixedOrders = true) (hB : Region.lexTailB .any l.toArray n = true) (hw : ∃ x, w = W.ext x)
    (h : wpQuiet P l.toArray (fun w' => ∃ x, w' = W.ext x) (fun a' => ∀ w', (∃ x, w' = W.ext x) → wpList P l.toArray Q (l.drop n) a' w') (l.take n) a) : (Code.region id l.toArray true).wp P Q a w :=
  wp_region_qt n hm hB (ext_more hw) h

/-- A world that keeps what stands in w outside X. -/
structure Kw (X : Nat → Prop) (w : World) where
  to : World
  keeps : Keeps X w to
section
variable {X : Nat → Prop} {w : World} (x : Kw X w) (a : Addr)
theorem Kw.cell (hc : (w.cell? a).isSome = true) (hx : ¬ X a.block) : x.to.cell? a = w.cell? a := by
  obtain ⟨u, hu⟩ := Option.isSome_iff_exists.1 hc
  exact x.keeps.cell (lt_of_cell hu) hx
theorem Kw.frozen (hc : (w.cell? a).isSome = true) (hx : ¬ X a.block) : x.to.frozen? a = w.frozen? a := by
  obtain ⟨u, hu⟩ := Option.isSome_iff_exists.1 hc
  exact x.keeps.frozen (lt_of_cell hu) hx
end
end Go
