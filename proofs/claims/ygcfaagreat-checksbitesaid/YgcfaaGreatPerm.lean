import Derived.Test.YgcfaaGreatLoud
namespace Go
open Go.RowKit

/-! ### A region that draws its order, with loud operations in the head that come in any order among themselves. -/
section
variable {P : Program} {ops : Array Oper} {md : Region.Mode} {C : World → Prop} {Q : Exit → Act → World → Prop}

def wpPm (P : Program) (l : List Oper) (C : World → Prop) (Q : Exit → Act → World → Prop) (K : Act → World → Prop) : Nat → List Nat → Act → World → Prop
  | 0, _, a, w => K a w
  | f + 1, ts, a, w => ∀ t, t ∈ ts → ∀ o, l[t]? = some o → wpList P l.toArray (aft Q (fun a' w' => C w' ∧ wpPm P l C Q K f (ts.erase t) a' w')) [o] a w

def Region.permT (md : Region.Mode) (ops : Array Oper) (n : Nat) (us : List Nat) : Nat → List Nat → Array Bool → Bool
  | 0, _, listed => Region.loudT md ops n us listed
  | f + 1, ts, listed => decide (Region.ready md ops listed = ts) && decide (ts ≠ []) && ts.all fun t => decide (t < n) && Region.permT md ops n us f (ts.erase t) (listed.setIfInBounds t true)
def Region.permQ (md : Region.Mode) (ops : Array Oper) (n : Nat) (us : List Nat) (f : Nat) (ts : List Nat) : List Nat → Array Bool → Bool
  | [], listed => Region.permT md ops n us f ts listed
  | i :: qs, listed => (Region.ready md ops listed).contains i && Region.free md ops listed i && decide (i < n) && ((ops[i]?).map (·.op.valueHead)).getD false && Region.permQ md ops n us f ts qs (listed.setIfInBounds i true)
def Region.permB (md : Region.Mode) (ops : Array Oper) (n : Nat) (qs : List Nat) (f : Nat) (ts us : List Nat) : Bool :=
  Region.noSelect ops && decide (n < ops.size) && Region.sinkB md ops n && Region.chainB md ops n && decide (qs.length + (f + us.length) = n) && Region.permQ md ops n us f ts qs (Array.replicate ops.size false)

theorem segH_perm {n : Nat} {l : List Oper} {K : Act → World → Prop} {us : List Nat} :
    ∀ (f : Nat) (ts : List Nat) (listed : Array Bool) (a : Act) (w : World), Region.permT md l.toArray n us f ts listed = true → HeadInv md l.toArray n listed →
    wpPm P l C Q (wpLd P l.toArray C Q K (pickOps l us)) f ts a w →
    segH P md l.toArray C Q n (fun listed' a' w' => Region.seqB md l.toArray (l.toArray.size - n) n listed' = true ∧ K a' w') (f + us.length) listed a w
  | 0, ts, listed, a, w, hB, inv, h => by
    rw [Nat.zero_add]
    exact segH_loud us listed a w hB inv h
  | f + 1, ts, listed, a, w, hB, inv, h => by
    rw [show f + 1 + us.length = (f + us.length) + 1 by omega]
    simp only [Region.permT, Bool.and_eq_true, decide_eq_true_eq, List.all_eq_true] at hB
    obtain ⟨⟨hr, hne⟩, hB'⟩ := hB
    refine ⟨by rw [hr]; exact hne, fun i hi => ?_⟩
    have hit : i ∈ ts := by rw [hr] at hi; exact hi
    obtain ⟨hin, hB2⟩ := hB' i hit
    obtain ⟨_, o, ho, _⟩ := mem_ready.1 hi
    have ho' : l[i]? = some o := by simpa using ho
    refine ⟨hin, ?_⟩
    have h1 := h i hit o ho'
    unfold wpOp
    simp only [ho]
    unfold wpList at h1
    split
    · rename_i hw
      rw [if_pos hw] at h1
      refine (match h1 with | .inl h1 => .inl ?_ | .inr h2 => .inr h2)
      exact Oper.wp_mono (fun a' w' h' => ⟨h'.1, segH_perm f _ _ a' w' hB2 (inv.set hi hin) h'.2⟩) (wp_of_aft h1)
    · rename_i hw
      rw [if_neg hw] at h1
      exact ⟨h1.1, segH_perm f _ _ _ _ hB2 (inv.set hi hin) h1.2⟩

theorem segH_quietP {n : Nat} {l : List Oper} {K : Act → World → Prop} {f : Nat} {ts us : List Nat} (hsel : Region.noSelect l.toArray = true) (hs : Region.sinkB md l.toArray n = true) (hc : Region.chainB md l.toArray n = true) (hn : n < l.toArray.size)
    (hQ : ∀ d v c a w, Q (.panic c) (Act.put a d v) w → Q (.panic c) a w) :
    ∀ (qs : List Nat) (listed : Array Bool) (a : Act) (w : World), Region.permQ md l.toArray n us f ts qs listed = true → HeadInv md l.toArray n listed → C w →
    wpQuiet P l.toArray C (fun a' => wpPm P l C Q (wpLd P l.toArray C Q K (pickOps l us)) f ts a' w) (pickOps l qs) a →
    segH P md l.toArray C Q n (fun listed' a' w' => Region.seqB md l.toArray (l.toArray.size - n) n listed' = true ∧ K a' w') (qs.length + (f + us.length)) listed a w
  | [], listed, a, w, hB, inv, hw, h => by
    rw [List.length_nil, Nat.zero_add]
    exact segH_perm f ts listed a w hB inv h
  | i :: qs, listed, a, w, hB, inv, hw, h => by
    simp only [Region.permQ, Bool.and_eq_true, decide_eq_true_eq] at hB
    obtain ⟨⟨⟨⟨hr, hf⟩, hin⟩, hv⟩, hB'⟩ := hB
    have hr' : i ∈ Region.ready md l.toArray listed := by simpa using hr
    obtain ⟨_, o, ho, _⟩ := mem_ready.1 hr'
    have ho' : l[i]? = some o := by simpa using ho
    have hp : pickOps l (i :: qs) = o :: pickOps l qs := by simp [pickOps, ho']
    rw [hp] at h
    have hv' : o.op.valueHead = true := by simpa [ho'] using hv
    have hst : qOp P l.toArray C i (wpQuiet P l.toArray C (fun a' => wpPm P l C Q (wpLd P l.toArray C Q K (pickOps l us)) f ts a' w) (pickOps l qs)) a := by unfold qOp; simp only [ho]; exact h
    obtain ⟨v, hy, hK⟩ := yieldsIn_of_qOp ho hst
    rw [show (i :: qs).length + (f + us.length) = (qs.length + (f + us.length)) + 1 by simp only [List.length_cons]; omega]
    exact segH_first ho (Region.noSelect_spec hsel) hs hc hn hin (fun c a w => hQ _ _ c a w) (fun listed' a' w' hL => seqB_ready hL.1) _ listed a w inv (Region.free_spec ho hf) hr' (hy.still hv') hw
      (segH_quietP hsel hs hc hn hQ qs _ _ w hB' (inv.set hr' hin) hw hK)

/-- QUIET FIRST, THEN THE LOUD ONES OF THE HEAD IN ANY ORDER, THEN THE TAIL. -/
theorem wp_region_qp {id : Nat} {a : Act} {w : World} {l : List Oper} (C : World → Prop) (n : Nat) (qs : List Nat) (f : Nat) (ts us : List Nat) (hm : P.follows .mixedOrders = true) (hB : Region.permB .any l.toArray n qs f ts us = true)
    (hQ : ∀ d v c a w, Q (.panic c) (Act.put a d v) w → Q (.panic c) a w) (hC : C w.drew)
    (h : wpQuiet P l.toArray C (fun a' => wpPm P l C Q (wpLd P l.toArray C Q (wpList P l.toArray Q (l.drop n)) (pickOps l us)) f ts a' w.drew) (pickOps l qs) a) : (Code.region id l.toArray true).wp P Q a w := by
  simp only [Region.permB, Bool.and_eq_true, decide_eq_true_eq] at hB
  obtain ⟨⟨⟨⟨⟨hsel, hn⟩, hs⟩, hc⟩, hlen⟩, hq⟩ := hB
  have inv0 : HeadInv .any l.toArray n (Array.replicate l.toArray.size false) :=
    ⟨by simp, fun j oj _ hl => (by rw [getD_replicate_false] at hl; cases hl), fun t _ ht => getD_in (by simpa using ht) (getD_replicate_false _ _)⟩
  have hdl : (l.drop n).length = l.toArray.size - n := by simp
  have H := segH_quietP (P := P) (md := .any) (f := f) (ts := ts) (us := us) hsel hs hc hn hQ qs _ a w.drew hq inv0 hC h
  refine wp_region_any hm ?_
  have := wpAny_of_segH (g := l.toArray.size - n) (fun listed a' w' hL => by
    have := wpAny_of_seq (md := .any) (Q' := Q) (l.drop n) n listed a' w' (fun j => by simp [List.getElem?_drop]) (by rw [hdl]; exact hL.1) hL.2
    rwa [hdl] at this) _ _ _ _ H
  rw [hlen, show n + (l.toArray.size - n) = l.toArray.size by omega] at this
  exact this

/-- Two of them: either order. -/
theorem wpPm_two {l : List Oper} {K : Act → World → Prop} {t u : Nat} {o1 o2 : Oper} (htu : t ≠ u) (h1 : l[t]? = some o1) (h2 : l[u]? = some o2) {a : Act} {w : World}
    (A : wpList P l.toArray (aft Q (fun a' w' => C w' ∧ wpList P l.toArray (aft Q (fun a' w' => C w' ∧ K a' w')) [o2] a' w')) [o1] a w)
    (B : wpList P l.toArray (aft Q (fun a' w' => C w' ∧ wpList P l.toArray (aft Q (fun a' w' => C w' ∧ K a' w')) [o1] a' w')) [o2] a w) : wpPm P l C Q K 2 [t, u] a w := by
  intro x hx o ho
  simp only [List.mem_cons, List.not_mem_nil, or_false] at hx
  have e1 : [t, u].erase t = [u] := by simp
  have e2 : [t, u].erase u = [t] := by simp [htu]
  rcases hx with rfl | rfl
  · rw [h1] at ho
    cases ho
    have : (fun a' w' => C w' ∧ wpPm P l C Q K 1 ([x, u].erase x) a' w') = (fun a' w' => C w' ∧ wpList P l.toArray (aft Q (fun a' w' => C w' ∧ K a' w')) [o2] a' w') := by
      funext a' w'
      rw [e1, eq_iff_iff]
      refine and_congr_right (fun _ => ⟨fun h => h u (by simp) o2 h2, fun h y hy o ho => ?_⟩)
      simp only [List.mem_cons, List.not_mem_nil, or_false] at hy
      subst hy
      rw [h2] at ho
      cases ho
      exact h
    rw [this]
    exact A
  · rw [h2] at ho
    cases ho
    have : (fun a' w' => C w' ∧ wpPm P l C Q K 1 ([t, x].erase x) a' w') = (fun a' w' => C w' ∧ wpList P l.toArray (aft Q (fun a' w' => C w' ∧ K a' w')) [o1] a' w') := by
      funext a' w'
      rw [e2, eq_iff_iff]
      refine and_congr_right (fun _ => ⟨fun h => h t (by simp) o1 h1, fun h y hy o ho => ?_⟩)
      simp only [List.mem_cons, List.not_mem_nil, or_false] at hy
      subst hy
      rw [h1] at ho
      cases ho
      exact h
    rw [this]
    exact B
end
end Go
