import Derived.Test.YgcfaaGreatLoud
namespace Go
open Go.RowKit
set_option linter.unusedSimpArgs false
set_option linter.unusedVariables false

/-! ### A region that draws its order: quiet operations, loud ones, quiet ones again, a tail. -/
section
variable {P : Program} {ops : Array Oper} {md : Region.Mode} {C : World → Prop} {Q : Exit → Act → World → Prop}

/-- Each operation from n on waits for one from n - 1 on. -/
def Region.lateB (md : Region.Mode) (ops : Array Oper) (n : Nat) : Bool :=
  (List.range ops.size).all fun t => decide (t < n) || (List.range t).any fun j => decide (n ≤ j + 1) && Region.waitsFor md ops t j

theorem waits_not_ready {t j : Nat} {listed : Array Bool} (hw : Region.waitsFor md ops t j = true) (hun : listed.getD j false = false) : t ∉ Region.ready md ops listed := by
  intro hr
  obtain ⟨_, ot, hot, hall⟩ := mem_ready.1 hr
  obtain ⟨oj, hoj, e, he, hb, hon⟩ := Region.waitsFor_spec hw
  have : oj = ot := Option.some.inj (hoj.symm.trans hot)
  subst this
  have h2 := hall e he hb
  rw [hon, hun] at h2
  cases h2

theorem late_waits {n : Nat} {listed : Array Bool} (h0 : 0 < n) (hs : Region.sinkB md ops (n - 1) = true) (hl : Region.lateB md ops n = true) (hn : n ≤ ops.size) (inv : HeadInv md ops n listed) :
    ∀ (d i : Nat), n - i = d → i < n → listed.getD i true = false → ∀ t, n ≤ t → t ∉ Region.ready md ops listed := by
  intro d
  induction d using Nat.strongRecOn with
  | _ d ih =>
    intro i hd hi hun t ht hr
    have htlt : t < ops.size := by
      obtain ⟨_, ot, hot, _⟩ := mem_ready.1 hr
      exact (Array.getElem?_eq_some_iff.1 hot).1
    by_cases hin : i = n - 1
    · subst hin
      have h1 := List.all_eq_true.1 hl t (List.mem_range.2 htlt)
      simp only [Bool.or_eq_true, decide_eq_true_eq] at h1
      rcases h1 with h1 | h1
      · omega
      · obtain ⟨j, hj, hj2⟩ := List.any_eq_true.1 h1
        simp only [Bool.and_eq_true, decide_eq_true_eq] at hj2
        have hjt : j < t := List.mem_range.1 hj
        refine waits_not_ready hj2.2 ?_ hr
        by_cases hjn : j = n - 1
        · subst hjn; exact getD_both hun
        · exact getD_both (inv.tail j (by omega) (by omega))
    · have h1 := List.all_eq_true.1 hs i (List.mem_range.2 (by omega))
      obtain ⟨j, hj, hj2⟩ := List.any_eq_true.1 h1
      simp only [Bool.and_eq_true, decide_eq_true_eq] at hj2
      obtain ⟨oj, hoj, e, he, hb, hon⟩ := Region.waitsFor_spec hj2.2
      have hjle : j < n := by have := List.mem_range.1 hj; omega
      cases hlj : listed.getD j false with
      | true =>
        have h2 := inv.closed j oj hoj hlj e he hb
        rw [hon, getD_both hun] at h2
        cases h2
      | false =>
        have hjs : j < listed.size := by rw [inv.size]; omega
        exact ih (n - j) (by omega) j rfl hjle (getD_in hjs hlj) t ht hr

theorem segH_first1 {n i : Nat} {oi : Oper} {v : Value} {L : Array Bool → Act → World → Prop} (hi : ops[i]? = some oi) (hsel : ∀ (j : Nat) (o : Oper) cs b, ops[j]? = some o → o.op ≠ .select cs b)
    (htw : ∀ listed, HeadInv md ops n listed → ∀ i, i < n → listed.getD i true = false → ∀ t, n ≤ t → t ∉ Region.ready md ops listed) (hin : i < n)
    (hQ : ∀ c a w, Q (.panic c) (a.put oi.dst v) w → Q (.panic c) a w)
    (hdone : ∀ listed a w, L listed a w → ∀ j ∈ Region.ready md ops listed, n ≤ j) :
    ∀ (f : Nat) (listed : Array Bool) (a : Act) (w : World), HeadInv md ops n listed →
      (∀ j oj, ops[j]? = some oj → j ≠ i → listed.getD j true = false → (∀ e ∈ oj.after, Region.binds md e = true → e.on ≠ i) → oi.apart ops oj = true) →
      i ∈ Region.ready md ops listed → YieldsIf P ops C oi v a → C w →
      segH P md ops C Q n L f (listed.setIfInBounds i true) (a.put oi.dst v) w → segH P md ops C Q n L (f + 1) listed a w := by
  intro f
  induction f with
  | zero =>
    intro listed a w inv _ hr hy hw H
    have hun := (mem_ready.1 hr).1
    refine ⟨fun h => (by rw [h] at hr; cases hr), fun j hj => ?_⟩
    have hjn : j < n := by
      rcases Nat.lt_or_ge j n with h | h
      · exact h
      · exact absurd hj (htw _ inv i hin hun j h)
    refine ⟨hjn, ?_⟩
    by_cases hji : j = i
    · subst hji; exact hy.wpOp hi hw ⟨hw, H⟩
    · have := hdone _ _ _ H j (ready_mono hj hji)
      omega
  | succ f ih =>
    intro listed a w inv hfree hr hy hw H
    have hun := (mem_ready.1 hr).1
    refine ⟨fun h => (by rw [h] at hr; cases hr), fun j hj => ?_⟩
    have hjn : j < n := by
      rcases Nat.lt_or_ge j n with h | h
      · exact h
      · exact absurd hj (htw _ inv i hin hun j h)
    refine ⟨hjn, ?_⟩
    by_cases hji : j = i
    · subst hji; exact hy.wpOp hi hw ⟨hw, H⟩
    · have h1 := (H.2 j (ready_mono hj hji)).2
      obtain ⟨hjun, oj, hoj, hall⟩ := mem_ready.1 hj
      have hnot : ∀ e ∈ oj.after, Region.binds md e = true → e.on ≠ i := fun e he hb heq => by
        have h1 := hall e he hb
        rw [heq, getD_both hun] at h1
        cases h1
      have h2 := wpOp_putIf hoj (hfree j oj hoj hji hjun hnot) (fun cs b => hsel i oi cs b hi) (fun cs b => hsel j oj cs b hoj) hQ hy h1
      have hfree' : ∀ k ok, ops[k]? = some ok → k ≠ i → (listed.setIfInBounds j true).getD k true = false →
          (∀ e ∈ ok.after, Region.binds md e = true → e.on ≠ i) → oi.apart ops ok = true := fun k ok hk hki hun hno => by
        refine hfree k ok hk hki ?_ hno
        by_cases hjk : j = k
        · subst hjk; exact hjun
        · rw [getD_set_ne true hjk] at hun; exact hun
      refine wpOp_mono (fun a' w' h3 => ⟨h3.2.1, ih (listed.setIfInBounds j true) a' w' (inv.set hj hjn) hfree' (ready_mono hr (Ne.symm hji)) h3.1 h3.2.1 ?_⟩) h2
      rw [Array.setIfInBounds_comm _ _ hji]
      exact h3.2.2

def endL : List Nat → Array Bool → Array Bool
  | [], l => l
  | i :: is, l => endL is (l.setIfInBounds i true)
def Region.loudT1 (md : Region.Mode) (ops : Array Oper) (n : Nat) : List Nat → Array Bool → Bool
  | [], listed => (Region.ready md ops listed).all (fun j => decide (n ≤ j))
  | t :: ts, listed => decide (Region.ready md ops listed = [t]) && decide (t < n) && Region.loudT1 md ops n ts (listed.setIfInBounds t true)
def Region.loudQ1 (md : Region.Mode) (ops : Array Oper) (n : Nat) (ts : List Nat) : List Nat → Array Bool → Bool
  | [], listed => Region.loudT1 md ops n ts listed
  | i :: qs, listed => (Region.ready md ops listed).contains i && Region.free md ops listed i && decide (i < n) && ((ops[i]?).map (·.op.valueHead)).getD false && Region.loudQ1 md ops n ts qs (listed.setIfInBounds i true)

theorem segH_loud1 {n : Nat} {l : List Oper} {K : Act → World → Prop} {E : Array Bool} :
    ∀ (ts : List Nat) (listed : Array Bool) (a : Act) (w : World), E = endL ts listed → Region.loudT1 md l.toArray n ts listed = true → HeadInv md l.toArray n listed →
    wpLd P l.toArray C Q K (pickOps l ts) a w →
    segH P md l.toArray C Q n (fun listed' a' w' => (∀ j ∈ Region.ready md l.toArray listed', n ≤ j) ∧ (listed' = E ∧ HeadInv md l.toArray n listed') ∧ K a' w') ts.length listed a w
  | [], listed, a, w, hE, hB, inv, h => by
    refine ⟨fun j hj => ?_, ⟨hE.symm, inv⟩, h⟩
    simp only [Region.loudT1, List.all_eq_true, decide_eq_true_eq] at hB
    exact hB j hj
  | t :: ts, listed, a, w, hE, hB, inv, h => by
    simp only [Region.loudT1, Bool.and_eq_true, decide_eq_true_eq] at hB
    obtain ⟨⟨hr, htn⟩, hB'⟩ := hB
    have hrt : t ∈ Region.ready md l.toArray listed := by rw [hr]; simp
    obtain ⟨_, o, ho, _⟩ := mem_ready.1 hrt
    have ho' : l[t]? = some o := by simpa using ho
    have hp : pickOps l (t :: ts) = o :: pickOps l ts := by simp [pickOps, ho']
    rw [hp] at h
    refine ⟨by rw [hr]; simp, fun i hi => ?_⟩
    rw [hr] at hi
    have hit : i = t := by simpa using hi
    subst hit
    refine ⟨htn, ?_⟩
    unfold wpOp
    simp only [ho]
    unfold wpLd at h
    split
    · rename_i hw
      rw [if_pos hw] at h
      exact (match h with | .inl h => .inl (Oper.wp_mono (fun a' w' h' => ⟨h'.1, segH_loud1 ts _ a' w' hE hB' (inv.set hrt htn) h'.2⟩) h) | .inr h2 => .inr h2)
    · rename_i hw
      rw [if_neg hw] at h
      exact ⟨h.1, segH_loud1 ts _ _ _ hE hB' (inv.set hrt htn) h.2⟩

theorem segH_quiet1 {n : Nat} {l : List Oper} {K : Act → World → Prop} {ts : List Nat} {E : Array Bool} (hsel : Region.noSelect l.toArray = true)
    (htw : ∀ listed, HeadInv md l.toArray n listed → ∀ i, i < n → listed.getD i true = false → ∀ t, n ≤ t → t ∉ Region.ready md l.toArray listed)
    (hQ : ∀ d v c a w, Q (.panic c) (Act.put a d v) w → Q (.panic c) a w) :
    ∀ (qs : List Nat) (listed : Array Bool) (a : Act) (w : World), E = endL (qs ++ ts) listed → Region.loudQ1 md l.toArray n ts qs listed = true → HeadInv md l.toArray n listed → C w →
    wpQuiet P l.toArray C (fun a' => wpLd P l.toArray C Q K (pickOps l ts) a' w) (pickOps l qs) a →
    segH P md l.toArray C Q n (fun listed' a' w' => (∀ j ∈ Region.ready md l.toArray listed', n ≤ j) ∧ (listed' = E ∧ HeadInv md l.toArray n listed') ∧ K a' w') (qs.length + ts.length) listed a w
  | [], listed, a, w, hE, hB, inv, hw, h => by
    rw [List.length_nil, Nat.zero_add]
    exact segH_loud1 ts listed a w hE hB inv h
  | i :: qs, listed, a, w, hE, hB, inv, hw, h => by
    simp only [Region.loudQ1, Bool.and_eq_true, decide_eq_true_eq] at hB
    obtain ⟨⟨⟨⟨hr, hf⟩, hin⟩, hv⟩, hB'⟩ := hB
    have hr' : i ∈ Region.ready md l.toArray listed := by simpa using hr
    obtain ⟨_, o, ho, _⟩ := mem_ready.1 hr'
    have ho' : l[i]? = some o := by simpa using ho
    have hp : pickOps l (i :: qs) = o :: pickOps l qs := by simp [pickOps, ho']
    rw [hp] at h
    have hv' : o.op.valueHead = true := by simpa [ho'] using hv
    have hst : qOp P l.toArray C i (wpQuiet P l.toArray C (fun a' => wpLd P l.toArray C Q K (pickOps l ts) a' w) (pickOps l qs)) a := by unfold qOp; simp only [ho]; exact h
    obtain ⟨v, hy, hK⟩ := yieldsIn_of_qOp ho hst
    rw [show (i :: qs).length + ts.length = (qs.length + ts.length) + 1 by simp only [List.length_cons]; omega]
    exact segH_first1 ho (Region.noSelect_spec hsel) htw hin (fun c a w => hQ _ _ c a w) (fun listed' a' w' hL => hL.1) _ listed a w inv (Region.free_spec ho hf) hr' (hy.still hv') hw
      (segH_quiet1 hsel htw hQ qs _ _ w hE hB' (inv.set hr' hin) hw hK)

def Region.twoB (md : Region.Mode) (ops : Array Oper) (n1 : Nat) (qs ts : List Nat) (n2 : Nat) (qs2 : List Nat) : Bool :=
  Region.noSelect ops && decide (0 < n1) && decide (n1 ≤ n2) && decide (n2 < ops.size) && Region.sinkB md ops (n1 - 1) && Region.lateB md ops n1 && decide (qs.length + ts.length = n1) && Region.loudQ1 md ops n1 ts qs (Array.replicate ops.size false) &&
    Region.sinkB md ops n2 && Region.chainB md ops n2 && decide (n1 + qs2.length = n2) && Region.loudQ md ops n2 [] qs2 (endL (qs ++ ts) (Array.replicate ops.size false))

/-- QUIET, LOUD, QUIET AGAIN, THEN THE TAIL. -/
theorem wp_region_two {id : Nat} {a : Act} {w : World} {l : List Oper} (C : World → Prop) (n1 : Nat) (qs ts : List Nat) (n2 : Nat) (qs2 : List Nat) (hm : P.follows .mixedOrders = true) (hB : Region.twoB .any l.toArray n1 qs ts n2 qs2 = true)
    (hQ : ∀ d v c a w, Q (.panic c) (Act.put a d v) w → Q (.panic c) a w) (hC : C w.drew)
    (h : wpQuiet P l.toArray C (fun a' => wpLd P l.toArray C Q (fun a2 w2 => ∃ C2 : World → Prop, C2 w2 ∧ wpQuiet P l.toArray C2 (fun a3 => wpList P l.toArray Q (l.drop n2) a3 w2) (pickOps l qs2) a2) (pickOps l ts) a' w.drew) (pickOps l qs) a) :
    (Code.region id l.toArray true).wp P Q a w := by
  simp only [Region.twoB, Bool.and_eq_true, decide_eq_true_eq] at hB
  obtain ⟨⟨⟨⟨⟨⟨⟨⟨⟨⟨⟨hsel, h0⟩, h12⟩, hn2⟩, hs1⟩, hl1⟩, hlen⟩, hq1⟩, hs2⟩, hc2⟩, hlen2⟩, hq2⟩ := hB
  have inv0 : HeadInv .any l.toArray n1 (Array.replicate l.toArray.size false) :=
    ⟨by simp, fun j oj _ hl => (by rw [getD_replicate_false] at hl; cases hl), fun t _ ht => getD_in (by simpa using ht) (getD_replicate_false _ _)⟩
  have H := segH_quiet1 (P := P) (md := .any) (ts := ts) (E := endL (qs ++ ts) (Array.replicate l.toArray.size false)) hsel (fun listed inv i hi hun => late_waits h0 hs1 hl1 (by omega) inv _ i rfl hi hun) hQ qs _ a w.drew rfl hq1 inv0 hC h
  refine wp_region_any hm ?_
  have hdl : (l.drop n2).length = l.toArray.size - n2 := by simp
  have := wpAny_of_segH (g := qs2.length + (l.toArray.size - n2)) (fun listed a' w' hL => by
    obtain ⟨_, ⟨rfl, inv⟩, C2, hC2, hK⟩ := hL
    have inv2 : HeadInv .any l.toArray n2 (endL (qs ++ ts) (Array.replicate l.toArray.size false)) := ⟨inv.size, inv.closed, fun t ht ht' => inv.tail t (by omega) ht'⟩
    have H2 := segH_quiet (P := P) (md := .any) (C := C2) (ts := []) (K := wpList P l.toArray Q (l.drop n2)) hsel hs2 hc2 hn2 hQ qs2 _ a' w' hq2 inv2 hC2 hK
    exact wpAny_of_segH (g := l.toArray.size - n2) (fun listed a' w' hL => by
      have := wpAny_of_seq (md := .any) (Q' := Q) (l.drop n2) n2 listed a' w' (fun j => by simp [List.getElem?_drop]) (by rw [hdl]; exact hL.1) hL.2
      rwa [hdl] at this) _ _ _ _ H2) _ _ _ _ H
  rw [hlen, show n1 + (qs2.length + (l.toArray.size - n2)) = l.toArray.size by omega] at this
  exact this
end
end Go
