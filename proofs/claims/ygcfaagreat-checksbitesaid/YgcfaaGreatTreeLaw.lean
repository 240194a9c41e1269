import Derived.Test.YgcfaaGreatTreeF
namespace Go.Proofs.YgcfaaGreat
open Go.RowKit Bits Bd
set_option linter.unusedVariables false

namespace Bd
def sumW (wd : Nat → Nat) : Nat → Nat
  | 0 => 0
  | m + 1 => sumW wd m + wd m
/-- A tree that passes Check: nodes from n0 on are orphans. -/
structure InvT (M : Mo) (n0 : Nat) (own : Nat → Nat × Nat) (dp wd : Nat → Nat) (nm : Nat → Bool) : Prop where
  n5 : M.N.length ≤ 512 ∧ n0 ≤ M.N.length
  shp : ∀ i, i < M.N.length → shapedP M i
  kid : ∀ i j k : Nat, M.at_ i j → M.kd i j = (k : Int) → own k = (i + 1, j)
  rt : M.root = -1 ∨ ∃ r : Nat, M.root = (r : Int) ∧ r < n0 ∧ own r = (0, 0) ∧ dp r = 1 ∧ nm r = true
  main : ∀ i j k : Nat, M.at_ i j → i < n0 → M.kd i j = (k : Int) → k < n0 ∧ dp k = bel (M.nd i) (dp i) ∧ dp k ≤ 8 ∧ nm k = !inl (M.nd i)
  wds : ∀ k, k < n0 → nm k = true → ∃ D Q, twB (M.nd k) D Q ≤ wd k ∧ (¬ (M.nd k).kind = 1 → (M.nd k).code = 7 → ∀ j, j < (M.nd k).kids.length → ∃ x : Nat, (M.nd k).kids.getD j 0 = (x : Int) ∧ x < M.N.length ∧ (M.nd x).data.length ≤ D ∧ (M.nd x).kids.length ≤ Q)
  sum : sumW wd n0 ≤ 255
end Bd
theorem sumW_mono (wd : Nat → Nat) {a b : Nat} (h : a ≤ b) : sumW wd a ≤ sumW wd b := by
  induction b with
  | zero => rw [show a = 0 by omega]; exact Nat.le_refl _
  | succ b ih =>
    by_cases hab : a = b + 1
    · rw [hab]; exact Nat.le_refl _
    · have := ih (by omega)
      show sumW wd a ≤ sumW wd b + wd b
      omega
theorem sumW_one (wd : Nat → Nat) {a b : Nat} (h : a < b) : wd a ≤ sumW wd b := by
  have := sumW_mono wd (show a + 1 ≤ b by omega)
  have e : sumW wd (a + 1) = sumW wd a + wd a := rfl
  omega
theorem putK_in (b : Nat) (l : Bool) : ∀ (ks : List Int) (s : List Nat × List Bool) (x : Nat), (∃ k ∈ ks, ¬ k = -1 ∧ k.toNat = x) → x < s.1.length → x < s.2.length → (putK b l ks s).1.getD x 0 = b ∧ (putK b l ks s).2.getD x false = l
  | [], s, x, ⟨k, hk, _⟩, _, _ => by cases hk
  | k :: ks, s, x, hex, h1, h2 => by
    rw [putK]
    by_cases hin : ∃ k ∈ ks, ¬ k = -1 ∧ k.toNat = x
    · refine putK_in b l ks _ x hin ?_ ?_
      · split
        · exact h1
        · rw [List.length_set]; exact h1
      · split
        · exact h2
        · rw [List.length_set]; exact h2
    · have hk : ¬ k = -1 ∧ k.toNat = x := by
        obtain ⟨k', hk', q⟩ := hex
        rcases List.mem_cons.1 hk' with rfl | hk'
        · exact q
        · exact absurd ⟨k', hk', q⟩ hin
      rw [if_neg hk.1]
      have : ∀ (ks : List Int) (s : List Nat × List Bool), ¬ (∃ k ∈ ks, ¬ k = -1 ∧ k.toNat = x) → (putK b l ks s).1.getD x 0 = s.1.getD x 0 ∧ (putK b l ks s).2.getD x false = s.2.getD x false := by
        intro ks
        induction ks with
        | nil => intro s _; exact ⟨rfl, rfl⟩
        | cons k ks ih =>
          intro s hno
          rw [putK]
          have := ih (if k = -1 then s else (s.1.set k.toNat b, s.2.set k.toNat l)) (fun ⟨k', h1, h2⟩ => hno ⟨k', List.mem_cons_of_mem _ h1, h2⟩)
          rw [this.1, this.2]
          by_cases hm : k = -1
          · rw [if_pos hm]; exact ⟨rfl, rfl⟩
          · rw [if_neg hm]
            have hne : ¬ k.toNat = x := fun e => hno ⟨k, List.mem_cons_self .., hm, e⟩
            exact ⟨getD_set_neG hne, getD_set_neG hne⟩
      rw [(this ks _ hin).1, (this ks _ hin).2, hk.2]
      exact ⟨getD_set_eqG h1, getD_set_eqG h2⟩
where
  getD_set_neG {α : Type} {l : List α} {i k : Nat} {v d : α} (h : ¬ i = k) : (l.set i v).getD k d = l.getD k d := by
    rw [List.getD_eq_getElem?_getD, List.getElem?_set_ne h, List.getD_eq_getElem?_getD]
  getD_set_eqG {α : Type} {l : List α} {i : Nat} {v d : α} (h : i < l.length) : (l.set i v).getD i d = v := by
    rw [List.getD_eq_getElem?_getD, List.getElem?_set_self h]; rfl
theorem putK_out (b : Nat) (l : Bool) (x : Nat) : ∀ (ks : List Int) (s : List Nat × List Bool), ¬ (∃ k ∈ ks, ¬ k = -1 ∧ k.toNat = x) → (putK b l ks s).1.getD x 0 = s.1.getD x 0 ∧ (putK b l ks s).2.getD x false = s.2.getD x false := by
  intro ks
  induction ks with
  | nil => intro s _; exact ⟨rfl, rfl⟩
  | cons k ks ih =>
    intro s hno
    rw [putK]
    have := ih (if k = -1 then s else (s.1.set k.toNat b, s.2.set k.toNat l)) (fun ⟨k', h1, h2⟩ => hno ⟨k', List.mem_cons_of_mem _ h1, h2⟩)
    rw [this.1, this.2]
    by_cases hm : k = -1
    · rw [if_pos hm]; exact ⟨rfl, rfl⟩
    · rw [if_neg hm]
      have hne : ¬ k.toNat = x := fun e => hno ⟨k, List.mem_cons_self .., hm, e⟩
      exact ⟨by rw [List.getD_eq_getElem?_getD, List.getElem?_set_ne hne, List.getD_eq_getElem?_getD], by rw [List.getD_eq_getElem?_getD, List.getElem?_set_ne hne, List.getD_eq_getElem?_getD]⟩

section
variable {M : Mo} {n0 : Nat} {own : Nat → Nat × Nat} {dp wd : Nat → Nat} {nm : Nat → Bool}
/-- A kid that is there is a number. -/
theorem invT_nat (t : InvT M n0 own dp wd nm) {i j : Nat} (h : M.at_ i j) (hm : ¬ M.kd i j = -1) : ∃ k : Nat, M.kd i j = (k : Int) ∧ i < k ∧ k < M.N.length := by
  have := (t.shp i h.1).1 j h.2
  change M.kd i j = -1 ∨ ((i : Int) < M.kd i j ∧ M.kd i j < (M.N.length : Int)) at this
  exact ⟨(M.kd i j).toNat, by omega, by omega, by omega⟩
theorem invT_pre (t : InvT M n0 own dp wd nm) : preT M := by
  refine ⟨?_, t.n5.1, t.shp, fun a b hat hm he => ?_, fun a b c d ha hc hm he => ?_⟩
  · rcases t.rt with h | ⟨r, h, h1, _⟩
    · rw [h]; omega
    · rw [h]; have := t.n5.2; omega
  · obtain ⟨k, hk, _, _⟩ := invT_nat t hat hm
    rcases t.rt with h | ⟨r, h, h1, h2, _⟩
    · rw [h] at he; exact hm he
    · rw [hk, h] at he
      have e : k = r := by omega
      have := t.kid a b k hat hk
      rw [e, h2] at this
      have := congrArg Prod.fst this
      dsimp only at this
      omega
  · obtain ⟨k, hk, _, _⟩ := invT_nat t ha hm
    have h1 := t.kid a b k ha hk
    have h2 := t.kid c d k hc (by rw [← he]; exact hk)
    rw [h1] at h2
    have e1 := congrArg Prod.fst h2
    have e2 := congrArg Prod.snd h2
    dsimp only at e1 e2
    exact ⟨by omega, e2⟩
/-- What the pass over such a tree keeps. -/
def InvI (M : Mo) (n0 : Nat) (dp wd : Nat → Nat) (nm : Nat → Bool) (i w : Nat) (dA : List Nat) (eA : List Bool) : Prop :=
  dA.length = 512 ∧ eA.length = 512 ∧ (∀ x, dA.getD x 0 = 0 ∨ (x < n0 ∧ dA.getD x 0 = dp x ∧ dp x ≤ 8 ∧ eA.getD x false = !nm x)) ∧ w ≤ 1 + sumW wd (min i n0)
theorem invT_bin (t : InvT M n0 own dp wd nm) (hr : ¬ M.root = -1) : BIn M true wd (InvI M n0 dp wd nm) := by
  have hrep : ∀ x, (List.replicate 512 0).getD x 0 = (0 : Nat) := fun x => by rw [List.getD_eq_getElem?_getD, List.getElem?_replicate]; split <;> rfl
  have hrepb : ∀ x, (List.replicate 512 false).getD x false = false := fun x => by rw [List.getD_eq_getElem?_getD, List.getElem?_replicate]; split <;> rfl
  obtain ⟨n5, n0n⟩ := t.n5
  have hsum := t.sum
  refine ⟨fun r hrt => ?_, fun i w dA eA h => ?_, fun i w dA eA h hi h0 => ?_, fun i w dA eA h hi h0 he => ?_, fun i w w' dA eA h hi h0 hw => ?_, fun i w dA eA h hi => ?_⟩
  · rcases t.rt with h | ⟨r', h, h1, h2, h3, h4⟩
    · exact absurd h hr
    · have e : r' = r := by rw [hrt] at h; omega
      subst e
      refine ⟨by rw [List.length_set, List.length_replicate], List.length_replicate, fun x => ?_, by omega⟩
      by_cases hx : x = r'
      · subst hx
        right
        refine ⟨h1, ?_, by omega, by rw [hrepb, h4]; rfl⟩
        rw [h3, List.getD_eq_getElem?_getD, List.getElem?_set_self (by rw [List.length_replicate]; omega)]; rfl
      · left
        rw [List.getD_eq_getElem?_getD, List.getElem?_set_ne (fun e => hx e.symm), ← List.getD_eq_getElem?_getD]
        exact hrep x
  · obtain ⟨a1, a2, a3, a4⟩ := h
    have := sumW_mono wd (show min i n0 ≤ n0 by omega)
    refine ⟨a1, a2, by omega, fun x => ?_⟩
    rcases a3 x with q | ⟨_, q1, q2, _⟩
    · rw [q]; omega
    · rw [q1]; exact q2
  · obtain ⟨a1, a2, a3, a4⟩ := h
    have := sumW_mono wd (show min i n0 ≤ min (i + 1) n0 by omega)
    exact ⟨a1, a2, a3, by omega⟩
  · obtain ⟨a1, a2, a3, a4⟩ := h
    rcases a3 i with q | ⟨q1, q2, q3, q4⟩
    · exact absurd q h0
    · rw [he] at q4
      have hnm : nm i = true := by
        cases h : nm i
        · rw [h] at q4; cases q4
        · rfl
      obtain ⟨D, Q, b1, b2⟩ := t.wds i q1 hnm
      have := sumW_one wd q1
      exact ⟨D, Q, b1, by omega, b2⟩
  · obtain ⟨a1, a2, a3, a4⟩ := h
    rcases a3 i with q | ⟨q1, q2, q3, q4⟩
    · exact absurd q h0
    · have hnob : ¬ (hasK (M.nd i) ∧ 8 < bel (M.nd i) (dA.getD i 0)) := by
        rintro ⟨⟨j, j1, j2⟩, h8⟩
        obtain ⟨k, hk, _, _⟩ := invT_nat t ⟨hi, j1⟩ j2
        have := t.main i j k ⟨hi, j1⟩ q1 hk
        rw [q2] at h8
        omega
      refine ⟨fun h => absurd h hnob, fun _ => ?_⟩
      have hl := putK_len (bel (M.nd i) (dA.getD i 0)) (inl (M.nd i)) (M.nd i).kids (dA, eA)
      refine ⟨by rw [hl.1]; exact a1, by rw [hl.2]; exact a2, fun x => ?_, ?_⟩
      · by_cases hin : ∃ k ∈ (M.nd i).kids, ¬ k = -1 ∧ k.toNat = x
        · obtain ⟨k, hk, hkm, hkx⟩ := hin
          obtain ⟨j, hj, hjk⟩ := List.getElem_of_mem hk
          have hkd : M.kd i j = k := by
            show (M.nd i).kids.getD j 0 = k
            rw [List.getD_eq_getElem?_getD, List.getElem?_eq_getElem hj, hjk]; rfl
          obtain ⟨k', hk', kk1, kk2⟩ := invT_nat t ⟨hi, hj⟩ (by rw [hkd]; exact hkm)
          have hxk : x = k' := by rw [hkd] at hk'; omega
          subst hxk
          obtain ⟨m1, m2, m3, m4⟩ := t.main i j x ⟨hi, hj⟩ q1 hk'
          have := putK_in (bel (M.nd i) (dA.getD i 0)) (inl (M.nd i)) (M.nd i).kids (dA, eA) x ⟨k, hk, hkm, hkx⟩ (by show x < dA.length; omega) (by show x < eA.length; omega)
          right
          refine ⟨m1, by rw [this.1, q2, m2], m3, ?_⟩
          rw [this.2, m4, Bool.not_not]
        · have := putK_out (bel (M.nd i) (dA.getD i 0)) (inl (M.nd i)) x (M.nd i).kids (dA, eA) hin
          rw [this.1, this.2]
          exact a3 x
      · have e1 : min (i + 1) n0 = i + 1 := by omega
        have e2 : min i n0 = i := by omega
        rw [e1]
        rw [e2] at a4
        show w' ≤ 1 + (sumW wd i + wd i)
        split at hw <;> omega
  · obtain ⟨a1, a2, a3, a4⟩ := h
    have := sumW_mono wd (show min i n0 ≤ n0 by omega)
    symm
    rw [decide_eq_true_iff]; omega
end
end Go.Proofs.YgcfaaGreat
