import Derived.Test.YgcfaaGreatInvRise
namespace Go.Proofs.YgcfaaGreat
open Go.RowKit Bits Bd
set_option linter.unusedVariables false

section
variable {B : Bld}
theorem inv_lo1 (i : InvC B) {g : Nat} (h1 : 1 ≤ g) (hn : g < B.obj.length) : 1 ≤ lo (B.o g) := by
  obtain ⟨e1, e2⟩ := i.row1.2 (by omega)
  have := (inv_lo_ge i _ 1 g (Nat.le_refl _) (Nat.le_refl _) e1 h1 hn).1
  omega
theorem inv_o0 (i : InvC B) : lo (B.o 0) = 0 ∧ hi (B.o 0) = 1 ∧ nsl (B.o 0) = 1 ∧ sAt (B.o 0) 0 = 0 := by
  rw [i.root.1]
  refine ⟨rfl, by decide, rfl, rfl⟩
/-- Every handle's own words lie in the arena. -/
theorem inv_hi (i : InvC B) {g : Nat} (hn : g < B.obj.length) : hi (B.o g) ≤ B.A.length := by
  have hA := i.even.1.1
  by_cases h0 : g = 0
  · subst h0; rw [(inv_o0 i).2.1]; exact hA
  · by_cases hE : isE B g
    · obtain ⟨e1, e2, e3⟩ := i.inE g (by omega) hn hE
      have hu := i.up g (by omega) hn
      unfold isE at hE
      generalize B.up.getD g 0 = L at *
      generalize B.via.getD g 0 = j at *
      subst e3
      obtain ⟨x1, x2, x3, x4⟩ := inv_elem i e1 (by omega) hE e2
      have hLw := st_words i e1 (by omega) hE
      have hat := i.at1 L e1 (by omega) hE
      have hf := inv_fit i e1 (by omega) (st_notE i e1 (by omega) hE)
      rw [(lo_st hE).1] at hf
      have hm : (j + 1) * ((B.o L).data + (B.o L).ptrs) ≤ (B.o L).count * ((B.o L).data + (B.o L).ptrs) := Nat.mul_le_mul_right _ e2
      rw [Nat.add_mul, Nat.one_mul] at hm
      rw [(lo_struct (by rw [x1])).2, x4, x1]
      dsimp only
      omega
    · have hf := inv_fit i (by omega) hn hE
      by_cases hS : isSt (B.o g)
      · have hw := st_words i (by omega) hn hS
        have hat := i.at1 g (by omega) hn hS
        rw [(lo_st hS).1] at hf
        rw [(lo_st hS).2]; omega
      · have : hi (B.o g) = lo (B.o g) + words (B.o g) := by unfold hi lo; rw [if_neg hS, if_neg hS]
        omega
/-- A pointer word is one of its object's own. -/
theorem inv_slot_own (i : InvC B) {u k : Nat} (hn : u < B.obj.length) (hk : k < nsl (B.o u)) : lo (B.o u) ≤ sAt (B.o u) k ∧ sAt (B.o u) k < hi (B.o u) := by
  by_cases h0 : u = 0
  · subst h0
    obtain ⟨e1, e2, e3, e4⟩ := inv_o0 i
    rw [e3] at hk
    have : k = 0 := by omega
    subst this
    rw [e1, e2, e4]; omega
  · have hg := i.good u (by omega) hn
    have hw := good_words hg
    unfold nsl at hk
    by_cases hk1 : (B.o u).kind = 1
    · rw [if_pos hk1] at hk
      rw [(lo_struct hk1).1, (lo_struct hk1).2, hw.1 hk1]
      unfold sAt
      rw [if_pos hk1]; omega
    · rw [if_neg hk1] at hk
      by_cases hk6 : (B.o u).kind = 2 ∧ (B.o u).code = 6
      · rw [if_pos hk6] at hk
        have hS : ¬ isSt (B.o u) := fun h => by have := h.2; omega
        unfold lo hi sAt
        rw [if_neg hS, if_neg hS, if_neg hk1, hw.2.2 hk6.1 hk6.2]; omega
      · rw [if_neg hk6] at hk; omega
theorem inv_slot_lt (i : InvC B) {u k : Nat} (hn : u < B.obj.length) (hk : k < nsl (B.o u)) : sAt (B.o u) k < B.A.length := by
  have h1 := inv_slot_own i hn hk
  have h2 := inv_hi i hn
  omega
theorem inv_rise0 (i : InvC B) {h g : Nat} (hg : h < g) (hn : g < B.obj.length) : hi (B.o h) ≤ lo (B.o g) := by
  by_cases h0 : h = 0
  · subst h0
    rw [(inv_o0 i).2.1]
    exact inv_lo1 i (by omega) hn
  · exact inv_rise i (by omega) hg hn
theorem inv_slot_inj (i : InvC B) {u v j k : Nat} (hu : u < B.obj.length) (hv : v < B.obj.length) (hj : j < nsl (B.o u)) (hk : k < nsl (B.o v)) (h : sAt (B.o u) j = sAt (B.o v) k) : u = v ∧ j = k := by
  have a1 := inv_slot_own i hu hj
  have a2 := inv_slot_own i hv hk
  have huv : u = v := by
    rcases Nat.lt_trichotomy u v with h1 | h1 | h1
    · have := inv_rise0 i h1 hv; omega
    · exact h1
    · have := inv_rise0 i h1 hu; omega
  subst huv
  refine ⟨rfl, ?_⟩
  unfold sAt at h
  split at h <;> omega
/-- Builder.slot finds it. -/
theorem inv_slotB (i : InvC B) {u k : Nat} (hu : u < B.obj.length) (hk : k < nsl (B.o u)) : slotB B u k = some (sAt (B.o u) k) := by
  have h1 := inv_slot_lt i hu hk
  have h2 := i.even.1.2
  have : slotN (B.o u) k = some (sAt (B.o u) k) := by
    unfold slotN
    unfold nsl at hk
    unfold sAt at h1 ⊢
    by_cases hk1 : (B.o u).kind = 1
    · rw [if_pos hk1] at hk h1 ⊢
      rw [if_pos ⟨hk1, hk⟩, Nat.mod_eq_of_lt (by omega)]
    · rw [if_neg hk1] at hk h1 ⊢
      rw [if_neg (fun h => hk1 h.1)]
      by_cases hk6 : (B.o u).kind = 2 ∧ (B.o u).code = 6
      · rw [if_pos hk6] at hk
        rw [if_pos ⟨hk6.1, hk6.2, hk⟩, Nat.mod_eq_of_lt (by omega)]
      · rw [if_neg hk6] at hk; omega
  unfold slotB
  rw [this]
  dsimp only
  rw [if_pos h1]
end
end Go.Proofs.YgcfaaGreat
