import Derived.Test.YgcfaaGreatInvElem
namespace Go.Proofs.YgcfaaGreat
open Go.RowKit Bits Bd
set_option linter.unusedVariables false

section
variable {B : Bld}
/-- A byte of a live list of bytes, not its last, is laid over its word. -/
theorem inv_byte (i : InvC B) {H j z : Nat} (h0 : 1 ≤ H) (hlt : H < B.obj.length) (hd : B.dead.getD H false = false) (hk2 : (B.o H).kind = 2) (hc : (B.o H).code = 2) (hj : j < (B.o H).count) (hz : z < 256) :
    InvC (setA B ((B.o H).at_ + j / 8) (B.A.getD ((B.o H).at_ + j / 8) 0 ||| z * 2 ^ (j % 8 * 8))) := by
  have hg := i.good _ h0 hlt
  have hcnt : (B.o H).count ≤ 128 := by rcases hg with h | h | h <;> omega
  have hS : ¬ isSt (B.o H) := fun hs => by have := hs.2; omega
  have hw := words_scalar' hk2 (by omega) (by omega) hcnt
  have hwd : width (B.o H).code = 1 := by rw [hc]; rfl
  rw [hwd, Nat.mul_one] at hw
  have own : lo (B.o H) ≤ (B.o H).at_ + j / 8 ∧ (B.o H).at_ + j / 8 < hi (B.o H) := by
    unfold lo hi
    rw [if_neg hS, if_neg hS, hw]; omega
  refine inv_setA i (fun u k hu hdu hk3 he => ?_) (fun g g1 gn gd gS he => ?_) (fun g g1 gn gd a1 a2 => ?_) (fun g g1 gn gd => ?_)
  · have hs := inv_slot_own i hu hk3
    rw [he] at hs
    have := own_one i hu hlt hs.1 hs.2 own.1 own.2
    subst this
    unfold nsl at hk3
    rw [if_neg (by omega), if_neg (by omega)] at hk3
    omega
  · have hs := tag_own i g1 gn gS
    rw [he] at hs
    have := own_one i gn hlt hs.1 hs.2 own.1 own.2
    subst this
    exact hS gS
  · have := own_one i gn hlt a1 a2 own.1 own.2
    subst this
    rw [hd] at gd; cases gd
  · by_cases hgo : g = H
    · subst hgo
      have hp := i.pad _ g1 gn gd
      unfold paddedP at hp ⊢
      rw [hwd, Nat.mul_one] at hp ⊢
      rcases hp with hp | hp | ⟨p1, p2⟩
      · exact .inl hp
      · exact .inr (.inl hp)
      · refine .inr (.inr ⟨by rw [List.length_set]; exact p1, ?_⟩)
        by_cases hy : j / 8 = (B.o g).count / 8
        · rw [hy, getD_set_eq p1]
          have hpos : 0 < 2 ^ ((B.o g).count % 8 * 8) := Nat.two_pow_pos _
          have h1 : B.A.getD ((B.o g).at_ + (B.o g).count / 8) 0 < 2 ^ ((B.o g).count % 8 * 8) := by
            rcases Nat.lt_or_ge (B.A.getD ((B.o g).at_ + (B.o g).count / 8) 0) (2 ^ ((B.o g).count % 8 * 8)) with h | h
            · exact h
            · have := Nat.div_pos h hpos; omega
          have h2 : z * 2 ^ (j % 8 * 8) < 2 ^ ((B.o g).count % 8 * 8) := by
            have e1 : z * 2 ^ (j % 8 * 8) < 2 ^ 8 * 2 ^ (j % 8 * 8) := Nat.mul_lt_mul_of_pos_right (by omega) (Nat.two_pow_pos _)
            rw [← Nat.pow_add] at e1
            exact Nat.lt_of_lt_of_le e1 (Nat.pow_le_pow_right (by omega) (by omega))
          exact Nat.div_eq_of_lt (Nat.or_lt_two_pow h1 h2)
        · rw [getD_set_ne (by omega)]
          exact p2
    · exact pad_set i g1 gn (i.pad g g1 gn gd) (.inl (fun hx => hgo (own_one i gn hlt hx.1 hx.2 own.1 own.2)))
end
end Go.Proofs.YgcfaaGreat
