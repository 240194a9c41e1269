import Derived.Test.YgcfaaGreatInvMk
namespace Go.Proofs.YgcfaaGreat
open Go.RowKit Bits Bd
set_option linter.unusedVariables false

section
variable {B B' : Bld}
theorem inv_at_null (i : InvC B) {H I : Nat} (hH : H < B.obj.length) (hI : I < nsl (B.o H)) (h0 : B.A.getD (sAt (B.o H) I) 0 = 0) {h : Nat} (hh : Hung B h) : ¬ (B.up.getD h 0 = H ∧ B.via.getD h 0 = I) := by
  rintro ⟨e1, e2⟩
  obtain ⟨got, r1, r2, r3⟩ := inv_res i hh
  unfold hAt at r1
  rw [e1, e2, resolve_null (inv_slot_lt i hH hI) h0] at r1
  cases r1
  exact r3 rfl
/-- Padding in another arena that agrees on the list's own words. -/
theorem pad_of (i : InvC B) {A' : List Nat} {h : Nat} (h1 : 1 ≤ h) (hn : h < B.obj.length) (hl : B.A.length ≤ A'.length) (hA : ∀ y, lo (B.o h) ≤ y → y < hi (B.o h) → ¬ isSt (B.o h) → (B.o h).kind = 2 → nsl (B.o h) = 0 → A'.getD y 0 = B.A.getD y 0) (hp : paddedP B.A (B.o h)) : paddedP A' (B.o h) := by
  rcases hp with hp | hp | ⟨p1, p2⟩
  · exact .inl hp
  · exact .inr (.inl hp)
  · by_cases hk : (B.o h).kind = 2
    · by_cases h8 : (B.o h).count * width (B.o h).code % 8 = 0
      · exact .inr (.inl h8)
      · have hg := i.good h h1 hn
        have hc : 2 ≤ (B.o h).code ∧ (B.o h).code ≤ 5 := by
          have : ¬ width (B.o h).code = 0 := fun h0 => by rw [h0, Nat.mul_zero] at h8; exact h8 rfl
          unfold width at this
          split at this
          · exact absurd rfl this
          · omega
        have hcnt : (B.o h).count ≤ 128 := by rcases hg with h | h | h <;> omega
        have hS : ¬ isSt (B.o h) := fun hs => by have := hs.2; omega
        have hw := words_scalar' hk hc.1 hc.2 hcnt
        refine .inr (.inr ⟨by omega, ?_⟩)
        rw [hA _ (by unfold lo; rw [if_neg hS]; omega) (by unfold hi; rw [if_neg hS, hw]; omega) hS hk (by unfold nsl; rw [if_neg (by omega), if_neg (by omega)])]
        exact p2
    · exact .inl hk
end
end Go.Proofs.YgcfaaGreat
