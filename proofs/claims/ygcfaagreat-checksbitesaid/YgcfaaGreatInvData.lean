import Derived.Test.YgcfaaGreatInvSet
namespace Go.Proofs.YgcfaaGreat
open Go.RowKit Bits Bd
set_option linter.unusedVariables false

theorem words_scalar' {p : Ptr} (hk : p.kind = 2) (hc1 : 2 ≤ p.code) (hc2 : p.code ≤ 5) (hn : p.count ≤ 128) : words p = (p.count * width p.code + 7) / 8 := by
  unfold words
  rw [if_neg (by omega), if_neg (by omega), if_neg (by omega), if_pos ⟨hc1, hc2⟩]

section
variable {B : Bld}
theorem own_one (i : InvC B) {h g x : Nat} (hh : h < B.obj.length) (hg : g < B.obj.length) (a1 : lo (B.o h) ≤ x) (a2 : x < hi (B.o h)) (b1 : lo (B.o g) ≤ x) (b2 : x < hi (B.o g)) : h = g := by
  rcases Nat.lt_trichotomy h g with h1 | h1 | h1
  · have := inv_rise0 i h1 hg; omega
  · exact h1
  · have := inv_rise0 i h1 hh; omega
theorem tag_own (i : InvC B) {h : Nat} (h1 : 1 ≤ h) (hn : h < B.obj.length) (hS : isSt (B.o h)) : lo (B.o h) ≤ (B.o h).at_ - 1 ∧ (B.o h).at_ - 1 < hi (B.o h) := by
  have := i.at1 h h1 hn hS
  rw [(lo_st hS).1, (lo_st hS).2]; omega
/-- The padding looks at an own word alone. -/
theorem pad_set (i : InvC B) {h x v : Nat} (h1 : 1 ≤ h) (hn : h < B.obj.length) (hp : paddedP B.A (B.o h)) (hx : ¬ (lo (B.o h) ≤ x ∧ x < hi (B.o h)) ∨ ¬ (B.o h).kind = 2) : paddedP (B.A.set x v) (B.o h) := by
  rcases hp with hp | hp | ⟨p1, p2⟩
  · exact .inl hp
  · exact .inr (.inl hp)
  · by_cases hk : (B.o h).kind = 2
    · have hx := hx.resolve_right (fun h => h hk)
      by_cases h8 : (B.o h).count * width (B.o h).code % 8 = 0
      · exact .inr (.inl h8)
      · refine .inr (.inr ⟨by rw [List.length_set]; exact p1, ?_⟩)
        rw [getD_set_ne (fun e => hx ?_)]
        · exact p2
        · have hg := i.good h h1 hn
          have hc : 2 ≤ (B.o h).code ∧ (B.o h).code ≤ 5 := by
            have : ¬ width (B.o h).code = 0 := fun h0 => by rw [h0, Nat.mul_zero] at h8; exact h8 rfl
            unfold width at this
            split at this
            · exact absurd rfl this
            · omega
          have hcnt : (B.o h).count ≤ 128 := by rcases hg with h | h | h <;> omega
          have hS : ¬ isSt (B.o h) := fun hs => by have := hs.2; omega
          have hw := (words_scalar' hk hc.1 hc.2 hcnt)
          unfold lo hi
          rw [if_neg hS, if_neg hS, hw]
          omega
    · exact .inl hk

theorem inv_setData (i : InvC B) {op : Opn} {B' : Bld} (hlt : op.h < B.obj.length) (hd : B.dead.getD op.h false = false) (h : setDataB B op = some B') : InvC B' := by
  unfold setDataB at h
  dsimp only at h
  split at h
  · cases h
  · rename_i hk
    split at h
    · cases h
    · rename_i hb
      cases h
      obtain ⟨bit, hbit⟩ : ∃ b, b = op.n * 2 ^ op.x := ⟨_, rfl⟩
      rw [← hbit] at hb ⊢
      have hk1 : (B.o op.h).kind = 1 := by omega
      have h0 : 1 ≤ op.h := by
        rcases Nat.eq_zero_or_pos op.h with h0 | h0
        · rw [h0, i.root.1] at hb
          have : firstPtr.data = 0 := rfl
          omega
        · exact h0
      have hg := i.good _ h0 hlt
      have hw := (good_words hg).1 hk1
      have hlo := lo_struct hk1
      have own : lo (B.o op.h) ≤ (B.o op.h).at_ + bit / 64 ∧ (B.o op.h).at_ + bit / 64 < hi (B.o op.h) := by
        rw [hlo.1, hlo.2, hw]; omega
      refine inv_setA i (fun u k hu hdu hk2 he => ?_) (fun g g1 gn gd gS he => ?_) (fun g g1 gn gd a1 a2 => ?_) (fun g g1 gn gd => ?_)
      · have hs := inv_slot_own i hu hk2
        rw [he] at hs
        have := own_one i hu hlt hs.1 hs.2 own.1 own.2
        subst this
        unfold sAt at he
        rw [if_pos hk1] at he
        omega
      · have hs := tag_own i g1 gn gS
        rw [he] at hs
        have := own_one i gn hlt hs.1 hs.2 own.1 own.2
        subst this
        have := gS.1
        omega
      · have := own_one i gn hlt a1 a2 own.1 own.2
        subst this
        rw [hd] at gd; cases gd
      · refine pad_set i g1 gn (i.pad g g1 gn gd) ?_
        by_cases hgo : g = op.h
        · subst hgo; exact .inr (by omega)
        · exact .inl (fun hx => hgo (own_one i gn hlt hx.1 hx.2 own.1 own.2))
end
end Go.Proofs.YgcfaaGreat
