import Derived.Test.YgcfaaInv
namespace Go.Proofs.Ygcfaa
open Go.RowKit Bits Bd Utf
set_option linter.unusedVariables false

theorem mkStruct_ne {f t d p : Nat} (h1 : f < 256) (h2 : t ≤ 256) (h3 : d ≤ 8) (h4 : p ≤ 8) : ¬ mkStruct f t d p = 0 := by
  unfold mkStruct
  rw [if_neg (by omega)]
  by_cases e : d = 0 ∧ p = 0
  · rw [if_pos e]
    unfold offN
    omega
  · omega
theorem mkList_ne {f t c n : Nat} (h1 : f < 256) (h2 : t ≤ 256) (h3 : 2 ≤ c) (h4 : c ≤ 7) (h5 : n ≤ 256) (h6 : ¬ c = 7 → n ≤ 128) : ¬ mkList f t c n = 0 := by
  unfold mkList
  rw [if_neg (by omega), if_neg (by omega)]
  omega

section
variable {N : Nat} {B : Bld} {K : Bk}
theorem InvN.slotN (I : InvN N B K) {h i : Nat} (hh : h < B.obj.length) (hi256 : i < 256) : slotB B h i = if i < nslots (B.o h) then some (slotA (B.o h) i) else none := by
  have hat := I.good.at_ h
  have hs := I.sh h hh
  have key : Bd.slotN (B.o h) i = if i < nslots (B.o h) then some (slotA (B.o h) i) else none := by
    unfold Bd.slotN nslots slotA
    rcases hs with ⟨h1, h2, h3, h4, h5⟩ | ⟨h1, h2, h3, h4, h5, h6⟩ | ⟨h1, h2, h3, h4, h5, h6⟩ <;> (repeat' split) <;> first
      | rfl
      | (exfalso; omega)
      | (congr 1; exact Nat.mod_eq_of_lt (by omega))
  unfold slotB
  rw [key]
  by_cases hi' : i < nslots (B.o h)
  · rw [if_pos hi']
    dsimp only
    rw [if_pos (I.slot_top hh hi')]
  · rw [if_neg hi']

/-- room and make ask the same. -/
theorem InvN.room (I : InvN N B K) {op : Opn} (hop : op.Ok) (hh : op.h < B.obj.length) (hd : B.dd op.h = false) (W E : Nat) (made : Ent) :
    (∃ K', makeK K op made W E = some K' ∧ roomB B op.h op.i W (1 + E) = some (slotA (B.o op.h) op.i) ∧ op.i < nslots (B.o op.h) ∧ (K.at_ op.h).set.getD op.i false = false ∧ B.dp op.h + 1 ≤ 8 ∧ B.A.length + W ≤ 256 ∧ B.obj.length + 1 + E ≤ 256 ∧
      K' = ⟨elemsK { made with depth := B.dp op.h + 1, up := op.h, via := op.i } B.obj.length E 0 ((K.putSet op.h ((K.at_ op.h).set.set op.i true)).e ++ [{ made with depth := B.dp op.h + 1, up := op.h, via := op.i }]), B.A.length + W⟩) ∨
    (makeK K op made W E = none ∧ roomB B op.h op.i W (1 + E) = none) := by
  have e1 := I.set op.h hh
  have e2 := I.ent op.h hh
  have e3 : (K.at_ op.h).depth = B.dp op.h := by rw [e2]
  have hsl := I.slotN hh hop.i
  unfold makeK roomB
  rw [hsl, e1, e3, I.len, I.n]
  by_cases c1 : op.i < nslots (B.o op.h)
  · rw [if_pos c1]
    dsimp only
    have hb := I.bit op.h hh hd op.i c1
    by_cases c2 : (K.at_ op.h).set.getD op.i false = false ∧ B.dp op.h + 1 ≤ 8 ∧ B.A.length + W ≤ 256 ∧ B.obj.length + 1 + E ≤ 256
    · left
      obtain ⟨b1, b2, b3, b4⟩ := c2
      have hz : B.A.getD (slotA (B.o op.h) op.i) 0 = 0 := by
        rw [b1] at hb
        by_cases hz : B.A.getD (slotA (B.o op.h) op.i) 0 = 0
        · exact hz
        · exact absurd (hb.2 hz) (by simp)
      refine ⟨_, by rw [if_pos ⟨c1, b1, b2, b3, b4⟩], ?_, c1, b1, b2, b3, b4, rfl⟩
      rw [if_pos ⟨hz, by have : B.depth.getD op.h 0 = B.dp op.h := rfl; omega, b3, by omega⟩]
    · right
      refine ⟨by rw [if_neg (fun h => c2 h.2)], ?_⟩
      rw [if_neg]
      rintro ⟨b1, b2, b3, b4⟩
      refine c2 ⟨?_, by have : B.depth.getD op.h 0 = B.dp op.h := rfl; omega, b3, by omega⟩
      cases hx : (K.at_ op.h).set.getD op.i false
      · rfl
      · exact absurd b1 (hb.1 hx)
  · right
    rw [if_neg c1]
    exact ⟨by rw [if_neg (fun h => c1 h.1)], rfl⟩

/-- No live handle hangs at an empty slot. -/
theorem InvN.empty (I : InvN N B K) {H i : Nat} (hb : (K.at_ H).set.getD i false = false) (hH : H < B.obj.length) (hl : ¬ l7 (B.o H)) : ∀ h, 0 < h → h < B.obj.length → B.dd h = false → B.upp h = H → B.vi h = i → False := by
  intro h h0 hh hd hu hv
  have := (I.hang h h0 hh hd (by rw [hu]; exact hl)).2
  rw [hu, hv, hb] at this
  cases this
theorem slots_l7 {o : Ptr} {i : Nat} (h : i < nslots o) : ¬ l7 o := by
  rintro ⟨h1, h2⟩
  unfold nslots at h
  rw [if_neg (by omega), if_neg (by omega)] at h
  omega
end
end Go.Proofs.Ygcfaa
