import Derived.Test.YgcfaaInvMake
namespace Go.Proofs.Ygcfaa
open Go.RowKit Bits Bd Utf
set_option linter.unusedVariables false

theorem Inv.of {B : Bld} {K : Bk} {n : Nat} (h : InvN n B K) (e : B.obj.length = n) : Inv B K := by
  unfold Inv; rw [e]; exact h

theorem width_words {x n : Nat} (hx : 2 ≤ x ∧ x ≤ 5) : (n * (8 * 2 ^ (x - 2)) + 63) / 64 = (n * width x + 7) / 8 := by
  have : x = 2 ∨ x = 3 ∨ x = 4 ∨ x = 5 := by omega
  rcases this with rfl | rfl | rfl | rfl <;> simp [width] <;> omega

/-- A list that is none of structs. -/
theorem plainList_step {B : Bld} {K : Bk} (I : Inv B K) {op : Opn} (hop : op.Ok) (hh : op.h < B.obj.length) (hd : B.dd op.h = false) (hx7 : ¬ op.x = 7) :
    (newListB B op).isSome = (listK K op).isSome ∧ Inv ((newListB B op).getD B) ((listK K op).getD K) := by
  have a1 := I.good.even.1
  unfold newListB
  rw [if_neg hx7]
  dsimp only
  have none' : words ⟨2, B.A.length, 0, 0, op.x, op.n⟩ = 257 → listK K op = none → (match roomB B op.h op.i (words ⟨2, B.A.length, 0, 0, op.x, op.n⟩) 1 with
      | none => none
      | some a => some (hangB (if op.x = 6 then markB (growB (Bd.setA B a (mkList a B.A.length op.x op.n)) (words ⟨2, B.A.length, 0, 0, op.x, op.n⟩)) B.A.length op.n true else growB (Bd.setA B a (mkList a B.A.length op.x op.n)) (words ⟨2, B.A.length, 0, 0, op.x, op.n⟩)) ⟨2, B.A.length, 0, 0, op.x, op.n⟩ op.h op.i (B.depth.getD op.h 0 + 1))).isSome = (listK K op).isSome ∧
      Inv ((match roomB B op.h op.i (words ⟨2, B.A.length, 0, 0, op.x, op.n⟩) 1 with
      | none => none
      | some a => some (hangB (if op.x = 6 then markB (growB (Bd.setA B a (mkList a B.A.length op.x op.n)) (words ⟨2, B.A.length, 0, 0, op.x, op.n⟩)) B.A.length op.n true else growB (Bd.setA B a (mkList a B.A.length op.x op.n)) (words ⟨2, B.A.length, 0, 0, op.x, op.n⟩)) ⟨2, B.A.length, 0, 0, op.x, op.n⟩ op.h op.i (B.depth.getD op.h 0 + 1))).getD B) ((listK K op).getD K) := by
    intro h1 h2
    rw [h1, h2, roomB_big (by omega)]
    exact ⟨rfl, I⟩
  by_cases hn : 128 < op.n
  · refine none' ?_ ?_
    · unfold words
      rw [if_neg (by simp), if_neg (by simp), if_pos (.inr hn)]
    · unfold listK; rw [if_pos hn]
  by_cases hx : (2 ≤ op.x ∧ op.x ≤ 5) ∨ op.x = 6
  · -- it may be taken
    obtain ⟨W, made, hW, hL, hWp, hm⟩ : ∃ W made, words ⟨2, B.A.length, 0, 0, op.x, op.n⟩ = W ∧ listK K op = makeK K op made W 0 ∧ W ≤ 1024 ∧ ({ made with depth := B.dp op.h + 1, up := op.h, via := op.i } : Ent) = ⟨false, 2, op.x, 0, 0, op.n, B.dp op.h + 1, op.h, op.i, List.replicate (nslots ⟨2, B.A.length, 0, 0, op.x, op.n⟩) false⟩ := by
      rcases hx with hx | hx
      · refine ⟨(op.n * width op.x + 7) / 8, ⟨false, 2, op.x, 0, 0, op.n, 0, 0, 0, []⟩, ?_, ?_, ?_, ?_⟩
        · unfold words
          rw [if_neg (by simp), if_neg (by simp), if_neg (by dsimp only; omega), if_pos hx]
        · unfold listK
          rw [if_neg hn, if_pos hx, width_words hx]
        · have := width_le op.x
          have := Nat.mul_le_mul (show op.n ≤ 128 by omega) this
          omega
        · unfold nslots
          rw [if_neg (by simp), if_neg (by dsimp only; omega)]
          rfl
      · refine ⟨op.n, ⟨false, 2, op.x, 0, 0, op.n, 0, 0, 0, List.replicate op.n false⟩, ?_, ?_, by omega, ?_⟩
        · unfold words
          rw [if_neg (by simp), if_neg (by simp), if_neg (by dsimp only; omega), if_neg (by dsimp only; omega), if_pos hx]
        · unfold listK
          rw [if_neg hn, if_neg (by omega), if_pos hx]
        · unfold nslots
          rw [if_neg (by simp), if_pos ⟨rfl, hx⟩]
    rw [hW, hL]
    rcases I.room hop hh hd W 0 made with ⟨K', hK, hR, b1, b2, b3, b4, b5, hK'⟩ | ⟨hK, hR⟩
    · rw [hK, show (1 : Nat) = 1 + 0 from rfl, hR]
      refine ⟨rfl, ?_⟩
      have hsl := I.slot_top hh b1
      have hsh : Sh ⟨2, B.A.length, 0, 0, op.x, op.n⟩ := .inr (.inl ⟨rfl, by dsimp only; omega, by dsimp only; omega, by dsimp only; omega, rfl, rfl⟩)
      have := InvN.make1 (v := mkList (slotA (B.o op.h) op.i) B.A.length op.x op.n) (p := ⟨2, B.A.length, 0, 0, op.x, op.n⟩) (B3 := if op.x = 6 then markB (growB (Bd.setA B (slotA (B.o op.h) op.i) (mkList (slotA (B.o op.h) op.i) B.A.length op.x op.n)) W) B.A.length op.n true else growB (Bd.setA B (slotA (B.o op.h) op.i) (mkList (slotA (B.o op.h) op.i) B.A.length op.x op.n)) W) I hop hh hd b1 b2 b3 b4 (by omega) (mkList_ne (by omega) (by omega) (by omega) (by omega) (by omega) (by omega)) hsh (fun h => hx7 h.2) rfl (by
          unfold hi
          rw [if_neg (by simp), if_neg hx7, hW]
          exact Nat.le_refl _) ⟨B.A.length, op.n, true, by
          split
          · exact .inr rfl
          · exact .inl rfl⟩ made hm
      rw [hK']
      exact Inv.of this (by
        show (hangB _ _ _ _ _).obj.length = _
        by_cases h6 : op.x = 6 <;> simp [h6, hangB, markB, growB, Bd.setA])
    · rw [hK, show (1 : Nat) = 1 + 0 from rfl, hR]
      exact ⟨rfl, I⟩
  · refine none' ?_ ?_
    · unfold words
      rw [if_neg (by simp), if_neg (by simp), if_neg (by dsimp only; omega), if_neg (by dsimp only; omega), if_neg (by dsimp only; omega), if_neg (by dsimp only; omega)]
    · unfold listK; rw [if_neg hn, if_neg (by omega), if_neg (by omega), if_neg hx7]

/-- The elements are hung, one by one. -/
theorem elems_inv {N L d q D A0 : Nat} (hd : d ≤ 8) (hq : q ≤ 8) (hD : D ≤ 8) (hL : L < 256) (hN : N ≤ 256) (m : Ent) (hm1 : m.data = d) (hm2 : m.ptrs = q) (hm3 : m.depth = D) :
    ∀ (k j : Nat) (B : Bld) (l : List Ent) (len : Nat), InvN N B ⟨l, len⟩ → B.obj.length = L + 1 + j → N = L + 1 + j + k → l7 (B.o L) → (B.o L).count = j + k → (B.o L).at_ = A0 + 1 → B.dd L = false →
      (∀ h, h < B.obj.length → hi (B.o h) ≤ A0 + 1 + j * (d + q)) → (∀ i, A0 + 1 ≤ i → B.A.getD i 0 = 0) → A0 + 1 + (j + k) * (d + q) ≤ B.A.length → B.A.length ≤ 256 →
      (∀ h, h < B.obj.length → l7 (B.o h) → h = L ∨ (h + (B.o h).count < L ∧ (B.o h).at_ + (B.o h).count * ((B.o h).data + (B.o h).ptrs) ≤ A0)) →
      InvN N (elems L d q D k j (A0 + 1 + j * (d + q)) B) ⟨elemsK m L k j l, len⟩
  | 0, j, B, l, len, I, _, _, _, _, _, _, _, _, _, _, _ => I
  | k + 1, j, B, l, len, I, h1, h2, h3, h4, h5, h6, h7, h8, h9, h10, h11 => by
    rw [elems, elemsK]
    have hmul : (j + 1) * (d + q) = j * (d + q) + (d + q) := Nat.succ_mul _ _
    have hge : (j + 1) * (d + q) ≤ (j + (k + 1)) * (d + q) := Nat.mul_le_mul_right _ (by omega)
    have I2 := (I.mark (A0 + 1 + j * (d + q) + d) q true).push (p := ⟨1, A0 + 1 + j * (d + q), d, q, 0, 0⟩) (H := L) (i := j) (D := D) (m := ⟨false, 1, 0, m.data, m.ptrs, 0, m.depth, L, j, List.replicate m.ptrs false⟩)
      (by show B.obj.length < N; omega) (by show B.obj.length + 1 ≤ 256; omega) (by dsimp only; omega) (.inl ⟨rfl, hd, hq, rfl, rfl⟩) (by rw [hm1, hm2, hm3]; rfl)
      (fun h hh => h7 h hh) (by show A0 + 1 + j * (d + q) + d + q ≤ B.A.length; omega) (fun i hi' => h8 _ (by show A0 + 1 ≤ A0 + 1 + j * (d + q) + d + i; omega)) (fun h => by cases h.1)
      (fun h hh hl => by
        refine ⟨fun hx => ?_, fun hx => ?_⟩
        · rcases h11 h hh hl with e | e
          · exact e.symm
          · have hx' : B.obj.length ≤ h + (B.o h).count := hx
            omega
        · rcases h11 h hh hl with e | e
          · subst e
            have hx' : h + (B.o h).count < B.obj.length := hx
            omega
          · show _ ≤ A0 + 1 + j * (d + q)
            exact Nat.le_trans e.2 (by omega))
      (by show L < B.obj.length; omega) h6 hD (by omega) hL (fun hl => absurd h3 hl)
    have hol : ∀ h, h < B.obj.length → (hangB (markB B (A0 + 1 + j * (d + q) + d) q true) ⟨1, A0 + 1 + j * (d + q), d, q, 0, 0⟩ L j D).o h = B.o h := fun h hh => snoc_lt hh
    have hoe : (hangB (markB B (A0 + 1 + j * (d + q) + d) q true) ⟨1, A0 + 1 + j * (d + q), d, q, 0, 0⟩ L j D).o B.obj.length = ⟨1, A0 + 1 + j * (d + q), d, q, 0, 0⟩ := snoc_eq rfl
    have hln : (hangB (markB B (A0 + 1 + j * (d + q) + d) q true) ⟨1, A0 + 1 + j * (d + q), d, q, 0, 0⟩ L j D).obj.length = B.obj.length + 1 := by simp [hangB, markB]
    have hLl : L < B.obj.length := by omega
    rw [show A0 + 1 + j * (d + q) + (d + q) = A0 + 1 + (j + 1) * (d + q) by omega]
    refine elems_inv hd hq hD hL hN m hm1 hm2 hm3 k (j + 1) _ _ _ I2 (by rw [hln]; omega) (by omega) (by rw [hol L hLl]; exact h3) (by rw [hol L hLl]; omega) (by rw [hol L hLl]; exact h5) ?_ ?_ h8 ?_ h10 ?_
    · have : (hangB (markB B (A0 + 1 + j * (d + q) + d) q true) ⟨1, A0 + 1 + j * (d + q), d, q, 0, 0⟩ L j D).dd L = B.dd L := snoc_lt (by have := I.good.even.2.2.2.2.2; show L < B.dead.length; omega)
      rw [this]; exact h6
    · intro h hh
      rw [hln] at hh
      rcases (show h < B.obj.length ∨ h = B.obj.length by omega) with l' | rfl
      · rw [hol h l']; have := h7 h l'; omega
      · rw [hoe]
        show A0 + 1 + j * (d + q) + d + q ≤ _
        omega
    · show A0 + 1 + (j + 1 + k) * (d + q) ≤ B.A.length
      rw [show j + 1 + k = j + (k + 1) by omega]; exact h9
    · intro h hh hl
      rw [hln] at hh
      rcases (show h < B.obj.length ∨ h = B.obj.length by omega) with l' | rfl
      · rw [hol h l'] at hl ⊢; exact h11 h l' hl
      · rw [hoe] at hl; cases hl.1
end Go.Proofs.Ygcfaa
