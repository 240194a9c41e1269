import Derived.Test.YgcfaaGreatWkStart
namespace Go.Proofs.YgcfaaGreat
open Go.RowKit Bits Bd
set_option linter.unusedVariables false
set_option maxRecDepth 100000

theorem entsC_set0 : ∀ (l : List (Nat × Nat)) (i a : Nat), i < l.length → (entsC l).set (2 * i) (.int .u16 (a : Int)) = entsC (l.set i (a, (l.getD i (0, 0)).2))
  | [], i, a, h => absurd h (by simp)
  | e :: l, 0, a, h => rfl
  | e :: l, i + 1, a, h => by
    have := entsC_set0 l i a (by simpa using h)
    rw [show 2 * (i + 1) = 2 * i + 1 + 1 by omega, entsC, List.set_cons_succ, List.set_cons_succ, this]; rfl
theorem entsC_set1 : ∀ (l : List (Nat × Nat)) (i d : Nat), i < l.length → (entsC l).set (2 * i + 1) (.int .u8 (d : Int)) = entsC (l.set i ((l.getD i (0, 0)).1, d))
  | [], i, a, h => absurd h (by simp)
  | e :: l, 0, a, h => rfl
  | e :: l, i + 1, a, h => by
    have := entsC_set1 l i a (by simpa using h)
    rw [show 2 * (i + 1) + 1 = 2 * i + 1 + 1 + 1 by omega, entsC, List.set_cons_succ, List.set_cons_succ, this]; rfl

section
variable {w : World} {b : Nat} {W : Wk}
theorem ent_set {W : Wk} (hn : W.st.length = 256) {i : Nat} (hi : i < 256) (e : Nat × Nat) (k : Nat) : Wk.ent { W with st := W.st.set i e } k = if k = i then e else W.ent k := by
  unfold Wk.ent
  by_cases hk : k = i
  · subst hk; rw [if_pos rfl, List.getD_eq_getElem?_getD, List.getElem?_set_self (by rw [hn]; exact hi)]; rfl
  · rw [if_neg hk, List.getD_eq_getElem?_getD, List.getElem?_set_ne (fun e => hk e.symm), List.getD_eq_getElem?_getD]
theorem ok_set (ok : W.Ok) {i a d : Nat} (hi : i < 256) (ha : a < 65536) (hd : d < 256) : Wk.Ok { W with st := W.st.set i (a, d) } := by
  refine ⟨ok.four, ok.lt, by rw [List.length_set]; exact ok.n, fun k => ?_, fun k => ?_, ok.sp⟩
  · rw [ent_set ok.n hi]; split
    · exact ha
    · exact ok.at_ k
  · rw [ent_set ok.n hi]; split
    · exact hd
    · exact ok.dep k
theorem WkAt.put0 (h : WkAt w b W) {i a : Nat} (hi : i < 256) (ha : a < 65536) : WkAt (w.setCell ⟨b, 4 + i * 2, none⟩ (.int .u16 (a : Int))) b { W with st := W.st.set i (a, (W.ent i).2) } := by
  refine ⟨?_, ok_set h.ok hi ha (h.ok.dep i)⟩
  rw [Nat.mul_comm]
  have h1 := h.row.set (i := 4 + 2 * i) (by rw [wk_len h.ok]; omega) (.int .u16 (a : Int))
  unfold Wk.cells at h1 ⊢
  rw [Nat.zero_add, List.set_append_right _ _ (by rw [U_length, h.ok.four]; omega), U_length, h.ok.four, Nat.add_sub_cancel_left, List.set_append_left _ _ (by rw [entsC_length, h.ok.n]; omega), entsC_set0 _ _ _ (by rw [h.ok.n]; exact hi)] at h1
  exact h1
theorem WkAt.put1 (h : WkAt w b W) {i d : Nat} (hi : i < 256) (hd : d < 256) : WkAt (w.setCell ⟨b, 4 + i * 2 + 1, none⟩ (.int .u8 (d : Int))) b { W with st := W.st.set i ((W.ent i).1, d) } := by
  refine ⟨?_, ok_set h.ok hi (h.ok.at_ i) hd⟩
  rw [Nat.mul_comm, Nat.add_assoc]
  have h1 := h.row.set (i := 4 + (2 * i + 1)) (by rw [wk_len h.ok]; omega) (.int .u8 (d : Int))
  unfold Wk.cells at h1 ⊢
  rw [Nat.zero_add, List.set_append_right _ _ (by rw [U_length, h.ok.four]; omega), U_length, h.ok.four, Nat.add_sub_cancel_left, List.set_append_left _ _ (by rw [entsC_length, h.ok.n]; omega), entsC_set1 _ _ _ (by rw [h.ok.n]; exact hi)] at h1
  exact h1

/-! The five hurts of a walk. -/
theorem hurt0 (n : Nat) {v : Nat} (h4 : W.set.length = 4) (hv : v % 2 = 0) : ¬ midP n { W with set := W.set.set 0 v } := by
  rintro ⟨⟨_, _, h⟩, _⟩
  unfold tb at h
  rw [show 0 / 64 = 0 from rfl, show 0 % 64 = 0 from rfl, getD_set _ _ _ _ (by omega), if_pos rfl, Nat.testBit_zero, hv] at h
  simp at h
theorem hurt1 (n : Nat) : ¬ midP n { W with sp := 257 } := by
  rintro ⟨_, _, h, _⟩
  exact absurd h (show ¬ (257 : Nat) ≤ 256 by decide)
theorem hurt2 (n : Nat) (ok : W.Ok) {a : Nat} (h0 : 0 < W.sp) (h1 : W.sp ≤ 256) (ht : tb W.set a = false) : ¬ midP n { W with st := W.st.set (W.sp - 1) (a, (W.ent (W.sp - 1)).2) } := by
  rintro ⟨_, _, _, h⟩
  obtain ⟨_, _, h3, _⟩ := h (W.sp - 1) (by show W.sp - 1 < W.sp; omega)
  rw [ent_set ok.n (by omega), if_pos rfl] at h3
  rw [show tb W.set a = true from h3] at ht
  cases ht
theorem hurt3 (n : Nat) (ok : W.Ok) (h0 : 0 < W.sp) (h1 : W.sp ≤ 256) : ¬ midP n { W with st := W.st.set (W.sp - 1) ((W.ent (W.sp - 1)).1, 255) } := by
  rintro ⟨_, _, _, h⟩
  obtain ⟨_, h2, _, _⟩ := h (W.sp - 1) (by show W.sp - 1 < W.sp; omega)
  rw [ent_set ok.n (by omega), if_pos rfl] at h2
  exact absurd h2 (show ¬ (255 : Nat) ≤ 8 by decide)
theorem hurt4 (n : Nat) (ok : W.Ok) (h0 : 0 < W.sp) (h1 : W.sp < 256) : ¬ midP n { W with st := W.st.set W.sp (W.ent (W.sp - 1)), sp := W.sp + 1 } := by
  rintro ⟨_, _, _, h⟩
  obtain ⟨_, _, _, h4⟩ := h W.sp (by show W.sp < W.sp + 1; omega)
  have e : ∀ k, Wk.ent { W with st := W.st.set W.sp (W.ent (W.sp - 1)), sp := W.sp + 1 } k = if k = W.sp then W.ent (W.sp - 1) else W.ent k := fun k => ent_set (W := { W with sp := W.sp + 1 }) ok.n h1 _ k
  refine h4 (W.sp - 1) (by omega) ?_
  rw [e, e, if_neg (by omega), if_pos rfl]
end
end Go.Proofs.YgcfaaGreat
