import Derived.Test.YgcfaaGreatMarkS
namespace Go.Proofs.YgcfaaGreat
open Go.RowKit Bits Bd
set_option linter.unusedVariables false
set_option maxRecDepth 100000
set_option linter.unusedSimpArgs false
attribute [local go_sem] World.cell?_ext World.frozen?_ext

namespace Bd
/-- valid.Walk -/
structure Wk where
  set : List Nat
  st : List (Nat × Nat)
  sp : Nat
def entC (e : Nat × Nat) : List Value := [.int .u16 (e.1 : Int), .int .u8 (e.2 : Int)]
def entsC : List (Nat × Nat) → List Value
  | [] => []
  | e :: l => .int .u16 (e.1 : Int) :: .int .u8 (e.2 : Int) :: entsC l
def Wk.cells (W : Wk) : List Value := U W.set ++ (entsC W.st ++ [.int .u16 (W.sp : Int)])
def Wk.ent (W : Wk) (i : Nat) : Nat × Nat := W.st.getD i (0, 0)
structure Wk.Ok (W : Wk) : Prop where
  four : W.set.length = 4
  lt : ∀ i, W.set.getD i 0 < 18446744073709551616
  n : W.st.length = 256
  at_ : ∀ i, (W.ent i).1 < 65536
  dep : ∀ i, (W.ent i).2 < 256
  sp : W.sp < 65536
end Bd
theorem entsC_length : ∀ l, (entsC l).length = 2 * l.length
  | [] => rfl
  | e :: l => by simp [entsC, entsC_length l]; omega
theorem entsC_0 : ∀ (l : List (Nat × Nat)) (i : Nat), i < l.length → (entsC l)[2 * i]? = some (.int .u16 ((l.getD i (0, 0)).1 : Int))
  | [], i, h => absurd h (by simp)
  | e :: l, 0, h => rfl
  | e :: l, i + 1, h => by
    have := entsC_0 l i (by simpa using h)
    rw [show 2 * (i + 1) = 2 * i + 1 + 1 by omega, entsC, List.getElem?_cons_succ, List.getElem?_cons_succ, this]; simp
theorem entsC_1 : ∀ (l : List (Nat × Nat)) (i : Nat), i < l.length → (entsC l)[2 * i + 1]? = some (.int .u8 ((l.getD i (0, 0)).2 : Int))
  | [], i, h => absurd h (by simp)
  | e :: l, 0, h => rfl
  | e :: l, i + 1, h => by
    have := entsC_1 l i (by simpa using h)
    rw [show 2 * (i + 1) + 1 = 2 * i + 1 + 1 + 1 by omega, entsC, List.getElem?_cons_succ, List.getElem?_cons_succ, this]; simp
theorem entsC_set : ∀ (l : List (Nat × Nat)) (i a d : Nat), i < l.length → ((entsC l).set (2 * i) (.int .u16 (a : Int))).set (2 * i + 1) (.int .u8 (d : Int)) = entsC (l.set i (a, d))
  | [], i, a, d, h => absurd h (by simp)
  | e :: l, 0, a, d, h => rfl
  | e :: l, i + 1, a, d, h => by
    have := entsC_set l i a d (by simpa using h)
    rw [show 2 * (i + 1) = 2 * i + 1 + 1 by omega, entsC, List.set_cons_succ, List.set_cons_succ, List.set_cons_succ, List.set_cons_succ, this]; rfl

structure WkAt (w : World) (b : Nat) (W : Wk) : Prop where
  row : RowAt w b 0 W.cells
  ok : W.Ok

section
variable {w w' : World} {b : Nat} {W : Wk}
theorem wk_len (ok : W.Ok) : W.cells.length = 517 := by
  simp [Wk.cells, U_length, entsC_length, ok.four, ok.n]
theorem WkAt.setC (h : WkAt w b W) {j : Nat} (hj : j < 4) : w.cell? ⟨b, j, none⟩ = some (.int .u64 (W.set.getD j 0 : Nat)) ∧ w.frozen? ⟨b, j, none⟩ = false := by
  have h1 := h.row.at_ (i := j) (v := .int .u64 (W.set.getD j 0 : Nat)) (by
    unfold Wk.cells
    rw [List.getElem?_append_left (by rw [U_length, h.ok.four]; exact hj)]
    exact U_get (by rw [h.ok.four]; exact hj))
  have h2 := h.row.live j (by rw [wk_len h.ok]; omega)
  rw [Nat.zero_add] at h1 h2
  exact ⟨h1, h2⟩
theorem WkAt.entC0 (h : WkAt w b W) {i : Nat} (hi : i < 256) : w.cell? ⟨b, 4 + 2 * i, none⟩ = some (.int .u16 ((W.ent i).1 : Int)) ∧ w.frozen? ⟨b, 4 + 2 * i, none⟩ = false := by
  have h1 := h.row.at_ (i := 4 + 2 * i) (v := .int .u16 ((W.ent i).1 : Int)) (by
    unfold Wk.cells
    rw [List.getElem?_append_right (by rw [U_length, h.ok.four]; omega), U_length, h.ok.four, Nat.add_sub_cancel_left, List.getElem?_append_left (by rw [entsC_length, h.ok.n]; omega)]
    exact entsC_0 _ _ (by rw [h.ok.n]; exact hi))
  have h2 := h.row.live (4 + 2 * i) (by rw [wk_len h.ok]; omega)
  rw [Nat.zero_add] at h1 h2
  exact ⟨h1, h2⟩
theorem WkAt.entC1 (h : WkAt w b W) {i : Nat} (hi : i < 256) : w.cell? ⟨b, 4 + 2 * i + 1, none⟩ = some (.int .u8 ((W.ent i).2 : Int)) ∧ w.frozen? ⟨b, 4 + 2 * i + 1, none⟩ = false := by
  have h1 := h.row.at_ (i := 4 + (2 * i + 1)) (v := .int .u8 ((W.ent i).2 : Int)) (by
    unfold Wk.cells
    rw [List.getElem?_append_right (by rw [U_length, h.ok.four]; omega), U_length, h.ok.four, Nat.add_sub_cancel_left, List.getElem?_append_left (by rw [entsC_length, h.ok.n]; omega)]
    exact entsC_1 _ _ (by rw [h.ok.n]; exact hi))
  have h2 := h.row.live (4 + (2 * i + 1)) (by rw [wk_len h.ok]; omega)
  rw [Nat.zero_add, ← Nat.add_assoc] at h1 h2
  exact ⟨h1, h2⟩
theorem WkAt.spC (h : WkAt w b W) : w.cell? ⟨b, 516, none⟩ = some (.int .u16 (W.sp : Int)) ∧ w.frozen? ⟨b, 516, none⟩ = false := by
  have h1 := h.row.at_ (i := 516) (v := .int .u16 (W.sp : Int)) (by
    unfold Wk.cells
    rw [List.getElem?_append_right (by rw [U_length, h.ok.four]; omega), U_length, h.ok.four, List.getElem?_append_right (by rw [entsC_length, h.ok.n]; omega), entsC_length, h.ok.n]
    rfl)
  have h2 := h.row.live 516 (by rw [wk_len h.ok]; omega)
  rw [Nat.zero_add] at h1 h2
  exact ⟨h1, h2⟩
theorem WkAt.putSet (h : WkAt w b W) {j n : Nat} (hj : j < 4) (hn : n < 18446744073709551616) : WkAt (w.setCell ⟨b, j, none⟩ (.int .u64 (n : Int))) b { W with set := W.set.set j n } := by
  refine ⟨?_, ⟨by rw [List.length_set]; exact h.ok.four, fun i => ?_, h.ok.n, h.ok.at_, h.ok.dep, h.ok.sp⟩⟩
  · have := h.row.set (i := j) (by rw [wk_len h.ok]; omega) (.int .u64 (n : Int))
    unfold Wk.cells at this ⊢
    rw [Nat.zero_add, List.set_append_left _ _ (by rw [U_length, h.ok.four]; exact hj), U_set] at this
    exact this
  · show (W.set.set j n).getD i 0 < _
    rw [getD_set _ _ _ _ (by rw [h.ok.four]; omega)]
    split
    · exact hn
    · exact h.ok.lt _
theorem WkAt.putSp (h : WkAt w b W) {n : Nat} (hn : n < 65536) : WkAt (w.setCell ⟨b, 516, none⟩ (.int .u16 (n : Int))) b { W with sp := n } := by
  refine ⟨?_, ⟨h.ok.four, h.ok.lt, h.ok.n, h.ok.at_, h.ok.dep, hn⟩⟩
  have := h.row.set (i := 516) (by rw [wk_len h.ok]; omega) (.int .u16 (n : Int))
  unfold Wk.cells at this ⊢
  rw [Nat.zero_add, List.set_append_right _ _ (by rw [U_length, h.ok.four]; omega), U_length, h.ok.four, List.set_append_right _ _ (by rw [entsC_length, h.ok.n]; omega), entsC_length, h.ok.n] at this
  exact this
theorem WkAt.putEnt (h : WkAt w b W) {i a d : Nat} (hi : i < 256) (ha : a < 65536) (hd : d < 256) :
    WkAt ((w.setCell ⟨b, 4 + 2 * i, none⟩ (.int .u16 (a : Int))).setCell ⟨b, 4 + 2 * i + 1, none⟩ (.int .u8 (d : Int))) b { W with st := W.st.set i (a, d) } := by
  have hg : ∀ k, (W.st.set i (a, d)).getD k (0, 0) = if k = i then (a, d) else W.st.getD k (0, 0) := fun k => by
    by_cases hk : k = i
    · subst hk; rw [if_pos rfl, List.getD_eq_getElem?_getD, List.getElem?_set_self (by rw [h.ok.n]; exact hi)]; rfl
    · rw [if_neg hk, List.getD_eq_getElem?_getD, List.getElem?_set_ne (fun e => hk e.symm), List.getD_eq_getElem?_getD]
  refine ⟨?_, ⟨h.ok.four, h.ok.lt, by rw [List.length_set]; exact h.ok.n, fun k => ?_, fun k => ?_, h.ok.sp⟩⟩
  · have h1 := h.row.set (i := 4 + 2 * i) (by rw [wk_len h.ok]; omega) (.int .u16 (a : Int))
    have h2 := h1.set (i := 4 + 2 * i + 1) (by rw [List.length_set, wk_len h.ok]; omega) (.int .u8 (d : Int))
    unfold Wk.cells at h2 ⊢
    rw [Nat.zero_add, Nat.zero_add, List.set_append_right _ _ (by rw [U_length, h.ok.four]; omega), U_length, h.ok.four, Nat.add_sub_cancel_left, List.set_append_right _ _ (by rw [U_length, h.ok.four]; omega), U_length, h.ok.four,
      show 4 + 2 * i + 1 - 4 = 2 * i + 1 by omega, List.set_append_left _ _ (by rw [entsC_length, h.ok.n]; omega), List.set_append_left _ _ (by rw [List.length_set, entsC_length, h.ok.n]; omega), entsC_set _ _ _ _ (by rw [h.ok.n]; exact hi)] at h2
    exact h2
  · show ((W.st.set i (a, d)).getD k (0, 0)).1 < _
    rw [hg]; split
    · exact ha
    · exact h.ok.at_ k
  · show ((W.st.set i (a, d)).getD k (0, 0)).2 < _
    rw [hg]; split
    · exact hd
    · exact h.ok.dep k
theorem WkAt.e0 (h : WkAt w b W) {i : Nat} (hi : i < 256) : w.cell? ⟨b, 4 + i * 2, none⟩ = some (.int .u16 ((W.ent i).1 : Int)) ∧ w.frozen? ⟨b, 4 + i * 2, none⟩ = false := by
  rw [Nat.mul_comm]; exact h.entC0 hi
theorem WkAt.e1 (h : WkAt w b W) {i : Nat} (hi : i < 256) : w.cell? ⟨b, 4 + i * 2 + 1, none⟩ = some (.int .u8 ((W.ent i).2 : Int)) ∧ w.frozen? ⟨b, 4 + i * 2 + 1, none⟩ = false := by
  rw [Nat.mul_comm]; exact h.entC1 hi
theorem WkAt.put2 (h : WkAt w b W) {i a d : Nat} (hi : i < 256) (ha : a < 65536) (hd : d < 256) :
    WkAt ((w.setCell ⟨b, 4 + i * 2, none⟩ (.int .u16 (a : Int))).setCell ⟨b, 4 + i * 2 + 1, none⟩ (.int .u8 (d : Int))) b { W with st := W.st.set i (a, d) } := by
  rw [Nat.mul_comm]; exact h.putEnt hi ha hd
theorem WkAt.keeps {X : Nat → Prop} (h : WkAt w b W) (k : Keeps X w w') (hx : ¬ X b) : WkAt w' b W := ⟨h.row.keeps k (fun _ => hx), h.ok⟩
theorem WkAt.below (h : WkAt w b W) (k : Below w.heap.size w w') : WkAt w' b W := h.keeps (Keeps.of_below k) (by have := h.row.lt (by rw [wk_len h.ok]; omega); omega)
theorem WkAt.lt (h : WkAt w b W) : b < w.heap.size := h.row.lt (by rw [wk_len h.ok]; omega)
end

namespace Bd
/-- Walk.push -/
def pushGo (at_ d : Nat) : Nat → Nat → Wk → Wk
  | 0, _, W => W
  | k + 1, i, W => if W.sp < 256 then pushGo at_ d k (i + 1) { W with st := W.st.set W.sp ((at_ + i) % 65536, d), sp := W.sp + 1 } else W
end Bd
theorem pushGo_end (at_ d k i : Nat) (W : Wk) (h : ¬ W.sp < 256) : pushGo at_ d k i W = W := by
  cases k with
  | zero => rfl
  | succ k => rw [pushGo, if_neg h]
end Go.Proofs.YgcfaaGreat
