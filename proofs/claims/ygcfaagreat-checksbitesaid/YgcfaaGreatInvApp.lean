import Derived.Test.YgcfaaGreatInvByte
namespace Go.Proofs.YgcfaaGreat
open Go.RowKit Bits Bd
set_option linter.unusedVariables false

theorem getD_app_old {α : Type} {l : List α} {v d : α} {k : Nat} (h : k < l.length) : (l ++ [v]).getD k d = l.getD k d := by
  rw [List.getD_eq_getElem?_getD, List.getElem?_append_left h, List.getD_eq_getElem?_getD]
theorem getD_app_new {α : Type} {l : List α} {v d : α} : (l ++ [v]).getD l.length d = v := by
  rw [List.getD_eq_getElem?_getD, List.getElem?_append_right (Nat.le_refl _)]; simp
theorem getD_grow {l : List Nat} {n k : Nat} : (l ++ List.replicate n 0).getD k 0 = l.getD k 0 := by
  by_cases h : k < l.length
  · rw [List.getD_eq_getElem?_getD, List.getElem?_append_left h, List.getD_eq_getElem?_getD]
  · rw [List.getD_eq_getElem?_getD, List.getElem?_append_right (by omega), List.getD_eq_getElem?_getD, List.getElem?_eq_none (by omega : l.length ≤ k), List.getElem?_replicate]
    split <;> rfl

section
variable {B : Bld}
/-- A handle appended: the old ones are as they were, the new one is what was appended. -/
structure Apnd (B B' : Bld) (p : Ptr) (u v d : Nat) : Prop where
  len : B'.obj.length = B.obj.length + 1
  old : ∀ h, h < B.obj.length → B'.o h = B.o h ∧ B'.up.getD h 0 = B.up.getD h 0 ∧ B'.via.getD h 0 = B.via.getD h 0 ∧ B'.depth.getD h 0 = B.depth.getD h 0 ∧ B'.dead.getD h false = B.dead.getD h false
  new : B'.o B.obj.length = p ∧ B'.up.getD B.obj.length 0 = u ∧ B'.via.getD B.obj.length 0 = v ∧ B'.depth.getD B.obj.length 0 = d ∧ B'.dead.getD B.obj.length false = false
theorem apnd_hang (hev : B.up.length = B.obj.length ∧ B.via.length = B.obj.length ∧ B.depth.length = B.obj.length ∧ B.dead.length = B.obj.length) (p : Ptr) (u v d : Nat) : Apnd B (hangB B p u v d) p u v d := by
  obtain ⟨e1, e2, e3, e4⟩ := hev
  refine ⟨by simp [hangB], fun h hh => ⟨getD_app_old hh, getD_app_old (by omega), getD_app_old (by omega), getD_app_old (by omega), getD_app_old (by omega)⟩, getD_app_new, ?_, ?_, ?_, ?_⟩
  · rw [← e1]; exact getD_app_new
  · rw [← e2]; exact getD_app_new
  · rw [← e3]; exact getD_app_new
  · rw [← e4]; exact getD_app_new
end
end Go.Proofs.YgcfaaGreat
