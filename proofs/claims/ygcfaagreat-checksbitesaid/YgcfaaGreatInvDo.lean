import Derived.Test.YgcfaaGreatInvMake7
import Derived.Test.YgcfaaGreatInvDrop2
import Derived.Test.YgcfaaGreatInvElem
import Derived.Test.YgcfaaGreatDo
namespace Go.Proofs.YgcfaaGreat
open Go.RowKit Bits Bd
set_option linter.unusedVariables false

section
variable {B : Bld}
theorem inv_do (i : InvC B) (ok : B.Ok) {op : Opn} {c1 c2 : Bool} {B' : Bld} (hz : ∀ k, zOf op.s k < 256) (h : doB B op c1 c2 = some B') : InvC B' := by
  unfold doB at h
  split at h
  · rename_i hl
    split at h
    · exact inv_newStruct i ok hl.1 hl.2 h
    · split at h
      · exact inv_newList7 i ok hl.1 hl.2 h
      · split at h
        · exact inv_setText i ok hz hl.1 hl.2 h
        · split at h
          · exact inv_setData i hl.1 hl.2 h
          · split at h
            · exact inv_setElem i ok hl.1 hl.2 h
            · split at h
              · exact inv_drop i ok hl.1 hl.2 h
              · cases h
  · cases h
theorem inv_doD (i : InvC B) (ok : B.Ok) {op : Opn} {c1 c2 : Bool} (hz : ∀ k, zOf op.s k < 256) : InvC ((doB B op c1 c2).getD B) := by
  cases h : doB B op c1 c2 with
  | none => exact i
  | some B' => exact inv_do i ok hz h
theorem inv_good (i : InvC B) : Good B := by
  refine ⟨i.even, fun x => ?_⟩
  by_cases hx : x < B.obj.length
  · have h1 := inv_hi i hx
    have h2 := i.even.1.2
    unfold hi at h1
    split at h1 <;> omega
  · unfold Bld.o
    rw [List.getD_eq_getElem?_getD, List.getElem?_eq_none (by omega)]
    exact Nat.zero_le _
end
end Go.Proofs.YgcfaaGreat
