import Derived.Test.YgcfaaGreatInvApp
namespace Go.Proofs.YgcfaaGreat
open Go.RowKit Bits Bd
set_option linter.unusedVariables false

section
variable {B B' : Bld}
theorem nsl_notSt {p : Ptr} (h : 0 < nsl p) : ¬ isSt p := fun hs => by
  unfold nsl at h
  rw [if_neg (by have := hs.1; omega), if_neg (by have := hs.2; omega)] at h
  omega
theorem nxt_old {p : Ptr} {u v d : Nat} (ap : Apnd B B' p u v d) {h : Nat} (hh : h < B.obj.length) : nxt B' h = nxt B h := by
  unfold nxt
  rw [(ap.old h hh).1]
theorem isE_old {p : Ptr} {u v d : Nat} (i : InvC B) (ap : Apnd B B' p u v d) {h : Nat} (h1 : 1 ≤ h) (hh : h < B.obj.length) : isE B' h ↔ isE B h := by
  have hu := i.up h h1 hh
  unfold isE
  rw [(ap.old h hh).2.1, (ap.old _ (by omega : B.up.getD h 0 < B.obj.length)).1]
end
end Go.Proofs.YgcfaaGreat
