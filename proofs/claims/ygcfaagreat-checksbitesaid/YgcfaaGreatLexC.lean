import Derived.Test.YgcfaaGreatWireA
namespace Go.Proofs.YgcfaaGreat
open Go.RowKit
/-- The operations of region 'id' of a body. -/
def regOps (id : Nat) : Code → Option (Array Oper)
  | .region i ops _ => if i = id then some ops else none
  | .seq a b => (regOps id a).or (regOps id b)
  | .cond _ a b => (regOps id a).or (regOps id b)
  | .block _ b => regOps id b
  | .loop b => regOps id b
  | .scope b => regOps id b
  | _ => none
def fnOps (f : Func) (id : Nat) : Array Oper := ((f.body.bind (regOps id)).getD #[])
theorem lex56 : Region.lexTailB .any (fnOps Faag.f56 8) 65 = true := by kernel_rfl
end Go.Proofs.YgcfaaGreat
