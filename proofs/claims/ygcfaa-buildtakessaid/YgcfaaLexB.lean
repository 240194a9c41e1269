import Derived.Test.YgcfaaLexA
namespace Go.Proofs.Ygcfaa
open Go.RowKit
theorem lex37b : Region.lexTailB .any (fnOps Faag.f37 7) 81 = true := by kernel_rfl
end Go.Proofs.Ygcfaa
