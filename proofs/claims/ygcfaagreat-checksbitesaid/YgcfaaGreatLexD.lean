import Derived.Test.YgcfaaGreatLexC
namespace Go.Proofs.YgcfaaGreat
open Go.RowKit
theorem lex24b : Region.lexTailB .any (fnOps Faag.f24 23) 50 = true := by kernel_rfl
end Go.Proofs.YgcfaaGreat
