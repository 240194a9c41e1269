import Derived.Test.YgcfaaGreatScript
import Derived.Test.YgcfaaGreatPackA
namespace Go.Proofs.YgcfaaGreat
open Go.RowKit Bits Bd Go.ChangeShapes Go.WideShapes Go.ChangeAt Go.Deep
set_option linter.unusedVariables false
set_option maxRecDepth 100000
section
variable {H : Type} {enc : TypeId × Value → H} {W : World}

/-- A slice of words, opened. -/
theorem open_raw {b0 : Nat} {v : Value} {d : DataW H} {p : List MemPlace} (hok : Value.okWide Faag.prog W .any b0 23 v) (h : DataW.Trod enc Faag.prog W 0 (fun _ => true) true 23 v d p) :
    ∃ (a : Option Addr) (len cap : Nat), v = .slice a len cap ∧ len ≤ cap ∧ cap ≤ 9223372036854775807 ∧ (0 < len → ∃ b off, a = some ⟨b, off, none⟩ ∧ WordsAt W b off len) := by
  obtain ⟨a0, len, cap, rfl⟩ := okWide_slice Faag.underlying23 hok
  obtain ⟨fuel, hf⟩ := h
  rcases open_slice Faag.underlying23 hf with ⟨hcs, _⟩ | ⟨a, len', cap', m, n, D, Pl, hcs, _, hl, hm, hmm, _, hx⟩
  · simp [Value.cells] at hcs
    obtain ⟨rfl, rfl, rfl⟩ := hcs
    exact ⟨none, 0, 0, rfl, Nat.le_refl _, Nat.zero_le _, fun h0 => by omega⟩
  · simp [Value.cells] at hcs
    obtain ⟨rfl, rfl, rfl⟩ := hcs
    simp only [if_true] at hmm
    rw [cells_u64, hmm] at hx
    have each : ∀ i, i < len → ∃ x : Nat, W.cell? (a.add i) = some (.int .u64 (x : Int)) ∧ x < 18446744073709551616 := by
      intro i hi
      obtain ⟨cs', h1, h2⟩ := hx i (by omega)
      obtain ⟨_, hlen, hcell⟩ := World.cells?_some h1
      match cs', hlen with
      | [c], _ =>
        obtain ⟨x, rfl, hb⟩ := u64_cell h2
        have := hcell 0 (by omega)
        rw [add_add] at this
        simp only [Nat.mul_one, Nat.add_zero] at this
        exact ⟨x, this, hb⟩
    refine ⟨some a, len, cap, rfl, hl, hm, fun h0 => ?_⟩
    obtain ⟨b, off, spot⟩ := a
    obtain ⟨x0, c0, _⟩ := each 0 h0
    have hspot : spot = none := by simpa [Addr.add] using World.cell?_spot c0
    subst hspot
    refine ⟨b, off, rfl, fun i hi => ?_⟩
    obtain ⟨x, c, hb⟩ := each i hi
    rw [add_plain] at c
    exact ⟨x, c, hb⟩
end
end Go.Proofs.YgcfaaGreat
