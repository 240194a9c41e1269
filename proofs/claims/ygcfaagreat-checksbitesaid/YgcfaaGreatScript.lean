import Derived.Test.YgcfaaGreatRoom
import Derived.Deep.Slices
import Derived.ChangeSame
import Derived.WideShapes
import Derived.ProofKit
import Derived.OpenShut
namespace Go.Proofs.YgcfaaGreat
open Go.RowKit Bits Bd Go.ChangeShapes Go.WideShapes Go.ChangeAt Go.Deep
set_option linter.unusedVariables false
set_option maxRecDepth 100000

theorem cells_op : Faag.prog.cellsOf 55 = 8 := by kernel_rfl
theorem cells_u8 : Faag.prog.cellsOf 5 = 1 := by kernel_rfl
theorem cells_u16 : Faag.prog.cellsOf 53 = 1 := by kernel_rfl
theorem cells_u64 : Faag.prog.cellsOf 31 = 1 := by kernel_rfl
theorem cells_str : Faag.prog.cellsOf 9 = 1 := by kernel_rfl

section
variable {H : Type} {enc : TypeId × Value → H} {W : World}

theorem u8_cell {n : Nat} {c : Value} {y : DataW H × List MemPlace} {sp : Nat → Bool} (h : DataW.trod enc Faag.prog W 0 sp true n 5 [c] = some y) : ∃ m : Nat, c = .int .u8 (m : Int) ∧ m < 256 := by
  obtain ⟨z, e, _, w⟩ := DataW.trod_int Faag.underlying5 h
  have b := bounds_u8 w
  obtain ⟨m, rfl⟩ := Int.eq_ofNat_of_zero_le b.1
  exact ⟨m, by simpa using e, by omega⟩
theorem u16_cell {n : Nat} {c : Value} {y : DataW H × List MemPlace} {sp : Nat → Bool} (h : DataW.trod enc Faag.prog W 0 sp true n 53 [c] = some y) : ∃ m : Nat, c = .int .u16 (m : Int) ∧ m < 65536 := by
  obtain ⟨z, e, _, w⟩ := DataW.trod_int Faag.underlying53 h
  have b := bounds_u16 w
  obtain ⟨m, rfl⟩ := Int.eq_ofNat_of_zero_le b.1
  exact ⟨m, by simpa using e, by omega⟩
theorem u64_cell {n : Nat} {c : Value} {y : DataW H × List MemPlace} {sp : Nat → Bool} (h : DataW.trod enc Faag.prog W 0 sp true n 31 [c] = some y) : ∃ m : Nat, c = .int .u64 (m : Int) ∧ m < 18446744073709551616 := by
  obtain ⟨z, e, _, w⟩ := DataW.trod_int Faag.underlying31 h
  have b := bounds_u64 w
  obtain ⟨m, rfl⟩ := Int.eq_ofNat_of_zero_le b.1
  exact ⟨m, by simpa using e, by omega⟩

theorem list8 {α : Type} (l : List α) (h : l.length = 8) : ∃ a b c d e f g i, l = [a, b, c, d, e, f, g, i] := by
  match l, h with
  | [a, b, c, d, e, f, g, i], _ => exact ⟨a, b, c, d, e, f, g, i, rfl⟩

/-- An operation, from its cells. -/
theorem open_op {n : Nat} {cs : List Value} {y : DataW H × List MemPlace} {sp : Nat → Bool} (h : DataW.trod enc Faag.prog W 0 sp true n 55 cs = some y) : ∃ op : Opn, op.Ok ∧ op.s.size ≤ 9223372036854775807 ∧ cs = opC op := by
  obtain ⟨xs, k, _, _, hl, hx, hf⟩ := DataW.trod_struct Faag.underlying55 h
  rw [cells_op] at hl
  obtain ⟨c0, c1, c2, c3, c4, c5, c6, c7, rfl⟩ := list8 cs hl
  obtain ⟨y0, y1, y2, y3, y4, y5, y6, y7, rfl⟩ := list8 xs hx
  have g0 := hf 0 _ rfl
  have g1 := hf 1 _ rfl
  have g2 := hf 2 _ rfl
  have g3 := hf 3 _ rfl
  have g4 := hf 4 _ rfl
  have g5 := hf 5 _ rfl
  have g6 := hf 6 _ rfl
  have g7 := hf 7 _ rfl
  simp [cells_u8, cells_u16, cells_u64, cells_str] at g0 g1 g2 g3 g4 g5 g6 g7
  obtain ⟨m0, rfl, b0⟩ := u8_cell g0
  obtain ⟨m1, rfl, b1⟩ := u8_cell g1
  obtain ⟨m2, rfl, b2⟩ := u8_cell g2
  obtain ⟨m3, rfl, b3⟩ := u8_cell g3
  obtain ⟨m4, rfl, b4⟩ := u8_cell g4
  obtain ⟨m5, rfl, b5⟩ := u16_cell g5
  obtain ⟨m6, rfl, b6⟩ := u64_cell g6
  obtain ⟨s, e7, _, b7⟩ := DataW.trod_string Faag.underlying9 g7
  simp at e7
  subst e7
  exact ⟨⟨m0, m1, m2, m3, m4, m5, m6, s⟩, ⟨b0, b1, b2, b3, b4, b5, b6⟩, b7, rfl⟩

/-- A script, opened. -/
theorem open_script {b0 : Nat} {v : Value} {d : DataW H} {p : List MemPlace} (hok : Value.okWide Faag.prog W .any b0 22 v) (h : DataW.Trod enc Faag.prog W 0 (fun _ => true) true 22 v d p) :
    ∃ (a : Option Addr) (len cap : Nat) (ops : Nat → Opn), v = .slice a len cap ∧ len ≤ cap ∧ cap ≤ 9223372036854775807 ∧ (∀ i, i < len → (ops i).Ok ∧ (ops i).s.size ≤ 9223372036854775807) ∧
      (0 < len → ∃ b off, a = some ⟨b, off, none⟩ ∧ b < W.heap.size ∧ ∀ i, i < len → ∀ j u, (opC (ops i))[j]? = some u → W.cell? ⟨b, off + i * 8 + j, none⟩ = some u) := by
  obtain ⟨a0, len, cap, rfl⟩ := okWide_slice Faag.underlying22 hok
  obtain ⟨fuel, hf⟩ := h
  rcases open_slice Faag.underlying22 hf with ⟨hcs, _⟩ | ⟨a, len', cap', m, n, D, Pl, hcs, _, hl, hm, hmm, _, hx⟩
  · simp [Value.cells] at hcs
    obtain ⟨rfl, rfl, rfl⟩ := hcs
    exact ⟨none, 0, 0, fun _ => ⟨0, 0, 0, 0, 0, 0, 0, ByteArray.empty⟩, rfl, Nat.le_refl _, Nat.zero_le _, fun i hi => by omega, fun h0 => by omega⟩
  · simp [Value.cells] at hcs
    obtain ⟨rfl, rfl, rfl⟩ := hcs
    simp only [if_true] at hmm
    rw [cells_op, hmm] at hx
    have each : ∀ i, ∃ op : Opn, i < len → op.Ok ∧ op.s.size ≤ 9223372036854775807 ∧ ∀ j u, (opC op)[j]? = some u → W.cell? (a.add (i * 8 + j)) = some u := by
      intro i
      by_cases hi : i < len
      · obtain ⟨cs', h1, h2⟩ := hx i (by omega)
        obtain ⟨_, hlen, hcell⟩ := World.cells?_some h1
        obtain ⟨op, ok, hs, rfl⟩ := open_op h2
        refine ⟨op, fun _ => ⟨ok, hs, fun j u hu => ?_⟩⟩
        have hj : j < 8 := (List.getElem?_eq_some_iff.1 hu).1
        have := hcell j hj
        rw [add_add, hu] at this
        exact this
      · exact ⟨⟨0, 0, 0, 0, 0, 0, 0, ByteArray.empty⟩, fun h => absurd h hi⟩
    obtain ⟨ops, hops⟩ := Classical.axiomOfChoice each
    refine ⟨some a, len, cap, ops, rfl, hl, hm, fun i hi => ⟨(hops i hi).1, (hops i hi).2.1⟩, fun h0 => ?_⟩
    obtain ⟨b, off, spot⟩ := a
    have c0 := (hops 0 h0).2.2 0 _ rfl
    have hspot : spot = none := by simpa [Addr.add] using World.cell?_spot c0
    subst hspot
    have c0' : W.cell? ⟨b, off, none⟩ = some (.int .u8 ((ops 0).kind : Int)) := by simpa [Addr.add] using c0
    refine ⟨b, off, rfl, lt_of_cell c0', fun i hi j u hu => ?_⟩
    have := (hops i hi).2.2 j u hu
    rw [add_plain, ← Nat.add_assoc] at this
    exact this
end
end Go.Proofs.YgcfaaGreat
