import Derived.Test.YgcfaaGreatMade
import Derived.Test.YgcfaaGreatCheck
namespace Go.Proofs.YgcfaaGreat
open Go.RowKit Bits Bd
set_option linter.unusedVariables false

namespace Bd
/-- Handle h is an element of a code 7 list. -/
def isE (B : Bld) (h : Nat) : Prop := isSt (B.o (B.up.getD h 0))
/-- The words that are a handle's own: of a code 7 list its tag alone. -/
def lo (p : Ptr) : Nat := haveI := isStD p; if isSt p then p.at_ - 1 else p.at_
def hi (p : Ptr) : Nat := haveI := isStD p; if isSt p then p.at_ else p.at_ + words p
/-- The next handle that is no element. -/
def nxt (B : Bld) (h : Nat) : Nat := h + 1 + (haveI := isStD (B.o h); if isSt (B.o h) then (B.o h).count else 0)
/-- The pointer words of an object: how many, and where. -/
def nsl (p : Ptr) : Nat := if p.kind = 1 then p.ptrs else if p.kind = 2 ∧ p.code = 6 then p.count else 0
def sAt (p : Ptr) (i : Nat) : Nat := if p.kind = 1 then p.at_ + p.data + i else p.at_ + i
/-- The pointer word at a that names p's object. -/
def ptrW (a : Nat) (p : Ptr) : Nat := if p.kind = 1 then mkStruct a p.at_ p.data p.ptrs else if p.code = 7 then mkList a (p.at_ - 1) 7 (p.count * (p.data + p.ptrs)) else mkList a p.at_ p.code p.count
/-- An object that the builder makes. -/
def GoodP (p : Ptr) : Prop :=
  (p.kind = 1 ∧ p.data ≤ 8 ∧ p.ptrs ≤ 8 ∧ p.code = 0 ∧ p.count = 0) ∨ (p.kind = 2 ∧ 2 ≤ p.code ∧ p.code ≤ 6 ∧ p.data = 0 ∧ p.ptrs = 0 ∧ p.count ≤ 128) ∨
    (p.kind = 2 ∧ p.code = 7 ∧ p.data ≤ 8 ∧ p.ptrs ≤ 8 ∧ p.count ≤ 128 ∧ (p.data + p.ptrs = 0 → p.count = 0))

/-- What every script leaves of a builder. -/
structure InvC (B : Bld) : Prop where
  even : evenP B
  root : B.o 0 = firstPtr ∧ B.up.getD 0 0 = 0 ∧ B.via.getD 0 0 = 0 ∧ B.depth.getD 0 0 = 0 ∧ B.dead.getD 0 false = false
  good : ∀ h, 1 ≤ h → h < B.obj.length → GoodP (B.o h)
  row1 : (B.obj.length = 1 → B.A.length = 1) ∧ (1 < B.obj.length → ¬ isE B 1 ∧ lo (B.o 1) = 1)
  row : ∀ h, 1 ≤ h → h < B.obj.length → ¬ isE B h → nxt B h ≤ B.obj.length ∧ (nxt B h < B.obj.length → ¬ isE B (nxt B h) ∧ lo (B.o (nxt B h)) = lo (B.o h) + words (B.o h)) ∧ (nxt B h = B.obj.length → lo (B.o h) + words (B.o h) = B.A.length)
  at1 : ∀ h, 1 ≤ h → h < B.obj.length → isSt (B.o h) → 1 ≤ (B.o h).at_
  elems : ∀ h, 1 ≤ h → h < B.obj.length → isSt (B.o h) → ∀ j, j < (B.o h).count → elemP B h j
  inE : ∀ h, 1 ≤ h → h < B.obj.length → isE B h → 1 ≤ B.up.getD h 0 ∧ B.via.getD h 0 < (B.o (B.up.getD h 0)).count ∧ h = B.up.getD h 0 + 1 + B.via.getD h 0
  up : ∀ h, 1 ≤ h → h < B.obj.length → B.up.getD h 0 < h
  deep : ∀ h, 1 ≤ h → h < B.obj.length → ¬ isE B h → B.depth.getD h 0 = B.depth.getD (B.up.getD h 0) 0 + 1 ∧ B.depth.getD h 0 ≤ 8
  hang : ∀ h, 1 ≤ h → h < B.obj.length → B.dead.getD h false = false → ¬ isE B h → B.dead.getD (B.up.getD h 0) false = false ∧ B.via.getD h 0 < nsl (B.o (B.up.getD h 0)) ∧
    B.A.getD (sAt (B.o (B.up.getD h 0)) (B.via.getD h 0)) 0 = ptrW (sAt (B.o (B.up.getD h 0)) (B.via.getD h 0)) (B.o h)
  uniq : ∀ h g, 1 ≤ h → h < B.obj.length → 1 ≤ g → g < B.obj.length → B.dead.getD h false = false → B.dead.getD g false = false → ¬ isE B h → ¬ isE B g → B.up.getD h 0 = B.up.getD g 0 → B.via.getD h 0 = B.via.getD g 0 → h = g
  null : ∀ u i, u < B.obj.length → B.dead.getD u false = false → i < nsl (B.o u) → (∀ h, 1 ≤ h → h < B.obj.length → B.dead.getD h false = false → ¬ isE B h → B.up.getD h 0 = u → ¬ B.via.getD h 0 = i) → B.A.getD (sAt (B.o u) i) 0 = 0
  slot : ∀ x, x < 256 → (tb B.slot x = true ↔ ∃ u i, u < B.obj.length ∧ B.dead.getD u false = false ∧ i < nsl (B.o u) ∧ x = sAt (B.o u) i)
  zero : ∀ h, 1 ≤ h → h < B.obj.length → B.dead.getD h false = true → ∀ x, lo (B.o h) ≤ x → x < hi (B.o h) → B.A.getD x 0 = 0
  tag : ∀ h, 1 ≤ h → h < B.obj.length → B.dead.getD h false = false → isSt (B.o h) → B.A.getD ((B.o h).at_ - 1) 0 = mkTag (B.o h).count (B.o h).data (B.o h).ptrs
  pad : ∀ h, 1 ≤ h → h < B.obj.length → B.dead.getD h false = false → paddedP B.A (B.o h)
end Bd

theorem good_words {p : Ptr} (h : GoodP p) : (p.kind = 1 → words p = p.data + p.ptrs) ∧ (isSt p → words p = min (1 + p.count * (p.data + p.ptrs)) 257) ∧ (p.kind = 2 → p.code = 6 → words p = p.count) := by
  unfold words
  refine ⟨fun h1 => ?_, fun h1 => ?_, fun h1 h2 => ?_⟩
  · rw [if_neg (by omega), if_pos]
    rcases h with h | h | h <;> omega
  · obtain ⟨h1, h2⟩ := h1
    have h3 : p.data ≤ 8 ∧ p.ptrs ≤ 8 ∧ p.count ≤ 128 := by rcases h with h | h | h <;> omega
    rw [if_neg (by omega), if_neg (by omega), if_neg (by omega), if_neg (by omega), if_neg (by omega), if_pos (by omega)]
  · have h3 : p.count ≤ 128 := by rcases h with h | h | h <;> omega
    rw [if_neg (by omega), if_neg (by omega), if_neg (by omega), if_neg (by omega), if_pos h2]

section
variable {B : Bld}
/-- Ranges of handles that are no elements rise. -/
theorem InvC.first_lo (i : InvC B) {h : Nat} (h1 : 1 ≤ h) (hn : h < B.obj.length) (ha : (B.o h).at_ ≤ 60000) : first (B.o h) = lo (B.o h) := by
  unfold lo
  by_cases hS : isSt (B.o h)
  · rw [if_pos hS, first_isSt hS (i.at1 h h1 hn hS) ha]
  · rw [if_neg hS, first_not hS]
end
end Go.Proofs.YgcfaaGreat
