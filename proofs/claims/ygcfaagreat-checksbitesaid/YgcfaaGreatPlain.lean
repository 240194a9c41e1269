/-! The builder and the wire, as plain functions of numbers and lists: no Go in sight. -/
namespace Go.Proofs.YgcfaaGreat.Bd

/-- wire.Ptr -/
structure Ptr where
  kind : Nat
  at_ : Nat
  data : Nat
  ptrs : Nat
  code : Nat
  count : Nat

/-- Each field fits its Go type. -/
def Ptr.Ok (p : Ptr) : Prop := p.kind < 256 ∧ p.at_ < 65536 ∧ p.data < 256 ∧ p.ptrs < 256 ∧ p.code < 256 ∧ p.count < 65536

/-- wire.Width -/
def width (code : Nat) : Nat := if code < 2 ∨ 5 < code then 0 else 2 ^ (code - 2)

/-- wire.Words -/
def words (p : Ptr) : Nat :=
  if p.kind = 0 then 0
  else if p.kind = 1 ∧ (p.data ≤ 8 ∧ p.ptrs ≤ 8) then p.data + p.ptrs
  else if ¬ p.kind = 2 ∨ 128 < p.count then 257
  else if 2 ≤ p.code ∧ p.code ≤ 5 then (p.count * width p.code + 7) / 8
  else if p.code = 6 then p.count
  else if p.code = 7 ∧ (p.data ≤ 8 ∧ p.ptrs ≤ 8) then min (1 + p.count * (p.data + p.ptrs)) 257
  else 257

theorem width_le (c : Nat) : width c ≤ 8 := by
  unfold width
  split
  · omega
  · rename_i h
    have : c = 2 ∨ c = 3 ∨ c = 4 ∨ c = 5 := by omega
    rcases this with rfl | rfl | rfl | rfl <;> decide

theorem words_le (p : Ptr) : words p ≤ 257 := by
  unfold words
  have hw := width_le p.code
  split
  · omega
  split
  · omega
  split
  · omega
  rename_i h
  have hc : p.count ≤ 128 := by omega
  split
  · have : p.count * width p.code ≤ 128 * 8 := Nat.mul_le_mul hc hw
    omega
  split
  · omega
  split
  · exact Nat.min_le_right _ _
  · omega

/-- The offset field of a pointer word. -/
def offN (f t : Nat) : Nat := (t + 1073741824 - f - 1) % 1073741824 * 4
theorem offN_lt (f t : Nat) : offN f t < 4294967296 := by unfold offN; omega

/-- wire.MakeStruct -/
def mkStruct (f t d p : Nat) : Nat :=
  if 256 ≤ f ∨ 256 < t ∨ 8 < d ∨ 8 < p then 0
  else offN f (if d = 0 ∧ p = 0 then f else t) + d * 4294967296 + p * 281474976710656
/-- wire.MakeList -/
def mkList (f t c n : Nat) : Nat :=
  if 256 ≤ f ∨ 256 < t ∨ c < 2 ∨ 7 < c then 0
  else if 256 < n ∨ (¬ c = 7 ∧ 128 < n) then 0
  else 1 + offN f t + c * 4294967296 + n * 34359738368
/-- wire.MakeTag -/
def mkTag (c d p : Nat) : Nat := if 128 < c ∨ 8 < d ∨ 8 < p then 0 else c * 4 + d * 4294967296 + p * 281474976710656

theorem mkStruct_lt (f t d p : Nat) : mkStruct f t d p < 18446744073709551616 := by
  unfold mkStruct
  have := offN_lt f (if d = 0 ∧ p = 0 then f else t)
  split <;> omega
theorem mkList_lt (f t c n : Nat) : mkList f t c n < 18446744073709551616 := by
  unfold mkList
  have := offN_lt f t
  split
  · omega
  · split <;> omega
theorem mkTag_lt (c d p : Nat) : mkTag c d p < 18446744073709551616 := by
  unfold mkTag
  split <;> omega

/-- wire.Extent -/
def first (p : Ptr) : Nat := if p.kind = 2 ∧ p.code = 7 then (p.at_ + 65535) % 65536 else p.at_
/-- wire.Inside, of an arena of n words. -/
def insideP (n : Nat) (p : Ptr) : Prop :=
  n ≤ 256 ∧ (p.kind = 1 ∨ p.kind = 2) ∧ ((p.kind = 2 ∧ p.code = 7 ∧ p.at_ + words p ≤ n + 1 ∧ (words p = 0 ∨ 2 ≤ p.at_)) ∨ ((¬ p.kind = 2 ∨ ¬ p.code = 7) ∧ p.at_ + words p ≤ n ∧ (words p = 0 ∨ 1 ≤ p.at_)))
end Go.Proofs.YgcfaaGreat.Bd
