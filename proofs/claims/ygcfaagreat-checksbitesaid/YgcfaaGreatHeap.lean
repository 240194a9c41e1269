import Derived.Test.YgcfaaGreatWire
import Derived.Test.YgcfaaGreatOwn
namespace Go.Proofs.YgcfaaGreat
open Go.RowKit Bits Bd
set_option linter.unusedVariables false

namespace Bd
/-- build.Builder -/
structure Bld where
  A : List Nat
  slot : List Nat
  obj : List Ptr
  up : List Nat
  via : List Nat
  depth : List Nat
  dead : List Bool

def zeroPtr : Ptr := ⟨0, 0, 0, 0, 0, 0⟩
/-- Each number fits its Go type. -/
structure Bld.Ok (B : Bld) : Prop where
  A : ∀ i, B.A.getD i 0 < 18446744073709551616
  slot : ∀ i, B.slot.getD i 0 < 18446744073709551616
  four : B.slot.length = 4
  obj : ∀ i, (B.obj.getD i zeroPtr).Ok
  up : ∀ i, B.up.getD i 0 < 256
  via : ∀ i, B.via.getD i 0 < 256
  depth : ∀ i, B.depth.getD i 0 < 256
end Bd

def rowU8 (l : List Nat) : List Value := l.map fun (n : Nat) => Value.int .u8 (n : Int)
def rowB (l : List Bool) : List Value := l.map Value.bool
def rowP (l : List Ptr) : List Value := l.flatMap ptrC

/-- The rows of a builder: their cells. -/
def Bd.Bld.row (B : Bld) : Nat → List Value
  | 0 => U B.A
  | 1 => rowP B.obj
  | 2 => rowU8 B.up
  | 3 => rowU8 B.via
  | 4 => rowU8 B.depth
  | _ => rowB B.dead
/-- .. their lengths. -/
def Bd.Bld.len (B : Bld) : Nat → Nat
  | 0 => B.A.length
  | 1 => B.obj.length
  | 2 => B.up.length
  | 3 => B.via.length
  | 4 => B.depth.length
  | _ => B.dead.length
def elT : Nat → TypeId
  | 0 => 31
  | 1 => 62
  | 2 => 5
  | 3 => 5
  | 4 => 5
  | _ => 4
def elS : Nat → Nat
  | 1 => 6
  | _ => 1
/-- .. the cell of the builder that holds row i's slice. -/
def fOff : Nat → Nat
  | 0 => 0
  | i + 1 => i + 5
def fields (h : Nat → Value) (slot : List Nat) : List Value := [h 0] ++ U slot ++ [h 1, h 2, h 3, h 4, h 5]
def upd (h : Nat → Value) (i : Nat) (v : Value) : Nat → Value := fun j => if j = i then v else h j

/-- The blocks of a builder at p. -/
def blks (p : Nat) (h : Nat → Value) : Nat → Option Nat
  | 0 => some p
  | i + 1 => if i < 6 then (h i).ownBlock else none
def blk (p : Nat) (h : Nat → Value) (k : Nat) : Prop := ∃ i, blks p h i = some k

/-- The builder B lies at p, its rows at the slices h. -/
structure HB (w : World) (p : Nat) (h : Nat → Value) (B : Bld) : Prop where
  row : RowAt w p 0 (fields h B.slot)
  own : ∀ i, i < 6 → w.ownsRow 0 (elT i) (elS i) (h i) (B.len i) (B.row i)
  apart : ∀ i j k, blks p h i = some k → blks p h j = some k → i = j
  ok : B.Ok

/-- From w to w' only blocks of the builder, and new ones, were touched; its blocks now are among those or new. -/
structure Mv (p : Nat) (h h' : Nat → Value) (w w' : World) : Prop where
  keeps : Keeps (blk p h) w w'
  fresh : ∀ k, blk p h' k → blk p h k ∨ w.heap.size ≤ k

theorem Mv.refl (p : Nat) (h : Nat → Value) (w : World) : Mv p h h w w := ⟨Keeps.refl _ _, fun _ hk => .inl hk⟩
theorem Mv.trans {p : Nat} {h h' h'' : Nat → Value} {w w' w'' : World} (a : Mv p h h' w w') (b : Mv p h' h'' w' w'') : Mv p h h'' w w'' := by
  refine ⟨⟨b.keeps.os.trans a.keeps.os, b.keeps.tape.trans a.keeps.tape, b.keeps.output.trans a.keeps.output, Nat.le_trans a.keeps.size b.keeps.size, fun k hk hx => ?_⟩, fun k hk => ?_⟩
  · rw [b.keeps.block k (Nat.lt_of_lt_of_le hk a.keeps.size) (fun hb => ?_)]
    · exact a.keeps.block k hk hx
    · rcases a.fresh k hb with h1 | h1
      · exact hx h1
      · omega
  · rcases b.fresh k hk with h1 | h1
    · exact a.fresh k h1
    · exact .inr (Nat.le_trans a.keeps.size h1)
theorem Mv.of_keeps {p : Nat} {h : Nat → Value} {w w' : World} (k : Keeps (blk p h) w w') : Mv p h h w w' := ⟨k, fun _ hk => .inl hk⟩
theorem Mv.of_below {p : Nat} {h : Nat → Value} {w w' : World} (k : Below w.heap.size w w') : Mv p h h w w' :=
  .of_keeps ⟨k.os, k.tape, k.output, k.size, fun j hj _ => k.block j hj⟩
theorem Mv.below {p : Nat} {h h' : Nat → Value} {w w' : World} {B : Nat} (m : Mv p h h' w w') (hB : B ≤ w.heap.size) (hx : ∀ k, k < B → ¬ blk p h k) : Below B w w' := m.keeps.below hB hx

section
variable {w w' : World} {p : Nat} {h : Nat → Value} {B : Bld}

theorem blks_lt (hb : HB w p h B) (i k : Nat) (e : blks p h i = some k) : k < w.heap.size := by
  cases i with
  | zero =>
    simp only [blks, Option.some.injEq] at e
    subst e
    exact hb.row.lt (by simp [fields])
  | succ i =>
    simp only [blks] at e
    split at e
    · rename_i hi
      exact ((hb.own i hi).lt k e).2
    · cases e
theorem HB.lt (hb : HB w p h B) {k : Nat} (hk : blk p h k) : k < w.heap.size := by
  obtain ⟨i, e⟩ := hk
  exact blks_lt hb i k e
theorem HB.not_new (hb : HB w p h B) {k : Nat} (hk : w.heap.size ≤ k) : ¬ blk p h k := fun e => by have := hb.lt e; omega

theorem HB.keeps {X : Nat → Prop} (hb : HB w p h B) (k : Keeps X w w') (hx : ∀ j, blk p h j → ¬ X j) : HB w' p h B :=
  ⟨hb.row.keeps k (fun _ => hx p ⟨0, rfl⟩), fun i hi => own_keeps (hb.own i hi) k (fun j hj => hx j ⟨i + 1, by simp only [blks, if_pos hi]; exact hj⟩), hb.apart, hb.ok⟩
theorem HB.below (hb : HB w p h B) (k : Below w.heap.size w w') : HB w' p h B :=
  hb.keeps (Keeps.of_below k) (fun j hj hx => by have := hb.lt hj; omega)
theorem HB.alloc (hb : HB w p h B) (o : Obj) : HB (w.alloc o) p h B := hb.below ((Below.refl _ _).alloc (Nat.le_refl _) _)
theorem HB.ext (hb : HB w p h B) (x : World) : HB (w.ext x) p h B := hb.below (World.below_ext _ _)

/-- The cell that holds row i's slice. -/
theorem fields_at (h : Nat → Value) {slot : List Nat} (hs : slot.length = 4) (i : Nat) (hi : i < 6) : (fields h slot)[fOff i]? = some (h i) := by
  have hl : (U slot).length = 4 := by rw [U_length, hs]
  match i, hi with
  | 0, _ => rfl
  | i + 1, hi =>
    unfold fields fOff
    rw [List.getElem?_append_right (by simp [hl])]
    simp only [List.length_append, List.length_cons, List.length_nil, hl]
    match i, hi with
    | 0, _ => rfl
    | 1, _ => rfl
    | 2, _ => rfl
    | 3, _ => rfl
    | 4, _ => rfl
theorem HB.cell (hb : HB w p h B) (i : Nat) (hi : i < 6) : w.cell? ⟨p, fOff i, none⟩ = some (h i) ∧ w.frozen? ⟨p, fOff i, none⟩ = false := by
  have := fields_at h hb.ok.four i hi
  constructor
  · simpa using hb.row.at_ this
  · obtain ⟨h1, _⟩ := List.getElem?_eq_some_iff.1 this
    simpa using hb.row.live _ h1
theorem HB.slotCell (hb : HB w p h B) {i : Nat} (hi : i < 4) : w.cell? ⟨p, 1 + i, none⟩ = some (.int .u64 (B.slot.getD i 0 : Nat)) ∧ w.frozen? ⟨p, 1 + i, none⟩ = false := by
  have hl : (U B.slot).length = 4 := by rw [U_length, hb.ok.four]
  have : (fields h B.slot)[1 + i]? = some (.int .u64 (B.slot.getD i 0 : Nat)) := by
    unfold fields
    rw [List.getElem?_append_left (by simp [hl]; omega), List.getElem?_append_right (by simp)]
    simp only [List.length_cons, List.length_nil]
    rw [show 1 + i - (0 + 1) = i by omega]
    exact U_get (by rw [hb.ok.four]; exact hi)
  constructor
  · simpa using hb.row.at_ this
  · obtain ⟨h1, _⟩ := List.getElem?_eq_some_iff.1 this
    simpa using hb.row.live _ h1

/-- B' is B but for row i, which holds n elements, the cells xs. -/
structure RowIs (B B' : Bld) (i n : Nat) (xs : List Value) : Prop where
  row : B'.row i = xs
  len : B'.len i = n
  rows : ∀ j, j < 6 → j ≠ i → B'.row j = B.row j
  lens : ∀ j, j < 6 → j ≠ i → B'.len j = B.len j
  slot : B'.slot = B.slot

theorem blks_ne (hb : HB w p h B) {i g m c : Nat} (hi : i < 6) (hg : h i = .slice (some ⟨g, 0, none⟩) m c) : g ≠ p := fun e => by
  have h1 : blks p h (i + 1) = some p := by simp only [blks, if_pos hi, hg, Value.ownBlock, e]
  have := hb.apart (i + 1) 0 p h1 rfl
  omega
theorem blks_ne_row (hb : HB w p h B) {i j g m c : Nat} (hi : i < 6) (hg : h i = .slice (some ⟨g, 0, none⟩) m c) (hj : j < 6) (hne : j ≠ i) : (h j).ownBlock ≠ some g := fun e => by
  have h1 : blks p h (i + 1) = some g := by simp only [blks, if_pos hi, hg, Value.ownBlock]
  have h2 : blks p h (j + 1) = some g := by simp only [blks, if_pos hj, e]
  have := hb.apart _ _ g h1 h2
  omega
theorem blk_row {i g m c : Nat} (p : Nat) (hi : i < 6) (hg : h i = .slice (some ⟨g, 0, none⟩) m c) : blk p h g := ⟨i + 1, by simp only [blks, if_pos hi, hg, Value.ownBlock]⟩

/-- A cell of row i is written. -/
theorem HB.put (hb : HB w p h B) {i g m c j : Nat} {u : Value} {B' : Bld} (hi : i < 6) (hg : h i = .slice (some ⟨g, 0, none⟩) m c) (hB : RowIs B B' i (B.len i) ((B.row i).set j u)) (ok : B'.Ok) :
    HB (w.setCell ⟨g, j, none⟩ u) p h B' := by
  have hgp := blks_ne hb hi hg
  refine ⟨?_, fun k hk => ?_, hb.apart, ok⟩
  · rw [hB.slot]
    exact hb.row.other (.inl hgp) _
  · by_cases e : k = i
    · subst e
      rw [hB.row, hB.len]
      have h1 := hb.own k hk
      rw [hg] at h1 ⊢
      exact own_set h1 j u
    · rw [hB.rows k hk e, hB.lens k hk e]
      refine own_keeps (hb.own k hk) ((Keeps.refl (fun b => b = g) w).setCell (p := ⟨g, j, none⟩) (fun _ => rfl) u) (fun b hb' hbg => ?_)
      subst hbg
      exact blks_ne_row hb hi hg hk e hb'
theorem HB.put_mv (p : Nat) {i g m c j : Nat} {u : Value} (hi : i < 6) (hg : h i = .slice (some ⟨g, 0, none⟩) m c) : Mv p h h w (w.setCell ⟨g, j, none⟩ u) :=
  .of_keeps ((Keeps.refl _ w).setCell (p := ⟨g, j, none⟩) (fun _ => blk_row p hi hg) u)

/-- A word of the set of slots is written. -/
theorem HB.putSlot (hb : HB w p h B) {j n : Nat} (hj : j < 4) (hn : n < 18446744073709551616) :
    HB (w.setCell ⟨p, 1 + j, none⟩ (.int .u64 (n : Int))) p h { B with slot := B.slot.set j n } := by
  have h4 := hb.ok.four
  refine ⟨?_, fun k hk => ?_, hb.apart, ?_⟩
  · have h1 := hb.row.set (i := 1 + j) (by simp [fields, U_length, h4]; omega) (.int .u64 (n : Int))
    rw [Nat.zero_add] at h1
    have e : (fields h B.slot).set (1 + j) (.int .u64 (n : Int)) = fields h (B.slot.set j n) := by
      unfold fields
      rw [List.set_append_left _ _ (by simp [U_length, h4]; omega), List.set_append_right _ _ (by simp)]
      simp only [List.length_cons, List.length_nil]
      rw [show 1 + j - (0 + 1) = j by omega, U_set]
    rw [e] at h1
    exact h1
  · refine own_keeps (hb.own k hk) ((Keeps.refl (fun b => b = p) w).setCell (p := ⟨p, 1 + j, none⟩) (fun _ => rfl) _) (fun b hb' hbg => ?_)
    subst hbg
    have := hb.apart (k + 1) 0 b (by simp only [blks, if_pos hk]; exact hb') rfl
    omega
  · obtain ⟨o1, o2, o3, o4, o5, o6, o7⟩ := hb.ok
    refine ⟨o1, fun i => ?_, by simpa using o3, o4, o5, o6, o7⟩
    dsimp only
    rw [List.getD_eq_getElem?_getD, List.getElem?_set]
    split
    · split
      · simpa using hn
      · simp
    · exact List.getD_eq_getElem?_getD .. ▸ o2 i
theorem HB.putSlot_mv (p : Nat) (h : Nat → Value) {j : Nat} {u : Value} : Mv p h h w (w.setCell ⟨p, 1 + j, none⟩ u) :=
  .of_keeps ((Keeps.refl _ w).setCell (p := ⟨p, 1 + j, none⟩) (fun _ => ⟨0, rfl⟩) u)

theorem fields_upd (h : Nat → Value) {slot : List Nat} (hs : slot.length = 4) (i : Nat) (hi : i < 6) (v : Value) : (fields h slot).set (fOff i) v = fields (upd h i v) slot := by
  have hl : (U slot).length = 4 := by rw [U_length, hs]
  match i, hi with
  | 0, _ => rfl
  | i + 1, hi =>
    unfold fields fOff
    rw [List.set_append_right _ _ (by simp [hl])]
    simp only [List.length_append, List.length_cons, List.length_nil, hl]
    match i, hi with
    | 0, _ => rfl
    | 1, _ => rfl
    | 2, _ => rfl
    | 3, _ => rfl
    | 4, _ => rfl

/-- Row i is grown by an append, and its new slice stored. -/
theorem HB.app (hb : HB w p h B) {i n : Nat} {xs : List Value} {v : Value} {B' : Bld} (hi : i < 6) (k : Keeps (fun k => some k = (h i).ownBlock) w w') (hv : w'.ownsRow 0 (elT i) (elS i) v n xs) (hbk : BlkOf w (h i) v)
    (hB : RowIs B B' i n xs) (ok : B'.Ok) : HB (w'.setCell ⟨p, fOff i, none⟩ v) p (upd h i v) B' := by
  have hpi : (h i).ownBlock ≠ some p := fun e => by
    have := hb.apart (i + 1) 0 p (by simp only [blks, if_pos hi]; exact e) rfl
    omega
  have hplt : p < w.heap.size := hb.lt ⟨0, rfl⟩
  have hnew : ∀ b, v.ownBlock = some b → ∀ j, blks p h j = some b → j = i + 1 := by
    intro b hbv j hj
    rcases hbk b hbv with h1 | h1
    · exact hb.apart j (i + 1) b hj (by simp only [blks, if_pos hi]; exact h1)
    · have := blks_lt hb j b hj
      omega
  have hblk : ∀ j, blks p (upd h i v) j = if j = i + 1 then v.ownBlock else blks p h j := by
    intro j
    cases j with
    | zero => rw [if_neg (by omega)]; rfl
    | succ j =>
      simp only [blks, upd, Nat.add_right_cancel_iff]
      by_cases e : j = i
      · subst e; simp [hi]
      · simp [e]
  refine ⟨?_, fun j hj => ?_, ?_, ok⟩
  · have h1 := hb.row.keeps k (fun _ e => hpi e.symm)
    have hlt := (List.getElem?_eq_some_iff.1 (fields_at h hb.ok.four i hi)).1
    have h2 := h1.set hlt v
    rw [Nat.zero_add, fields_upd h hb.ok.four i hi v] at h2
    rw [hB.slot]
    exact h2
  · have kp : Keeps (fun b => b = p) w' (w'.setCell ⟨p, fOff i, none⟩ v) := (Keeps.refl (fun b => b = p) w').setCell (p := ⟨p, fOff i, none⟩) (fun _ => rfl) v
    by_cases e : j = i
    · subst e
      rw [hB.row, hB.len]
      have : upd h j v j = v := by simp [upd]
      rw [this]
      refine own_keeps hv kp (fun b hbv e => ?_)
      subst e
      have := hnew b hbv 0 rfl
      omega
    · rw [hB.rows j hj e, hB.lens j hj e]
      have : upd h i v j = h j := by simp [upd, e]
      rw [this]
      have h1 := own_keeps (hb.own j hj) k (fun b hbj hbi => by
        have := hb.apart (j + 1) (i + 1) b (by simp only [blks, if_pos hj]; exact hbj) (by simp only [blks, if_pos hi]; exact hbi.symm)
        omega)
      refine own_keeps h1 kp (fun b hbv e => ?_)
      subst e
      have := hb.apart (j + 1) 0 b (by simp only [blks, if_pos hj]; exact hbv) rfl
      omega
  · intro a b c ha hb'
    rw [hblk] at ha hb'
    split at ha
    · rename_i ea
      split at hb'
      · rename_i eb; omega
      · have := hnew c ha b hb'
        omega
    · split at hb'
      · have := hnew c hb' a ha
        omega
      · exact hb.apart a b c ha hb'
theorem HB.app_mv (hb : HB w p h B) {i : Nat} {v : Value} (hi : i < 6) (k : Keeps (fun k => some k = (h i).ownBlock) w w') (hbk : BlkOf w (h i) v) : Mv p h (upd h i v) w (w'.setCell ⟨p, fOff i, none⟩ v) := by
  refine ⟨(k.mono (fun b _ e => ⟨i + 1, by simp only [blks, if_pos hi]; exact e.symm⟩)).setCell (p := ⟨p, fOff i, none⟩) (fun _ => ⟨0, rfl⟩) v, ?_⟩
  rintro b ⟨j, hj⟩
  cases j with
  | zero => exact .inl ⟨0, hj⟩
  | succ j =>
    simp only [blks, upd] at hj
    split at hj
    · rename_i hj6
      by_cases e : j = i
      · rw [if_pos e] at hj
        rcases hbk b hj with h1 | h1
        · exact .inl ⟨i + 1, by simp only [blks, if_pos hi]; exact h1⟩
        · exact .inr (by omega)
      · rw [if_neg e] at hj
        exact .inl ⟨j + 1, by simp only [blks, if_pos hj6]; exact hj⟩
    · cases hj
end
end Go.Proofs.YgcfaaGreat
