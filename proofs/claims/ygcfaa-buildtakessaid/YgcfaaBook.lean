import Derived.Test.YgcfaaCopied
namespace Go.Proofs.Ygcfaa
open Go.RowKit Bits Bd
set_option linter.unusedVariables false
set_option maxRecDepth 100000
set_option linter.unusedSimpArgs false

namespace Bd
/-- law.entry -/
structure Ent where
  dead : Bool
  kind : Nat
  code : Nat
  data : Nat
  ptrs : Nat
  count : Nat
  depth : Nat
  up : Nat
  via : Nat
  set : List Bool
def ent0 : Ent := ⟨false, 0, 0, 0, 0, 0, 0, 0, 0, []⟩
/-- law.book -/
structure Bk where
  e : List Ent
  len : Nat
def Bk.at_ (K : Bk) (i : Nat) : Ent := K.e.getD i ent0
end Bd

/-- The cells of an entry; v: its slice 'set'. -/
def entC (e : Ent) (v : Value) : List Value := [.bool e.dead, .int .u8 (e.kind : Int), .int .u8 (e.code : Int), .int .i64 (e.data : Int), .int .i64 (e.ptrs : Int), .int .i64 (e.count : Int), .int .i64 (e.depth : Int), .int .i64 (e.up : Int), .int .i64 (e.via : Int), v]
def entsC : List Ent → (Nat → Value) → Nat → List Value
  | [], _, _ => []
  | e :: l, s, i => entC e (s i) ++ entsC l s (i + 1)

theorem entsC_len (l : List Ent) (s : Nat → Value) : ∀ i, (entsC l s i).length = l.length * 10 := by
  induction l with
  | nil => intro i; rfl
  | cons e l ih =>
    intro i
    rw [entsC, List.length_append, ih, List.length_cons]
    show 10 + _ = _
    omega
theorem entsC_get (l : List Ent) (s : Nat → Value) : ∀ (k i j : Nat), i < l.length → j < 10 → (entsC l s k)[i * 10 + j]? = (entC (l.getD i ent0) (s (k + i)))[j]? := by
  induction l with
  | nil => intro k i j hi; simp at hi
  | cons e l ih =>
    intro k i j hi hj
    have hl : (entC e (s k)).length = 10 := rfl
    cases i with
    | zero =>
      simp only [entsC, Nat.zero_mul, Nat.zero_add, Nat.add_zero]
      rw [List.getElem?_append_left (by omega)]
      rfl
    | succ i =>
      have h := ih (k + 1) i j (by simpa using hi) hj
      simp only [entsC]
      rw [List.getElem?_append_right (by omega), hl, show (i + 1) * 10 + j - 10 = i * 10 + j by omega, h, show k + 1 + i = k + (i + 1) by omega]
      rfl
theorem entsC_append (l r : List Ent) (s : Nat → Value) : ∀ k, entsC (l ++ r) s k = entsC l s k ++ entsC r s (k + l.length) := by
  induction l with
  | nil => intro k; simp [entsC]
  | cons e l ih =>
    intro k
    simp only [List.cons_append, entsC, ih, List.length_cons, List.append_assoc]
    rw [show k + 1 + l.length = k + (l.length + 1) by omega]
theorem entsC_congr (l : List Ent) (s s' : Nat → Value) : ∀ k, (∀ i, k ≤ i → i < k + l.length → s i = s' i) → entsC l s k = entsC l s' k := by
  induction l with
  | nil => intro k _; rfl
  | cons e l ih =>
    intro k h
    simp only [entsC]
    rw [h k (Nat.le_refl _) (by simp), ih (k + 1) (fun i h1 h2 => h i (by omega) (by simp; omega))]
/-- The cells tell nothing of the sets' bits. -/
theorem entsC_set (l : List Ent) (s : Nat → Value) (b : List Bool) : ∀ (i k : Nat), entsC (l.set i { l.getD i ent0 with set := b }) s k = entsC l s k := by
  induction l with
  | nil => intro i k; rfl
  | cons e l ih =>
    intro i k
    cases i with
    | zero => rfl
    | succ i =>
      simp only [List.set_cons_succ, entsC, List.getD_cons_succ, ih]
theorem entsC_dead (l : List Ent) (s : Nat → Value) (b : Bool) : ∀ (i k : Nat), entsC (l.set i { l.getD i ent0 with dead := b }) s k = (entsC l s k).set (i * 10) (.bool b) := by
  induction l with
  | nil => intro i k; rfl
  | cons e l ih =>
    intro i k
    have hl : (entC e (s k)).length = 10 := rfl
    cases i with
    | zero =>
      simp only [List.set_cons_zero, entsC, Nat.zero_mul, List.getD_cons_zero]
      rw [List.set_append_left _ _ (by omega)]
      rfl
    | succ i =>
      simp only [List.set_cons_succ, entsC, List.getD_cons_succ, ih]
      rw [List.set_append_right _ _ (by omega), hl, show (i + 1) * 10 - 10 = i * 10 by omega]

/-- The blocks of a book of n entries at b. -/
def blksK (b : Nat) (r : Value) (s : Nat → Value) (n : Nat) : Nat → Option Nat
  | 0 => some b
  | 1 => r.ownBlock
  | i + 2 => if i < n then (s i).ownBlock else none
def blkK (b : Nat) (r : Value) (s : Nat → Value) (n k : Nat) : Prop := ∃ i, blksK b r s n i = some k

/-- The book K lies at b: its entries at the slice r, their sets at the slices s. -/
structure HK (w : World) (b : Nat) (r : Value) (s : Nat → Value) (K : Bk) : Prop where
  row : RowAt w b 0 [r, .int .i64 (K.len : Int)]
  own : w.ownsRow 0 70 10 r K.e.length (entsC K.e s 0)
  sets : ∀ i, i < K.e.length → w.ownsRow 0 4 1 (s i) (K.at_ i).set.length (rowB (K.at_ i).set)
  apart : ∀ i j k, blksK b r s K.e.length i = some k → blksK b r s K.e.length j = some k → i = j

structure MvK (b : Nat) (r : Value) (s : Nat → Value) (n : Nat) (r' : Value) (s' : Nat → Value) (n' : Nat) (w w' : World) : Prop where
  keeps : Keeps (blkK b r s n) w w'
  fresh : ∀ k, blkK b r' s' n' k → blkK b r s n k ∨ w.heap.size ≤ k
theorem MvK.refl (b : Nat) (r : Value) (s : Nat → Value) (n : Nat) (w : World) : MvK b r s n r s n w w := ⟨Keeps.refl _ _, fun _ hk => .inl hk⟩
theorem MvK.trans {b : Nat} {r r' r'' : Value} {s s' s'' : Nat → Value} {n n' n'' : Nat} {w w' w'' : World} (a : MvK b r s n r' s' n' w w') (c : MvK b r' s' n' r'' s'' n'' w' w'') : MvK b r s n r'' s'' n'' w w'' := by
  refine ⟨⟨c.keeps.os.trans a.keeps.os, c.keeps.tape.trans a.keeps.tape, c.keeps.output.trans a.keeps.output, Nat.le_trans a.keeps.size c.keeps.size, fun k hk hx => ?_⟩, fun k hk => ?_⟩
  · rw [c.keeps.block k (Nat.lt_of_lt_of_le hk a.keeps.size) (fun hb => ?_)]
    · exact a.keeps.block k hk hx
    · rcases a.fresh k hb with h1 | h1
      · exact hx h1
      · omega
  · rcases c.fresh k hk with h1 | h1
    · exact a.fresh k h1
    · exact .inr (Nat.le_trans a.keeps.size h1)
theorem MvK.of_keeps {b : Nat} {r : Value} {s : Nat → Value} {n : Nat} {w w' : World} (k : Keeps (blkK b r s n) w w') : MvK b r s n r s n w w' := ⟨k, fun _ hk => .inl hk⟩
theorem MvK.of_below {b : Nat} {r : Value} {s : Nat → Value} {n : Nat} {w w' : World} (k : Below w.heap.size w w') : MvK b r s n r s n w w' :=
  .of_keeps ⟨k.os, k.tape, k.output, k.size, fun j hj _ => k.block j hj⟩

section
variable {w w' : World} {b : Nat} {r : Value} {s : Nat → Value} {K : Bk}
theorem blksK_lt (hb : HK w b r s K) (i k : Nat) (e : blksK b r s K.e.length i = some k) : k < w.heap.size := by
  match i with
  | 0 =>
    simp only [blksK, Option.some.injEq] at e
    subst e
    exact hb.row.lt (by simp)
  | 1 => exact (hb.own.lt k e).2
  | i + 2 =>
    simp only [blksK] at e
    split at e
    · rename_i hi
      exact ((hb.sets i hi).lt k e).2
    · cases e
theorem HK.lt (hb : HK w b r s K) {k : Nat} (hk : blkK b r s K.e.length k) : k < w.heap.size := by
  obtain ⟨i, e⟩ := hk
  exact blksK_lt hb i k e
theorem HK.keeps {X : Nat → Prop} (hb : HK w b r s K) (k : Keeps X w w') (hx : ∀ j, blkK b r s K.e.length j → ¬ X j) : HK w' b r s K :=
  ⟨hb.row.keeps k (fun _ => hx b ⟨0, rfl⟩), own_keeps hb.own k (fun j hj => hx j ⟨1, hj⟩), fun i hi => own_keeps (hb.sets i hi) k (fun j hj => hx j ⟨i + 2, by simp only [blksK, if_pos hi]; exact hj⟩), hb.apart⟩
theorem HK.below (hb : HK w b r s K) (k : Below w.heap.size w w') : HK w' b r s K :=
  hb.keeps (Keeps.of_below k) (fun j hj hx => by have := hb.lt hj; omega)
theorem HK.alloc (hb : HK w b r s K) (o : Obj) : HK (w.alloc o) b r s K := hb.below ((Below.refl _ _).alloc (Nat.le_refl _) _)
theorem HK.ext (hb : HK w b r s K) (x : World) : HK (w.ext x) b r s K := hb.below (World.below_ext _ _)

/-- Entry i in memory. -/
theorem HK.entAt (hb : HK w b r s K) {i : Nat} (hi : i < K.e.length) :
    ∃ g c, r = .slice (some ⟨g, 0, none⟩) K.e.length c ∧ g < w.heap.size ∧ g ≠ b ∧ ∀ j u, (entC (K.at_ i) (s i))[j]? = some u → w.cell? ⟨g, i * 10 + j, none⟩ = some u ∧ w.frozen? ⟨g, i * 10 + j, none⟩ = false := by
  have ho := hb.own
  obtain ⟨g, c, hv⟩ := own_form ho (by omega)
  have hne : g ≠ b := fun e => by
    have := hb.apart 1 0 b (by rw [hv, ← e]; rfl) rfl
    omega
  rw [hv] at ho
  refine ⟨g, c, hv, own_lt ho, hne, fun j u hu => ?_⟩
  have hj : j < 10 := (List.getElem?_eq_some_iff.1 hu).1
  refine own_cell ho (u := u) ?_
  rw [entsC_get _ _ _ _ _ hi hj, Nat.zero_add]
  exact hu
theorem HK.lenAt (hb : HK w b r s K) : w.cell? ⟨b, 0, none⟩ = some r ∧ w.frozen? ⟨b, 0, none⟩ = false ∧ w.cell? ⟨b, 1, none⟩ = some (.int .i64 (K.len : Int)) ∧ w.frozen? ⟨b, 1, none⟩ = false := by
  have h0 := hb.row.at_ (i := 0) rfl
  have h1 := hb.row.at_ (i := 1) rfl
  have f0 := hb.row.live 0 (by simp)
  have f1 := hb.row.live 1 (by simp)
  exact ⟨h0, f0, h1, f1⟩
/-- Bit j of the set of entry i. -/
theorem HK.setAt (hb : HK w b r s K) {i : Nat} (hi : i < K.e.length) : ∃ a c, s i = .slice a (K.at_ i).set.length c ∧ (0 < (K.at_ i).set.length → ∃ g, a = some ⟨g, 0, none⟩ ∧ g < w.heap.size ∧ g ≠ b ∧ r.ownBlock ≠ some g ∧
    ∀ j, j < (K.at_ i).set.length → w.cell? ⟨g, j, none⟩ = some (.bool ((K.at_ i).set.getD j false)) ∧ w.frozen? ⟨g, j, none⟩ = false) := by
  have ho := hb.sets i hi
  obtain ⟨a, c, hv, _⟩ := own_len ho
  refine ⟨a, c, hv, fun h0 => ?_⟩
  obtain ⟨g, c', hv'⟩ := own_form ho h0
  rw [hv] at hv'
  simp only [Value.slice.injEq, true_and] at hv'
  obtain ⟨rfl, rfl⟩ := hv'
  have hk : blksK b r s K.e.length (i + 2) = some g := by simp only [blksK, if_pos hi, hv, Value.ownBlock]
  have hne : g ≠ b := fun e => by
    have := hb.apart (i + 2) 0 g hk (by rw [e]; rfl)
    omega
  have hne2 : r.ownBlock ≠ some g := fun e => by
    have := hb.apart (i + 2) 1 g hk e
    omega
  rw [hv] at ho
  exact ⟨g, rfl, own_lt ho, hne, hne2, fun j hj => own_cell ho (by simp [rowB, hj])⟩
end
end Go.Proofs.Ygcfaa
