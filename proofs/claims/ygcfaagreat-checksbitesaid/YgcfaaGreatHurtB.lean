import Derived.Test.YgcfaaGreatNull
namespace Go.Proofs.YgcfaaGreat
open Go.RowKit Bits Bd
set_option linter.unusedVariables false

namespace Bd
def Bld.setObj (B : Bld) (h : Nat) (p : Ptr) : Bld := { B with obj := B.obj.set h p }
def Bld.setVia (B : Bld) (h v : Nat) : Bld := { B with via := B.via.set h v }
def Bld.setDepth (B : Bld) (h v : Nat) : Bld := { B with depth := B.depth.set h v }
def Bld.setDead (B : Bld) (h : Nat) (v : Bool) : Bld := { B with dead := B.dead.set h v }
end Bd

theorem rowP_set (l : List Ptr) (P' : Ptr) (u : Value) (j : Nat) (hj : j < 6) : ∀ (h : Nat), h < l.length → ptrC P' = (ptrC (l.getD h zeroPtr)).set j u → rowP (l.set h P') = (rowP l).set (h * 6 + j) u := by
  induction l with
  | nil => intro h hh; simp at hh
  | cons q l ih =>
    intro h hh he
    have hl : (ptrC q).length = 6 := rfl
    cases h with
    | zero =>
      simp only [List.set_cons_zero, rowP, List.flatMap_cons, Nat.zero_mul, Nat.zero_add]
      rw [List.set_append_left _ _ (by omega), he]
      rfl
    | succ h =>
      have h1 := ih h (by simpa using hh) (by simpa using he)
      simp only [List.set_cons_succ, rowP, List.flatMap_cons] at h1 ⊢
      rw [List.set_append_right _ _ (by omega), hl, show (h + 1) * 6 + j - 6 = h * 6 + j by omega, ← h1]
theorem rowU8_set (l : List Nat) (i n : Nat) : (rowU8 l).set i (.int .u8 (n : Int)) = rowU8 (l.set i n) := by simp [rowU8, List.map_set]

section
variable {w : World} {p : Nat} {h : Nat → Value} {B : Bld}

/-- A list of the builder taken away. -/
theorem HB.nil (hb : HB w p h B) (i : Nat) (hi : i < 6) {B' : Bld} (hB : RowIs B B' i 0 []) (ok : B'.Ok) :
    HB (w.setCell ⟨p, fOff i, none⟩ (.slice none 0 0)) p (upd h i (.slice none 0 0)) B' ∧ Mv p h (upd h i (.slice none 0 0)) w (w.setCell ⟨p, fOff i, none⟩ (.slice none 0 0)) := by
  have hv : w.ownsRow 0 (elT i) (elS i) (.slice none 0 0) 0 [] := ⟨by simp, .inl ⟨rfl, rfl⟩⟩
  have hk : BlkOf w (h i) (.slice none 0 0) := fun k hk => by cases hk
  exact ⟨hb.app hi (Keeps.refl _ _) hv hk hB ok, hb.app_mv hi (Keeps.refl _ _) hk⟩

theorem HB.setObj (hb : HB w p h B) {g m c x j : Nat} {u : Value} {P : Ptr} (hg : h 1 = .slice (some ⟨g, 0, none⟩) m c) (hx : x < B.obj.length) (hj : j < 6) (hP : ptrC P = (ptrC (B.o x)).set j u) (ok : P.Ok) :
    HB (w.setCell ⟨g, x * 6 + j, none⟩ u) p h (B.setObj x P) := by
  refine hb.put (i := 1) (by omega) hg ⟨?_, ?_, ?_, ?_, rfl⟩ ?_
  · show rowP (B.obj.set x P) = (rowP B.obj).set (x * 6 + j) u
    exact rowP_set B.obj P u j hj x hx hP
  · simp [Bld.len, Bld.setObj]
  · intro k hk hne
    match k, hk with
    | 0, _ => rfl
    | 1, _ => exact absurd rfl hne
    | 2, _ => rfl
    | 3, _ => rfl
    | 4, _ => rfl
    | 5, _ => rfl
  · intro k hk hne
    match k, hk with
    | 0, _ => rfl
    | 1, _ => exact absurd rfl hne
    | 2, _ => rfl
    | 3, _ => rfl
    | 4, _ => rfl
    | 5, _ => rfl
  · obtain ⟨o1, o2, o3, o4, o5, o6, o7⟩ := hb.ok
    refine ⟨o1, o2, o3, fun i => ?_, o5, o6, o7⟩
    show ((B.obj.set x P).getD i zeroPtr).Ok
    rw [List.getD_eq_getElem?_getD, List.getElem?_set]
    split
    · exact ok
    · have := o4 i
      rwa [List.getD_eq_getElem?_getD] at this

theorem getD_setLt {l : List Nat} {i n b : Nat} (hl : ∀ k, l.getD k 0 < b) (hn : n < b) (k : Nat) : (l.set i n).getD k 0 < b := by
  rw [List.getD_eq_getElem?_getD, List.getElem?_set]
  split
  · split
    · exact hn
    · simp; omega
  · have := hl k
    rwa [List.getD_eq_getElem?_getD] at this

theorem HB.setVia (hb : HB w p h B) {g m c x v : Nat} (hg : h 3 = .slice (some ⟨g, 0, none⟩) m c) (hv : v < 256) :
    HB (w.setCell ⟨g, x, none⟩ (.int .u8 (v : Int))) p h (B.setVia x v) := by
  refine hb.put (i := 3) (by omega) hg ⟨?_, ?_, ?_, ?_, rfl⟩ ?_
  · show rowU8 (B.via.set x v) = (rowU8 B.via).set x _
    rw [rowU8_set]
  · simp [Bld.len, Bld.setVia]
  · intro k hk hne
    match k, hk with
    | 0, _ => rfl
    | 1, _ => rfl
    | 2, _ => rfl
    | 3, _ => exact absurd rfl hne
    | 4, _ => rfl
    | 5, _ => rfl
  · intro k hk hne
    match k, hk with
    | 0, _ => rfl
    | 1, _ => rfl
    | 2, _ => rfl
    | 3, _ => exact absurd rfl hne
    | 4, _ => rfl
    | 5, _ => rfl
  · obtain ⟨o1, o2, o3, o4, o5, o6, o7⟩ := hb.ok
    exact ⟨o1, o2, o3, o4, o5, fun i => getD_setLt o6 hv i, o7⟩
theorem HB.setDepth (hb : HB w p h B) {g m c x v : Nat} (hg : h 4 = .slice (some ⟨g, 0, none⟩) m c) (hv : v < 256) :
    HB (w.setCell ⟨g, x, none⟩ (.int .u8 (v : Int))) p h (B.setDepth x v) := by
  refine hb.put (i := 4) (by omega) hg ⟨?_, ?_, ?_, ?_, rfl⟩ ?_
  · show rowU8 (B.depth.set x v) = (rowU8 B.depth).set x _
    rw [rowU8_set]
  · simp [Bld.len, Bld.setDepth]
  · intro k hk hne
    match k, hk with
    | 0, _ => rfl
    | 1, _ => rfl
    | 2, _ => rfl
    | 3, _ => rfl
    | 4, _ => exact absurd rfl hne
    | 5, _ => rfl
  · intro k hk hne
    match k, hk with
    | 0, _ => rfl
    | 1, _ => rfl
    | 2, _ => rfl
    | 3, _ => rfl
    | 4, _ => exact absurd rfl hne
    | 5, _ => rfl
  · obtain ⟨o1, o2, o3, o4, o5, o6, o7⟩ := hb.ok
    exact ⟨o1, o2, o3, o4, o5, o6, fun i => getD_setLt o7 hv i⟩
theorem HB.setDead (hb : HB w p h B) {g m c x : Nat} {v : Bool} (hg : h 5 = .slice (some ⟨g, 0, none⟩) m c) :
    HB (w.setCell ⟨g, x, none⟩ (.bool v)) p h (B.setDead x v) := by
  refine hb.put (i := 5) (by omega) hg ⟨?_, ?_, ?_, ?_, rfl⟩ ?_
  · show rowB (B.dead.set x v) = (rowB B.dead).set x _
    simp [rowB, List.map_set]
  · simp [Bld.len, Bld.setDead]
  · intro k hk hne
    match k, hk with
    | 0, _ => rfl
    | 1, _ => rfl
    | 2, _ => rfl
    | 3, _ => rfl
    | 4, _ => rfl
    | 5, _ => exact absurd rfl hne
  · intro k hk hne
    match k, hk with
    | 0, _ => rfl
    | 1, _ => rfl
    | 2, _ => rfl
    | 3, _ => rfl
    | 4, _ => rfl
    | 5, _ => exact absurd rfl hne
  · obtain ⟨o1, o2, o3, o4, o5, o6, o7⟩ := hb.ok
    exact ⟨o1, o2, o3, o4, o5, o6, o7⟩
/-- A reader's view whose slices are those of h. -/
theorem HB.see3 (hb : HB w p h B) (hev : evenP B) : ∃ a c, See w p B a c ∧ (∀ i, i < 6 → h i = .slice (some ⟨a i, 0, none⟩) (B.len i) (c i) ∧ a i < w.heap.size) ∧ ∀ i, i < 6 → ∀ j u, (B.row i)[j]? = some u → w.cell? ⟨a i, j, none⟩ = some u ∧ w.frozen? ⟨a i, j, none⟩ = false := by
  obtain ⟨a, c, s⟩ := hb.see hev
  have key : ∀ i, i < 6 → h i = .slice (some ⟨a i, 0, none⟩) (B.len i) (c i) := by
    intro i hi
    have h2 := (hb.cell i hi).1
    match i, hi with
    | 0, _ => rw [show fOff 0 = 0 from rfl, s.f0, Option.some.injEq] at h2; exact h2.symm
    | 1, _ => rw [show fOff 1 = 5 from rfl, s.f1, Option.some.injEq] at h2; exact h2.symm
    | 2, _ => rw [show fOff 2 = 6 from rfl, s.f2, Option.some.injEq] at h2; exact h2.symm
    | 3, _ => rw [show fOff 3 = 7 from rfl, s.f3, Option.some.injEq] at h2; exact h2.symm
    | 4, _ => rw [show fOff 4 = 8 from rfl, s.f4, Option.some.injEq] at h2; exact h2.symm
    | 5, _ => rw [show fOff 5 = 9 from rfl, s.f5, Option.some.injEq] at h2; exact h2.symm
  refine ⟨a, c, s, fun i hi => ⟨key i hi, (s.lt hev).2 i hi⟩, fun i hi j u hu => ?_⟩
  have ho := hb.own i hi
  rw [key i hi] at ho
  exact own_cell ho hu
end
end Go.Proofs.YgcfaaGreat
