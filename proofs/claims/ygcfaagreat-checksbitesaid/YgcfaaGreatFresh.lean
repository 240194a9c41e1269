import Derived.Test.YgcfaaGreatMoPush
import Derived.Test.YgcfaaGreatSeg
namespace Go.Proofs.YgcfaaGreat
open Go.RowKit Bits Bd
set_option linter.unusedVariables false
set_option maxRecDepth 100000

theorem made_one (z : Value) (n : Nat) : (madeCells #[z] (n * 1)).toList = List.replicate n z := by
  refine List.ext_getElem? fun j => ?_
  rw [Array.getElem?_toList, List.getElem?_replicate]
  unfold madeCells
  rw [Array.getElem?_map, Nat.mul_one]
  by_cases h : j < n
  · rw [if_pos h, Array.getElem?_eq_getElem (by simpa using h)]
    simp [Nat.mod_one]
  · rw [if_neg h, Array.getElem?_eq_none (by simpa using h)]; rfl
theorem made_words (n : Nat) : (madeCells (Value.int .u64 0).cells (n * 1)).toList = cellsK .u64 (List.replicate n 0) := by
  rw [show (Value.int .u64 0).cells = #[Value.int .u64 0] from rfl, made_one]
  unfold cellsK
  rw [List.map_replicate]; rfl
theorem made_kids (n : Nat) : (madeCells (Value.int .i16 0).cells (n * 1)).toList = kidsC (List.replicate n 0) := by
  rw [show (Value.int .i16 0).cells = #[Value.int .i16 0] from rfl, made_one]
  unfold kidsC
  rw [List.map_replicate]
def nilH : Nat → Value := fun _ => .slice none 0 0
theorem made_nodes (n : Nat) : (madeCells zNode.cells (n * 4)).toList = nodesC nilH 0 (List.replicate n zNd) := by
  refine List.ext_getElem? fun j => ?_
  rw [Array.getElem?_toList]
  unfold madeCells
  rw [Array.getElem?_map]
  by_cases h : j < n * 4
  · rw [Array.getElem?_eq_getElem (by simpa using h)]
    have hz : (ndC nilH (0 + j / 4) ((List.replicate n zNd).getD (j / 4) zNd))[j % 4]? = some (zNode.cells[j % zNode.cells.size]!) := by
      have e : (List.replicate n zNd).getD (j / 4) zNd = zNd := by rw [List.getD_eq_getElem?_getD, List.getElem?_replicate]; split <;> rfl
      rw [e]
      have hs : zNode.cells.size = 4 := rfl
      rw [hs]
      have hm : j % 4 < 4 := Nat.mod_lt _ (by omega)
      match j % 4, hm with
      | 0, _ => rfl
      | 1, _ => rfl
      | 2, _ => rfl
      | 3, _ => rfl
    have := nodesC_get nilH (List.replicate n zNd) 0 (j / 4) (j % 4) _ (by rw [List.length_replicate]; omega) hz
    rw [show j / 4 * 4 + j % 4 = j by omega] at this
    rw [this]
    simp
  · rw [Array.getElem?_eq_none (by simpa using h), List.getElem?_eq_none (by rw [nodesC_length, List.length_replicate]; omega)]; rfl

section
variable {t e : TypeId} {z : Value} {size bytes : Nat} {w : World}
/-- make([]T, n), at a place D. -/
theorem wpList_makeD (T : TyE t e z size bytes) {ops : Array Oper} {rest : List Oper} {op : Oper} {a : Act} {Q : Exit → Act → World → Prop} (hgd : op.guard = none) (x y : Operand) (ho : op.op = .makeSlice t x y) (kl kc : IntKind) (n : Nat)
    (hx : a.eval x = .int kl (n : Int)) (hy : a.eval y = .int kc (n : Int)) (hn : n ≤ 100000) (hb : bytes ≤ 1000)
    (h : ∀ D w', w.heap.size ≤ D → D < w'.heap.size → w'.ownsRow 0 e size (.slice (some ⟨D, 0, none⟩) n n) n (madeCells z.cells (n * size)).toList → Below w.heap.size w w' →
      wpList Faag.prog ops Q rest (a.put op.dst (.slice (some ⟨D, 0, none⟩) n n)) w') : wpList Faag.prog ops Q (op :: rest) a w :=
  wpList_make T hgd x y ho kl kc n hx hy hn hb (fun w' h1 h2 h3 => h w.heap.size w' (Nat.le_refl _) h3 h1 h2)
/-- var x T, at a place U. -/
theorem wpList_allocD {ops : Array Oper} {rest : List Oper} {op : Oper} {a : Act} {Q : Exit → Act → World → Prop} (hgd : op.guard = none) (ty : TypeId) (ho : op.op = .alloc ty) (cs : List Value)
    (hz : (Faag.prog.info? ty).map (fun i => (i.zero, i.size)) = some (some (.agg cs.toArray), cs.length)) (h0 : 0 < cs.length)
    (h : ∀ U w', w.heap.size ≤ U → U < w'.heap.size → RowAt w' U 0 cs → Below w.heap.size w w' → wpList Faag.prog ops Q rest (a.put op.dst (.pointer (some ⟨U, 0, none⟩))) w') : wpList Faag.prog ops Q (op :: rest) a w :=
  wpList_alloc_z hgd ty ho cs.toArray (zero_of_info hz).1 (h w.heap.size _ (Nat.le_refl _) (by rw [World.size_alloc]; omega) (RowAt.of_alloc w cs ty) ((Below.refl _ _).alloc (Nat.le_refl _) _))
theorem own_below {w' : World} {v : Value} {n : Nat} {xs : List Value} (h : w.ownsRow 0 e size v n xs) (k : Below w.heap.size w w') : w'.ownsRow 0 e size v n xs :=
  own_keeps h (Keeps.of_below k) (fun j hj hx => by have := (h.lt j hj).2; have hx' : w.heap.size ≤ j := hx; omega)
theorem row_below {w' : World} {b o : Nat} {vs : List Value} (h : RowAt w b o vs) (k : Below w.heap.size w w') : RowAt w' b o vs := h.keeps (Keeps.of_below k) (fun h1 h2 => by have : w.heap.size ≤ b := h2; omega)
end
def zNdC : List Value := [.int .u8 0, .int .u8 0, .slice none 0 0, .slice none 0 0]
def zTrC : List Value := [.slice none 0 0, .int .i16 0]
theorem info76 : (Faag.prog.info? 76).map (fun i => (i.zero, i.size)) = some (some (.agg zNdC.toArray), zNdC.length) := by kernel_rfl
theorem info42 : (Faag.prog.info? 42).map (fun i => (i.zero, i.size)) = some (some (.agg zTrC.toArray), zTrC.length) := by kernel_rfl
end Go.Proofs.YgcfaaGreat
