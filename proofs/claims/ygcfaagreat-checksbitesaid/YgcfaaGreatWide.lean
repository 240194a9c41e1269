import Derived.Test.YgcfaaGreatWkMid
import Derived.Deep.MidRow
import Derived.Deep.WholeRow
namespace Go.Proofs.YgcfaaGreat
open Go.RowKit Bits Bd
set_option linter.unusedVariables false
set_option maxRecDepth 100000

theorem rowAt_range {w : World} {b o : Nat} {vs : List Value} (h : RowAt w b o vs) : w.rangeAt b o vs := fun j v hv => h.at_ hv
theorem rowAt_there {w : World} {b o : Nat} {vs : List Value} (h : RowAt w b o vs) : w.there b o vs.length := fun j hj => ⟨by rw [h.at_ (List.getElem?_eq_getElem hj)]; rfl, h.live j hj⟩
theorem row_setCells {w : World} {b o : Nat} {vs us : List Value} (h : RowAt w b o vs) (hl : us.length = vs.length) : RowAt (w.setCells b o us) b o us := by
  have ht := rowAt_there h
  rw [← hl] at ht
  refine ⟨fun i hi => ?_, fun i hi => ?_⟩
  · exact World.rangeAt_setCells_same w b o us ht i _ (List.getElem?_eq_getElem hi)
  · rw [World.frozen?_setCells]
    exact (ht i hi).2
theorem keeps_setCells (w : World) (b o : Nat) (us : List Value) : Keeps (fun k => k = b) w (w.setCells b o us) := by
  induction us generalizing w o with
  | nil => exact Keeps.refl _ _
  | cons u us ih =>
    have h1 := keeps_set w b o u
    exact h1.trans (ih (w.setCell ⟨b, o, none⟩ u) (o + 1))

section
variable {P : Program} {w : World}
/-- A variable of many cells is made. -/
theorem wpList_alloc_z {ops : Array Oper} {rest : List Oper} {op : Oper} {a : Act} {Q : Exit → Act → World → Prop} (hgd : op.guard = none) (ty : TypeId) (ho : op.op = .alloc ty) (z : Array Value)
    (hz : ∀ w, (zeroValue ty).run P w = .ok (.agg z) w)
    (h : wpList P ops Q rest (a.put op.dst (.pointer (some ⟨w.heap.size, 0, none⟩))) (w.alloc (.cells z ty))) : wpList P ops Q (op :: rest) a w := by
  refine wpList_plain hgd fun _ hK => ?_
  unfold Oper.wp execOp
  simp only [ho, Instr.alloc, hz, Sem.run_bind, Sem.run_pure, Result.andThen_ok]
  exact hK _ _ h
end
def Z67 : List Value := Wk.cells ⟨[0, 0, 0, 0], List.replicate 256 (0, 0), 0⟩
theorem zero67 : (Faag.prog.info? 67).map (fun i => (i.zero, i.size)) = some (some (.agg Z67.toArray), 517) := by kernel_rfl
theorem info67 (W : Wk) (ok : W.Ok) : (Faag.prog.info? 67).map (·.size) = some W.cells.length := by rw [wk_len ok]; exact (zero_of_info zero67).2
theorem row67 : (Faag.prog.underlying 67).map (·.isRow) = some true := by kernel_rfl
theorem under67 : ∃ d, Faag.prog.underlying 67 = some d ∧ d.isRow = true := by
  have := row67
  cases h : Faag.prog.underlying 67 with
  | none => rw [h] at this; cases this
  | some d => rw [h] at this; exact ⟨d, rfl, Option.some.inj this⟩
theorem oneCell_cells (W : Wk) : ∀ v ∈ W.cells, v.oneCell' = true := by
  intro v hv
  unfold Wk.cells U at hv
  simp only [List.mem_append, List.mem_map, List.mem_singleton] at hv
  rcases hv with ⟨n, _, rfl⟩ | hv | rfl
  · rfl
  · have : ∀ l, v ∈ entsC l → v.oneCell' = true := by
      intro l
      induction l with
      | nil => intro h; cases h
      | cons e l ih =>
        intro h
        simp only [entsC, List.mem_cons] at h
        rcases h with rfl | rfl | h
        · rfl
        · rfl
        · exact ih h
    exact this _ hv
  · rfl

theorem wpList_alloc67 {ops : Array Oper} {rest : List Oper} {op : Oper} {a : Act} {Q : Exit → Act → World → Prop} {w : World} (hgd : op.guard = none) (ho : op.op = .alloc 67)
    (h : wpList Faag.prog ops Q rest (a.put op.dst (.pointer (some ⟨w.heap.size, 0, none⟩))) (w.alloc (.cells Z67.toArray 67))) : wpList Faag.prog ops Q (op :: rest) a w :=
  wpList_alloc_z hgd 67 ho Z67.toArray (zero_of_info zero67).1 h
theorem wpList_load67 {ops : Array Oper} {rest : List Oper} {op : Oper} {a : Act} {Q : Exit → Act → World → Prop} {w : World} (hgd : op.guard = none) (x : Operand) (ho : op.op = .load 67 x) (b : Nat) (W : Wk)
    (hx : a.eval x = .pointer (some ⟨b, 0, none⟩)) (hb : WkAt w b W)
    (h : wpList Faag.prog ops Q rest (a.put op.dst (.agg W.cells.toArray)) w) : wpList Faag.prog ops Q (op :: rest) a w := by
  obtain ⟨d, h1, h2⟩ := under67
  exact wpList_load_mid hgd 67 x ho b 0 hx W.cells d (rowAt_range hb.row) h1 h2 (info67 W hb.ok) h
theorem wpList_store67 {ops : Array Oper} {rest : List Oper} {op : Oper} {a : Act} {Q : Exit → Act → World → Prop} {w : World} (hgd : op.guard = none) (x y : Operand) (ho : op.op = .store 67 x y) (b : Nat) (V W : Wk)
    (hx : a.eval x = .pointer (some ⟨b, 0, none⟩)) (hy : a.eval y = .agg W.cells.toArray) (hb : WkAt w b V) (ok : W.Ok)
    (h : ∀ w', WkAt w' b W → Keeps (fun k => k = b) w w' → wpList Faag.prog ops Q rest (a.put op.dst undef) w') : wpList Faag.prog ops Q (op :: rest) a w := by
  have hl : W.cells.length = V.cells.length := by rw [wk_len ok, wk_len hb.ok]
  refine wpList_store_mid hgd 67 x y ho b 0 W.cells.toArray hx hy ?_ ?_ ?_ (h _ ⟨?_, ok⟩ (keeps_setCells _ _ _ _))
  · have := rowAt_there hb.row
    rw [← hl] at this
    simpa using this
  · have := info67 W ok
    simpa using this
  · exact all_oneCell_toArray (oneCell_cells W)
  · exact row_setCells hb.row hl
theorem wk0_ok : Wk.Ok ⟨[0, 0, 0, 0], List.replicate 256 (0, 0), 0⟩ := by
  have he : ∀ i, Wk.ent ⟨[0, 0, 0, 0], List.replicate 256 (0, 0), 0⟩ i = (0, 0) := fun i => by
    unfold Wk.ent
    rw [List.getD_eq_getElem?_getD, List.getElem?_replicate]
    split <;> rfl
  refine ⟨rfl, fun i => ?_, List.length_replicate, fun i => ?_, fun i => ?_, by decide⟩
  · match i with
    | 0 => decide
    | 1 => decide
    | 2 => decide
    | 3 => decide
    | i + 4 => exact Nat.zero_lt_succ _
  · rw [he]; decide
  · rw [he]; decide
theorem wk0_at (w : World) : WkAt (w.alloc (.cells Z67.toArray 67)) w.heap.size ⟨[0, 0, 0, 0], List.replicate 256 (0, 0), 0⟩ := ⟨RowAt.of_alloc w Z67 67, wk0_ok⟩
end Go.Proofs.YgcfaaGreat
