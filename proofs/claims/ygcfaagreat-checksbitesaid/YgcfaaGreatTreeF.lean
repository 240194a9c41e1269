import Derived.Test.YgcfaaGreatTreeE
namespace Go.Proofs.YgcfaaGreat
open Go.RowKit Bits Bd
set_option linter.unusedVariables false
set_option maxRecDepth 100000
set_option linter.unusedSimpArgs false
attribute [local go_sem] World.cell?_ext World.frozen?_ext

namespace Bd
/-- element[k], depth[k] = l, b, for the kids that are there. -/
def putK (b : Nat) (l : Bool) : List Int → List Nat × List Bool → List Nat × List Bool
  | [], s => s
  | k :: ks, s => putK b l ks (if k = -1 then s else (s.1.set k.toNat b, s.2.set k.toNat l))
def inl (n : Nd) : Bool := decide (n.kind = 2 ∧ n.code = 7)
def bel (n : Nd) (d : Nat) : Nat := if inl n then d else d + 1
def hasK (n : Nd) : Prop := ∃ j, j < n.kids.length ∧ ¬ n.kids.getD j 0 = -1
/-- What a pass over the tree keeps, and how it ends. -/
structure BIn (M : Mo) (r0 : Bool) (tw : Nat → Nat) (I : Nat → Nat → List Nat → List Bool → Prop) : Prop where
  start : ∀ r : Nat, M.root = (r : Int) → I r 1 ((List.replicate 512 0).set r 1) (List.replicate 512 false)
  len : ∀ i wd dA eA, I i wd dA eA → dA.length = 512 ∧ eA.length = 512 ∧ wd ≤ 100000 ∧ ∀ x, dA.getD x 0 ≤ 8
  skip : ∀ i wd dA eA, I i wd dA eA → i < M.N.length → dA.getD i 0 = 0 → I (i + 1) wd dA eA
  wds : ∀ i wd dA eA, I i wd dA eA → i < M.N.length → ¬ dA.getD i 0 = 0 → eA.getD i false = false → ∃ D Q, twB (M.nd i) D Q ≤ tw i ∧ tw i ≤ 100000 ∧
    (¬ (M.nd i).kind = 1 → (M.nd i).code = 7 → ∀ j, j < (M.nd i).kids.length → ∃ k : Nat, (M.nd i).kids.getD j 0 = (k : Int) ∧ k < M.N.length ∧ (M.nd k).data.length ≤ D ∧ (M.nd k).kids.length ≤ Q)
  go : ∀ i wd wd' dA eA, I i wd dA eA → i < M.N.length → ¬ dA.getD i 0 = 0 → wd' ≤ wd + (if eA.getD i false then 0 else tw i) →
    (hasK (M.nd i) ∧ 8 < bel (M.nd i) (dA.getD i 0) → r0 = false) ∧ (¬ (hasK (M.nd i) ∧ 8 < bel (M.nd i) (dA.getD i 0)) → I (i + 1) wd' (putK (bel (M.nd i) (dA.getD i 0)) (inl (M.nd i)) (M.nd i).kids (dA, eA)).1 (putK (bel (M.nd i) (dA.getD i 0)) (inl (M.nd i)) (M.nd i).kids (dA, eA)).2)
  fin : ∀ i wd dA eA, I i wd dA eA → M.N.length ≤ i → r0 = decide (wd ≤ 256)
end Bd
theorem putK_append (b : Nat) (l : Bool) : ∀ (ks ks' : List Int) (s : List Nat × List Bool), putK b l (ks ++ ks') s = putK b l ks' (putK b l ks s)
  | [], ks', s => rfl
  | k :: ks, ks', s => putK_append b l ks ks' _
theorem putK_len (b : Nat) (l : Bool) : ∀ (ks : List Int) (s : List Nat × List Bool), (putK b l ks s).1.length = s.1.length ∧ (putK b l ks s).2.length = s.2.length
  | [], s => ⟨rfl, rfl⟩
  | k :: ks, s => by
    rw [putK]
    have := putK_len b l ks (if k = -1 then s else (s.1.set k.toNat b, s.2.set k.toNat l))
    split at this
    · rename_i h; rw [if_pos h]; exact this
    · rename_i h; rw [if_neg h]; rw [List.length_set, List.length_set] at this; exact this
def Z119 : List Value := List.replicate 512 (.int .u8 0)
def Z120 : List Value := List.replicate 512 (.bool false)
theorem zero119 : (Faag.prog.info? 119).map (fun i => (i.zero, i.size)) = some (some (.agg Z119.toArray), 512) := by kernel_rfl
theorem zero120 : (Faag.prog.info? 120).map (fun i => (i.zero, i.size)) = some (some (.agg Z120.toArray), 512) := by kernel_rfl
theorem wpList_alloc119 {ops : Array Oper} {rest : List Oper} {op : Oper} {a : Act} {Q : Exit → Act → World → Prop} {w : World} (hgd : op.guard = none) (ho : op.op = .alloc 119)
    (h : wpList Faag.prog ops Q rest (a.put op.dst (.pointer (some ⟨w.heap.size, 0, none⟩))) (w.alloc (.cells Z119.toArray 119))) : wpList Faag.prog ops Q (op :: rest) a w :=
  wpList_alloc_z hgd 119 ho Z119.toArray (zero_of_info zero119).1 h
theorem wpList_alloc120 {ops : Array Oper} {rest : List Oper} {op : Oper} {a : Act} {Q : Exit → Act → World → Prop} {w : World} (hgd : op.guard = none) (ho : op.op = .alloc 120)
    (h : wpList Faag.prog ops Q rest (a.put op.dst (.pointer (some ⟨w.heap.size, 0, none⟩))) (w.alloc (.cells Z120.toArray 120))) : wpList Faag.prog ops Q (op :: rest) a w :=
  wpList_alloc_z hgd 120 ho Z120.toArray (zero_of_info zero120).1 h
/-- The two arrays of a pass, in memory. -/
structure Arrs (w : World) (D E : Nat) (dA : List Nat) (eA : List Bool) : Prop where
  d : RowAt w D 0 (cellsK .u8 dA)
  e : RowAt w E 0 (rowB eA)
  dl : dA.length = 512
  el : eA.length = 512
section
variable {w w' : World} {D E : Nat} {dA : List Nat} {eA : List Bool}
theorem Arrs.dc (h : Arrs w D E dA eA) {i : Nat} (hi : i < 512) : w.cell? ⟨D, i, none⟩ = some (.int .u8 (dA.getD i 0 : Nat)) ∧ w.frozen? ⟨D, i, none⟩ = false := by
  have h1 := h.d.at_ (i := i) (v := .int .u8 (dA.getD i 0 : Nat)) (by have := h.dl; simp [cellsK, List.getElem?_eq_getElem (show i < dA.length by omega)])
  have h2 := h.d.live i (by simp [cellsK, h.dl]; exact hi)
  rw [Nat.zero_add] at h1 h2
  exact ⟨h1, h2⟩
theorem Arrs.ec (h : Arrs w D E dA eA) {i : Nat} (hi : i < 512) : w.cell? ⟨E, i, none⟩ = some (.bool (eA.getD i false)) ∧ w.frozen? ⟨E, i, none⟩ = false := by
  have h1 := h.e.at_ (i := i) (v := .bool (eA.getD i false)) (by have := h.el; simp [rowB, List.getElem?_eq_getElem (show i < eA.length by omega)])
  have h2 := h.e.live i (by simp [rowB, h.el]; exact hi)
  rw [Nat.zero_add] at h1 h2
  exact ⟨h1, h2⟩
theorem Arrs.below (h : Arrs w D E dA eA) (hb : Below w.heap.size w w') : Arrs w' D E dA eA :=
  ⟨h.d.keeps (Keeps.of_below hb) (fun h1 h2 => by have : w.heap.size ≤ D := h2; omega), h.e.keeps (Keeps.of_below hb) (fun h1 h2 => by have : w.heap.size ≤ E := h2; omega), h.dl, h.el⟩
theorem Arrs.putD (h : Arrs w D E dA eA) (hDE : ¬ D = E) {i v : Nat} (hi : i < 512) : Arrs (w.setCell ⟨D, i, none⟩ (.int .u8 (v : Int))) D E (dA.set i v) eA := by
  refine ⟨?_, h.e.keeps (keeps_set w D i _) (fun _ e => hDE e.symm), by rw [List.length_set]; exact h.dl, h.el⟩
  have := h.d.set (i := i) (by simp [cellsK, h.dl]; exact hi) (.int .u8 (v : Int))
  rw [Nat.zero_add] at this
  simpa [cellsK, List.map_set] using this
theorem Arrs.putE (h : Arrs w D E dA eA) (hDE : ¬ D = E) {i : Nat} {v : Bool} (hi : i < 512) : Arrs (w.setCell ⟨E, i, none⟩ (.bool v)) D E dA (eA.set i v) := by
  refine ⟨h.d.keeps (keeps_set w E i _) (fun _ e => hDE e), ?_, h.dl, by rw [List.length_set]; exact h.el⟩
  have := h.e.set (i := i) (by simp [rowB, h.el]; exact hi) (.bool v)
  rw [Nat.zero_add] at this
  simpa [rowB, List.map_set] using this
end
end Go.Proofs.YgcfaaGreat
