import Derived.Test.YgcfaaGreatBitePA
namespace Go.Proofs.YgcfaaGreat
open Go.RowKit Bits Bd
set_option linter.unusedVariables false
set_option maxRecDepth 100000

def cellsK (k : IntKind) (ys : List Nat) : List Value := ys.map fun (y : Nat) => Value.int k (y : Int)
/-- A row of numbers, owned by the slice v, in a block that is not below B0. -/
structure Str (e : TypeId) (k : IntKind) (lim B0 : Nat) (w : World) (v : Value) (n : Nat) : Prop where
  own : ∃ ys : List Nat, ys.length = n ∧ (∀ y ∈ ys, y < lim) ∧ w.ownsRow 0 e 1 v n (cellsK k ys)
  fresh : ∀ j, v.ownBlock = some j → B0 ≤ j

section
variable {e : TypeId} {k : IntKind} {lim B0 : Nat} {w w' : World} {v : Value} {n : Nat}
theorem Str.below (h : Str e k lim B0 w v n) (hb : Below w.heap.size w w') : Str e k lim B0 w' v n := by
  obtain ⟨⟨ys, h1, h2, h3⟩, hf⟩ := h
  refine ⟨⟨ys, h1, h2, own_keeps h3 (Keeps.of_below hb) (fun j hj hx => ?_)⟩, hf⟩
  have := (h3.lt j hj).2
  have : w.heap.size ≤ j := hx
  omega
theorem Str.alloc (h : Str e k lim B0 w v n) (o : Obj) : Str e k lim B0 (w.alloc o) v n := h.below ((Below.refl _ _).alloc (Nat.le_refl _) _)
theorem Str.keeps {X : Nat → Prop} (h : Str e k lim B0 w v n) (kp : Keeps X w w') (hx : ∀ j, v.ownBlock = some j → ¬ X j) : Str e k lim B0 w' v n := by
  obtain ⟨⟨ys, h1, h2, h3⟩, hf⟩ := h
  exact ⟨⟨ys, h1, h2, own_keeps h3 kp hx⟩, hf⟩
theorem Str.nil : Str e k lim B0 w (.slice none 0 0) 0 := ⟨⟨[], rfl, fun y hy => (by cases hy), rfl, .inl ⟨rfl, rfl⟩⟩, fun j hj => (by cases hj)⟩
/-- Its form. -/
theorem Str.form (h : Str e k lim B0 w v n) : ∃ a c, v = .slice a n c ∧ n ≤ c := by
  obtain ⟨⟨ys, h1, h2, h3⟩, hf⟩ := h
  obtain ⟨a, c, e1, e2⟩ := own_len h3
  exact ⟨a, c, e1, by omega⟩
theorem Str.form' (h : Str e k lim B0 w v n) (hn : 0 < n) : ∃ g c, v = .slice (some ⟨g, 0, none⟩) n c ∧ n ≤ c ∧ B0 ≤ g ∧ g < w.heap.size := by
  obtain ⟨⟨ys, h1, h2, h3⟩, hf⟩ := h
  obtain ⟨g, c, e1⟩ := own_form h3 hn
  subst e1
  obtain ⟨a, c', e2, e3⟩ := own_len h3
  cases e2
  exact ⟨g, c, rfl, by omega, hf g rfl, own_lt h3⟩
theorem Str.cell {g m c : Nat} (h : Str e k lim B0 w (.slice (some ⟨g, 0, none⟩) m c) n) {i : Nat} (hi : i < n) : ∃ y : Nat, y < lim ∧ w.cell? ⟨g, i, none⟩ = some (.int k (y : Int)) ∧ w.frozen? ⟨g, i, none⟩ = false := by
  obtain ⟨⟨ys, h1, h2, h3⟩, hf⟩ := h
  have hy : i < ys.length := by omega
  have := own_cell h3 (i := i) (u := .int k (ys[i] : Nat)) (by simp [cellsK, hy])
  exact ⟨ys[i], h2 _ (List.getElem_mem hy), this⟩
theorem cells_one (k : IntKind) (ys : List Nat) : ∀ u ∈ cellsK k ys, u.oneCell' = true := fun u hu => by
  obtain ⟨y, _, rfl⟩ := List.mem_map.1 hu
  rfl
theorem Str.keepsB {v' : Value} (h : Keeps (fun j => some j = v.ownBlock) w w') (hf : ∀ j, v.ownBlock = some j → B0 ≤ j) (hB : B0 ≤ w.heap.size) : Below B0 w w' := h.below hB (fun j hj hx => by have := hf j hx.symm; omega)

/-- append(s, y): one number more. -/
theorem wpList_pushS {t : TypeId} {z : Value} {bytes : Nat} (T : TyE t e z 1 bytes) {ops : Array Oper} {rest : List Oper} {o : Oper} {a : Act} {Q : Exit → Act → World → Prop} (hgd : o.guard = none) (s x : Operand)
    (ho : o.op = .call { callee := .builtin .append, args := #[s, x], argTypes := #[t, t] }) (v : Value) (n : Nat) (hs : a.eval s = v) (hS : Str e k lim B0 w v n)
    (g m c : Nat) (ys : List Nat) (hx : a.eval x = .slice (some ⟨g, 0, none⟩) m c) (hl : ys.length = m) (hm : 0 < m) (hy : ∀ j u, (cellsK k ys)[j]? = some u → w.cell? ⟨g, j, none⟩ = some u) (hlt : ∀ y ∈ ys, y < lim) (hB : B0 ≤ w.heap.size) (hn : n + m ≤ 100000) (hb : bytes ≤ 1000)
    (h : ∀ v' w', Str e k lim B0 w' v' (n + m) → Below B0 w w' → Keeps (fun j => some j = v.ownBlock) w w' → BlkOf w v v' → wpList Faag.prog ops Q rest (a.put o.dst v') w') : wpList Faag.prog ops Q (o :: rest) a w := by
  obtain ⟨⟨zs, h1, h2, h3⟩, hf⟩ := hS
  refine wpList_appT T hgd s x ho v n _ hs h3 ⟨g, 0, none⟩ m c (cellsK k ys) hx (by simp [cellsK, hl]) (fun j u hu => by rw [Addr.add_mid, Nat.zero_add]; exact hy j u hu) (cells_one k ys) hm hn hb (fun v' w' q1 q2 q3 => ?_)
  refine h v' w' ⟨⟨zs ++ ys, by simp [h1, hl], fun y hy => ?_, ?_⟩, fun j hj => ?_⟩ (Str.keepsB (v' := v') q2 hf hB) q2 q3
  · rcases List.mem_append.1 hy with hy | hy
    · exact h2 y hy
    · exact hlt y hy
  · unfold cellsK at q1 ⊢
    rw [List.map_append]; exact q1
  · rcases q3 j hj with q | q
    · exact hf j q
    · omega
theorem news1 (w : World) (e : TypeId) (k : IntKind) (y : Nat) : ∀ j u, (cellsK k [y])[j]? = some u → (w.alloc (.cells #[.int k (y : Int)] e)).cell? ⟨w.heap.size, j, none⟩ = some u := by
  intro j u hu
  have := RowAt.of_alloc w [.int k (y : Int)] e
  have := this.at_ (i := j) hu
  rw [Nat.zero_add] at this
  exact this

/-- make([]T, 0, c) -/
theorem wpList_make0 {t : TypeId} {z : Value} {bytes : Nat} (T : TyE t e z 1 bytes) {ops : Array Oper} {rest : List Oper} {op : Oper} {a : Act} {Q : Exit → Act → World → Prop} (hgd : op.guard = none) (x y : Operand) (ho : op.op = .makeSlice t x y) (kl kc : IntKind) (c : Nat)
    (hx : a.eval x = .int kl 0) (hy : a.eval y = .int kc (c : Int)) (hn : c ≤ 100000) (hb : bytes ≤ 1000) (hB : B0 ≤ w.heap.size)
    (h : ∀ w', Str e k lim B0 w' (.slice (some ⟨w.heap.size, 0, none⟩) 0 c) 0 → Below w.heap.size w w' → wpList Faag.prog ops Q rest (a.put op.dst (.slice (some ⟨w.heap.size, 0, none⟩) 0 c)) w') : wpList Faag.prog ops Q (op :: rest) a w := by
  obtain ⟨i, hi, hz, hs, hby⟩ := info_of T.info
  have hbb : i.bytes * c ≤ 281474976710656 := by rw [hby]; exact Nat.le_trans (Nat.mul_le_mul hb hn) (by omega)
  obtain ⟨w', hr, h2, h3⟩ := run_make_own (P := Faag.prog) w 0 t e i z 1 T.under hi hz hs kl kc c hbb (by unfold maxLen; omega) (Nat.zero_le _)
  have hk := keeps_of_grown h3
  have hbl : Below w.heap.size w w' := hk.below (Nat.le_refl _) (fun k _ hx => by cases hx)
  refine wpList_plain hgd fun _ hK => ?_
  unfold Oper.wp execOp
  simp only [ho, hx, hy, hr, Sem.run_bind, Sem.run_pure, Result.andThen_ok]
  exact hK _ _ (h w' ⟨⟨[], rfl, fun y hy => (by cases hy), h2⟩, fun j hj => by cases hj; exact hB⟩ hbl)
end
end Go.Proofs.YgcfaaGreat
