import Derived.Test.YgcfaaGreatWide
import Derived.Laws.IdiomCopy
import Derived.Laws.OwnMore
namespace Go.Proofs.YgcfaaGreat
open Go.RowKit Bits Bd
set_option linter.unusedVariables false
set_option maxRecDepth 100000

/-- A slice type, its element's type, that one's zero value, cells and bytes. -/
structure TyE (t e : TypeId) (z : Value) (size bytes : Nat) : Prop where
  under : Faag.prog.underlying t = some (.slice e)
  info : (Faag.prog.info? e).map (fun i => (i.zero, i.size, i.bytes)) = some (some z, size, bytes)
  zs : z.cells.size = size
  pos : 0 < size
theorem ty_words : TyE 23 31 (.int .u64 0) 1 8 := ⟨by kernel_rfl, by kernel_rfl, rfl, by decide⟩
theorem ty_kids : TyE 74 40 (.int .i16 0) 1 2 := ⟨by kernel_rfl, by kernel_rfl, rfl, by decide⟩
theorem ty_bytes : TyE 34 5 (.int .u8 0) 1 1 := ⟨by kernel_rfl, by kernel_rfl, rfl, by decide⟩
def zNode : Value := .agg #[.int .u8 0, .int .u8 0, .slice none 0 0, .slice none 0 0]
def zHand : Value := .agg #[.int .i16 0, .int .u8 0, .int .u8 0, .int .u8 0, .bool false, .bool false, .int .u16 0]
theorem ty_nodes : TyE 39 76 zNode 4 56 := ⟨by kernel_rfl, by kernel_rfl, rfl, by decide⟩
theorem ty_hands : TyE 45 89 zHand 7 10 := ⟨by kernel_rfl, by kernel_rfl, rfl, by decide⟩

section
variable {t e : TypeId} {z : Value} {size bytes : Nat} {w : World}
/-- make([]T, n) -/
theorem wpList_make (T : TyE t e z size bytes) {ops : Array Oper} {rest : List Oper} {op : Oper} {a : Act} {Q : Exit → Act → World → Prop} (hgd : op.guard = none) (x y : Operand) (ho : op.op = .makeSlice t x y) (kl kc : IntKind) (n : Nat)
    (hx : a.eval x = .int kl (n : Int)) (hy : a.eval y = .int kc (n : Int)) (hn : n ≤ 100000) (hb : bytes ≤ 1000)
    (h : ∀ w', w'.ownsRow 0 e size (.slice (some ⟨w.heap.size, 0, none⟩) n n) n (madeCells z.cells (n * size)).toList → Below w.heap.size w w' → w.heap.size < w'.heap.size →
      wpList Faag.prog ops Q rest (a.put op.dst (.slice (some ⟨w.heap.size, 0, none⟩) n n)) w') : wpList Faag.prog ops Q (op :: rest) a w := by
  obtain ⟨i, hi, hz, hs, hby⟩ := info_of T.info
  have hbb : i.bytes * n ≤ 281474976710656 := by rw [hby]; exact Nat.le_trans (Nat.mul_le_mul hb hn) (by omega)
  obtain ⟨w', hr, h2, h3⟩ := run_make_full (P := Faag.prog) w 0 t e i z size T.under hi hz hs kl kc n hbb (by unfold maxLen; omega) (Nat.zero_le _)
  have h4 := h2.lt w.heap.size rfl
  have hk := keeps_of_grown h3
  have hbl : Below w.heap.size w w' := hk.below (Nat.le_refl _) (fun k _ hx => by cases hx)
  refine wpList_plain hgd fun _ hK => ?_
  unfold Oper.wp execOp
  simp only [ho, hx, hy, hr, Sem.run_bind, Sem.run_pure, Result.andThen_ok]
  exact hK _ _ (h w' h2 hbl h4.2)

/-- append(s, x...) of some elements. -/
theorem wpList_appT (T : TyE t e z size bytes) {ops : Array Oper} {rest : List Oper} {o : Oper} {a : Act} {Q : Exit → Act → World → Prop} (hgd : o.guard = none) (s x : Operand)
    (ho : o.op = .call { callee := .builtin .append, args := #[s, x], argTypes := #[t, t] })
    (v : Value) (n : Nat) (xs : List Value) (hs : a.eval s = v) (hown : w.ownsRow 0 e size v n xs)
    (ad : Addr) (m c : Nat) (news : List Value) (hx : a.eval x = .slice (some ad) m c) (hl : news.length = m * size) (hnews : ∀ j u, news[j]? = some u → w.cell? (ad.add j) = some u) (h1 : ∀ u ∈ news, u.oneCell' = true)
    (hm : 0 < m) (hn : n + m ≤ 100000) (hb : bytes ≤ 1000)
    (h : ∀ v' w', w'.ownsRow 0 e size v' (n + m) (xs ++ news) → Keeps (fun k => some k = v.ownBlock) w w' → BlkOf w v v' → wpList Faag.prog ops Q rest (a.put o.dst v') w') : wpList Faag.prog ops Q (o :: rest) a w := by
  obtain ⟨i, hi, hz, hsz, hby⟩ := info_of T.info
  have hbb : (n + m) * bytes ≤ 140737488355328 := Nat.le_trans (Nat.mul_le_mul hn hb) (by omega)
  exact wpList_append_at w hgd s x t ho e i z size bytes T.under hi hz hsz hby T.zs T.pos v n xs hs hown ad m c news hx hl hnews h1 hm (by unfold maxLen; omega) hbb h

/-- copy(d, s): the cells of d turn, nothing else. -/
theorem run_copyT (T : TyE t e z 1 bytes) (ty : TypeId) (b dl dc : Nat) (sa : Option Addr) (sl sc : Nat) (cs : List Value)
    (hl : cs.length = sl) (hle : sl ≤ dl) (hsrc : 0 < sl → ∃ ad, sa = some ad ∧ ∀ j v, cs[j]? = some v → w.cell? (ad.add j) = some v)
    (h1 : ∀ u ∈ cs, u.oneCell' = true) (hdst : ∀ j, j < dl → (w.cell? ⟨b, j, none⟩).isSome = true ∧ w.frozen? ⟨b, j, none⟩ = false) :
    (Builtin.copy_ #[t, t] ty #[.slice (some ⟨b, 0, none⟩) dl dc, .slice sa sl sc]).run Faag.prog w = .ok (goInt cs.length) (w.setCells b 0 cs) := by
  obtain ⟨i, hi, hz, hsz, hby⟩ := info_of T.info
  have hs1 : (Faag.prog.info? e).map (·.size) = some 1 := by rw [hi]; simp [hsz]
  rcases Nat.eq_zero_or_pos sl with h0 | h0
  · have : cs = [] := List.eq_nil_of_length_eq_zero (by omega)
    subst this
    have := run_copy_none (P := Faag.prog) w t t ty e (some ⟨b, 0, none⟩) sa dl dc sl sc T.under hs1 (by rw [h0]; exact Nat.zero_min _)
    exact this
  · obtain ⟨ad, rfl, hc⟩ := hsrc h0
    exact run_copy_cells (P := Faag.prog) w t t ty e b 0 dl dc ad sl sc cs T.under hs1 (by rw [hl]; exact (Nat.min_eq_left hle).symm) hc (fun j hj => by rw [Nat.zero_add]; exact (hdst j (by omega)).1) (fun j hj => by rw [Nat.zero_add]; exact (hdst j (by omega)).2) h1
end
theorem own_there {w : World} {e : TypeId} {g n c : Nat} {xs : List Value} (h : w.ownsRow 0 e 1 (.slice (some ⟨g, 0, none⟩) n c) n xs) : ∀ j, j < n → (w.cell? ⟨g, j, none⟩).isSome = true ∧ w.frozen? ⟨g, j, none⟩ = false := fun j hj => by
  have hl := h.1
  have := own_cell h (i := j) (u := xs[j]'(by omega)) (List.getElem?_eq_getElem (by omega))
  exact ⟨by rw [this.1]; rfl, this.2⟩
end Go.Proofs.YgcfaaGreat
