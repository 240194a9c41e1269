import Derived.Test.YgcfaaGreatBld
namespace Go.Proofs.YgcfaaGreat
open Go.RowKit Bits Bd
set_option linter.unusedVariables false
set_option maxRecDepth 100000
set_option linter.unusedSimpArgs false

theorem info_of {P : Program} {t : TypeId} {z : Value} {s b : Nat} (h : (P.info? t).map (fun i => (i.zero, i.size, i.bytes)) = some (some z, s, b)) : ∃ i, P.info? t = some i ∧ i.zero = some z ∧ i.size = s ∧ i.bytes = b := by
  cases hi : P.info? t with
  | none => rw [hi] at h; cases h
  | some i =>
    rw [hi] at h
    simp only [Option.map_some, Option.some.injEq, Prod.mk.injEq] at h
    exact ⟨i, rfl, h.1, h.2.1, h.2.2⟩

def slT : Nat → TypeId
  | 0 => 23
  | 1 => 33
  | 2 => 34
  | 3 => 34
  | 4 => 34
  | _ => 35
def elZ : Nat → Value
  | 0 => .int .u64 0
  | 1 => .agg (ptrC zeroPtr).toArray
  | 2 => .int .u8 0
  | 3 => .int .u8 0
  | 4 => .int .u8 0
  | _ => .bool false
def elB : Nat → Nat
  | 0 => 8
  | 1 => 10
  | 2 => 1
  | 3 => 1
  | 4 => 1
  | _ => 1
theorem el_info0 : (Faag.prog.info? 31).map (fun i => (i.zero, i.size, i.bytes)) = some (some (.int .u64 0), 1, 8) := by kernel_rfl
theorem sl_under0 : Faag.prog.underlying 23 = some (.slice 31) := by kernel_rfl
theorem el_info1 : (Faag.prog.info? 62).map (fun i => (i.zero, i.size, i.bytes)) = some (some (.agg (ptrC zeroPtr).toArray), 6, 10) := by kernel_rfl
theorem sl_under1 : Faag.prog.underlying 33 = some (.slice 62) := by kernel_rfl
theorem el_info2 : (Faag.prog.info? 5).map (fun i => (i.zero, i.size, i.bytes)) = some (some (.int .u8 0), 1, 1) := by kernel_rfl
theorem sl_under2 : Faag.prog.underlying 34 = some (.slice 5) := by kernel_rfl
theorem el_info3 : (Faag.prog.info? 5).map (fun i => (i.zero, i.size, i.bytes)) = some (some (.int .u8 0), 1, 1) := by kernel_rfl
theorem sl_under3 : Faag.prog.underlying 34 = some (.slice 5) := by kernel_rfl
theorem el_info4 : (Faag.prog.info? 5).map (fun i => (i.zero, i.size, i.bytes)) = some (some (.int .u8 0), 1, 1) := by kernel_rfl
theorem sl_under4 : Faag.prog.underlying 34 = some (.slice 5) := by kernel_rfl
theorem el_info5 : (Faag.prog.info? 4).map (fun i => (i.zero, i.size, i.bytes)) = some (some (.bool false), 1, 1) := by kernel_rfl
theorem sl_under5 : Faag.prog.underlying 35 = some (.slice 4) := by kernel_rfl
theorem el_info (i : Nat) (hi : i < 6) : (Faag.prog.info? (elT i)).map (fun i => (i.zero, i.size, i.bytes)) = some (some (elZ i), elS i, elB i) := by
  match i, hi with
  | 0, _ => exact el_info0
  | 1, _ => exact el_info1
  | 2, _ => exact el_info2
  | 3, _ => exact el_info3
  | 4, _ => exact el_info4
  | 5, _ => exact el_info5
theorem sl_under (i : Nat) (hi : i < 6) : Faag.prog.underlying (slT i) = some (.slice (elT i)) := by
  match i, hi with
  | 0, _ => exact sl_under0
  | 1, _ => exact sl_under1
  | 2, _ => exact sl_under2
  | 3, _ => exact sl_under3
  | 4, _ => exact sl_under4
  | 5, _ => exact sl_under5
theorem el_size (i : Nat) (hi : i < 6) : (elZ i).cells.size = elS i := by
  match i, hi with
  | 0, _ => rfl
  | 1, _ => rfl
  | 2, _ => rfl
  | 3, _ => rfl
  | 4, _ => rfl
  | 5, _ => rfl
theorem el_pos (i : Nat) : 0 < elS i := by unfold elS; split <;> omega
theorem el_bytes (i : Nat) : elB i ≤ 10 := by unfold elB; split <;> omega

/-- Some elements are appended onto row i. -/
theorem wp_app {w : World} {o : Oper} {a : Act} {K : Act → World → Prop} {Q : Exit → Act → World → Prop} (i : Nat) (hi : i < 6) (s x : Operand) (t : TypeId) (htt : t = slT i)
    (ho : o.op = .call { callee := .builtin .append, args := #[s, x], argTypes := #[t, t] })
    (v : Value) (n : Nat) (xs : List Value) (hs : a.eval s = v) (hown : w.ownsRow 0 (elT i) (elS i) v n xs)
    (g m c : Nat) (news : List Value) (hx : a.eval x = .slice (some ⟨g, 0, none⟩) m c) (hl : news.length = m * elS i) (hnews : ∀ j u, news[j]? = some u → w.cell? ⟨g, j, none⟩ = some u) (h1 : ∀ u ∈ news, u.oneCell' = true)
    (hm : 0 < m) (hnm : n + m ≤ 1000000)
    (h : ∀ v' w', w'.ownsRow 0 (elT i) (elS i) v' (n + m) (xs ++ news) → Keeps (fun k => some k = v.ownBlock) w w' → BlkOf w v v' → K (a.put o.dst v') w') : o.wp Faag.prog a w K Q := by
  obtain ⟨I, hI, hz, hsz, hby⟩ := info_of (el_info i hi)
  subst htt
  have hb := el_bytes i
  refine wp_append_at w s x (slT i) ho (elT i) I (elZ i) (elS i) (elB i) (sl_under i hi) hI hz hsz hby (el_size i hi) (el_pos i) v n xs hs hown ⟨g, 0, none⟩ m c news hx hl ?_ h1 hm (by unfold maxLen; omega) ?_ h
  · intro j u hu
    have := hnews j u hu
    rw [show (⟨g, 0, none⟩ : Addr).add j = ⟨g, j, none⟩ by unfold Addr.add; split <;> simp_all]
    exact this
  · have := Nat.mul_le_mul hnm hb
    omega
theorem wpList_app {w : World} {ops : Array Oper} {rest : List Oper} {o : Oper} {a : Act} {Q : Exit → Act → World → Prop} (i : Nat) (hi : i < 6) (hgd : o.guard = none) (s x : Operand) (t : TypeId) (htt : t = slT i)
    (ho : o.op = .call { callee := .builtin .append, args := #[s, x], argTypes := #[t, t] })
    (v : Value) (n : Nat) (xs : List Value) (hs : a.eval s = v) (hown : w.ownsRow 0 (elT i) (elS i) v n xs)
    (g m c : Nat) (news : List Value) (hx : a.eval x = .slice (some ⟨g, 0, none⟩) m c) (hl : news.length = m * elS i) (hnews : ∀ j u, news[j]? = some u → w.cell? ⟨g, j, none⟩ = some u) (h1 : ∀ u ∈ news, u.oneCell' = true)
    (hm : 0 < m) (hnm : n + m ≤ 1000000)
    (h : ∀ v' w', w'.ownsRow 0 (elT i) (elS i) v' (n + m) (xs ++ news) → Keeps (fun k => some k = v.ownBlock) w w' → BlkOf w v v' → wpList Faag.prog ops Q rest (a.put o.dst v') w') : wpList Faag.prog ops Q (o :: rest) a w :=
  wpList_plain hgd fun _ hK => wp_app i hi s x t htt ho v n xs hs hown g m c news hx hl hnews h1 hm hnm fun v' w' h2 h3 h4 => hK _ _ (h v' w' h2 h3 h4)

/-- While row i is appended to, the builder's cells stay. -/
theorem HB.app_cell {w w' : World} {p : Nat} {h : Nat → Value} {B : Bld} (hb : HB w p h B) {i : Nat} (hi : i < 6) (k : Keeps (fun k => some k = (h i).ownBlock) w w') (j : Nat) (hj : j < 6) :
    w'.cell? ⟨p, fOff j, none⟩ = some (h j) ∧ w'.frozen? ⟨p, fOff j, none⟩ = false := by
  have hpi : (h i).ownBlock ≠ some p := fun e => by
    have := hb.apart (i + 1) 0 p (by simp only [blks, if_pos hi]; exact e) rfl
    omega
  have h1 := hb.row.keeps k (fun _ e => hpi e.symm)
  have := fields_at h hb.ok.four j hj
  constructor
  · simpa using h1.at_ this
  · obtain ⟨h2, _⟩ := List.getElem?_eq_some_iff.1 this
    simpa using h1.live _ h2

theorem U_append (a b : List Nat) : U (a ++ b) = U a ++ U b := by simp [U]
theorem getD_append_lt {l : List Nat} {v m : Nat} (h : ∀ i, l.getD i 0 < m) (hv : v < m) (i : Nat) : (l ++ [v]).getD i 0 < m := by
  rw [List.getD_eq_getElem?_getD, List.getElem?_append]
  have h0 := h i
  rw [List.getD_eq_getElem?_getD] at h0
  split
  · exact h0
  · rcases Nat.lt_or_ge (i - l.length) 1 with h1 | h1
    · rw [show i - l.length = 0 by omega]; simpa using hv
    · rw [List.getElem?_eq_none (by simpa using h1)]
      simp only [Option.getD_none]
      omega
theorem getD_set_lt {l : List Nat} {v m j : Nat} (h : ∀ i, l.getD i 0 < m) (hv : v < m) (i : Nat) : (l.set j v).getD i 0 < m := by
  rw [List.getD_eq_getElem?_getD, List.getElem?_set]
  have h0 := h i
  rw [List.getD_eq_getElem?_getD] at h0
  split
  · split
    · simpa using hv
    · simp only [Option.getD_none]; omega
  · exact h0
/-- The slices in the builder's cells. -/
theorem HB.lens {w : World} {p : Nat} {h : Nat → Value} {B : Bld} (hb : HB w p h B) (i : Nat) (hi : i < 6) : ∃ a c, w.cell? ⟨p, fOff i, none⟩ = some (.slice a (B.len i) c) ∧ h i = .slice a (B.len i) c := by
  obtain ⟨a, c, hv, _⟩ := own_len (hb.own i hi)
  exact ⟨a, c, by rw [(hb.cell i hi).1, hv], hv⟩
theorem HB.kp {w w' : World} {p : Nat} {h : Nat → Value} {B : Bld} (hb : HB w p h B) (k : Keeps (fun _ => False) w w') : HB w' p h B := hb.keeps k (fun _ _ => id)
theorem Mv.of_kp {w w' : World} {p : Nat} {h : Nat → Value} (k : Keeps (fun _ => False) w w') : Mv p h h w w' := .of_keeps (k.mono (fun _ _ => False.elim))

theorem objs_ok {l : List Ptr} {q : Ptr} (h : ∀ i, (l.getD i zeroPtr).Ok) (hq : q.Ok) (i : Nat) : ((l ++ [q]).getD i zeroPtr).Ok := by
  rw [List.getD_eq_getElem?_getD, List.getElem?_append]
  have h0 := h i
  rw [List.getD_eq_getElem?_getD] at h0
  split
  · exact h0
  · rcases Nat.lt_or_ge (i - l.length) 1 with h1 | h1
    · rw [show i - l.length = 0 by omega]; simpa using hq
    · rw [List.getElem?_eq_none (by simpa using h1)]
      simp only [Option.getD_none, zeroPtr, Ptr.Ok]
      omega
theorem row_obj (B : Bld) (q : Ptr) : RowIs B { B with obj := B.obj ++ [q] } 1 (B.len 1 + 1) (B.row 1 ++ ptrC q) := by
  refine ⟨by simp [Bld.row, rowP, rowU8, rowB], by simp [Bld.len], ?_, ?_, rfl⟩ <;>
  · intro j hj hne
    match j, hj with
    | 0, _ => first | rfl | exact absurd rfl hne
    | 1, _ => first | rfl | exact absurd rfl hne
    | 2, _ => first | rfl | exact absurd rfl hne
    | 3, _ => first | rfl | exact absurd rfl hne
    | 4, _ => first | rfl | exact absurd rfl hne
    | 5, _ => first | rfl | exact absurd rfl hne
theorem row_up (B : Bld) (u : Nat) : RowIs B { B with up := B.up ++ [u] } 2 (B.len 2 + 1) (B.row 2 ++ [.int .u8 (u : Int)]) := by
  refine ⟨by simp [Bld.row, rowP, rowU8, rowB], by simp [Bld.len], ?_, ?_, rfl⟩ <;>
  · intro j hj hne
    match j, hj with
    | 0, _ => first | rfl | exact absurd rfl hne
    | 1, _ => first | rfl | exact absurd rfl hne
    | 2, _ => first | rfl | exact absurd rfl hne
    | 3, _ => first | rfl | exact absurd rfl hne
    | 4, _ => first | rfl | exact absurd rfl hne
    | 5, _ => first | rfl | exact absurd rfl hne
theorem row_via (B : Bld) (u : Nat) : RowIs B { B with via := B.via ++ [u] } 3 (B.len 3 + 1) (B.row 3 ++ [.int .u8 (u : Int)]) := by
  refine ⟨by simp [Bld.row, rowP, rowU8, rowB], by simp [Bld.len], ?_, ?_, rfl⟩ <;>
  · intro j hj hne
    match j, hj with
    | 0, _ => first | rfl | exact absurd rfl hne
    | 1, _ => first | rfl | exact absurd rfl hne
    | 2, _ => first | rfl | exact absurd rfl hne
    | 3, _ => first | rfl | exact absurd rfl hne
    | 4, _ => first | rfl | exact absurd rfl hne
    | 5, _ => first | rfl | exact absurd rfl hne
theorem row_depth (B : Bld) (u : Nat) : RowIs B { B with depth := B.depth ++ [u] } 4 (B.len 4 + 1) (B.row 4 ++ [.int .u8 (u : Int)]) := by
  refine ⟨by simp [Bld.row, rowP, rowU8, rowB], by simp [Bld.len], ?_, ?_, rfl⟩ <;>
  · intro j hj hne
    match j, hj with
    | 0, _ => first | rfl | exact absurd rfl hne
    | 1, _ => first | rfl | exact absurd rfl hne
    | 2, _ => first | rfl | exact absurd rfl hne
    | 3, _ => first | rfl | exact absurd rfl hne
    | 4, _ => first | rfl | exact absurd rfl hne
    | 5, _ => first | rfl | exact absurd rfl hne
theorem row_dead (B : Bld) (u : Bool) : RowIs B { B with dead := B.dead ++ [u] } 5 (B.len 5 + 1) (B.row 5 ++ [.bool u]) := by
  refine ⟨by simp [Bld.row, rowP, rowU8, rowB], by simp [Bld.len], ?_, ?_, rfl⟩ <;>
  · intro j hj hne
    match j, hj with
    | 0, _ => first | rfl | exact absurd rfl hne
    | 1, _ => first | rfl | exact absurd rfl hne
    | 2, _ => first | rfl | exact absurd rfl hne
    | 3, _ => first | rfl | exact absurd rfl hne
    | 4, _ => first | rfl | exact absurd rfl hne
    | 5, _ => first | rfl | exact absurd rfl hne
theorem ok_obj {B : Bld} (ok : B.Ok) {q : Ptr} (hq : q.Ok) : ({ B with obj := B.obj ++ [q] } : Bld).Ok := ⟨ok.A, ok.slot, ok.four, objs_ok ok.obj hq, ok.up, ok.via, ok.depth⟩
theorem ok_up {B : Bld} (ok : B.Ok) {u : Nat} (hu : u < 256) : ({ B with up := B.up ++ [u] } : Bld).Ok := ⟨ok.A, ok.slot, ok.four, ok.obj, getD_append_lt ok.up hu, ok.via, ok.depth⟩
theorem ok_via {B : Bld} (ok : B.Ok) {u : Nat} (hu : u < 256) : ({ B with via := B.via ++ [u] } : Bld).Ok := ⟨ok.A, ok.slot, ok.four, ok.obj, ok.up, getD_append_lt ok.via hu, ok.depth⟩
theorem ok_depth {B : Bld} (ok : B.Ok) {u : Nat} (hu : u < 256) : ({ B with depth := B.depth ++ [u] } : Bld).Ok := ⟨ok.A, ok.slot, ok.four, ok.obj, ok.up, ok.via, getD_append_lt ok.depth hu⟩
theorem ok_dead {B : Bld} (ok : B.Ok) {u : Bool} : ({ B with dead := B.dead ++ [u] } : Bld).Ok := ⟨ok.A, ok.slot, ok.four, ok.obj, ok.up, ok.via, ok.depth⟩
end Go.Proofs.YgcfaaGreat
