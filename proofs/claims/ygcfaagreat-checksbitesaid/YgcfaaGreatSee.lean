import Derived.Test.YgcfaaGreatSet
import Derived.Test.YgcfaaGreatDo
import Derived.Test.YgcfaaGreatEven
import Derived.Laws.StructEq
namespace Go.Proofs.YgcfaaGreat
open Go.RowKit Bits Bd
set_option linter.unusedVariables false
set_option maxRecDepth 100000
set_option linter.unusedSimpArgs false
attribute [local go_sem] World.cell?_ext World.frozen?_ext

def six' (v0 v1 v2 v3 v4 v5 : Nat) : Nat → Nat
  | 0 => v0
  | 1 => v1
  | 2 => v2
  | 3 => v3
  | 4 => v4
  | _ => v5
/-- wp_region_qy, its end under a name. -/
theorem wp_region_qk {P : Program} {id : Nat} {Q : Exit → Act → World → Prop} {a : Act} {w : World} {l : List Oper} (W : World) (n : Nat) (hm : P.follows .mixedOrders = true) (hB : Region.lexTailB .any l.toArray n = true) (hw : ∃ x, w = W.ext x)
    (h : ∀ K : Act → Prop, Hid (∀ a', (∀ w', (∃ x, w' = W.ext x) → wpList P l.toArray Q (l.drop n) a' w') → K a') → wpQuiet P l.toArray (fun w' => ∃ x, w' = W.ext x) K (l.take n) a) : (Code.region id l.toArray true).wp P Q a w :=
  wp_region_qy W n hm hB hw (h _ (hide (fun _ h' => h')))

theorem cell_ext {w : World} {a : Addr} {v : Value} (x : World) (h : w.cell? a = some v) : (w.ext x).cell? a = some v := by
  exact (World.cell?_of_block (w := w) (World.block_ext w x (lt_of_cell h))).trans h

/-- A builder of some handles: its cells, for a reader. -/
structure See (w : World) (p : Nat) (B : Bld) (a : Nat → Nat) (c : Nat → Nat) : Prop where
  f0 : w.cell? ⟨p, 0, none⟩ = some (.slice (some ⟨a 0, 0, none⟩) B.A.length (c 0))
  f1 : w.cell? ⟨p, 5, none⟩ = some (.slice (some ⟨a 1, 0, none⟩) B.obj.length (c 1))
  f2 : w.cell? ⟨p, 6, none⟩ = some (.slice (some ⟨a 2, 0, none⟩) B.up.length (c 2))
  f3 : w.cell? ⟨p, 7, none⟩ = some (.slice (some ⟨a 3, 0, none⟩) B.via.length (c 3))
  f4 : w.cell? ⟨p, 8, none⟩ = some (.slice (some ⟨a 4, 0, none⟩) B.depth.length (c 4))
  f5 : w.cell? ⟨p, 9, none⟩ = some (.slice (some ⟨a 5, 0, none⟩) B.dead.length (c 5))
  s0 : w.cell? ⟨p, 1, none⟩ = some (.int .u64 (B.slot.getD 0 0 : Nat))
  s1 : w.cell? ⟨p, 2, none⟩ = some (.int .u64 (B.slot.getD 1 0 : Nat))
  s2 : w.cell? ⟨p, 3, none⟩ = some (.int .u64 (B.slot.getD 2 0 : Nat))
  s3 : w.cell? ⟨p, 4, none⟩ = some (.int .u64 (B.slot.getD 3 0 : Nat))
  words : ∀ k, k < B.A.length → w.cell? ⟨a 0, k, none⟩ = some (.int .u64 (B.A.getD k 0 : Nat))
  objs : ∀ k, k < B.obj.length → ∀ j u, (ptrC (B.o k))[j]? = some u → w.cell? ⟨a 1, k * 6 + j, none⟩ = some u
  ups : ∀ k, k < B.up.length → w.cell? ⟨a 2, k, none⟩ = some (.int .u8 (B.up.getD k 0 : Nat))
  vias : ∀ k, k < B.via.length → w.cell? ⟨a 3, k, none⟩ = some (.int .u8 (B.via.getD k 0 : Nat))
  depths : ∀ k, k < B.depth.length → w.cell? ⟨a 4, k, none⟩ = some (.int .u8 (B.depth.getD k 0 : Nat))
  deads : ∀ k, k < B.dead.length → w.cell? ⟨a 5, k, none⟩ = some (.bool (B.dead.getD k false))
theorem HB.see {w : World} {p : Nat} {h : Nat → Value} {B : Bld} (hb : HB w p h B) (hev : evenP B) : ∃ a c, See w p B a c := by
  obtain ⟨⟨a1, a2⟩, ⟨a3, a4⟩, a5, a6, a7, a8⟩ := hev
  have hall : ∀ i, i < 6 → ∃ g c, h i = .slice (some ⟨g, 0, none⟩) (B.len i) c := by
    intro i hi
    refine own_form (hb.own i hi) ?_
    match i, hi with
    | 0, _ => exact a1
    | 1, _ => exact a3
    | 2, _ => simp only [Bld.len]; omega
    | 3, _ => simp only [Bld.len]; omega
    | 4, _ => simp only [Bld.len]; omega
    | 5, _ => simp only [Bld.len]; omega
  obtain ⟨g0, c0, e0⟩ := hall 0 (by omega)
  obtain ⟨g1, c1, e1⟩ := hall 1 (by omega)
  obtain ⟨g2, c2, e2⟩ := hall 2 (by omega)
  obtain ⟨g3, c3, e3⟩ := hall 3 (by omega)
  obtain ⟨g4, c4, e4⟩ := hall 4 (by omega)
  obtain ⟨g5, c5, e5⟩ := hall 5 (by omega)
  have o0 := hb.own 0 (by omega)
  have o1 := hb.own 1 (by omega)
  have o2 := hb.own 2 (by omega)
  have o3 := hb.own 3 (by omega)
  have o4 := hb.own 4 (by omega)
  have o5 := hb.own 5 (by omega)
  rw [e0] at o0
  rw [e1] at o1
  rw [e2] at o2
  rw [e3] at o3
  rw [e4] at o4
  rw [e5] at o5
  refine ⟨six' g0 g1 g2 g3 g4 g5, six' c0 c1 c2 c3 c4 c5, ?_⟩
  refine ⟨(hb.cell 0 (by omega)).1.trans (congrArg some e0), (hb.cell 1 (by omega)).1.trans (congrArg some e1), (hb.cell 2 (by omega)).1.trans (congrArg some e2), (hb.cell 3 (by omega)).1.trans (congrArg some e3), (hb.cell 4 (by omega)).1.trans (congrArg some e4), (hb.cell 5 (by omega)).1.trans (congrArg some e5),
    (hb.slotCell (i := 0) (by omega)).1, (hb.slotCell (i := 1) (by omega)).1, (hb.slotCell (i := 2) (by omega)).1, (hb.slotCell (i := 3) (by omega)).1, ?_, ?_, ?_, ?_, ?_, ?_⟩
  · exact fun k hk => (own_cell o0 (U_get hk)).1
  · intro k hk j u hu
    have hj : j < 6 := (List.getElem?_eq_some_iff.1 hu).1
    refine (own_cell o1 (u := u) ?_).1
    show (rowP B.obj)[k * 6 + j]? = some u
    rw [rowP_get _ _ _ hk hj]
    exact hu
  · exact fun k hk => (own_cell o2 (rowU8_get hk)).1
  · exact fun k hk => (own_cell o3 (rowU8_get hk)).1
  · exact fun k hk => (own_cell o4 (rowU8_get hk)).1
  · exact fun k hk => (own_cell o5 (rowB_get hk)).1


theorem See.ext {w : World} {p : Nat} {B : Bld} {a c : Nat → Nat} (s : See w p B a c) (x : World) : See (w.ext x) p B a c :=
  ⟨cell_ext x s.f0, cell_ext x s.f1, cell_ext x s.f2, cell_ext x s.f3, cell_ext x s.f4, cell_ext x s.f5, cell_ext x s.s0, cell_ext x s.s1, cell_ext x s.s2, cell_ext x s.s3,
    fun k hk => cell_ext x (s.words k hk), fun k hk j u hu => cell_ext x (s.objs k hk j u hu), fun k hk => cell_ext x (s.ups k hk), fun k hk => cell_ext x (s.vias k hk), fun k hk => cell_ext x (s.depths k hk), fun k hk => cell_ext x (s.deads k hk)⟩

def ptrD (p q : Ptr) : Decidable (p = q) := decidable_of_iff (p.kind = q.kind ∧ p.at_ = q.at_ ∧ p.data = q.data ∧ p.ptrs = q.ptrs ∧ p.code = q.code ∧ p.count = q.count) (by
  obtain ⟨a1, a2, a3, a4, a5, a6⟩ := p
  obtain ⟨b1, b2, b3, b4, b5, b6⟩ := q
  simp)

theorem equalIn_ptr (a1 a2 a3 a4 a5 a6 b1 b2 b3 b4 b5 b6 : Int) (w : World) :
    (Op.equalIn 10000 62 (.agg #[.int .u8 a1, .int .u16 a2, .int .u8 a3, .int .u8 a4, .int .u8 a5, .int .u16 a6]) (.agg #[.int .u8 b1, .int .u16 b2, .int .u8 b3, .int .u8 b4, .int .u8 b5, .int .u16 b6])).run Faag.prog w =
      .ok (decide (a1 = b1 ∧ a2 = b2 ∧ a3 = b3 ∧ a4 = b4 ∧ a5 = b5 ∧ a6 = b6)) w := by
  rw [run_equalIn_struct w 9999 62 _ _ (by kernel_rfl) (by kernel_rfl)]
  have hf : (Faag.prog.fieldsOf 62).toList = [{ name := "Kind", type := 5, offset := 0, embedded := false, tag := "", pkgPath := "", byteOffset := 0 },
        { name := "At", type := 53, offset := 1, embedded := false, tag := "", pkgPath := "", byteOffset := 2 },
        { name := "Data", type := 5, offset := 2, embedded := false, tag := "", pkgPath := "", byteOffset := 4 },
        { name := "Ptrs", type := 5, offset := 3, embedded := false, tag := "", pkgPath := "", byteOffset := 5 },
        { name := "Code", type := 5, offset := 4, embedded := false, tag := "", pkgPath := "", byteOffset := 6 },
        { name := "Count", type := 53, offset := 5, embedded := false, tag := "", pkgPath := "", byteOffset := 8 }] := by kernel_rfl
  rw [hf]
  have p0 : ∀ (x1 x2 x3 x4 x5 x6 : Int), (part 5 #[.int .u8 x1, .int .u16 x2, .int .u8 x3, .int .u8 x4, .int .u8 x5, .int .u16 x6] 0).run Faag.prog w = .ok (.int .u8 x1) w := by intros; kernel_rfl
  have p1 : ∀ (x1 x2 x3 x4 x5 x6 : Int), (part 53 #[.int .u8 x1, .int .u16 x2, .int .u8 x3, .int .u8 x4, .int .u8 x5, .int .u16 x6] 1).run Faag.prog w = .ok (.int .u16 x2) w := by intros; kernel_rfl
  have p2 : ∀ (x1 x2 x3 x4 x5 x6 : Int), (part 5 #[.int .u8 x1, .int .u16 x2, .int .u8 x3, .int .u8 x4, .int .u8 x5, .int .u16 x6] 2).run Faag.prog w = .ok (.int .u8 x3) w := by intros; kernel_rfl
  have p3 : ∀ (x1 x2 x3 x4 x5 x6 : Int), (part 5 #[.int .u8 x1, .int .u16 x2, .int .u8 x3, .int .u8 x4, .int .u8 x5, .int .u16 x6] 3).run Faag.prog w = .ok (.int .u8 x4) w := by intros; kernel_rfl
  have p4 : ∀ (x1 x2 x3 x4 x5 x6 : Int), (part 5 #[.int .u8 x1, .int .u16 x2, .int .u8 x3, .int .u8 x4, .int .u8 x5, .int .u16 x6] 4).run Faag.prog w = .ok (.int .u8 x5) w := by intros; kernel_rfl
  have p5 : ∀ (x1 x2 x3 x4 x5 x6 : Int), (part 53 #[.int .u8 x1, .int .u16 x2, .int .u8 x3, .int .u8 x4, .int .u8 x5, .int .u16 x6] 5).run Faag.prog w = .ok (.int .u16 x6) w := by intros; kernel_rfl
  have q1 : ∀ a b : Int, (Op.equalIn 9999 5 (.int .u8 a) (.int .u8 b)).run Faag.prog w = .ok (a == b) w := fun a b => run_equalIn_int w 9998 5 .u8 .u8 a b Faag.underlying5
  have q2 : ∀ a b : Int, (Op.equalIn 9999 53 (.int .u16 a) (.int .u16 b)).run Faag.prog w = .ok (a == b) w := fun a b => run_equalIn_int w 9998 53 .u16 .u16 a b Faag.underlying53
  have n1 : ("Kind" : String) ≠ "_" := by decide
  have n2 : ("At" : String) ≠ "_" := by decide
  have n3 : ("Data" : String) ≠ "_" := by decide
  have n4 : ("Ptrs" : String) ≠ "_" := by decide
  have n5 : ("Code" : String) ≠ "_" := by decide
  have n6 : ("Count" : String) ≠ "_" := by decide
  have step : ∀ (b : Bool) (k : Sem Bool), ((if (!b) = true then pure false else k : Sem Bool).run Faag.prog w) = if b = true then k.run Faag.prog w else .ok false w := by
    intro b k; cases b <;> simp
  simp only [Op.eqFields, if_pos n1, if_pos n2, if_pos n3, if_pos n4, if_pos n5, if_pos n6, Sem.run_bind, p0, p1, p2, p3, p4, p5, q1, q2, Result.andThen_ok, step, Sem.run_pure, beq_iff_eq]
  by_cases h1 : a1 = b1
  · rw [if_pos h1]
    by_cases h2 : a2 = b2
    · rw [if_pos h2]
      by_cases h3 : a3 = b3
      · rw [if_pos h3]
        by_cases h4 : a4 = b4
        · rw [if_pos h4]
          by_cases h5 : a5 = b5
          · rw [if_pos h5]
            by_cases h6 : a6 = b6
            · rw [if_pos h6]; simp [h1, h2, h3, h4, h5, h6]
            · rw [if_neg h6]; simp [h6]
          · rw [if_neg h5]; simp [h5]
        · rw [if_neg h4]; simp [h4]
      · rw [if_neg h3]; simp [h3]
    · rw [if_neg h2]; simp [h2]
  · rw [if_neg h1]; simp [h1]

/-- .. of two arrays of four words. -/
theorem equalIn_four (a b c d a' b' c' d' : Int) (w : World) :
    (Op.equalIn 10000 32 (.agg #[.int .u64 a, .int .u64 b, .int .u64 c, .int .u64 d]) (.agg #[.int .u64 a', .int .u64 b', .int .u64 c', .int .u64 d'])).run Faag.prog w = .ok (decide (a = a' ∧ b = b' ∧ c = c' ∧ d = d')) w := by
  have p0 : ∀ a b c d : Int, (part 31 #[.int .u64 a, .int .u64 b, .int .u64 c, .int .u64 d] (0 * Faag.prog.cellsOf 31)).run Faag.prog w = .ok (.int .u64 a) w := by intros; kernel_rfl
  have p1 : ∀ a b c d : Int, (part 31 #[.int .u64 a, .int .u64 b, .int .u64 c, .int .u64 d] (1 * Faag.prog.cellsOf 31)).run Faag.prog w = .ok (.int .u64 b) w := by intros; kernel_rfl
  have p2 : ∀ a b c d : Int, (part 31 #[.int .u64 a, .int .u64 b, .int .u64 c, .int .u64 d] (2 * Faag.prog.cellsOf 31)).run Faag.prog w = .ok (.int .u64 c) w := by intros; kernel_rfl
  have p3 : ∀ a b c d : Int, (part 31 #[.int .u64 a, .int .u64 b, .int .u64 c, .int .u64 d] (3 * Faag.prog.cellsOf 31)).run Faag.prog w = .ok (.int .u64 d) w := by intros; kernel_rfl
  have hr : List.range 4 = [0, 1, 2, 3] := rfl
  obtain ⟨i, hi⟩ : ∃ i, Faag.prog.info? 31 = some i := Option.isSome_iff_exists.1 (by kernel_rfl)
  rw [run_equalIn_array w 9999 _ _ Faag.underlying32 hi, hr]
  have q : ∀ n m : Int, (Op.equalIn 9999 31 (.int .u64 n) (.int .u64 m)).run Faag.prog w = .ok (n == m) w := fun n m => run_equalIn_int w 9998 31 .u64 .u64 n m Faag.underlying31
  have step : ∀ (b : Bool) (k : Sem Bool), ((if (!b) = true then pure false else k : Sem Bool).run Faag.prog w) = if b = true then k.run Faag.prog w else .ok false w := by
    intro b k; cases b <;> simp
  simp only [Op.eqItems, Sem.run_bind, p0, p1, p2, p3, q, Result.andThen_ok, step, Sem.run_pure, beq_iff_eq]
  by_cases h1 : a = a'
  · rw [if_pos h1]
    by_cases h2 : b = b'
    · rw [if_pos h2]
      by_cases h3 : c = c'
      · rw [if_pos h3]
        by_cases h4 : d = d'
        · rw [if_pos h4]; simp [h1, h2, h3, h4]
        · rw [if_neg h4]; simp [h4]
      · rw [if_neg h3]; simp [h3]
    · rw [if_neg h2]; simp [h2]
  · rw [if_neg h1]; simp [h1]
end Go.Proofs.YgcfaaGreat
