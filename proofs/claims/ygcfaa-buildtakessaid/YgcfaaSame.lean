import Derived.Test.YgcfaaCopied
import Derived.Test.YgcfaaDrop
import Derived.Laws.StructEq
import Derived.Test.YgcfaaLexA
import Derived.Test.YgcfaaLexB
namespace Go.Proofs.Ygcfaa
open Go.RowKit Bits Bd
set_option linter.unusedVariables false
set_option maxRecDepth 100000
set_option linter.unusedSimpArgs false
attribute [local go_sem] World.cell?_ext World.frozen?_ext

/-- wp_region_qy, its end under a name. -/
theorem wp_region_qk {P : Program} {id : Nat} {Q : Exit → Act → World → Prop} {a : Act} {w : World} {l : List Oper} (W : World) (n : Nat) (hm : P.follows .mixedOrders = true) (hB : Region.lexTailB .any l.toArray n = true) (hw : ∃ x, w = W.ext x)
    (h : ∀ K : Act → Prop, Hid (∀ a', (∀ w', (∃ x, w' = W.ext x) → wpList P l.toArray Q (l.drop n) a' w') → K a') → wpQuiet P l.toArray (fun w' => ∃ x, w' = W.ext x) K (l.take n) a) : (Code.region id l.toArray true).wp P Q a w :=
  wp_region_qy W n hm hB hw (h _ (hide (fun _ h' => h')))

theorem cell_ext {w : World} {a : Addr} {v : Value} (x : World) (h : w.cell? a = some v) : (w.ext x).cell? a = some v := by
  exact (World.cell?_of_block (w := w) (World.block_ext w x (lt_of_cell h))).trans h

set_option maxHeartbeats 4000000 in
theorem sameWords_calls (A : List Nat) (g1 c1 g2 c2 : Nat) (hn : A.length ≤ 256) {w : World} (h1 : ∀ k, k < A.length → w.cell? ⟨g1, k, none⟩ = some (.int .u64 (A.getD k 0 : Nat))) (h2 : ∀ k, k < A.length → w.cell? ⟨g2, k, none⟩ = some (.int .u64 (A.getD k 0 : Nat))) :
    Calls Faag.prog 45 #[.slice (some ⟨g1, 0, none⟩) A.length c1, .slice (some ⟨g2, 0, none⟩) A.length c2] w fun e w' => e = .returned (.bool true) ∧ Below w.heap.size w w' := by
  have H1 := hide h1
  have H2 := hide h2
  clear h1 h2
  obtain ⟨n, hN⟩ : ∃ n, n = A.length := ⟨_, rfl⟩
  rw [← hN]
  have hn2 : n ≤ 256 := by omega
  have HN := hide hN
  clear hN hn
  go_enter Faag.func45, Faag.ntmps45
  go_wp2_with fail
  go_loopw [13] (fun q wr => ∃ k m : Nat, k ≤ n ∧ q = .int .i64 k ∧ wr = w.drewN m) (fun q _ => n - (intOf q).toNat)
  case atStart => exact ⟨0, 0, by omega, rfl, rfl⟩
  case round =>
    obtain ⟨k, m, hk, rfl, rfl⟩ := hrel
    by_cases hlt : k < n
    · have a1 := H1.out k (by rw [← HN.out]; exact hlt)
      have a2 := H2.out k (by rw [← HN.out]; exact hlt)
      generalize A.getD k 0 = x at a1 a2
      go_wp2_with fail
      refine wp_region_qd 8 (by kernel_rfl) (by kernel_rfl) ?_
      simp only [List.take_succ_cons, List.take_zero, List.drop_succ_cons, List.drop_zero]
      repeat (go_big_quiet_step (fail))
      refine wpQuiet_nil ?_
      rintro _ ⟨nq, rfl⟩
      go_wp2_with fail
      go_roundw
      case rel => exact ⟨k + 1, m + nq, by omega, by go_num, rfl⟩
      case measure => simp [intOf]; omega
    · go_wp2_with fail
      go_ret
      exact ⟨rfl, below_drewN _ m⟩

theorem equalIn_slots (a b c d : Int) (w : World) :
    (Op.equalIn 10000 35 (.agg #[.int .u64 a, .int .u64 b, .int .u64 c, .int .u64 d]) (.agg #[.int .u64 a, .int .u64 b, .int .u64 c, .int .u64 d])).run Faag.prog w = .ok true w := by
  have p0 : (part 22 #[.int .u64 a, .int .u64 b, .int .u64 c, .int .u64 d] (0 * Faag.prog.cellsOf 22)).run Faag.prog w = .ok (.int .u64 a) w := by kernel_rfl
  have p1 : (part 22 #[.int .u64 a, .int .u64 b, .int .u64 c, .int .u64 d] (1 * Faag.prog.cellsOf 22)).run Faag.prog w = .ok (.int .u64 b) w := by kernel_rfl
  have p2 : (part 22 #[.int .u64 a, .int .u64 b, .int .u64 c, .int .u64 d] (2 * Faag.prog.cellsOf 22)).run Faag.prog w = .ok (.int .u64 c) w := by kernel_rfl
  have p3 : (part 22 #[.int .u64 a, .int .u64 b, .int .u64 c, .int .u64 d] (3 * Faag.prog.cellsOf 22)).run Faag.prog w = .ok (.int .u64 d) w := by kernel_rfl
  have hr : List.range 4 = [0, 1, 2, 3] := rfl
  obtain ⟨i, hi⟩ : ∃ i, Faag.prog.info? 22 = some i := Option.isSome_iff_exists.1 (by kernel_rfl)
  rw [run_equalIn_array w 9999 _ _ Faag.underlying35 hi, hr]
  have q : ∀ n : Int, (Op.equalIn 9999 22 (.int .u64 n) (.int .u64 n)).run Faag.prog w = .ok true w := fun n => by
    rw [run_equalIn_int w 9998 22 .u64 .u64 n n Faag.underlying22]; simp
  simp only [Op.eqItems, Sem.run_bind, p0, p1, p2, p3, q, Result.andThen_ok, Bool.not_true, Bool.false_eq_true, if_false, Sem.run_pure]
attribute [local go_sem] equalIn_slots

/-- A builder of some handles: its cells, for a reader. -/
structure See (w : World) (p : Nat) (B : Bld) (a : Nat → Nat) (c : Nat → Nat) : Prop where
  f0 : w.cell? ⟨p, 0, none⟩ = some (.slice (some ⟨a 0, 0, none⟩) B.A.length (c 0))
  f1 : w.cell? ⟨p, 5, none⟩ = some (.slice (some ⟨a 1, 0, none⟩) B.obj.length (c 1))
  f2 : w.cell? ⟨p, 6, none⟩ = some (.slice (some ⟨a 2, 0, none⟩) B.up.length (c 2))
  f3 : w.cell? ⟨p, 7, none⟩ = some (.slice (some ⟨a 3, 0, none⟩) B.via.length (c 3))
  f4 : w.cell? ⟨p, 8, none⟩ = some (.slice (some ⟨a 4, 0, none⟩) B.depth.length (c 4))
  f5 : w.cell? ⟨p, 9, none⟩ = some (.slice (some ⟨a 5, 0, none⟩) B.dead.length (c 5))
  s0 : w.cell? ⟨p, 1, none⟩ = some (.int .u64 (B.slot.getD 0 0 : Nat))
  s1 : w.cell? ⟨p, 2, none⟩ = some (.int .u64 (B.slot.getD 1 0 : Nat))
  s2 : w.cell? ⟨p, 3, none⟩ = some (.int .u64 (B.slot.getD 2 0 : Nat))
  s3 : w.cell? ⟨p, 4, none⟩ = some (.int .u64 (B.slot.getD 3 0 : Nat))
  words : ∀ k, k < B.A.length → w.cell? ⟨a 0, k, none⟩ = some (.int .u64 (B.A.getD k 0 : Nat))
  objs : ∀ k, k < B.obj.length → ∀ j u, (ptrC (B.o k))[j]? = some u → w.cell? ⟨a 1, k * 6 + j, none⟩ = some u
  ups : ∀ k, k < B.up.length → w.cell? ⟨a 2, k, none⟩ = some (.int .u8 (B.up.getD k 0 : Nat))
  vias : ∀ k, k < B.via.length → w.cell? ⟨a 3, k, none⟩ = some (.int .u8 (B.via.getD k 0 : Nat))
  depths : ∀ k, k < B.depth.length → w.cell? ⟨a 4, k, none⟩ = some (.int .u8 (B.depth.getD k 0 : Nat))
  deads : ∀ k, k < B.dead.length → w.cell? ⟨a 5, k, none⟩ = some (.bool (B.dead.getD k false))
theorem HB.see {w : World} {p : Nat} {h : Nat → Value} {B : Bld} (hb : HB w p h B) (hev : evenP B) : ∃ a c, See w p B a c := by
  obtain ⟨⟨a1, a2⟩, ⟨a3, a4⟩, a5, a6, a7, a8⟩ := hev
  have hall : ∀ i, i < 6 → ∃ g c, h i = .slice (some ⟨g, 0, none⟩) (B.len i) c := by
    intro i hi
    refine own_form (hb.own i hi) ?_
    match i, hi with
    | 0, _ => exact a1
    | 1, _ => exact a3
    | 2, _ => simp only [Bld.len]; omega
    | 3, _ => simp only [Bld.len]; omega
    | 4, _ => simp only [Bld.len]; omega
    | 5, _ => simp only [Bld.len]; omega
  obtain ⟨g0, c0, e0⟩ := hall 0 (by omega)
  obtain ⟨g1, c1, e1⟩ := hall 1 (by omega)
  obtain ⟨g2, c2, e2⟩ := hall 2 (by omega)
  obtain ⟨g3, c3, e3⟩ := hall 3 (by omega)
  obtain ⟨g4, c4, e4⟩ := hall 4 (by omega)
  obtain ⟨g5, c5, e5⟩ := hall 5 (by omega)
  have o0 := hb.own 0 (by omega)
  have o1 := hb.own 1 (by omega)
  have o2 := hb.own 2 (by omega)
  have o3 := hb.own 3 (by omega)
  have o4 := hb.own 4 (by omega)
  have o5 := hb.own 5 (by omega)
  rw [e0] at o0
  rw [e1] at o1
  rw [e2] at o2
  rw [e3] at o3
  rw [e4] at o4
  rw [e5] at o5
  refine ⟨six' g0 g1 g2 g3 g4 g5, six' c0 c1 c2 c3 c4 c5, ?_⟩
  refine ⟨(hb.cell 0 (by omega)).1.trans (congrArg some e0), (hb.cell 1 (by omega)).1.trans (congrArg some e1), (hb.cell 2 (by omega)).1.trans (congrArg some e2), (hb.cell 3 (by omega)).1.trans (congrArg some e3), (hb.cell 4 (by omega)).1.trans (congrArg some e4), (hb.cell 5 (by omega)).1.trans (congrArg some e5),
    (hb.slotCell (i := 0) (by omega)).1, (hb.slotCell (i := 1) (by omega)).1, (hb.slotCell (i := 2) (by omega)).1, (hb.slotCell (i := 3) (by omega)).1, ?_, ?_, ?_, ?_, ?_, ?_⟩
  · exact fun k hk => (own_cell o0 (U_get hk)).1
  · intro k hk j u hu
    have hj : j < 6 := (List.getElem?_eq_some_iff.1 hu).1
    refine (own_cell o1 (u := u) ?_).1
    show (rowP B.obj)[k * 6 + j]? = some u
    rw [rowP_get _ _ _ hk hj]
    exact hu
  · exact fun k hk => (own_cell o2 (rowU8_get hk)).1
  · exact fun k hk => (own_cell o3 (rowU8_get hk)).1
  · exact fun k hk => (own_cell o4 (rowU8_get hk)).1
  · exact fun k hk => (own_cell o5 (rowB_get hk)).1

set_option maxHeartbeats 8000000 in
theorem sameBuilder_calls {w : World} {p q : Nat} {h h' : Nat → Value} {B : Bld} (hb : HB w p h B) (hc : HB w q h' B) (hev : evenP B) :
    Calls Faag.prog 37 #[.pointer (some ⟨p, 0, none⟩), .pointer (some ⟨q, 0, none⟩)] w fun e w' => e = .returned (.bool true) ∧ Below w.heap.size w w' := by
  obtain ⟨a, c, sb⟩ := hb.see hev
  obtain ⟨a', c', sc⟩ := hc.see hev
  clear hb hc
  obtain ⟨⟨a1, a2⟩, ⟨a3, a4⟩, a5, a6, a7, a8⟩ := hev
  have HW := hide (fun (x : World) => sameWords_calls (w := w.ext x) B.A (a 0) (c 0) (a' 0) (c' 0) a2 (fun k hk => cell_ext x (sb.words k hk)) (fun k hk => cell_ext x (sc.words k hk)))
  have HO := hide (And.intro sb.objs sc.objs)
  have H2 := hide (And.intro sb.ups sc.ups)
  have H3 := hide (And.intro sb.vias sc.vias)
  have H4 := hide (And.intro sb.depths sc.depths)
  have H5 := hide (And.intro sb.deads sc.deads)
  obtain ⟨f0, f1, f2, f3, f4, f5, s0, s1, s2, s3, _, _, _, _, _, _⟩ := sb
  obtain ⟨f0', f1', f2', f3', f4', f5', s0', s1', s2', s3', _, _, _, _, _, _⟩ := sc
  rw [a5] at f2 f2' H2
  rw [a6] at f3 f3' H3
  rw [a7] at f4 f4' H4
  rw [a8] at f5 f5' H5
  generalize B.slot.getD 0 0 = x0 at *
  generalize B.slot.getD 1 0 = x1 at *
  generalize B.slot.getD 2 0 = x2 at *
  generalize B.slot.getD 3 0 = x3 at *
  generalize B.A.length = nA at *
  generalize B.obj.length = n at *
  clear a5 a6 a7 a8
  have HE := hide (show ∃ x, w = w.ext x from World.ext_of_below (Below.refl _ _))
  go_enter Faag.func37, Faag.ntmps37
  go_wp2_with fail
  refine wp_region_qk w 80 (by kernel_rfl) (by exact lex37a) HE.out ?_
  intro KK HK
  simp only [List.append_eq, List.cons_append, List.nil_append, List.take_succ_cons, List.take_zero, List.drop_succ_cons, List.drop_zero]
  repeat (go_big_quiet_step ((go_at_call 45; exact Calls.ext_of (HW.out _))))
  refine wpQuiet_nil ?_
  refine HK.out _ ?_
  rintro _ ⟨x1, rfl⟩
  go_wp2_with fail
  go_loopw [99] (fun q wr => ∃ k : Nat, k ≤ n ∧ q = .int .i64 k ∧ ∃ x, wr = w.ext x) (fun q _ => n - (intOf q).toNat)
  case atStart => exact ⟨0, by omega, rfl, x1, rfl⟩
  case round =>
    obtain ⟨k, hk, rfl, x2, rfl⟩ := hrel
    by_cases hlt : k < n
    · have b2 := H2.out.1 k hlt
      have b2' := H2.out.2 k hlt
      have b3 := H3.out.1 k hlt
      have b3' := H3.out.2 k hlt
      have b4 := H4.out.1 k hlt
      have b4' := H4.out.2 k hlt
      have b5 := H5.out.1 k hlt
      have b5' := H5.out.2 k hlt
      have bo := HO.out.1 k hlt
      have bo' := HO.out.2 k hlt
      generalize B.up.getD k 0 = y2 at *
      generalize B.via.getD k 0 = y3 at *
      generalize B.depth.getD k 0 = y4 at *
      generalize B.dead.getD k false = y5 at *
      generalize B.o k = P at *
      obtain ⟨kind, at_, data, ptrs, code, count⟩ := P
      have d0 := bo 0 _ rfl
      have d1 := bo 1 _ rfl
      have d2 := bo 2 _ rfl
      have d3 := bo 3 _ rfl
      have d4 := bo 4 _ rfl
      have d5 := bo 5 _ rfl
      have d0' := bo' 0 _ rfl
      have d1' := bo' 1 _ rfl
      have d2' := bo' 2 _ rfl
      have d3' := bo' 3 _ rfl
      have d4' := bo' 4 _ rfl
      have d5' := bo' 5 _ rfl
      dsimp only at d0 d1 d2 d3 d4 d5 d0' d1' d2' d3' d4' d5'
      simp only [Nat.add_zero] at d0 d0'
      clear bo bo'
      go_wp2_with fail
      refine wp_region_qk w 81 (by kernel_rfl) (by exact lex37b) ⟨x2, rfl⟩ ?_
      intro KK2 HK2
      simp only [List.append_eq, List.cons_append, List.nil_append, List.take_succ_cons, List.take_zero, List.drop_succ_cons, List.drop_zero]
      repeat (go_big_quiet_step (fail))
      refine wpQuiet_nil ?_
      refine HK2.out _ ?_
      rintro _ ⟨x3, rfl⟩
      go_wp2_with fail
      go_roundw
      case rel => exact ⟨k + 1, by omega, by go_num, x3, rfl⟩
      case measure => simp [intOf]; omega
    · go_wp2_with fail
      go_ret
      exact ⟨rfl, World.below_ext _ _⟩
end Go.Proofs.Ygcfaa
