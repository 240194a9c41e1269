import Derived.Test.YgcfaaMakeCalls
namespace Go.Proofs.Ygcfaa
open Go.RowKit Bits Bd
set_option linter.unusedVariables false
set_option maxRecDepth 100000
set_option linter.unusedSimpArgs false
attribute [local go_sem] World.cell?_ext World.frozen?_ext Kw.cell Kw.frozen

set_option maxHeartbeats 4000000 in
theorem list7_good1 (kind x i Y N V : Nat) (st : ByteArray) (o1 : kind < 256) (o2 : x < 256) (o3 : i < 256) (o5 : Y < 256) (o6 : N < 65536) (o7 : V < 18446744073709551616) (hN : N ≤ 128) (d q M : Nat) (hd : d = Y / 16) (hq : q = Y % 16) (hM : (N : Int) * ((d : Int) + (q : Int)) = (M : Int)) (hM2 : M ≤ 3840) {w : World} {b : Nat} {Post : Ending → World → Prop} (h : d ≤ 8 ∧ q ≤ 8 ∧ N = 0) {R2 : Option Bk} {T : World → Prop}
    (HM : Hid (∀ w1 : World, Below w.heap.size w w1 → Calls Faag.prog 81 #[.pointer (some ⟨b, 0, none⟩), .agg (opC ⟨kind, x, i, 7, Y, N, V, st⟩).toArray, .agg (entC ⟨false, 2, 7, d, q, N, 0, 0, 0, []⟩ (.slice none 0 0)).toArray, .int .i64 (1 + (M : Int)), .int .i64 (N : Int)] w1 (fun e w' => e = .returned (.bool R2.isSome) ∧ T w')))
    (HP : Hid (∀ w', T w' → Post (.returned (.bool R2.isSome)) w')) : Calls Faag.prog 82 #[.pointer (some ⟨b, 0, none⟩), .agg (opC ⟨kind, x, i, 7, Y, N, V, st⟩).toArray] w Post := by
  have hd15 : d ≤ 15 := by omega
  have hq15 : q ≤ 15 := by omega
  have hmod : (Y : Int) % 16 = (q : Int) := by omega
  have hdiv : (Y : Int) / 16 = (d : Int) := by omega
  have e1 : decide ((8 : Int) < (d : Int)) = false := by rw [decide_eq_false_iff_not]; omega
  have e2 : decide ((8 : Int) < (q : Int)) = false := by rw [decide_eq_false_iff_not]; omega
  have e3 : decide (0 < N) = false := by rw [decide_eq_false_iff_not]; omega
  unfold opC entC at HM
  unfold opC
  dsimp only
  clear hd hq h
  have RO : RowAt ((w.alloc (.cells #[.int .u8 (kind : Int), .int .u8 (x : Int), .int .u8 (i : Int), .int .u8 7, .int .u8 (Y : Int), .int .u16 (N : Int), .int .u64 (V : Int), .string st] 46)).alloc (.cells #[.bool false, .int .u8 2, .int .u8 7, .int .i64 0, .int .i64 0, .int .i64 (N : Int), .int .i64 0, .int .i64 0, .int .i64 0, .slice none 0 0] 70)) w.heap.size 0 [.int .u8 (kind : Int), .int .u8 (x : Int), .int .u8 (i : Int), .int .u8 7, .int .u8 (Y : Int), .int .u16 (N : Int), .int .u64 (V : Int), .string st] := (RowAt.of_alloc w [.int .u8 (kind : Int), .int .u8 (x : Int), .int .u8 (i : Int), .int .u8 7, .int .u8 (Y : Int), .int .u16 (N : Int), .int .u64 (V : Int), .string st] 46).alloc _
  have RM : RowAt ((w.alloc (.cells #[.int .u8 (kind : Int), .int .u8 (x : Int), .int .u8 (i : Int), .int .u8 7, .int .u8 (Y : Int), .int .u16 (N : Int), .int .u64 (V : Int), .string st] 46)).alloc (.cells #[.bool false, .int .u8 2, .int .u8 7, .int .i64 0, .int .i64 0, .int .i64 (N : Int), .int .i64 0, .int .i64 0, .int .i64 0, .slice none 0 0] 70)) (w.heap.size + 1) 0 [.bool false, .int .u8 2, .int .u8 7, .int .i64 0, .int .i64 0, .int .i64 (N : Int), .int .i64 0, .int .i64 0, .int .i64 0, .slice none 0 0] := by
    have := RowAt.of_alloc (w.alloc (.cells #[.int .u8 (kind : Int), .int .u8 (x : Int), .int .u8 (i : Int), .int .u8 7, .int .u8 (Y : Int), .int .u16 (N : Int), .int .u64 (V : Int), .string st] 46)) [.bool false, .int .u8 2, .int .u8 7, .int .i64 0, .int .i64 0, .int .i64 (N : Int), .int .i64 0, .int .i64 0, .int .i64 0, .slice none 0 0] 70
    simpa using this
  have BL : Below w.heap.size w ((w.alloc (.cells #[.int .u8 (kind : Int), .int .u8 (x : Int), .int .u8 (i : Int), .int .u8 7, .int .u8 (Y : Int), .int .u16 (N : Int), .int .u64 (V : Int), .string st] 46)).alloc (.cells #[.bool false, .int .u8 2, .int .u8 7, .int .i64 0, .int .i64 0, .int .i64 (N : Int), .int .i64 0, .int .i64 0, .int .i64 0, .slice none 0 0] 70)) := ((Below.refl _ w).alloc (Nat.le_refl _) _).alloc (by simp) _
  go_enter Faag.func82, Faag.ntmps82
  go_wp2_with fail
  generalize hW7 : World.alloc (World.alloc w _) _ = W7 at RO RM BL ⊢
  clear hW7
  have hlb : w.heap.size ≤ w.heap.size + 1 := by omega
  have hne1 : ¬ w.heap.size = w.heap.size + 1 := by omega
  generalize w.heap.size + 1 = mb at RM hlb hne1 ⊢
  have HB2 := hide (And.intro BL hlb)
  clear BL hlb
  have d0 := RO.at_ (i := 0) rfl
  have d1 := RO.at_ (i := 1) rfl
  have d2 := RO.at_ (i := 2) rfl
  have d3 := RO.at_ (i := 3) rfl
  have d4 := RO.at_ (i := 4) rfl
  have d5 := RO.at_ (i := 5) rfl
  have d6 := RO.at_ (i := 6) rfl
  have d7 := RO.at_ (i := 7) rfl
  have m0 := RM.at_ (i := 0) rfl
  have m1 := RM.at_ (i := 1) rfl
  have m2 := RM.at_ (i := 2) rfl
  have m3 := RM.at_ (i := 3) rfl
  have m4 := RM.at_ (i := 4) rfl
  have m5 := RM.at_ (i := 5) rfl
  have m6 := RM.at_ (i := 6) rfl
  have m7 := RM.at_ (i := 7) rfl
  have m8 := RM.at_ (i := 8) rfl
  have m9 := RM.at_ (i := 9) rfl
  have f3 := RM.live 3 (by simp)
  have f4 := RM.live 4 (by simp)
  simp only [Nat.zero_add] at d0 d1 d2 d3 d4 d5 d6 d7 m0 m1 m2 m3 m4 m5 m6 m7 m8 m9 f3 f4
  have lto : w.heap.size < W7.heap.size := RO.lt (by simp)
  have ltm : mb < W7.heap.size := RM.lt (by simp)
  clear RO RM
  have hne : ∀ w0 : World, Nonempty (Kw (fun k => k = mb) w0) := fun w0 => ⟨⟨w0, Keeps.refl _ _⟩⟩
  refine wp_region_ql (fun w' => ∃ x : Kw (fun k => k = mb) W7, w' = x.to) 10 [0, 1, 2, 3, 4, 5, 6, 7, 8] [9] (by kernel_rfl) (by kernel_rfl) ?_ ⟨⟨_, (Keeps.refl _ _).drew⟩, rfl⟩ ?_
  · intro d v c a w hx
    cases d <;> exact hx
  simp only [pickOps, List.getElem?_cons_zero, List.getElem?_cons_succ, Option.toList_some, List.cons_append, List.nil_append, List.drop_succ_cons, List.drop_zero]
  repeat (go_big_quiet_step (fail))
  refine wpQuiet_nil ?_
  refine wpLd_cons ?_
  go_wp2_with fail
  refine ⟨⟨⟨_, ((Keeps.refl (fun k => k = mb) W7).setCell (p := ⟨mb, 3, none⟩) (fun _ => rfl) _).drew⟩, rfl⟩, ?_⟩
  unfold wpLd
  go_wp2_with fail
  refine (HM.out _ (((HB2.out.1.setCell (p := ⟨mb, 3, none⟩) HB2.out.2 _).setCell (p := ⟨mb, 4, none⟩) HB2.out.2 _).drew)).mono ?_
  rintro e w2 ⟨he, H2⟩
  obtain ⟨rb, hrb⟩ : ∃ rb, rb = R2.isSome := ⟨_, rfl⟩
  rw [← hrb] at he
  subst he
  have HF := hide (And.intro hrb H2)
  clear hrb H2 HM
  go_wp2_with fail
  have := HP.out _ HF.out.2
  rw [← HF.out.1] at this
  exact this
set_option maxHeartbeats 4000000 in
theorem list7_good2 (kind x i Y N V : Nat) (st : ByteArray) (o1 : kind < 256) (o2 : x < 256) (o3 : i < 256) (o5 : Y < 256) (o6 : N < 65536) (o7 : V < 18446744073709551616) (hN : N ≤ 128) (d q M : Nat) (hd : d = Y / 16) (hq : q = Y % 16) (hM : (N : Int) * ((d : Int) + (q : Int)) = (M : Int)) (hM2 : M ≤ 3840) {w : World} {b : Nat} {Post : Ending → World → Prop} (h : d ≤ 8 ∧ q ≤ 8 ∧ 0 < N ∧ ¬ Y = 0) {R2 : Option Bk} {T : World → Prop}
    (HM : Hid (∀ w1 : World, Below w.heap.size w w1 → Calls Faag.prog 81 #[.pointer (some ⟨b, 0, none⟩), .agg (opC ⟨kind, x, i, 7, Y, N, V, st⟩).toArray, .agg (entC ⟨false, 2, 7, d, q, N, 0, 0, 0, []⟩ (.slice none 0 0)).toArray, .int .i64 (1 + (M : Int)), .int .i64 (N : Int)] w1 (fun e w' => e = .returned (.bool R2.isSome) ∧ T w')))
    (HP : Hid (∀ w', T w' → Post (.returned (.bool R2.isSome)) w')) : Calls Faag.prog 82 #[.pointer (some ⟨b, 0, none⟩), .agg (opC ⟨kind, x, i, 7, Y, N, V, st⟩).toArray] w Post := by
  have hd15 : d ≤ 15 := by omega
  have hq15 : q ≤ 15 := by omega
  have hmod : (Y : Int) % 16 = (q : Int) := by omega
  have hdiv : (Y : Int) / 16 = (d : Int) := by omega
  have e1 : decide ((8 : Int) < (d : Int)) = false := by rw [decide_eq_false_iff_not]; omega
  have e2 : decide ((8 : Int) < (q : Int)) = false := by rw [decide_eq_false_iff_not]; omega
  have e3 : decide (0 < N) = true := by rw [decide_eq_true_iff]; omega
  have e4 : ((Y : Int) == 0) = false := by simp; omega
  unfold opC entC at HM
  unfold opC
  dsimp only
  clear hd hq h
  have RO : RowAt ((w.alloc (.cells #[.int .u8 (kind : Int), .int .u8 (x : Int), .int .u8 (i : Int), .int .u8 7, .int .u8 (Y : Int), .int .u16 (N : Int), .int .u64 (V : Int), .string st] 46)).alloc (.cells #[.bool false, .int .u8 2, .int .u8 7, .int .i64 0, .int .i64 0, .int .i64 (N : Int), .int .i64 0, .int .i64 0, .int .i64 0, .slice none 0 0] 70)) w.heap.size 0 [.int .u8 (kind : Int), .int .u8 (x : Int), .int .u8 (i : Int), .int .u8 7, .int .u8 (Y : Int), .int .u16 (N : Int), .int .u64 (V : Int), .string st] := (RowAt.of_alloc w [.int .u8 (kind : Int), .int .u8 (x : Int), .int .u8 (i : Int), .int .u8 7, .int .u8 (Y : Int), .int .u16 (N : Int), .int .u64 (V : Int), .string st] 46).alloc _
  have RM : RowAt ((w.alloc (.cells #[.int .u8 (kind : Int), .int .u8 (x : Int), .int .u8 (i : Int), .int .u8 7, .int .u8 (Y : Int), .int .u16 (N : Int), .int .u64 (V : Int), .string st] 46)).alloc (.cells #[.bool false, .int .u8 2, .int .u8 7, .int .i64 0, .int .i64 0, .int .i64 (N : Int), .int .i64 0, .int .i64 0, .int .i64 0, .slice none 0 0] 70)) (w.heap.size + 1) 0 [.bool false, .int .u8 2, .int .u8 7, .int .i64 0, .int .i64 0, .int .i64 (N : Int), .int .i64 0, .int .i64 0, .int .i64 0, .slice none 0 0] := by
    have := RowAt.of_alloc (w.alloc (.cells #[.int .u8 (kind : Int), .int .u8 (x : Int), .int .u8 (i : Int), .int .u8 7, .int .u8 (Y : Int), .int .u16 (N : Int), .int .u64 (V : Int), .string st] 46)) [.bool false, .int .u8 2, .int .u8 7, .int .i64 0, .int .i64 0, .int .i64 (N : Int), .int .i64 0, .int .i64 0, .int .i64 0, .slice none 0 0] 70
    simpa using this
  have BL : Below w.heap.size w ((w.alloc (.cells #[.int .u8 (kind : Int), .int .u8 (x : Int), .int .u8 (i : Int), .int .u8 7, .int .u8 (Y : Int), .int .u16 (N : Int), .int .u64 (V : Int), .string st] 46)).alloc (.cells #[.bool false, .int .u8 2, .int .u8 7, .int .i64 0, .int .i64 0, .int .i64 (N : Int), .int .i64 0, .int .i64 0, .int .i64 0, .slice none 0 0] 70)) := ((Below.refl _ w).alloc (Nat.le_refl _) _).alloc (by simp) _
  go_enter Faag.func82, Faag.ntmps82
  go_wp2_with fail
  generalize hW7 : World.alloc (World.alloc w _) _ = W7 at RO RM BL ⊢
  clear hW7
  have hlb : w.heap.size ≤ w.heap.size + 1 := by omega
  have hne1 : ¬ w.heap.size = w.heap.size + 1 := by omega
  generalize w.heap.size + 1 = mb at RM hlb hne1 ⊢
  have HB2 := hide (And.intro BL hlb)
  clear BL hlb
  have d0 := RO.at_ (i := 0) rfl
  have d1 := RO.at_ (i := 1) rfl
  have d2 := RO.at_ (i := 2) rfl
  have d3 := RO.at_ (i := 3) rfl
  have d4 := RO.at_ (i := 4) rfl
  have d5 := RO.at_ (i := 5) rfl
  have d6 := RO.at_ (i := 6) rfl
  have d7 := RO.at_ (i := 7) rfl
  have m0 := RM.at_ (i := 0) rfl
  have m1 := RM.at_ (i := 1) rfl
  have m2 := RM.at_ (i := 2) rfl
  have m3 := RM.at_ (i := 3) rfl
  have m4 := RM.at_ (i := 4) rfl
  have m5 := RM.at_ (i := 5) rfl
  have m6 := RM.at_ (i := 6) rfl
  have m7 := RM.at_ (i := 7) rfl
  have m8 := RM.at_ (i := 8) rfl
  have m9 := RM.at_ (i := 9) rfl
  have f3 := RM.live 3 (by simp)
  have f4 := RM.live 4 (by simp)
  simp only [Nat.zero_add] at d0 d1 d2 d3 d4 d5 d6 d7 m0 m1 m2 m3 m4 m5 m6 m7 m8 m9 f3 f4
  have lto : w.heap.size < W7.heap.size := RO.lt (by simp)
  have ltm : mb < W7.heap.size := RM.lt (by simp)
  clear RO RM
  have hne : ∀ w0 : World, Nonempty (Kw (fun k => k = mb) w0) := fun w0 => ⟨⟨w0, Keeps.refl _ _⟩⟩
  refine wp_region_ql (fun w' => ∃ x : Kw (fun k => k = mb) W7, w' = x.to) 10 [0, 1, 2, 3, 4, 5, 6, 7, 8] [9] (by kernel_rfl) (by kernel_rfl) ?_ ⟨⟨_, (Keeps.refl _ _).drew⟩, rfl⟩ ?_
  · intro d v c a w hx
    cases d <;> exact hx
  simp only [pickOps, List.getElem?_cons_zero, List.getElem?_cons_succ, Option.toList_some, List.cons_append, List.nil_append, List.drop_succ_cons, List.drop_zero]
  repeat (go_big_quiet_step (fail))
  refine wpQuiet_nil ?_
  refine wpLd_cons ?_
  go_wp2_with fail
  refine ⟨⟨⟨_, ((Keeps.refl (fun k => k = mb) W7).setCell (p := ⟨mb, 3, none⟩) (fun _ => rfl) _).drew⟩, rfl⟩, ?_⟩
  unfold wpLd
  go_wp2_with fail
  refine (HM.out _ (((HB2.out.1.setCell (p := ⟨mb, 3, none⟩) HB2.out.2 _).setCell (p := ⟨mb, 4, none⟩) HB2.out.2 _).drew)).mono ?_
  rintro e w2 ⟨he, H2⟩
  obtain ⟨rb, hrb⟩ : ∃ rb, rb = R2.isSome := ⟨_, rfl⟩
  rw [← hrb] at he
  subst he
  have HF := hide (And.intro hrb H2)
  clear hrb H2 HM
  go_wp2_with fail
  have := HP.out _ HF.out.2
  rw [← HF.out.1] at this
  exact this
end Go.Proofs.Ygcfaa
