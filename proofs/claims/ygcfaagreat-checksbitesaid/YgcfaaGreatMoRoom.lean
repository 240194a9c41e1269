import Derived.Test.YgcfaaGreatMoPush2
namespace Go.Proofs.YgcfaaGreat
open Go.RowKit Bits Bd
set_option linter.unusedVariables false
set_option maxRecDepth 100000
set_option linter.unusedSimpArgs false
attribute [local go_sem] World.cell?_ext World.frozen?_ext

/-- An object may hang at pointer I of handle H. -/
def RoomP (M : Mo) (H I : Nat) (q : Ptr) (k : Nat) : Prop := M.plc H I ∧ M.pv H I = -1 ∧ (M.hd H).depth < 8 ∧ words q ≤ 256 ∧ M.len + words q ≤ 256 ∧ M.H.length + k ≤ 256

set_option maxHeartbeats 16000000 in
theorem mroom_calls {w : World} {p : Nat} {h : Nat → Value} {M : Mo} (m : HM true w p h M) (v : InvM M) (op : Opn) (hop : op.Ok) (q : Ptr) (hq : q.Ok) (k : Nat) (hk : k < 100000) (hH : op.h < M.H.length) :
    Calls Faag.prog 46 #[.pointer (some ⟨p, 0, none⟩), .agg (opC op).toArray, .agg (ptrC q).toArray, .int .i64 k] w fun e w' => (∃ b, e = .returned (.bool b) ∧ (b = true → RoomP M op.h op.i q k)) ∧ Below w.heap.size w w' := by
  obtain ⟨kind, x, i, X, Y, N, V, s⟩ := op
  obtain ⟨o1, o2, o3, o4, o5, o6, o7⟩ := hop
  dsimp only at o1 o2 o3 o4 o5 o6 o7 hH ⊢
  have HWc := hide (fun w => words_calls q hq w)
  obtain ⟨wd, hwd⟩ : ∃ wd, wd = words q := ⟨_, rfl⟩
  rw [← hwd] at HWc
  have hwl : wd < 65536 := by rw [hwd]; have := words_le q; omega
  have HRP := hide (show M.plc x i → M.pv x i = -1 → (M.hd x).depth < 8 → wd ≤ 256 → M.len + wd ≤ 256 → M.H.length + k ≤ 256 → RoomP M x i q k from fun h1 h2 h3 h4 h5 h6 => ⟨h1, h2, h3, by rw [← hwd]; exact h4, by rw [← hwd]; exact h5, h6⟩)
  have hdl : (M.hd x).depth < 256 := (m.hok x).depth
  have hll : M.len ≤ 256 := v.sum
  have hnl := m.nh
  obtain ⟨R, hR⟩ : ∃ R : Prop, R = RoomP M x i q k := ⟨_, rfl⟩
  rw [← hR] at HRP ⊢
  clear hR hwd hq
  obtain ⟨qk, qa, qd, qp, qc, qn⟩ := q
  unfold opC
  unfold ptrC at HWc ⊢
  dsimp only at HWc ⊢
  go_enter Faag.func46, Faag.ntmps46
  go_wp2_with fail
  obtain ⟨W, hW⟩ : ∃ W, W = (w.alloc (.cells #[.int .u8 kind, .int .u8 x, .int .u8 i, .int .u8 X, .int .u8 Y, .int .u16 N, .int .u64 V, .string s] 55)).alloc (.cells #[.int .u8 qk, .int .u16 qa, .int .u8 qd, .int .u8 qp, .int .u8 qc, .int .u16 qn] 62) := ⟨_, rfl⟩
  rw [← hW]
  have hbW : Below w.heap.size w W := by rw [hW]; exact (Below.alloc (Below.alloc (Below.refl _ _) (Nat.le_refl _) _) (by rw [World.size_alloc]; omega) _)
  have r5 : RowAt W w.heap.size 0 [.int .u8 kind, .int .u8 x, .int .u8 i, .int .u8 X, .int .u8 Y, .int .u16 N, .int .u64 V, .string s] := by
    rw [hW]; exact row_below (RowAt.of_alloc w _ 55) ((Below.refl _ _).alloc (Nat.le_refl _) _)
  have r6 : RowAt W (w.heap.size + 1) 0 [.int .u8 qk, .int .u16 qa, .int .u8 qd, .int .u8 qp, .int .u8 qc, .int .u16 qn] := by
    have := RowAt.of_alloc (w.alloc (.cells #[.int .u8 kind, .int .u8 x, .int .u8 i, .int .u8 X, .int .u8 Y, .int .u16 N, .int .u64 V, .string s] 55)) [.int .u8 qk, .int .u16 qa, .int .u8 qd, .int .u8 qp, .int .u8 qc, .int .u16 qn] 62
    rw [World.size_alloc] at this
    rw [hW]; exact this
  obtain ⟨B5, hB5⟩ : ∃ B, B = w.heap.size := ⟨_, rfl⟩
  obtain ⟨B6, hB6⟩ : ∃ B, B = w.heap.size + 1 := ⟨_, rfl⟩
  rw [← hB6] at r6 ⊢
  rw [← hB5] at r5 ⊢
  have mW := m.below hbW
  have f2 := mW.f2.1
  obtain ⟨gh, ch, hgh, hhc⟩ := mW.hand hH
  have cd := (hhc 3 _ rfl).1
  rw [hgh] at f2
  obtain ⟨c51, c52⟩ := And.intro (r5.at_ (i := 1) rfl) (r5.at_ (i := 2) rfl)
  have d0 := r6.at_ (i := 0) rfl
  have d1 := r6.at_ (i := 1) rfl
  have d2 := r6.at_ (i := 2) rfl
  have d3 := r6.at_ (i := 3) rfl
  have d4 := r6.at_ (i := 4) rfl
  have d5 := r6.at_ (i := 5) rfl
  simp only [Nat.zero_add] at c51 c52 d0 d1 d2 d3 d4 d5
  have HLc := hide (fun w' (b : Below W.heap.size W w') => len_calls (mW.below b) v)
  have HK := hide (kid_calls mW v x i hH o3)
  have HPl := hide (fun a (pl : PlAt p h M x i a) => pl.cell mW)
  have hpvb : -32768 ≤ M.pv x i ∧ M.pv x i ≤ 32767 := by
    unfold Mo.pv
    split
    · exact m.rt
    · unfold Mo.kd
      by_cases hj : i < (M.nd (x - 1)).kids.length
      · have := (m.ok (x - 1)).kids ((M.nd (x - 1)).kids.getD i 0) (by rw [List.getD_eq_getElem?_getD, List.getElem?_eq_getElem hj]; exact List.getElem_mem hj)
        exact this
      · rw [List.getD_eq_getElem?_getD, List.getElem?_eq_none (by omega)]; decide
  generalize (M.hd x).depth = dp at *
  generalize M.len = len at *
  obtain ⟨nH, hnH⟩ : ∃ n, n = M.H.length := ⟨_, rfl⟩
  rw [← hnH] at f2 hH hnl HRP
  have HBW := hide hbW
  clear hnH hhc hgh r5 r6 mW hW hB5 hB6 m v hbW
  refine HK.out.mono ?_
  rintro e w1 ⟨hr, b1⟩
  have b1' : Below W.heap.size W w1.drew := b1.step (below_drew w1)
  clear HK
  rcases hr with ⟨_, rfl⟩ | ⟨a, pl, rfl⟩
  · clear HPl
    go_wp2_with fail
    refine wp_region_seg (fun w' => ∃ x, w' = W.ext x) 41 [0, 1, 2, 3, 4, 5, 6, 7, 8, 9, 10, 11, 12, 13, 14, 15, 16, 17, 18, 19, 20, 21] 19 (by kernel_rfl) (by kernel_rfl) ?_ (World.ext_of_below b1') ?_
    · intro d v c a w hx
      cases d <;> exact hx
    simp only [pickOps, List.getElem?_cons_zero, List.getElem?_cons_succ, Option.toList_some, List.cons_append, List.nil_append, List.drop_succ_cons, List.drop_zero]
    repeat (go_big_quiet_step (fail))
    refine wpQuiet_nil ?_
    refine segH_one (i := 22) (by kernel_rfl) rfl (by omega) ?_
    go_wp2_with fail
    refine ⟨World.ext_of_below b1', ?_⟩
    refine segH_more [23, 24, 25, 26, 28] (f := 13) (by kernel_rfl) ?_ (World.ext_of_below b1') ?_
    · intro d v c a w hx
      cases d <;> exact hx
    simp only [pickOps, List.getElem?_cons_zero, List.getElem?_cons_succ, Option.toList_some, List.cons_append, List.nil_append, List.drop_succ_cons, List.drop_zero]
    repeat (go_big_quiet_step (fail))
    refine wpQuiet_nil ?_
    refine segH_one (i := 27) (by kernel_rfl) rfl (by omega) ?_
    go_wp2_with fail
    refine ⟨World.ext_of_below b1', ?_⟩
    refine segH_one (i := 29) (by kernel_rfl) rfl (by omega) ?_
    go_wp2_with fail
    refine ⟨World.ext_of_below b1', ?_⟩
    refine segH_more [30, 31, 32, 33, 34, 35, 36, 37, 38, 39, 40] (f := 0) (by kernel_rfl) ?_ (World.ext_of_below b1') ?_
    · intro d v c a w hx
      cases d <;> exact hx
    simp only [pickOps, List.getElem?_cons_zero, List.getElem?_cons_succ, Option.toList_some, List.cons_append, List.nil_append, List.drop_succ_cons, List.drop_zero]
    repeat (go_big_quiet_step (fail))
    refine wpQuiet_nil ?_
    refine ⟨by kernel_rfl, ?_⟩
    go_wp2_with fail
    go_ret
    exact ⟨⟨false, by first | rfl | (simp only [*]; rfl) | (simp [*]), fun h => by cases h⟩, HBW.out.step b1'⟩
  · obtain ⟨ba, oa, rfl⟩ := pl.spot
    have hpc := (HPl.out _ pl).1
    have HPL := hide pl
    clear pl HPl
    generalize M.pv x i = pv at *
    by_cases e1 : pv = -1
    · subst e1
      by_cases e2 : dp < 8
      · by_cases e3 : wd ≤ 256
        · by_cases e4 : len + wd ≤ 256
          · by_cases e5 : nH + k ≤ 256
            · have HY := hide (HRP.out HPL.out.plc rfl e2 e3 e4 e5)
              have g2 : (dp : Int) < 8 := by omega
              have g3 : (wd : Int) ≤ 256 := by omega
              have g4 : (len : Int) + wd ≤ 256 := by omega
              have g5 : (nH : Int) + k ≤ 256 := by omega
              go_wp2_with fail
              refine wp_region_seg (fun w' => ∃ x, w' = W.ext x) 41 [0, 1, 2, 3, 4, 5, 6, 7, 8, 9, 10, 11, 12, 13, 14, 15, 16, 17, 18, 19, 20, 21] 19 (by kernel_rfl) (by kernel_rfl) ?_ (World.ext_of_below b1') ?_
              · intro d v c a w hx
                cases d <;> exact hx
              simp only [pickOps, List.getElem?_cons_zero, List.getElem?_cons_succ, Option.toList_some, List.cons_append, List.nil_append, List.drop_succ_cons, List.drop_zero]
              repeat (go_big_quiet_step (fail))
              refine wpQuiet_nil ?_
              refine segH_one (i := 22) (by kernel_rfl) rfl (by omega) ?_
              go_wp2_with fail
              refine (HWc.out _).mono ?_
              rintro e w2 ⟨rfl, b2⟩
              go_wp2_with fail
              have b2' : Below W.heap.size W w2 := b1'.step b2
              refine ⟨World.ext_of_below b2', ?_⟩
              refine segH_more [23, 24, 25, 26, 28] (f := 13) (by kernel_rfl) ?_ (World.ext_of_below b2') ?_
              · intro d v c a w hx
                cases d <;> exact hx
              simp only [pickOps, List.getElem?_cons_zero, List.getElem?_cons_succ, Option.toList_some, List.cons_append, List.nil_append, List.drop_succ_cons, List.drop_zero]
              repeat (go_big_quiet_step (fail))
              refine wpQuiet_nil ?_
              refine segH_one (i := 27) (by kernel_rfl) rfl (by omega) ?_
              go_wp2_with fail
              refine (HLc.out _ b2').mono ?_
              rintro e w3 ⟨rfl, b3⟩
              go_wp2_with fail
              have b3' : Below W.heap.size W w3 := b2'.step b3
              refine ⟨World.ext_of_below b3', ?_⟩
              refine segH_one (i := 29) (by kernel_rfl) rfl (by omega) ?_
              go_wp2_with fail
              refine (HWc.out _).mono ?_
              rintro e w4 ⟨rfl, b4⟩
              go_wp2_with fail
              have b4' : Below W.heap.size W w4 := b3'.step b4
              refine ⟨World.ext_of_below b4', ?_⟩
              refine segH_more [30, 31, 32, 33, 34, 35, 36, 37, 38, 39, 40] (f := 0) (by kernel_rfl) ?_ (World.ext_of_below b4') ?_
              · intro d v c a w hx
                cases d <;> exact hx
              simp only [pickOps, List.getElem?_cons_zero, List.getElem?_cons_succ, Option.toList_some, List.cons_append, List.nil_append, List.drop_succ_cons, List.drop_zero]
              repeat (go_big_quiet_step (fail))
              refine wpQuiet_nil ?_
              refine ⟨by kernel_rfl, ?_⟩
              go_wp2_with fail
              go_ret
              exact ⟨⟨true, rfl, fun _ => HY.out⟩, HBW.out.step b4'⟩
            · skip
              have g2 : (dp : Int) < 8 := by omega
              have g3 : (wd : Int) ≤ 256 := by omega
              have g4 : (len : Int) + wd ≤ 256 := by omega
              have g5 : decide ((nH : Int) + k ≤ 256) = false := by simp only [decide_eq_false_iff_not]; omega
              go_wp2_with fail
              refine wp_region_seg (fun w' => ∃ x, w' = W.ext x) 41 [0, 1, 2, 3, 4, 5, 6, 7, 8, 9, 10, 11, 12, 13, 14, 15, 16, 17, 18, 19, 20, 21] 19 (by kernel_rfl) (by kernel_rfl) ?_ (World.ext_of_below b1') ?_
              · intro d v c a w hx
                cases d <;> exact hx
              simp only [pickOps, List.getElem?_cons_zero, List.getElem?_cons_succ, Option.toList_some, List.cons_append, List.nil_append, List.drop_succ_cons, List.drop_zero]
              repeat (go_big_quiet_step (fail))
              refine wpQuiet_nil ?_
              refine segH_one (i := 22) (by kernel_rfl) rfl (by omega) ?_
              go_wp2_with fail
              refine (HWc.out _).mono ?_
              rintro e w2 ⟨rfl, b2⟩
              go_wp2_with fail
              have b2' : Below W.heap.size W w2 := b1'.step b2
              refine ⟨World.ext_of_below b2', ?_⟩
              refine segH_more [23, 24, 25, 26, 28] (f := 13) (by kernel_rfl) ?_ (World.ext_of_below b2') ?_
              · intro d v c a w hx
                cases d <;> exact hx
              simp only [pickOps, List.getElem?_cons_zero, List.getElem?_cons_succ, Option.toList_some, List.cons_append, List.nil_append, List.drop_succ_cons, List.drop_zero]
              repeat (go_big_quiet_step (fail))
              refine wpQuiet_nil ?_
              refine segH_one (i := 27) (by kernel_rfl) rfl (by omega) ?_
              go_wp2_with fail
              refine (HLc.out _ b2').mono ?_
              rintro e w3 ⟨rfl, b3⟩
              go_wp2_with fail
              have b3' : Below W.heap.size W w3 := b2'.step b3
              refine ⟨World.ext_of_below b3', ?_⟩
              refine segH_one (i := 29) (by kernel_rfl) rfl (by omega) ?_
              go_wp2_with fail
              refine (HWc.out _).mono ?_
              rintro e w4 ⟨rfl, b4⟩
              go_wp2_with fail
              have b4' : Below W.heap.size W w4 := b3'.step b4
              refine ⟨World.ext_of_below b4', ?_⟩
              refine segH_more [30, 31, 32, 33, 34, 35, 36, 37, 38, 39, 40] (f := 0) (by kernel_rfl) ?_ (World.ext_of_below b4') ?_
              · intro d v c a w hx
                cases d <;> exact hx
              simp only [pickOps, List.getElem?_cons_zero, List.getElem?_cons_succ, Option.toList_some, List.cons_append, List.nil_append, List.drop_succ_cons, List.drop_zero]
              repeat (go_big_quiet_step (fail))
              refine wpQuiet_nil ?_
              refine ⟨by kernel_rfl, ?_⟩
              go_wp2_with fail
              go_ret
              exact ⟨⟨false, by first | rfl | (simp only [*]; rfl) | (simp [*]), fun h => by cases h⟩, HBW.out.step b4'⟩
          · skip
            have g2 : (dp : Int) < 8 := by omega
            have g3 : (wd : Int) ≤ 256 := by omega
            have g4 : decide ((len : Int) + wd ≤ 256) = false := by simp only [decide_eq_false_iff_not]; omega
            go_wp2_with fail
            refine wp_region_seg (fun w' => ∃ x, w' = W.ext x) 41 [0, 1, 2, 3, 4, 5, 6, 7, 8, 9, 10, 11, 12, 13, 14, 15, 16, 17, 18, 19, 20, 21] 19 (by kernel_rfl) (by kernel_rfl) ?_ (World.ext_of_below b1') ?_
            · intro d v c a w hx
              cases d <;> exact hx
            simp only [pickOps, List.getElem?_cons_zero, List.getElem?_cons_succ, Option.toList_some, List.cons_append, List.nil_append, List.drop_succ_cons, List.drop_zero]
            repeat (go_big_quiet_step (fail))
            refine wpQuiet_nil ?_
            refine segH_one (i := 22) (by kernel_rfl) rfl (by omega) ?_
            go_wp2_with fail
            refine (HWc.out _).mono ?_
            rintro e w2 ⟨rfl, b2⟩
            go_wp2_with fail
            have b2' : Below W.heap.size W w2 := b1'.step b2
            refine ⟨World.ext_of_below b2', ?_⟩
            refine segH_more [23, 24, 25, 26, 28] (f := 13) (by kernel_rfl) ?_ (World.ext_of_below b2') ?_
            · intro d v c a w hx
              cases d <;> exact hx
            simp only [pickOps, List.getElem?_cons_zero, List.getElem?_cons_succ, Option.toList_some, List.cons_append, List.nil_append, List.drop_succ_cons, List.drop_zero]
            repeat (go_big_quiet_step (fail))
            refine wpQuiet_nil ?_
            refine segH_one (i := 27) (by kernel_rfl) rfl (by omega) ?_
            go_wp2_with fail
            refine (HLc.out _ b2').mono ?_
            rintro e w3 ⟨rfl, b3⟩
            go_wp2_with fail
            have b3' : Below W.heap.size W w3 := b2'.step b3
            refine ⟨World.ext_of_below b3', ?_⟩
            refine segH_one (i := 29) (by kernel_rfl) rfl (by omega) ?_
            go_wp2_with fail
            refine (HWc.out _).mono ?_
            rintro e w4 ⟨rfl, b4⟩
            go_wp2_with fail
            have b4' : Below W.heap.size W w4 := b3'.step b4
            refine ⟨World.ext_of_below b4', ?_⟩
            refine segH_more [30, 31, 32, 33, 34, 35, 36, 37, 38, 39, 40] (f := 0) (by kernel_rfl) ?_ (World.ext_of_below b4') ?_
            · intro d v c a w hx
              cases d <;> exact hx
            simp only [pickOps, List.getElem?_cons_zero, List.getElem?_cons_succ, Option.toList_some, List.cons_append, List.nil_append, List.drop_succ_cons, List.drop_zero]
            repeat (go_big_quiet_step (fail))
            refine wpQuiet_nil ?_
            refine ⟨by kernel_rfl, ?_⟩
            go_wp2_with fail
            go_ret
            exact ⟨⟨false, by first | rfl | (simp only [*]; rfl) | (simp [*]), fun h => by cases h⟩, HBW.out.step b4'⟩
        · skip
          have g2 : (dp : Int) < 8 := by omega
          have g3 : decide ((wd : Int) ≤ 256) = false := by simp only [decide_eq_false_iff_not]; omega
          go_wp2_with fail
          refine wp_region_seg (fun w' => ∃ x, w' = W.ext x) 41 [0, 1, 2, 3, 4, 5, 6, 7, 8, 9, 10, 11, 12, 13, 14, 15, 16, 17, 18, 19, 20, 21] 19 (by kernel_rfl) (by kernel_rfl) ?_ (World.ext_of_below b1') ?_
          · intro d v c a w hx
            cases d <;> exact hx
          simp only [pickOps, List.getElem?_cons_zero, List.getElem?_cons_succ, Option.toList_some, List.cons_append, List.nil_append, List.drop_succ_cons, List.drop_zero]
          repeat (go_big_quiet_step (fail))
          refine wpQuiet_nil ?_
          refine segH_one (i := 22) (by kernel_rfl) rfl (by omega) ?_
          go_wp2_with fail
          refine (HWc.out _).mono ?_
          rintro e w2 ⟨rfl, b2⟩
          go_wp2_with fail
          have b2' : Below W.heap.size W w2 := b1'.step b2
          refine ⟨World.ext_of_below b2', ?_⟩
          refine segH_more [23, 24, 25, 26, 28] (f := 13) (by kernel_rfl) ?_ (World.ext_of_below b2') ?_
          · intro d v c a w hx
            cases d <;> exact hx
          simp only [pickOps, List.getElem?_cons_zero, List.getElem?_cons_succ, Option.toList_some, List.cons_append, List.nil_append, List.drop_succ_cons, List.drop_zero]
          repeat (go_big_quiet_step (fail))
          refine wpQuiet_nil ?_
          refine segH_one (i := 27) (by kernel_rfl) rfl (by omega) ?_
          go_wp2_with fail
          refine ⟨World.ext_of_below b2', ?_⟩
          refine segH_one (i := 29) (by kernel_rfl) rfl (by omega) ?_
          go_wp2_with fail
          refine ⟨World.ext_of_below b2', ?_⟩
          refine segH_more [30, 31, 32, 33, 34, 35, 36, 37, 38, 39, 40] (f := 0) (by kernel_rfl) ?_ (World.ext_of_below b2') ?_
          · intro d v c a w hx
            cases d <;> exact hx
          simp only [pickOps, List.getElem?_cons_zero, List.getElem?_cons_succ, Option.toList_some, List.cons_append, List.nil_append, List.drop_succ_cons, List.drop_zero]
          repeat (go_big_quiet_step (fail))
          refine wpQuiet_nil ?_
          refine ⟨by kernel_rfl, ?_⟩
          go_wp2_with fail
          go_ret
          exact ⟨⟨false, by first | rfl | (simp only [*]; rfl) | (simp [*]), fun h => by cases h⟩, HBW.out.step b2'⟩
      · skip
        have g2 : decide ((dp : Int) < 8) = false := by simp only [decide_eq_false_iff_not]; omega
        go_wp2_with fail
        refine wp_region_seg (fun w' => ∃ x, w' = W.ext x) 41 [0, 1, 2, 3, 4, 5, 6, 7, 8, 9, 10, 11, 12, 13, 14, 15, 16, 17, 18, 19, 20, 21] 19 (by kernel_rfl) (by kernel_rfl) ?_ (World.ext_of_below b1') ?_
        · intro d v c a w hx
          cases d <;> exact hx
        simp only [pickOps, List.getElem?_cons_zero, List.getElem?_cons_succ, Option.toList_some, List.cons_append, List.nil_append, List.drop_succ_cons, List.drop_zero]
        repeat (go_big_quiet_step (fail))
        refine wpQuiet_nil ?_
        refine segH_one (i := 22) (by kernel_rfl) rfl (by omega) ?_
        go_wp2_with fail
        refine ⟨World.ext_of_below b1', ?_⟩
        refine segH_more [23, 24, 25, 26, 28] (f := 13) (by kernel_rfl) ?_ (World.ext_of_below b1') ?_
        · intro d v c a w hx
          cases d <;> exact hx
        simp only [pickOps, List.getElem?_cons_zero, List.getElem?_cons_succ, Option.toList_some, List.cons_append, List.nil_append, List.drop_succ_cons, List.drop_zero]
        repeat (go_big_quiet_step (fail))
        refine wpQuiet_nil ?_
        refine segH_one (i := 27) (by kernel_rfl) rfl (by omega) ?_
        go_wp2_with fail
        refine ⟨World.ext_of_below b1', ?_⟩
        refine segH_one (i := 29) (by kernel_rfl) rfl (by omega) ?_
        go_wp2_with fail
        refine ⟨World.ext_of_below b1', ?_⟩
        refine segH_more [30, 31, 32, 33, 34, 35, 36, 37, 38, 39, 40] (f := 0) (by kernel_rfl) ?_ (World.ext_of_below b1') ?_
        · intro d v c a w hx
          cases d <;> exact hx
        simp only [pickOps, List.getElem?_cons_zero, List.getElem?_cons_succ, Option.toList_some, List.cons_append, List.nil_append, List.drop_succ_cons, List.drop_zero]
        repeat (go_big_quiet_step (fail))
        refine wpQuiet_nil ?_
        refine ⟨by kernel_rfl, ?_⟩
        go_wp2_with fail
        go_ret
        exact ⟨⟨false, by first | rfl | (simp only [*]; rfl) | (simp [*]), fun h => by cases h⟩, HBW.out.step b1'⟩
    · have g1 : ((pv : Int) == -1) = false := by simp; omega
      go_wp2_with fail
      refine wp_region_seg (fun w' => ∃ x, w' = W.ext x) 41 [0, 1, 2, 3, 4, 5, 6, 7, 8, 9, 10, 11, 12, 13, 14, 15, 16, 17, 18, 19, 20, 21] 19 (by kernel_rfl) (by kernel_rfl) ?_ (World.ext_of_below b1') ?_
      · intro d v c a w hx
        cases d <;> exact hx
      simp only [pickOps, List.getElem?_cons_zero, List.getElem?_cons_succ, Option.toList_some, List.cons_append, List.nil_append, List.drop_succ_cons, List.drop_zero]
      repeat (go_big_quiet_step (fail))
      refine wpQuiet_nil ?_
      refine segH_one (i := 22) (by kernel_rfl) rfl (by omega) ?_
      go_wp2_with fail
      refine ⟨World.ext_of_below b1', ?_⟩
      refine segH_more [23, 24, 25, 26, 28] (f := 13) (by kernel_rfl) ?_ (World.ext_of_below b1') ?_
      · intro d v c a w hx
        cases d <;> exact hx
      simp only [pickOps, List.getElem?_cons_zero, List.getElem?_cons_succ, Option.toList_some, List.cons_append, List.nil_append, List.drop_succ_cons, List.drop_zero]
      repeat (go_big_quiet_step (fail))
      refine wpQuiet_nil ?_
      refine segH_one (i := 27) (by kernel_rfl) rfl (by omega) ?_
      go_wp2_with fail
      refine ⟨World.ext_of_below b1', ?_⟩
      refine segH_one (i := 29) (by kernel_rfl) rfl (by omega) ?_
      go_wp2_with fail
      refine ⟨World.ext_of_below b1', ?_⟩
      refine segH_more [30, 31, 32, 33, 34, 35, 36, 37, 38, 39, 40] (f := 0) (by kernel_rfl) ?_ (World.ext_of_below b1') ?_
      · intro d v c a w hx
        cases d <;> exact hx
      simp only [pickOps, List.getElem?_cons_zero, List.getElem?_cons_succ, Option.toList_some, List.cons_append, List.nil_append, List.drop_succ_cons, List.drop_zero]
      repeat (go_big_quiet_step (fail))
      refine wpQuiet_nil ?_
      refine ⟨by kernel_rfl, ?_⟩
      go_wp2_with fail
      go_ret
      exact ⟨⟨false, by first | rfl | (simp only [*]; rfl) | (simp [*]), fun h => by cases h⟩, HBW.out.step b1'⟩
end Go.Proofs.YgcfaaGreat
