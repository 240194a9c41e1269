import Derived.Test.YgcfaaGreatMoOut
import Derived.Test.YgcfaaGreatMoSet2
namespace Go.Proofs.YgcfaaGreat
open Go.RowKit Bits Bd
set_option linter.unusedVariables false
set_option maxRecDepth 100000
set_option linter.unusedSimpArgs false
attribute [local go_sem] World.cell?_ext World.frozen?_ext

theorem bits_nat (o : BinOp) (a b : Int) : ∃ n : Nat, n < 18446744073709551616 ∧ bits o .u64 a b = (n : Int) := by
  have h := bits_within o .u64 a b
  have h1 : (0 : Int) ≤ bits o .u64 a b := h.1
  have h2 : bits o .u64 a b ≤ 18446744073709551615 := h.2
  exact ⟨(bits o .u64 a b).toNat, by omega, by omega⟩

set_option maxHeartbeats 16000000 in
theorem melem_calls {w : World} {p : Nat} {h : Nat → Value} {M : Mo} (m : HM true w p h M) (v : InvM M) (op : Opn) (hop : op.Ok) (hH : op.h < M.H.length) :
    Calls Faag.prog 52 #[.pointer (some ⟨p, 0, none⟩), .agg (opC op).toArray] w (MOut w p h M.N.length) := by
  obtain ⟨kind, x, i, X, Y, N, V, st⟩ := op
  obtain ⟨o1, o2, o3, o4, o5, o6, o7⟩ := hop
  dsimp only at o1 o2 o3 o4 o5 o6 o7 hH ⊢
  have HM0 := hide m
  have HV := hide v
  unfold opC
  dsimp only
  match x, hH with
  | 0, hH =>
    clear m v
    go_enter Faag.func52, Faag.ntmps52
    go_wp2_with fail
    go_ret
    exact MOut.no HM0.out HV.out ((Below.refl _ _).alloc (Nat.le_refl _) _) _
  | k + 1, hH =>
    have gx : (((k + 1 : Nat) : Int) == 0) = false := by simp; omega
    have hnh := v.nh
    have hk : k < M.N.length := by omega
    have hshp := hide (v.shp k hk).2
    have f0 := m.f0.1
    have f2 := m.f2.1
    obtain ⟨gh, ch, hgh, hhc⟩ := m.hand (i := k + 1) (by omega)
    have hn := (hhc 0 _ rfl).1
    simp only [Nat.add_zero] at hn
    rw [v.node k hk] at hn
    obtain ⟨gn, cn, hgn, hnc⟩ := m.node hk
    have c0 := (hnc 0 _ rfl).1
    have c1 := (hnc 1 _ rfl).1
    have c2 := (hnc 2 _ rfl).1
    simp only [Nat.add_zero] at c0
    obtain ⟨da, dc, hda⟩ := m.nd_ hk
    rw [hda] at c2
    rw [hgn] at f0
    rw [hgh] at f2
    have hdl := (m.ok k).dl
    have hnn := m.nn
    have hnhl := m.nh
    have hkd8 := (m.ok k).kind
    have hcd8 := (m.ok k).code
    have HK := hide hk
    have HDA := hide hda
    have hk1 := v.n2
    obtain ⟨n, hnE⟩ : ∃ n, n = M.N.length := ⟨_, rfl⟩
    obtain ⟨nH, hnH⟩ : ∃ n, n = M.H.length := ⟨_, rfl⟩
    rw [← hnE] at f0 hk hnn hk1
    rw [← hnH] at f2 hH hnhl
    obtain ⟨kd, hkdE⟩ : ∃ y, y = (M.nd k).kind := ⟨_, rfl⟩
    obtain ⟨cd, hcdE⟩ : ∃ y, y = (M.nd k).code := ⟨_, rfl⟩
    obtain ⟨dl, hdlE⟩ : ∃ y, y = (M.nd k).data.length := ⟨_, rfl⟩
    rw [← hkdE] at c0 hkd8
    rw [← hcdE] at c1 hcd8
    rw [← hdlE] at c2 hdl
    have HE := hide (And.intro hkdE (And.intro hcdE hdlE))
    have hpl := m.lt
    have hgnl : gn < w.heap.size := lt_of_cell c0
    have hghl : gh < w.heap.size := lt_of_cell hn
    clear hhc hnc hgh hgn hda m v hnh hnE hnH hkdE hcdE hdlE
    by_cases hk2 : kd = 2
    · subst hk2
      by_cases hc5 : 5 < cd
      · have g5 : decide ((5 : Int) < (cd : Int)) = true := by simp; omega
        go_enter Faag.func52, Faag.ntmps52
        go_wp2_with fail
        refine wp_region_qd 14 (by kernel_rfl) (by kernel_rfl) ?_
        simp only [List.take_succ_cons, List.take_zero, List.drop_succ_cons, List.drop_zero]
        repeat (go_big_quiet_step (fail))
        refine wpQuiet_nil ?_
        rintro _ ⟨nq, rfl⟩
        go_wp2_with fail
        refine wp_region_qd 21 (by kernel_rfl) (by kernel_rfl) ?_
        simp only [List.take_succ_cons, List.take_zero, List.drop_succ_cons, List.drop_zero]
        repeat (go_big_quiet_step (fail))
        refine wpQuiet_nil ?_
        rintro _ ⟨nq2, rfl⟩
        go_wp2_with fail
        go_ret
        exact MOut.no HM0.out HV.out (((Below.refl _ _).alloc (Nat.le_refl _) _).step (below_drewN _ _)) _
      · by_cases hNl : N < dl
        · have hcd : cd = 2 ∨ cd = 3 ∨ cd = 4 ∨ cd = 5 := by
            have h3 := hshp.out
            rw [← HE.out.1, ← HE.out.2.1, ← HE.out.2.2, if_neg (by omega)] at h3
            have h4 := h3.2.2.2
            by_cases h25 : 2 ≤ cd ∧ cd ≤ 5
            · omega
            · rw [if_neg h25] at h4
              split at h4 <;> omega
          obtain ⟨gd, cdd, hgd, dcl, dcf⟩ := HM0.out.dcell (i := k) (j := N) HK.out (by rw [← HE.out.2.2]; exact hNl)
          have hdae : da = some ⟨gd, 0, none⟩ := by have := HDA.out.symm.trans hgd; cases this; rfl
          subst hdae
          generalize (M.nd k).data.getD N 0 = old at *
          have HSD := hide (fun (W : World) (b : Below w.heap.size w W) (val : Nat) (hv : val < 18446744073709551616) => ((MS.refl HM0.out).below b).setData (v := val) HK.out (show N < (M.nd k).data.length by rw [← HE.out.2.2]; exact hNl) HDA.out hv)
          have HLK := hide (fun (val : Nat) (hl : val ≤ limC (M.nd k).code) => like_setD (x := val) HV.out HK.out (show N < (M.nd k).data.length by rw [← HE.out.2.2]; exact hNl) (fun _ _ _ => hl))
          have hgdl : gd < w.heap.size := lt_of_cell dcl
          clear hgd hc5
          rcases hcd with rfl | rfl | rfl | rfl
          · go_enter Faag.func52, Faag.ntmps52
            go_wp2_with fail
            refine wp_region_qd 14 (by kernel_rfl) (by kernel_rfl) ?_
            simp only [List.take_succ_cons, List.take_zero, List.drop_succ_cons, List.drop_zero]
            repeat (go_big_quiet_step (fail))
            refine wpQuiet_nil ?_
            rintro _ ⟨nq, rfl⟩
            go_wp2_with fail
            refine wp_region_qd 21 (by kernel_rfl) (by kernel_rfl) ?_
            simp only [List.take_succ_cons, List.take_zero, List.drop_succ_cons, List.drop_zero]
            repeat (go_big_quiet_step (fail))
            refine wpQuiet_nil ?_
            rintro _ ⟨nq2, rfl⟩
            go_wp2_with fail
            generalize hW5 : World.drewN _ _ = W5
            have b5 : Below w.heap.size w W5 := by rw [← hW5]; exact ((Below.refl _ _).alloc (Nat.le_refl _) _).step (below_drewN _ _)
            have r5 := row_below (RowAt.of_alloc w [.int .u8 kind, .int .u8 ((k : Int) + 1), .int .u8 i, .int .u8 X, .int .u8 Y, .int .u16 N, .int .u64 V, .string st] 55) (below_drewN _ (nq + nq2))
            rw [hW5] at r5
            have e1 := (World.cell?_of_block (a := ⟨gn, k * 4 + 1, none⟩) (b5.block gn hgnl)).trans c1
            have e2 := (World.cell?_of_block (a := ⟨gn, k * 4 + 2, none⟩) (b5.block gn hgnl)).trans c2
            have e3 := (World.cell?_of_block (a := ⟨gd, N, none⟩) (b5.block gd hgdl)).trans dcl
            have e4 := (World.frozen?_of_block (a := ⟨gd, N, none⟩) (b5.block gd hgdl)).trans dcf
            have e5 := r5.at_ (i := 5) rfl
            have e6 := r5.at_ (i := 6) rfl
            simp only [Nat.zero_add] at e5 e6
            have HB5 := hide b5
            clear hW5 c0 c1 c2 dcl dcf f0 f2 hn r5 b5
            refine wp_region_seg (fun w' => ∃ y, w' = W5.ext y) 17 [0, 1, 2, 3, 4, 5, 6, 7, 8, 9, 10, 11] 5 (by kernel_rfl) (by kernel_rfl) ?_ (ext_drew _) ?_
            · intro d v c a w hx
              cases d <;> exact hx
            simp only [pickOps, List.getElem?_cons_zero, List.getElem?_cons_succ, Option.toList_some, List.cons_append, List.nil_append, List.drop_succ_cons, List.drop_zero]
            repeat (go_big_quiet_step (fail))
            refine wpQuiet_nil ?_
            refine segH_one (i := 12) (by kernel_rfl) rfl (by omega) ?_
            go_wp2_with fail
            refine (width_calls 2 (by omega) _).mono ?_
            rintro e w6 ⟨rfl, rfl⟩
            have hwid : (width 2 : Nat) = 1 := rfl
            rw [hwid]
            go_wp2_with fail
            refine ⟨ext_drew _, ?_⟩
            refine segH_more [13, 14, 15, 16] (f := 0) (by kernel_rfl) ?_ (ext_drew _) ?_
            · intro d v c a w hx
              cases d <;> exact hx
            simp only [pickOps, List.getElem?_cons_zero, List.getElem?_cons_succ, Option.toList_some, List.cons_append, List.nil_append, List.drop_succ_cons, List.drop_zero]
            repeat (go_big_quiet_step (fail))
            refine wpQuiet_nil ?_
            refine ⟨by kernel_rfl, ?_⟩
            go_wp2_with fail
            go_ret
            have hand : bits .and .u64 (V : Int) (255 : Int) = ((V &&& 255 : Nat) : Int) := bits_and_u64_nat V 255 o7 (by omega)
            rw [hand]
            have hle : V &&& 255 ≤ 255 := Nat.and_le_right
            exact ⟨⟨_, rfl⟩, h, _, HSD.out _ (HB5.out.step (below_drew _)) (V &&& 255) (by omega), inv_like HV.out (HLK.out _ (by rw [← HE.out.2.1]; exact hle))⟩
          · go_enter Faag.func52, Faag.ntmps52
            go_wp2_with fail
            refine wp_region_qd 14 (by kernel_rfl) (by kernel_rfl) ?_
            simp only [List.take_succ_cons, List.take_zero, List.drop_succ_cons, List.drop_zero]
            repeat (go_big_quiet_step (fail))
            refine wpQuiet_nil ?_
            rintro _ ⟨nq, rfl⟩
            go_wp2_with fail
            refine wp_region_qd 21 (by kernel_rfl) (by kernel_rfl) ?_
            simp only [List.take_succ_cons, List.take_zero, List.drop_succ_cons, List.drop_zero]
            repeat (go_big_quiet_step (fail))
            refine wpQuiet_nil ?_
            rintro _ ⟨nq2, rfl⟩
            go_wp2_with fail
            generalize hW5 : World.drewN _ _ = W5
            have b5 : Below w.heap.size w W5 := by rw [← hW5]; exact ((Below.refl _ _).alloc (Nat.le_refl _) _).step (below_drewN _ _)
            have r5 := row_below (RowAt.of_alloc w [.int .u8 kind, .int .u8 ((k : Int) + 1), .int .u8 i, .int .u8 X, .int .u8 Y, .int .u16 N, .int .u64 V, .string st] 55) (below_drewN _ (nq + nq2))
            rw [hW5] at r5
            have e1 := (World.cell?_of_block (a := ⟨gn, k * 4 + 1, none⟩) (b5.block gn hgnl)).trans c1
            have e2 := (World.cell?_of_block (a := ⟨gn, k * 4 + 2, none⟩) (b5.block gn hgnl)).trans c2
            have e3 := (World.cell?_of_block (a := ⟨gd, N, none⟩) (b5.block gd hgdl)).trans dcl
            have e4 := (World.frozen?_of_block (a := ⟨gd, N, none⟩) (b5.block gd hgdl)).trans dcf
            have e5 := r5.at_ (i := 5) rfl
            have e6 := r5.at_ (i := 6) rfl
            simp only [Nat.zero_add] at e5 e6
            have HB5 := hide b5
            clear hW5 c0 c1 c2 dcl dcf f0 f2 hn r5 b5
            refine wp_region_seg (fun w' => ∃ y, w' = W5.ext y) 17 [0, 1, 2, 3, 4, 5, 6, 7, 8, 9, 10, 11] 5 (by kernel_rfl) (by kernel_rfl) ?_ (ext_drew _) ?_
            · intro d v c a w hx
              cases d <;> exact hx
            simp only [pickOps, List.getElem?_cons_zero, List.getElem?_cons_succ, Option.toList_some, List.cons_append, List.nil_append, List.drop_succ_cons, List.drop_zero]
            repeat (go_big_quiet_step (fail))
            refine wpQuiet_nil ?_
            refine segH_one (i := 12) (by kernel_rfl) rfl (by omega) ?_
            go_wp2_with fail
            refine (width_calls 3 (by omega) _).mono ?_
            rintro e w6 ⟨rfl, rfl⟩
            have hwid : (width 3 : Nat) = 2 := rfl
            rw [hwid]
            go_wp2_with fail
            refine ⟨ext_drew _, ?_⟩
            refine segH_more [13, 14, 15, 16] (f := 0) (by kernel_rfl) ?_ (ext_drew _) ?_
            · intro d v c a w hx
              cases d <;> exact hx
            simp only [pickOps, List.getElem?_cons_zero, List.getElem?_cons_succ, Option.toList_some, List.cons_append, List.nil_append, List.drop_succ_cons, List.drop_zero]
            repeat (go_big_quiet_step (fail))
            refine wpQuiet_nil ?_
            refine ⟨by kernel_rfl, ?_⟩
            go_wp2_with fail
            go_ret
            have hand : bits .and .u64 (V : Int) (65535 : Int) = ((V &&& 65535 : Nat) : Int) := bits_and_u64_nat V 65535 o7 (by omega)
            rw [hand]
            have hle : V &&& 65535 ≤ 65535 := Nat.and_le_right
            exact ⟨⟨_, rfl⟩, h, _, HSD.out _ (HB5.out.step (below_drew _)) (V &&& 65535) (by omega), inv_like HV.out (HLK.out _ (by rw [← HE.out.2.1]; exact hle))⟩
          · go_enter Faag.func52, Faag.ntmps52
            go_wp2_with fail
            refine wp_region_qd 14 (by kernel_rfl) (by kernel_rfl) ?_
            simp only [List.take_succ_cons, List.take_zero, List.drop_succ_cons, List.drop_zero]
            repeat (go_big_quiet_step (fail))
            refine wpQuiet_nil ?_
            rintro _ ⟨nq, rfl⟩
            go_wp2_with fail
            refine wp_region_qd 21 (by kernel_rfl) (by kernel_rfl) ?_
            simp only [List.take_succ_cons, List.take_zero, List.drop_succ_cons, List.drop_zero]
            repeat (go_big_quiet_step (fail))
            refine wpQuiet_nil ?_
            rintro _ ⟨nq2, rfl⟩
            go_wp2_with fail
            generalize hW5 : World.drewN _ _ = W5
            have b5 : Below w.heap.size w W5 := by rw [← hW5]; exact ((Below.refl _ _).alloc (Nat.le_refl _) _).step (below_drewN _ _)
            have r5 := row_below (RowAt.of_alloc w [.int .u8 kind, .int .u8 ((k : Int) + 1), .int .u8 i, .int .u8 X, .int .u8 Y, .int .u16 N, .int .u64 V, .string st] 55) (below_drewN _ (nq + nq2))
            rw [hW5] at r5
            have e1 := (World.cell?_of_block (a := ⟨gn, k * 4 + 1, none⟩) (b5.block gn hgnl)).trans c1
            have e2 := (World.cell?_of_block (a := ⟨gn, k * 4 + 2, none⟩) (b5.block gn hgnl)).trans c2
            have e3 := (World.cell?_of_block (a := ⟨gd, N, none⟩) (b5.block gd hgdl)).trans dcl
            have e4 := (World.frozen?_of_block (a := ⟨gd, N, none⟩) (b5.block gd hgdl)).trans dcf
            have e5 := r5.at_ (i := 5) rfl
            have e6 := r5.at_ (i := 6) rfl
            simp only [Nat.zero_add] at e5 e6
            have HB5 := hide b5
            clear hW5 c0 c1 c2 dcl dcf f0 f2 hn r5 b5
            refine wp_region_seg (fun w' => ∃ y, w' = W5.ext y) 17 [0, 1, 2, 3, 4, 5, 6, 7, 8, 9, 10, 11] 5 (by kernel_rfl) (by kernel_rfl) ?_ (ext_drew _) ?_
            · intro d v c a w hx
              cases d <;> exact hx
            simp only [pickOps, List.getElem?_cons_zero, List.getElem?_cons_succ, Option.toList_some, List.cons_append, List.nil_append, List.drop_succ_cons, List.drop_zero]
            repeat (go_big_quiet_step (fail))
            refine wpQuiet_nil ?_
            refine segH_one (i := 12) (by kernel_rfl) rfl (by omega) ?_
            go_wp2_with fail
            refine (width_calls 4 (by omega) _).mono ?_
            rintro e w6 ⟨rfl, rfl⟩
            have hwid : (width 4 : Nat) = 4 := rfl
            rw [hwid]
            go_wp2_with fail
            refine ⟨ext_drew _, ?_⟩
            refine segH_more [13, 14, 15, 16] (f := 0) (by kernel_rfl) ?_ (ext_drew _) ?_
            · intro d v c a w hx
              cases d <;> exact hx
            simp only [pickOps, List.getElem?_cons_zero, List.getElem?_cons_succ, Option.toList_some, List.cons_append, List.nil_append, List.drop_succ_cons, List.drop_zero]
            repeat (go_big_quiet_step (fail))
            refine wpQuiet_nil ?_
            refine ⟨by kernel_rfl, ?_⟩
            go_wp2_with fail
            go_ret
            have hand : bits .and .u64 (V : Int) (4294967295 : Int) = ((V &&& 4294967295 : Nat) : Int) := bits_and_u64_nat V 4294967295 o7 (by omega)
            rw [hand]
            have hle : V &&& 4294967295 ≤ 4294967295 := Nat.and_le_right
            exact ⟨⟨_, rfl⟩, h, _, HSD.out _ (HB5.out.step (below_drew _)) (V &&& 4294967295) (by omega), inv_like HV.out (HLK.out _ (by rw [← HE.out.2.1]; exact hle))⟩
          · go_enter Faag.func52, Faag.ntmps52
            go_wp2_with fail
            refine wp_region_qd 14 (by kernel_rfl) (by kernel_rfl) ?_
            simp only [List.take_succ_cons, List.take_zero, List.drop_succ_cons, List.drop_zero]
            repeat (go_big_quiet_step (fail))
            refine wpQuiet_nil ?_
            rintro _ ⟨nq, rfl⟩
            go_wp2_with fail
            refine wp_region_qd 21 (by kernel_rfl) (by kernel_rfl) ?_
            simp only [List.take_succ_cons, List.take_zero, List.drop_succ_cons, List.drop_zero]
            repeat (go_big_quiet_step (fail))
            refine wpQuiet_nil ?_
            rintro _ ⟨nq2, rfl⟩
            go_wp2_with fail
            generalize hW5 : World.drewN _ _ = W5
            have b5 : Below w.heap.size w W5 := by rw [← hW5]; exact ((Below.refl _ _).alloc (Nat.le_refl _) _).step (below_drewN _ _)
            have r5 := row_below (RowAt.of_alloc w [.int .u8 kind, .int .u8 ((k : Int) + 1), .int .u8 i, .int .u8 X, .int .u8 Y, .int .u16 N, .int .u64 V, .string st] 55) (below_drewN _ (nq + nq2))
            rw [hW5] at r5
            have e1 := (World.cell?_of_block (a := ⟨gn, k * 4 + 1, none⟩) (b5.block gn hgnl)).trans c1
            have e2 := (World.cell?_of_block (a := ⟨gn, k * 4 + 2, none⟩) (b5.block gn hgnl)).trans c2
            have e3 := (World.cell?_of_block (a := ⟨gd, N, none⟩) (b5.block gd hgdl)).trans dcl
            have e4 := (World.frozen?_of_block (a := ⟨gd, N, none⟩) (b5.block gd hgdl)).trans dcf
            have e5 := r5.at_ (i := 5) rfl
            have e6 := r5.at_ (i := 6) rfl
            simp only [Nat.zero_add] at e5 e6
            have HB5 := hide b5
            clear hW5 c0 c1 c2 dcl dcf f0 f2 hn r5 b5
            refine wp_region_seg (fun w' => ∃ y, w' = W5.ext y) 17 [0, 1, 2, 3, 4, 5, 6, 7, 8, 9, 10, 11] 5 (by kernel_rfl) (by kernel_rfl) ?_ (ext_drew _) ?_
            · intro d v c a w hx
              cases d <;> exact hx
            simp only [pickOps, List.getElem?_cons_zero, List.getElem?_cons_succ, Option.toList_some, List.cons_append, List.nil_append, List.drop_succ_cons, List.drop_zero]
            repeat (go_big_quiet_step (fail))
            refine wpQuiet_nil ?_
            refine segH_one (i := 12) (by kernel_rfl) rfl (by omega) ?_
            go_wp2_with fail
            refine (width_calls 5 (by omega) _).mono ?_
            rintro e w6 ⟨rfl, rfl⟩
            have hwid : (width 5 : Nat) = 8 := rfl
            rw [hwid]
            go_wp2_with fail
            refine ⟨ext_drew _, ?_⟩
            refine segH_more [13, 14, 15, 16] (f := 0) (by kernel_rfl) ?_ (ext_drew _) ?_
            · intro d v c a w hx
              cases d <;> exact hx
            simp only [pickOps, List.getElem?_cons_zero, List.getElem?_cons_succ, Option.toList_some, List.cons_append, List.nil_append, List.drop_succ_cons, List.drop_zero]
            repeat (go_big_quiet_step (fail))
            refine wpQuiet_nil ?_
            refine ⟨by kernel_rfl, ?_⟩
            go_wp2_with fail
            go_ret
            have hand : bits .and .u64 (V : Int) (18446744073709551615 : Int) = ((V &&& 18446744073709551615 : Nat) : Int) := bits_and_u64_nat V 18446744073709551615 o7 (by omega)
            rw [hand]
            have hle : V &&& 18446744073709551615 ≤ 18446744073709551615 := Nat.and_le_right
            exact ⟨⟨_, rfl⟩, h, _, HSD.out _ (HB5.out.step (below_drew _)) (V &&& 18446744073709551615) (by omega), inv_like HV.out (HLK.out _ (by rw [← HE.out.2.1]; exact hle))⟩
        · have g5 : decide ((5 : Int) < (cd : Int)) = false := by simp; omega
          have gN : decide ((dl : Int) ≤ (N : Int)) = true := by simp; omega
          go_enter Faag.func52, Faag.ntmps52
          go_wp2_with fail
          refine wp_region_qd 14 (by kernel_rfl) (by kernel_rfl) ?_
          simp only [List.take_succ_cons, List.take_zero, List.drop_succ_cons, List.drop_zero]
          repeat (go_big_quiet_step (fail))
          refine wpQuiet_nil ?_
          rintro _ ⟨nq, rfl⟩
          go_wp2_with fail
          refine wp_region_qd 21 (by kernel_rfl) (by kernel_rfl) ?_
          simp only [List.take_succ_cons, List.take_zero, List.drop_succ_cons, List.drop_zero]
          repeat (go_big_quiet_step (fail))
          refine wpQuiet_nil ?_
          rintro _ ⟨nq2, rfl⟩
          go_wp2_with fail
          go_ret
          exact MOut.no HM0.out HV.out (((Below.refl _ _).alloc (Nat.le_refl _) _).step (below_drewN _ _)) _
    · have gk : ((kd : Int) != 2) = true := by simp; omega
      clear hk2
      go_enter Faag.func52, Faag.ntmps52
      go_wp2_with fail
      refine wp_region_qd 14 (by kernel_rfl) (by kernel_rfl) ?_
      simp only [List.take_succ_cons, List.take_zero, List.drop_succ_cons, List.drop_zero]
      repeat (go_big_quiet_step (fail))
      refine wpQuiet_nil ?_
      rintro _ ⟨nq, rfl⟩
      go_wp2_with fail
      refine wp_region_qd 21 (by kernel_rfl) (by kernel_rfl) ?_
      simp only [List.take_succ_cons, List.take_zero, List.drop_succ_cons, List.drop_zero]
      repeat (go_big_quiet_step (fail))
      refine wpQuiet_nil ?_
      rintro _ ⟨nq2, rfl⟩
      go_wp2_with fail
      go_ret
      exact MOut.no HM0.out HV.out (((Below.refl _ _).alloc (Nat.le_refl _) _).step (below_drewN _ _)) _
end Go.Proofs.YgcfaaGreat
