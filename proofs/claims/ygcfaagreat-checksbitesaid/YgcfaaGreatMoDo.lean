import Derived.Test.YgcfaaGreatMoListA
import Derived.Test.YgcfaaGreatMoListB
import Derived.Test.YgcfaaGreatMoText
import Derived.Test.YgcfaaGreatMoData
import Derived.Test.YgcfaaGreatMoElem
import Derived.Test.YgcfaaGreatMoDrop
namespace Go.Proofs.YgcfaaGreat
open Go.RowKit Bits Bd
set_option linter.unusedVariables false
set_option maxRecDepth 100000
set_option linter.unusedSimpArgs false
attribute [local go_sem] World.cell?_ext World.frozen?_ext

theorem mlist_calls {w : World} {p : Nat} {h : Nat → Value} {M : Mo} (m : HM true w p h M) (v : InvM M) (op : Opn) (hop : op.Ok) (hH : op.h < M.H.length) :
    Calls Faag.prog 49 #[.pointer (some ⟨p, 0, none⟩), .agg (opC op).toArray] w (MOut w p h M.N.length) := by
  by_cases h7 : op.x = 7
  · exact mlistB_calls m v op hop hH h7
  · exact mlistA_calls m v op hop hH h7

set_option maxHeartbeats 16000000 in
theorem mdo_calls {w : World} {p : Nat} {h : Nat → Value} {M : Mo} (m : HM true w p h M) (v : InvM M) (op : Opn) (hop : op.Ok) (hs : op.s.size ≤ 9223372036854775807) :
    Calls Faag.prog 16 #[.pointer (some ⟨p, 0, none⟩), .agg (opC op).toArray] w (MOut w p h M.N.length) := by
  have HC1 := hide (fun (hH : op.h < M.H.length) (W : World) (b : Below w.heap.size w W) => mlist_calls (m.below b) v op hop hH)
  have HC2 := hide (fun (hH : op.h < M.H.length) (W : World) (b : Below w.heap.size w W) => mtext_calls (m.below b) v op hop hs hH)
  have HC3 := hide (fun (hH : op.h < M.H.length) (W : World) (b : Below w.heap.size w W) => mdata_calls (m.below b) v op hop hH)
  have HC4 := hide (fun (hH : op.h < M.H.length) (W : World) (b : Below w.heap.size w W) => melem_calls (m.below b) v op hop hH)
  have HC5 := hide (fun (hH : op.h < M.H.length) (W : World) (b : Below w.heap.size w W) => mdrop_calls (m.below b) v op hop hH)
  have HOP := hide hop
  obtain ⟨kind, x, i, X, Y, N, V, st⟩ := op
  obtain ⟨o1, o2, o3, o4, o5, o6, o7⟩ := hop
  unfold opC at HC1 HC2 HC3 HC4 HC5 ⊢
  dsimp only at o1 o2 o3 o4 o5 o6 o7 HC1 HC2 HC3 HC4 HC5 hs ⊢
  have HM0 := hide m
  have HV := hide v
  have f2 := m.f2.1
  obtain ⟨ha, hc, hh⟩ := m.n1
  have hnl := m.nh
  have hpl := m.lt
  obtain ⟨nH, hnH⟩ : ∃ nH, nH = M.H.length := ⟨_, rfl⟩
  rw [← hnH] at hh hnl
  rw [hh] at f2
  have HNH := hide hnH
  by_cases hx : x < nH
  · obtain ⟨gh, ch, hgh, hhc⟩ := m.hand (i := x) (by rw [← hnH]; exact hx)
    have hhe : ha = some ⟨gh, 0, none⟩ := by have := hh.symm.trans hgh; cases this; rfl
    subst hhe
    have c4 := (hhc 4 _ rfl).1
    have hghl : gh < w.heap.size := lt_of_cell c4
    have HHH := hide (show x < M.H.length by rw [← hnH]; exact hx)
    generalize (M.hd x).dead = dd at *
    clear hhc hgh m v hnH hh
    have gx : decide (nH ≤ x) = false := by simp; omega
    cases dd
    · have hk : kind = 0 ∨ kind = 1 ∨ kind = 2 ∨ kind = 3 ∨ kind = 4 ∨ kind = 5 ∨ 5 < kind := by omega
      rcases hk with rfl | rfl | rfl | rfl | rfl | rfl | hk
      · clear HC1 HC2 HC3 HC4 HC5
        go_enter Faag.func16, Faag.ntmps16
        go_wp2_with fail
        refine wp_region_qd 16 (by kernel_rfl) (by kernel_rfl) ?_
        simp only [List.take_succ_cons, List.take_zero, List.drop_succ_cons, List.drop_zero]
        repeat (go_big_quiet_step (fail))
        refine wpQuiet_nil ?_
        rintro _ ⟨nq, rfl⟩
        go_wp2_with fail
        obtain ⟨W0, hW0⟩ : ∃ W0, W0 = (w.alloc (.cells #[.int .u8 0, .int .u8 x, .int .u8 i, .int .u8 X, .int .u8 Y, .int .u16 N, .int .u64 V, .string st] 55)).drewN nq := ⟨_, rfl⟩
        have b0 : Below w.heap.size w W0 := by rw [hW0]; exact ((Below.refl _ _).alloc (Nat.le_refl _) _).step (below_drewN _ _)
        have hs0 : W0.heap.size = w.heap.size + 1 := by rw [hW0]; simp
        have r3 : RowAt W0 w.heap.size 0 [.int .u8 0, .int .u8 x, .int .u8 i, .int .u8 X, .int .u8 Y, .int .u16 N, .int .u64 V, .string st] := by rw [hW0]; exact row_below (RowAt.of_alloc w _ 55) (below_drewN _ _)
        obtain ⟨W, hW⟩ : ∃ W, W = World.alloc ((w.alloc (.cells #[.int .u8 0, .int .u8 x, .int .u8 i, .int .u8 X, .int .u8 Y, .int .u16 N, .int .u64 V, .string st] 55)).drewN nq) (.cells #[.int .u8 1, .int .u16 0, .int .u8 X, .int .u8 Y, .int .u8 0, .int .u16 0] 62) := ⟨_, rfl⟩
        rw [← hW]
        rw [← hW0] at hW
        have bW1 : Below W0.heap.size W0 W := by rw [hW]; exact (Below.refl _ _).alloc (Nat.le_refl _) _
        have q3 : RowAt W w.heap.size 0 [.int .u8 0, .int .u8 x, .int .u8 i, .int .u8 X, .int .u8 Y, .int .u16 N, .int .u64 V, .string st] := row_below r3 bW1
        have q5 : RowAt W (w.heap.size + 1) 0 [.int .u8 1, .int .u16 0, .int .u8 X, .int .u8 Y, .int .u8 0, .int .u16 0] := by
          have := RowAt.of_alloc W0 [.int .u8 1, .int .u16 0, .int .u8 X, .int .u8 Y, .int .u8 0, .int .u16 0] 62
          rw [hs0] at this
          rw [hW]; exact this
        have bW : Below w.heap.size w W := b0.step bW1
        obtain ⟨B3, hB3⟩ : ∃ B, B = w.heap.size := ⟨_, rfl⟩
        obtain ⟨B5, hB5⟩ : ∃ B, B = w.heap.size + 1 := ⟨_, rfl⟩
        rw [← hB5] at q5 ⊢
        rw [← hB3] at q3 ⊢
        have HBB := hide (And.intro hB3 hB5)
        have u3 := q3
        have k0 := u3.at_ (i := 0) rfl
        have k1 := u3.at_ (i := 1) rfl
        have k2 := u3.at_ (i := 2) rfl
        have k3 := u3.at_ (i := 3) rfl
        have k4 := u3.at_ (i := 4) rfl
        have k5 := u3.at_ (i := 5) rfl
        have k6 := u3.at_ (i := 6) rfl
        have k7 := u3.at_ (i := 7) rfl
        have u5 := q5
        have l0 := u5.at_ (i := 0) rfl
        have l1 := u5.at_ (i := 1) rfl
        have l2 := u5.at_ (i := 2) rfl
        have l3 := u5.at_ (i := 3) rfl
        have l4 := u5.at_ (i := 4) rfl
        have l5 := u5.at_ (i := 5) rfl
        simp only [Nat.zero_add] at k0 k1 k2 k3 k4 k5 k6 k7 l0 l1 l2 l3 l4 l5
        have HBW := hide bW
        clear hB3 hB5 hW hW0 r3 q3 q5 u3 u5 bW1 b0 hs0 f2 c4 bW
        refine wp_region_seg (fun w' => ∃ y, w' = W.ext y) 13 [0, 1, 2] 10 (by kernel_rfl) (by kernel_rfl) ?_ (ext_drew _) ?_
        · intro d v c a w hx
          cases d <;> exact hx
        simp only [pickOps, List.getElem?_cons_zero, List.getElem?_cons_succ, Option.toList_some, List.cons_append, List.nil_append, List.drop_succ_cons, List.drop_zero]
        repeat (go_big_quiet_step (fail))
        refine wpQuiet_nil ?_
        refine segH_one (i := 3) (by kernel_rfl) rfl (by omega) ?_
        go_wp2_with fail
        refine (mroom_calls (HM0.out.below (HBW.out.step (below_drew W))) HV.out ⟨0, x, i, X, Y, N, V, st⟩ HOP.out ⟨1, 0, X, Y, 0, 0⟩ ⟨by first | decide | (dsimp only; omega), by first | decide | (dsimp only; omega), o4, o5, by first | decide | (dsimp only; omega), by first | decide | (dsimp only; omega)⟩ 1 (by omega) HHH.out).mono ?_
        rintro e w1 ⟨⟨b, rfl, hbt⟩, b1⟩
        have b1' : Below W.heap.size W w1 := (below_drew W).step b1
        have HB1 := hide b1'
        clear b1 b1'
        cases b
        · go_wp2_with fail
          refine ⟨World.ext_of_below HB1.out, ?_⟩
          refine segH_more [4, 5, 6, 7, 8, 9, 10, 11] (f := 1) (by kernel_rfl) ?_ (World.ext_of_below HB1.out) ?_
          · intro d v c a w hx
            cases d <;> exact hx
          simp only [pickOps, List.getElem?_cons_zero, List.getElem?_cons_succ, Option.toList_some, List.cons_append, List.nil_append, List.drop_succ_cons, List.drop_zero]
          repeat (go_big_quiet_step (fail))
          refine wpQuiet_nil ?_
          refine segH_one (i := 12) (by kernel_rfl) rfl (by omega) ?_
          go_wp2_with fail
          refine ⟨World.ext_of_below HB1.out, ?_⟩
          refine ⟨by kernel_rfl, ?_⟩
          go_wp2_with fail
          go_ret
          exact MOut.no HM0.out HV.out (HBW.out.step HB1.out) _
        · have rp := hbt rfl
          have hws := words_struct (p := ⟨1, 0, X, Y, 0, 0⟩) rfl rp.2.2.2.1
          dsimp only at hws
          have HRP := hide rp
          have HWS := hide hws
          clear hbt rp hws
          go_wp2_with fail
          refine ⟨World.ext_of_below HB1.out, ?_⟩
          refine segH_more [4, 5, 6, 7, 8, 9, 10, 11] (f := 1) (by kernel_rfl) ?_ (World.ext_of_below HB1.out) ?_
          · intro d v c a w hx
            cases d <;> exact hx
          simp only [pickOps, List.getElem?_cons_zero, List.getElem?_cons_succ, Option.toList_some, List.cons_append, List.nil_append, List.drop_succ_cons, List.drop_zero]
          repeat (go_big_quiet_step (fail))
          refine wpQuiet_nil ?_
          refine segH_one (i := 12) (by kernel_rfl) rfl (by omega) ?_
          go_wp2_with fail
          refine (structOf_calls _ X Y o4 o5).mono ?_
          rintro e w4 ⟨dv, kv, rfl, od, okv, fd, fk, fdk, b4⟩
          obtain ⟨da, dc, hdv, _⟩ := own_len od
          obtain ⟨ka, kc, hkv, _⟩ := own_len okv
          subst hdv
          subst hkv
          have HO := hide (And.intro od (And.intro okv (And.intro fd (And.intro fk fdk))))
          have b4' : Below W.heap.size W w4 := HB1.out.step b4
          have HB4 := hide b4'
          clear od okv fd fk fdk b4 b4'
          go_wp2_with fail
          refine ⟨World.ext_of_below HB4.out, ?_⟩
          refine ⟨by kernel_rfl, ?_⟩
          have hwW := HBW.out.size
          have hwW1 := HB1.out.size
          go_wp2_with fail
          refine (mhang_calls ((MS.refl HM0.out).below (HBW.out.step HB4.out)) HV.out ⟨0, x, i, X, Y, N, V, st⟩ HOP.out ⟨1, 0, X, Y, 0, 0⟩ ⟨by first | decide | (dsimp only; omega), by first | decide | (dsimp only; omega), o4, o5, by first | decide | (dsimp only; omega), by first | decide | (dsimp only; omega)⟩ (stN X Y) (.slice da X dc) (.slice ka Y kc) ?_ ?_ ?_ ?_ HO.out.2.2.2.2 (ok_struct (by omega) (by omega)) HHH.out HRP.out.1 HRP.out.2.2.1).mono ?_
          · show World.ownsRow _ 0 31 1 _ (List.replicate X 0).length _
            rw [List.length_replicate]; exact HO.out.1
          · show World.ownsRow _ 0 40 1 _ (List.replicate Y (-1 : Int)).length _
            rw [List.length_replicate]; exact HO.out.2.1
          · intro j hj
            have := HO.out.2.2.1 j hj
            exact ⟨by omega, fun q => by have := HM0.out.blk_lt q; omega⟩
          · intro j hj
            have := HO.out.2.2.2.1 j hj
            exact ⟨by omega, fun q => by have := HM0.out.blk_lt q; omega⟩
          · rintro e w6 ⟨rfl, h', s'⟩
            go_wp2_with fail
            go_ret
            refine ⟨⟨_, rfl⟩, h', _, s', invM_room HV.out HRP.out (by omega) (new_struct HWS.out.1 HWS.out.2.1) ?_⟩
            rw [HWS.out.2.2]
            unfold twB
            rw [if_pos (show (stN X Y).kind = 1 from rfl)]
            show (List.replicate X 0).length + (List.replicate Y (-1 : Int)).length ≤ X + Y
            rw [List.length_replicate, List.length_replicate]; exact Nat.le_refl _
      · clear HC2 HC3 HC4 HC5
        go_enter Faag.func16, Faag.ntmps16
        go_wp2_with fail
        refine wp_region_qd 16 (by kernel_rfl) (by kernel_rfl) ?_
        simp only [List.take_succ_cons, List.take_zero, List.drop_succ_cons, List.drop_zero]
        repeat (go_big_quiet_step (fail))
        refine wpQuiet_nil ?_
        rintro _ ⟨nq, rfl⟩
        go_wp2_with fail
        have bW : Below w.heap.size w ((w.alloc (.cells #[.int .u8 1, .int .u8 x, .int .u8 i, .int .u8 X, .int .u8 Y, .int .u16 N, .int .u64 V, .string st] 55)).drewN nq) := ((Below.refl _ _).alloc (Nat.le_refl _) _).step (below_drewN _ _)
        refine (HC1.out HHH.out _ bW).mono ?_
        rintro e w2 ⟨⟨b, rfl⟩, h', M', s', v'⟩
        have HF := hide (And.intro (((MS.refl HM0.out).below bW).trans s') v')
        clear bW s' v' HC1
        go_wp2_with fail
        go_ret
        exact ⟨⟨_, rfl⟩, h', M', HF.out⟩
      · clear HC1 HC3 HC4 HC5
        go_enter Faag.func16, Faag.ntmps16
        go_wp2_with fail
        refine wp_region_qd 16 (by kernel_rfl) (by kernel_rfl) ?_
        simp only [List.take_succ_cons, List.take_zero, List.drop_succ_cons, List.drop_zero]
        repeat (go_big_quiet_step (fail))
        refine wpQuiet_nil ?_
        rintro _ ⟨nq, rfl⟩
        go_wp2_with fail
        have bW : Below w.heap.size w ((w.alloc (.cells #[.int .u8 2, .int .u8 x, .int .u8 i, .int .u8 X, .int .u8 Y, .int .u16 N, .int .u64 V, .string st] 55)).drewN nq) := ((Below.refl _ _).alloc (Nat.le_refl _) _).step (below_drewN _ _)
        refine (HC2.out HHH.out _ bW).mono ?_
        rintro e w2 ⟨⟨b, rfl⟩, h', M', s', v'⟩
        have HF := hide (And.intro (((MS.refl HM0.out).below bW).trans s') v')
        clear bW s' v' HC2
        go_wp2_with fail
        go_ret
        exact ⟨⟨_, rfl⟩, h', M', HF.out⟩
      · clear HC1 HC2 HC4 HC5
        go_enter Faag.func16, Faag.ntmps16
        go_wp2_with fail
        refine wp_region_qd 16 (by kernel_rfl) (by kernel_rfl) ?_
        simp only [List.take_succ_cons, List.take_zero, List.drop_succ_cons, List.drop_zero]
        repeat (go_big_quiet_step (fail))
        refine wpQuiet_nil ?_
        rintro _ ⟨nq, rfl⟩
        go_wp2_with fail
        have bW : Below w.heap.size w ((w.alloc (.cells #[.int .u8 3, .int .u8 x, .int .u8 i, .int .u8 X, .int .u8 Y, .int .u16 N, .int .u64 V, .string st] 55)).drewN nq) := ((Below.refl _ _).alloc (Nat.le_refl _) _).step (below_drewN _ _)
        refine (HC3.out HHH.out _ bW).mono ?_
        rintro e w2 ⟨⟨b, rfl⟩, h', M', s', v'⟩
        have HF := hide (And.intro (((MS.refl HM0.out).below bW).trans s') v')
        clear bW s' v' HC3
        go_wp2_with fail
        go_ret
        exact ⟨⟨_, rfl⟩, h', M', HF.out⟩
      · clear HC1 HC2 HC3 HC5
        go_enter Faag.func16, Faag.ntmps16
        go_wp2_with fail
        refine wp_region_qd 16 (by kernel_rfl) (by kernel_rfl) ?_
        simp only [List.take_succ_cons, List.take_zero, List.drop_succ_cons, List.drop_zero]
        repeat (go_big_quiet_step (fail))
        refine wpQuiet_nil ?_
        rintro _ ⟨nq, rfl⟩
        go_wp2_with fail
        have bW : Below w.heap.size w ((w.alloc (.cells #[.int .u8 4, .int .u8 x, .int .u8 i, .int .u8 X, .int .u8 Y, .int .u16 N, .int .u64 V, .string st] 55)).drewN nq) := ((Below.refl _ _).alloc (Nat.le_refl _) _).step (below_drewN _ _)
        refine (HC4.out HHH.out _ bW).mono ?_
        rintro e w2 ⟨⟨b, rfl⟩, h', M', s', v'⟩
        have HF := hide (And.intro (((MS.refl HM0.out).below bW).trans s') v')
        clear bW s' v' HC4
        go_wp2_with fail
        go_ret
        exact ⟨⟨_, rfl⟩, h', M', HF.out⟩
      · clear HC1 HC2 HC3 HC4
        go_enter Faag.func16, Faag.ntmps16
        go_wp2_with fail
        refine wp_region_qd 16 (by kernel_rfl) (by kernel_rfl) ?_
        simp only [List.take_succ_cons, List.take_zero, List.drop_succ_cons, List.drop_zero]
        repeat (go_big_quiet_step (fail))
        refine wpQuiet_nil ?_
        rintro _ ⟨nq, rfl⟩
        go_wp2_with fail
        have bW : Below w.heap.size w ((w.alloc (.cells #[.int .u8 5, .int .u8 x, .int .u8 i, .int .u8 X, .int .u8 Y, .int .u16 N, .int .u64 V, .string st] 55)).drewN nq) := ((Below.refl _ _).alloc (Nat.le_refl _) _).step (below_drewN _ _)
        refine (HC5.out HHH.out _ bW).mono ?_
        rintro e w2 ⟨⟨b, rfl⟩, h', M', s', v'⟩
        have HF := hide (And.intro (((MS.refl HM0.out).below bW).trans s') v')
        clear bW s' v' HC5
        go_wp2_with fail
        go_ret
        exact ⟨⟨_, rfl⟩, h', M', HF.out⟩
      · clear HC1 HC2 HC3 HC4 HC5
        go_enter Faag.func16, Faag.ntmps16
        go_wp2_with fail
        refine wp_region_qd 16 (by kernel_rfl) (by kernel_rfl) ?_
        simp only [List.take_succ_cons, List.take_zero, List.drop_succ_cons, List.drop_zero]
        repeat (go_big_quiet_step (fail))
        refine wpQuiet_nil ?_
        rintro _ ⟨nq, rfl⟩
        go_wp2_with fail
        go_ret
        exact MOut.no HM0.out HV.out (((Below.refl _ _).alloc (Nat.le_refl _) _).step (below_drewN _ _)) _
    · clear HC1 HC2 HC3 HC4 HC5
      go_enter Faag.func16, Faag.ntmps16
      go_wp2_with fail
      refine wp_region_qd 16 (by kernel_rfl) (by kernel_rfl) ?_
      simp only [List.take_succ_cons, List.take_zero, List.drop_succ_cons, List.drop_zero]
      repeat (go_big_quiet_step (fail))
      refine wpQuiet_nil ?_
      rintro _ ⟨nq, rfl⟩
      go_wp2_with fail
      go_ret
      exact MOut.no HM0.out HV.out (((Below.refl _ _).alloc (Nat.le_refl _) _).step (below_drewN _ _)) _
  · have gx : decide (nH ≤ x) = true := by simp; omega
    clear m v hnH hh HC1 HC2 HC3 HC4 HC5
    go_enter Faag.func16, Faag.ntmps16
    go_wp2_with fail
    refine wp_region_qd 16 (by kernel_rfl) (by kernel_rfl) ?_
    simp only [List.take_succ_cons, List.take_zero, List.drop_succ_cons, List.drop_zero]
    repeat (go_big_quiet_step (fail))
    refine wpQuiet_nil ?_
    rintro _ ⟨nq, rfl⟩
    go_wp2_with fail
    go_ret
    exact MOut.no HM0.out HV.out (((Below.refl _ _).alloc (Nat.le_refl _) _).step (below_drewN _ _)) _
end Go.Proofs.YgcfaaGreat
