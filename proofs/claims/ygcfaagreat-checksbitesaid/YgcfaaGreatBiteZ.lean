import Derived.Test.YgcfaaGreatBiteW
import Derived.Test.YgcfaaGreatOwnW
import Derived.Test.YgcfaaGreatLexD
namespace Go.Proofs.YgcfaaGreat
open Go.RowKit Bits Bd
set_option linter.unusedVariables false
set_option maxRecDepth 100000
set_option linter.unusedSimpArgs false
attribute [local go_sem] World.cell?_ext World.frozen?_ext

set_option maxHeartbeats 16000000 in
/-- Hurt 11. -/
theorem biteW_11 {w : World} {p : Nat} {hh : Nat → Value} {B : Bld} (hb : HB w p hh B) (hbt : BitesW B) :
    Calls Faag.prog 24 #[.pointer (some ⟨p, 0, none⟩), .int .i64 11] w fun e w' => e = .returned (.bool true) ∧ Keeps (blk p hh) w w' := by
  have HBT := hide hbt
  have HB0 := hide hb
  obtain ⟨a, c, see, hsl, hrow⟩ := hb.see3 hbt.even
  have HEV := hide hbt.even
  obtain ⟨⟨a1, a2⟩, ⟨a3, a4⟩, a5, a6, a7, a8⟩ := hbt.even
  have f1 := see.f1
  have hp : p < w.heap.size := lt_of_cell f1
  have HSL := hide hsl
  have HRW := hide hrow
  have HS := hide see
  have HL := hide (And.intro a5 (And.intro a6 (And.intro a7 a8)))
  clear hb hbt see hsl hrow a5 a6 a7 a8
  generalize hno : B.obj.length = no at *
  have HNO := hide hno
  clear hno
  go_enter Faag.func24, Faag.ntmps24
  go_wp2_with fail
  go_loopw [10] (fun q wr => ∃ k : Nat, 1 ≤ k ∧ k ≤ no ∧ q = .int .i64 k ∧ Hid (Below w.heap.size w wr)) (fun q _ => no - (intOf q).toNat)
  case atStart => exact ⟨1, by omega, by omega, rfl, hide (Below.refl _ _)⟩
  case round =>
    obtain ⟨k, hk1, hk, rfl, H⟩ := hrel
    have f1' := (HS.out.below H.out).f1
    rw [HNO.out] at f1'
    clear f1 hp
    by_cases hlt : k < no
    · go_wp2_with fail
      clear f1'
      go_loopw [11] (fun q wr => ∃ g : Nat, 1 ≤ g ∧ g ≤ k ∧ q = .int .i64 g ∧ Hid (Below w.heap.size w wr)) (fun q _ => k - (intOf q).toNat)
      case atStart => exact ⟨1, by omega, by omega, rfl, H⟩
      case round =>
        clear H
        obtain ⟨g, hg1, hg, rfl, H⟩ := hrel
        by_cases hgl : g < k
        · have SE := hide (HS.out.below H.out)
          have f1 := SE.out.f1
          rw [HNO.out] at f1
          have f2 := SE.out.f2
          rw [HL.out.1] at f2
          have f5 := SE.out.f5
          rw [HL.out.2.2.2] at f5
          have zk := SE.out.deads k (by have := HL.out.2.2.2; omega)
          have zg := SE.out.deads g (by have := HL.out.2.2.2; omega)
          have uk := SE.out.ups k (by have := HL.out.1; omega)
          have ug := SE.out.ups g (by have := HL.out.1; omega)
          have bk := SE.out.objs k (by rw [HNO.out]; omega)
          have bg := SE.out.objs g (by rw [HNO.out]; omega)
          have lk := HB0.out.ok.obj k
          have lg := HB0.out.ok.obj g
          change (B.o k).Ok at lk
          change (B.o g).Ok at lg
          have hw1 := hide (own_calls (B.o k) lk)
          have hw2 := hide (own_calls (B.o g) lg)
          have u2 := HBT.out.up k hk1 (by rw [HNO.out]; exact hlt)
          obtain ⟨u, hu⟩ : ∃ u, u = B.up.getD k 0 := ⟨_, rfl⟩
          obtain ⟨v, hv⟩ : ∃ v, v = B.up.getD g 0 := ⟨_, rfl⟩
          obtain ⟨dk, hdk⟩ : ∃ d, d = B.dead.getD k false := ⟨_, rfl⟩
          obtain ⟨dg, hdg⟩ : ∃ d, d = B.dead.getD g false := ⟨_, rfl⟩
          rw [← hdk] at zk
          rw [← hdg] at zg
          rw [← hu] at uk u2
          rw [← hv] at ug
          have bu := SE.out.objs u (by rw [HNO.out]; omega)
          have H11 := hide (HBT.out.b11 k g hg1 hgl (by rw [HNO.out]; exact hlt))
          rw [← hu, ← hv, ← hdk, ← hdg] at H11
          have HUV := hide (And.intro hu hv)
          clear hu hv hdk hdg
          have wl1 := words_le (B.o k)
          have wl2 := words_le (B.o g)
          generalize words (B.o k) = n1 at *
          generalize words (B.o g) = n2 at *
          have HPU := hide (show B.o u = B.o u from rfl)
          obtain ⟨PU, hPU⟩ : ∃ P, P = B.o u := ⟨_, rfl⟩
          rw [← hPU] at bu
          obtain ⟨c4, hc4⟩ : ∃ x, x = (B.o u).code := ⟨_, rfl⟩
          have hc4l : c4 < 256 := by rw [hc4]; exact (HB0.out.ok.obj u).2.2.2.2.1
          rw [← hc4] at H11
          have hcode : PU.code = c4 := by rw [hPU, hc4]
          obtain ⟨K1, K2, K3, K4, K5, K6⟩ := PU
          dsimp only at hcode
          subst hcode
          have HPU2 := hide hPU
          clear hc4 hPU
          generalize B.o k = P at *
          generalize B.o g = Q at *
          obtain ⟨kind, at_, data, ptrs, code, count⟩ := P
          obtain ⟨k1, k2, k3, k4, k5, k6⟩ := Q
          have d0 := bk 0 _ rfl
          have d1 := bk 1 _ rfl
          have d2 := bk 2 _ rfl
          have d3 := bk 3 _ rfl
          have d4 := bk 4 _ rfl
          have d5 := bk 5 _ rfl
          have e0 := bg 0 _ rfl
          have e1 := bg 1 _ rfl
          have e2 := bg 2 _ rfl
          have e3 := bg 3 _ rfl
          have e4 := bg 4 _ rfl
          have e5 := bg 5 _ rfl
          have m4 := bu 4 _ rfl
          unfold ptrC at hw1 hw2
          dsimp only at d0 d1 d2 d3 d4 d5 e0 e1 e2 e3 e4 e5 m4 H11 hw1 hw2
          simp only [Nat.add_zero] at d0 e0
          have HX := hide (show ∃ x, wr = wr.ext x from World.ext_of_below (Below.refl _ _))
          clear bk bg bu HPU
          have SEE2 := SE
          clear SE
          by_cases hn : n1 + n2 = 0
          · have gn : ((n1 : Int) + n2 == 0) = true := by simp; omega
            by_cases hkd1 : kind = 1
            · have gk1 : ((kind : Int) == 1) = true := by simp; omega
              by_cases hkd2 : k1 = 1
              · have gk2 : ((k1 : Int) == 1) = true := by simp; omega
                replace H11 := hide (H11.out hkd1 hkd2 (by omega) (by omega))
                clear hkd1 hkd2 hn
                cases dk with
                | true =>
                  clear H11
                  go_wp2_with fail
                  refine wp_region_qy wr 35 (by kernel_rfl) (by kernel_rfl) HX.out ?_
                  simp only [List.append_eq, List.cons_append, List.nil_append, List.take_succ_cons, List.take_zero, List.drop_succ_cons, List.drop_zero]
                  repeat (go_big_quiet_step (fail))
                  go_big_quiet_step ((go_at_call 29; exact Calls.ext_of (hw1.out _)))
                  repeat (go_big_quiet_step (fail))
                  go_big_quiet_step ((go_at_call 29; exact Calls.ext_of (hw2.out _)))
                  repeat (go_big_quiet_step (fail))
                  refine wpQuiet_nil ?_
                  rintro _ ⟨x1, rfl⟩
                  go_wp2_with fail
                  refine wp_region_qk wr 50 (by kernel_rfl) (by exact lex24b) ⟨x1, rfl⟩ ?_
                  intro KK HK
                  simp only [List.append_eq, List.cons_append, List.nil_append, List.take_succ_cons, List.take_zero, List.drop_succ_cons, List.drop_zero]
                  repeat (go_big_quiet_step (fail))
                  refine wpQuiet_nil ?_
                  refine HK.out _ ?_
                  rintro _ ⟨x2, rfl⟩
                  clear HK
                  go_wp2_with fail
                  go_roundw
                  case rel => exact ⟨g + 1, by omega, by omega, by go_num, hide (H.out.step (World.below_ext _ _))⟩
                  case measure => simp [intOf]; omega
                | false =>
                  cases dg with
                  | true =>
                    clear H11
                    go_wp2_with fail
                    refine wp_region_qy wr 35 (by kernel_rfl) (by kernel_rfl) HX.out ?_
                    simp only [List.append_eq, List.cons_append, List.nil_append, List.take_succ_cons, List.take_zero, List.drop_succ_cons, List.drop_zero]
                    repeat (go_big_quiet_step (fail))
                    go_big_quiet_step ((go_at_call 29; exact Calls.ext_of (hw1.out _)))
                    repeat (go_big_quiet_step (fail))
                    go_big_quiet_step ((go_at_call 29; exact Calls.ext_of (hw2.out _)))
                    repeat (go_big_quiet_step (fail))
                    refine wpQuiet_nil ?_
                    rintro _ ⟨x1, rfl⟩
                    go_wp2_with fail
                    refine wp_region_qk wr 50 (by kernel_rfl) (by exact lex24b) ⟨x1, rfl⟩ ?_
                    intro KK HK
                    simp only [List.append_eq, List.cons_append, List.nil_append, List.take_succ_cons, List.take_zero, List.drop_succ_cons, List.drop_zero]
                    repeat (go_big_quiet_step (fail))
                    refine wpQuiet_nil ?_
                    refine HK.out _ ?_
                    rintro _ ⟨x2, rfl⟩
                    clear HK
                    go_wp2_with fail
                    go_roundw
                    case rel => exact ⟨g + 1, by omega, by omega, by go_num, hide (H.out.step (World.below_ext _ _))⟩
                    case measure => simp [intOf]; omega
                  | false =>
                    by_cases huv : u = v
                    · have guv : ((u : Int) == (v : Int)) = true := by simp; omega
                      by_cases hc7 : K5 = 7
                      · have gc7 : ((K5 : Int) != 7) = false := by simp; omega
                        clear H11 huv hc7
                        go_wp2_with fail
                        refine wp_region_qy wr 35 (by kernel_rfl) (by kernel_rfl) HX.out ?_
                        simp only [List.append_eq, List.cons_append, List.nil_append, List.take_succ_cons, List.take_zero, List.drop_succ_cons, List.drop_zero]
                        repeat (go_big_quiet_step (fail))
                        go_big_quiet_step ((go_at_call 29; exact Calls.ext_of (hw1.out _)))
                        repeat (go_big_quiet_step (fail))
                        go_big_quiet_step ((go_at_call 29; exact Calls.ext_of (hw2.out _)))
                        repeat (go_big_quiet_step (fail))
                        refine wpQuiet_nil ?_
                        rintro _ ⟨x1, rfl⟩
                        go_wp2_with fail
                        refine wp_region_qk wr 50 (by kernel_rfl) (by exact lex24b) ⟨x1, rfl⟩ ?_
                        intro KK HK
                        simp only [List.append_eq, List.cons_append, List.nil_append, List.take_succ_cons, List.take_zero, List.drop_succ_cons, List.drop_zero]
                        repeat (go_big_quiet_step (fail))
                        refine wpQuiet_nil ?_
                        refine HK.out _ ?_
                        rintro _ ⟨x2, rfl⟩
                        clear HK
                        go_wp2_with fail
                        go_roundw
                        case rel => exact ⟨g + 1, by omega, by omega, by go_num, hide (H.out.step (World.below_ext _ _))⟩
                        case measure => simp [intOf]; omega
                      · have gc7 : ((K5 : Int) != 7) = true := by simp; omega
                        obtain ⟨hvia, hnst, hbad⟩ := H11.out rfl rfl huv hc7
                        have HBAD := hide hbad
                        have hfit := HBT.out.fit u (by rw [HNO.out]; omega)
                        have hq2 := hfit.cnt2 hnst
                        have hfits := hfit.fits hnst
                        have hrun := hfit.run hnst (by omega)
                        have lu := HB0.out.ok.obj u
                        change (B.o u).Ok at lu
                        have hso := hide (slotsOf_calls (B.o u) lu)
                        rw [show slotsQ (B.o u) = ((slotsQ (B.o u)).1, (slotsQ (B.o u)).2.1, (slotsQ (B.o u)).2.2.1, (slotsQ (B.o u)).2.2.2) from rfl] at hso
                        generalize (slotsQ (B.o u)).1 = q1 at *
                        generalize (slotsQ (B.o u)).2.1 = q2 at *
                        generalize (slotsQ (B.o u)).2.2.1 = q3 at *
                        generalize (slotsQ (B.o u)).2.2.2 = q4 at *
                        obtain ⟨va, hva⟩ : ∃ x, x = B.via.getD k 0 := ⟨_, rfl⟩
                        obtain ⟨vg, hvg⟩ : ∃ x, x = B.via.getD g 0 := ⟨_, rfl⟩
                        rw [← hva] at hvia HBAD
                        rw [← hvg] at HBAD
                        have hvgl : vg < 256 := by rw [hvg]; exact HB0.out.ok.via g
                        have hatc := hide (at_calls q1 q2 q3 q4 va (by omega) (by omega) (by rcases hrun with ⟨h1, h2⟩ | ⟨h1, h2⟩ <;> omega) (by rcases hrun with ⟨h1, h2⟩ | ⟨h1, h2⟩ <;> omega) (by rcases hrun with ⟨h1, h2⟩ | ⟨h1, h2⟩ <;> omega))
                        have HVV := hide (And.intro hva hvg)
                        have bu := SEE2.out.objs u (by rw [HNO.out]; omega)
                        rw [← HPU2.out] at bu hso
                        have mm0 := bu 0 _ rfl
                        have mm1 := bu 1 _ rfl
                        have mm2 := bu 2 _ rfl
                        have mm3 := bu 3 _ rfl
                        have mm5 := bu 5 _ rfl
                        unfold ptrC slotsC at hso
                        unfold slotsC at hatc
                        dsimp only at mm0 mm1 mm2 mm3 mm5 hso hatc
                        simp only [Nat.add_zero] at mm0
                        have f0 := SEE2.out.f0
                        have f3 := SEE2.out.f3
                        rw [HL.out.2.1] at f3
                        have vk := SEE2.out.vias k (by have := HL.out.2.1; omega)
                        rw [← hva] at vk
                        have hbr := HB0.out.below H.out
                        have ho0 := hbr.own 0 (by omega)
                        rw [(HSL.out 0 (by omega)).1] at ho0
                        have hsl2 : q1 + va < B.A.length := by omega
                        obtain ⟨z0, y0⟩ := own_cell ho0 (U_get (l := B.A) (i := q1 + va) hsl2)
                        obtain ⟨nA, hnA⟩ : ∃ n, n = B.A.length := ⟨_, rfl⟩
                        rw [← hnA] at f0 hsl2
                        have hnl : nA ≤ 256 := by omega
                        have HBR := hide hbr
                        clear H11 huv hc7 hbad hfit lu hva hvg hbr ho0 hnA hrun hfits hq2 bu
                        go_wp2_with fail
                        refine wp_region_qy wr 35 (by kernel_rfl) (by kernel_rfl) HX.out ?_
                        simp only [List.append_eq, List.cons_append, List.nil_append, List.take_succ_cons, List.take_zero, List.drop_succ_cons, List.drop_zero]
                        repeat (go_big_quiet_step (fail))
                        go_big_quiet_step ((go_at_call 29; exact Calls.ext_of (hw1.out _)))
                        repeat (go_big_quiet_step (fail))
                        go_big_quiet_step ((go_at_call 29; exact Calls.ext_of (hw2.out _)))
                        repeat (go_big_quiet_step (fail))
                        refine wpQuiet_nil ?_
                        rintro _ ⟨x1, rfl⟩
                        go_wp2_with fail
                        refine wp_region_qk wr 50 (by kernel_rfl) (by exact lex24b) ⟨x1, rfl⟩ ?_
                        intro KK HK
                        simp only [List.append_eq, List.cons_append, List.nil_append, List.take_succ_cons, List.take_zero, List.drop_succ_cons, List.drop_zero]
                        repeat (go_big_quiet_step (fail))
                        refine wpQuiet_nil ?_
                        refine HK.out _ ?_
                        rintro _ ⟨x2, rfl⟩
                        clear HK
                        go_wp2_with fail
                        refine wp_region_qy wr 27 (by kernel_rfl) (by kernel_rfl) ⟨x2, rfl⟩ ?_
                        simp only [List.append_eq, List.cons_append, List.nil_append, List.take_succ_cons, List.take_zero, List.drop_succ_cons, List.drop_zero]
                        repeat (go_big_quiet_step (fail))
                        go_big_quiet_step ((go_at_call 67; exact Calls.ext_of (hso.out _)))
                        repeat (go_big_quiet_step (fail))
                        go_big_quiet_step ((go_at_call 68; exact Calls.ext_of (hatc.out _)))
                        repeat (go_big_quiet_step (fail))
                        refine wpQuiet_nil ?_
                        rintro _ ⟨x3, rfl⟩
                        go_wp2_with fail
                        have hset1 := (HBR.out.ext x3).setA (i := q1 + va) (v := 0) (HSL.out 0 (by omega)).1 (by omega)
                        have KW1 : Keeps (blk p hh) w (World.setCell (wr.ext x3) ⟨a 0, q1 + va, none⟩ (.int .u64 0)) := (keeps_step ((Keeps.of_below H.out).mono (fun j hj hx => by omega)) (World.below_ext _ x3)).setCell (p := ⟨a 0, q1 + va, none⟩) (fun _ => blk_row p (i := 0) (by omega) (HSL.out 0 (by omega)).1) _
                        have HSET1 := hide hset1
                        have HKW1 := hide KW1
                        change Hid (HB (World.setCell (wr.ext x3) ⟨a 0, q1 + va, none⟩ (.int .u64 0)) p hh _) at HSET1
                        clear hset1 KW1 hso hatc hw1 hw2
                        generalize World.setCell (wr.ext x3) _ _ = W4 at *
                        have f3' := (HSET1.out.cell 3 (by omega)).1
                        rw [(HSL.out 3 (by omega)).1] at f3'
                        simp only [fOff, Nat.reduceAdd] at f3'
                        rw [show B.len 3 = no from HL.out.2.1] at f3'
                        have ho3 := HSET1.out.own 3 (by omega)
                        rw [(HSL.out 3 (by omega)).1] at ho3
                        obtain ⟨z3, y3⟩ := own_cell ho3 (rowU8_get (l := B.via) (j := k) (by have := HL.out.2.1; omega))
                        obtain ⟨z3g, y3g⟩ := own_cell ho3 (rowU8_get (l := B.via) (j := g) (by have := HL.out.2.1; omega))
                        rw [← HVV.out.2] at z3g
                        clear ho3
                        go_wp2_with fail
                        refine wp_region_qd 12 (by kernel_rfl) (by kernel_rfl) ?_
                        simp only [List.take_succ_cons, List.take_zero, List.drop_succ_cons, List.drop_zero]
                        repeat (go_big_quiet_step (fail))
                        refine wpQuiet_nil ?_
                        rintro _ ⟨nq, rfl⟩
                        go_wp2_with fail
                        have hset := (HSET1.out.below (below_drewN W4 nq)).setVia (x := k) (v := vg) (HSL.out 3 (by omega)).1 hvgl
                        have KW : Keeps (blk p hh) w (World.setCell _ ⟨a 3, k, none⟩ (.int .u8 (vg : Int))) := (keeps_step HKW1.out (below_drewN W4 nq)).setCell (p := ⟨a 3, k, none⟩) (fun _ => blk_row p (i := 3) (by omega) (HSL.out 3 (by omega)).1) _
                        refine (check_calls hset (by show (B.A.set _ _).length ≤ _; rw [List.length_set]; omega) (by show B.obj.length ≤ _; rw [HNO.out]; omega)).mono ?_
                        rintro r w9 ⟨⟨r', rfl, hr⟩, hb9⟩
                        have hr' : r' = false := by
                          cases r' with
                          | false => rfl
                          | true => exact absurd (hr.1 rfl) HBAD.out
                        subst hr'
                        have KF := hide (keeps_step KW hb9)
                        clear hr hb9 hset KW
                        go_wp2_with fail
                        go_ret
                        exact ⟨rfl, KF.out⟩
                    · have guv : ((u : Int) == (v : Int)) = false := by simp; omega
                      clear H11 huv
                      go_wp2_with fail
                      refine wp_region_qy wr 35 (by kernel_rfl) (by kernel_rfl) HX.out ?_
                      simp only [List.append_eq, List.cons_append, List.nil_append, List.take_succ_cons, List.take_zero, List.drop_succ_cons, List.drop_zero]
                      repeat (go_big_quiet_step (fail))
                      go_big_quiet_step ((go_at_call 29; exact Calls.ext_of (hw1.out _)))
                      repeat (go_big_quiet_step (fail))
                      go_big_quiet_step ((go_at_call 29; exact Calls.ext_of (hw2.out _)))
                      repeat (go_big_quiet_step (fail))
                      refine wpQuiet_nil ?_
                      rintro _ ⟨x1, rfl⟩
                      go_wp2_with fail
                      refine wp_region_qk wr 50 (by kernel_rfl) (by exact lex24b) ⟨x1, rfl⟩ ?_
                      intro KK HK
                      simp only [List.append_eq, List.cons_append, List.nil_append, List.take_succ_cons, List.take_zero, List.drop_succ_cons, List.drop_zero]
                      repeat (go_big_quiet_step (fail))
                      refine wpQuiet_nil ?_
                      refine HK.out _ ?_
                      rintro _ ⟨x2, rfl⟩
                      clear HK
                      go_wp2_with fail
                      go_roundw
                      case rel => exact ⟨g + 1, by omega, by omega, by go_num, hide (H.out.step (World.below_ext _ _))⟩
                      case measure => simp [intOf]; omega
              · have gk2 : ((k1 : Int) == 1) = false := by simp; omega
                clear hkd1 hkd2 hn H11
                go_wp2_with fail
                refine wp_region_qy wr 35 (by kernel_rfl) (by kernel_rfl) HX.out ?_
                simp only [List.append_eq, List.cons_append, List.nil_append, List.take_succ_cons, List.take_zero, List.drop_succ_cons, List.drop_zero]
                repeat (go_big_quiet_step (fail))
                go_big_quiet_step ((go_at_call 29; exact Calls.ext_of (hw1.out _)))
                repeat (go_big_quiet_step (fail))
                go_big_quiet_step ((go_at_call 29; exact Calls.ext_of (hw2.out _)))
                repeat (go_big_quiet_step (fail))
                refine wpQuiet_nil ?_
                rintro _ ⟨x1, rfl⟩
                go_wp2_with fail
                refine wp_region_qk wr 50 (by kernel_rfl) (by exact lex24b) ⟨x1, rfl⟩ ?_
                intro KK HK
                simp only [List.append_eq, List.cons_append, List.nil_append, List.take_succ_cons, List.take_zero, List.drop_succ_cons, List.drop_zero]
                repeat (go_big_quiet_step (fail))
                refine wpQuiet_nil ?_
                refine HK.out _ ?_
                rintro _ ⟨x2, rfl⟩
                clear HK
                go_wp2_with fail
                go_roundw
                case rel => exact ⟨g + 1, by omega, by omega, by go_num, hide (H.out.step (World.below_ext _ _))⟩
                case measure => simp [intOf]; omega
            · have gk1 : ((kind : Int) == 1) = false := by simp; omega
              clear hkd1 hn H11
              go_wp2_with fail
              refine wp_region_qy wr 35 (by kernel_rfl) (by kernel_rfl) HX.out ?_
              simp only [List.append_eq, List.cons_append, List.nil_append, List.take_succ_cons, List.take_zero, List.drop_succ_cons, List.drop_zero]
              repeat (go_big_quiet_step (fail))
              go_big_quiet_step ((go_at_call 29; exact Calls.ext_of (hw1.out _)))
              repeat (go_big_quiet_step (fail))
              go_big_quiet_step ((go_at_call 29; exact Calls.ext_of (hw2.out _)))
              repeat (go_big_quiet_step (fail))
              refine wpQuiet_nil ?_
              rintro _ ⟨x1, rfl⟩
              go_wp2_with fail
              refine wp_region_qk wr 50 (by kernel_rfl) (by exact lex24b) ⟨x1, rfl⟩ ?_
              intro KK HK
              simp only [List.append_eq, List.cons_append, List.nil_append, List.take_succ_cons, List.take_zero, List.drop_succ_cons, List.drop_zero]
              repeat (go_big_quiet_step (fail))
              refine wpQuiet_nil ?_
              refine HK.out _ ?_
              rintro _ ⟨x2, rfl⟩
              clear HK
              go_wp2_with fail
              go_roundw
              case rel => exact ⟨g + 1, by omega, by omega, by go_num, hide (H.out.step (World.below_ext _ _))⟩
              case measure => simp [intOf]; omega
          · have gn : ((n1 : Int) + n2 == 0) = false := by simp; omega
            clear hn H11
            go_wp2_with fail
            refine wp_region_qy wr 35 (by kernel_rfl) (by kernel_rfl) HX.out ?_
            simp only [List.append_eq, List.cons_append, List.nil_append, List.take_succ_cons, List.take_zero, List.drop_succ_cons, List.drop_zero]
            repeat (go_big_quiet_step (fail))
            go_big_quiet_step ((go_at_call 29; exact Calls.ext_of (hw1.out _)))
            repeat (go_big_quiet_step (fail))
            go_big_quiet_step ((go_at_call 29; exact Calls.ext_of (hw2.out _)))
            repeat (go_big_quiet_step (fail))
            refine wpQuiet_nil ?_
            rintro _ ⟨x1, rfl⟩
            go_wp2_with fail
            refine wp_region_qk wr 50 (by kernel_rfl) (by exact lex24b) ⟨x1, rfl⟩ ?_
            intro KK HK
            simp only [List.append_eq, List.cons_append, List.nil_append, List.take_succ_cons, List.take_zero, List.drop_succ_cons, List.drop_zero]
            repeat (go_big_quiet_step (fail))
            refine wpQuiet_nil ?_
            refine HK.out _ ?_
            rintro _ ⟨x2, rfl⟩
            clear HK
            go_wp2_with fail
            go_roundw
            case rel => exact ⟨g + 1, by omega, by omega, by go_num, hide (H.out.step (World.below_ext _ _))⟩
            case measure => simp [intOf]; omega
        · go_wp2_with fail
          go_roundw
          case rel => exact ⟨k + 1, by omega, by omega, by go_num, H⟩
          case measure => simp [intOf]; omega
    · go_wp2_with fail
      go_ret
      exact ⟨rfl, (Keeps.of_below H.out).mono (fun j hj hx => by omega)⟩
end Go.Proofs.YgcfaaGreat
