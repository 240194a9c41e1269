import Derived.Test.YgcfaaGreatCurA
namespace Go.Proofs.YgcfaaGreat
open Go.RowKit Bits Bd
set_option linter.unusedVariables false
set_option maxRecDepth 100000
set_option linter.unusedSimpArgs false
attribute [local go_sem] World.cell?_ext World.frozen?_ext

/-- What Step leaves of a cursor. -/
def CurOut (B0 : Nat) (w : World) (b : Nat) (sv : Value) (sn : Nat) (e : Ending) (w' : World) : Prop := RetSomeB e ∧ (∃ i' ov' on', CurAt B0 w' b sv sn i' ov' on') ∧ Below B0 w w'

theorem slice_mid (g i n O : Nat) (h : O + 8 ≤ n) (W : World) : (Instr.sliceAt 34 (.slice (some ⟨g, i, none⟩) n n) (some (.int .i64 (O : Int))) (some (.int .i64 ((O : Int) + 8))) none).run Faag.prog W = .ok (.slice (some ⟨g, i + O, none⟩) 8 (n - O)) W := by
  rw [run_sliceAt_slice W 34 _ _ _ _ under34, run_slice_lh W 34 (some ⟨g, i, none⟩) n n under34 .i64 .i64 O ((O : Int) + 8) (by omega) (by omega) (by omega), size34, Int.toNat_natCast, Result.andThen_ok]
  unfold sliced
  rw [if_neg (by omega), Option.map_some, Addr.add_mid, Nat.mul_one, show ((O : Int) + 8).toNat - O = 8 by omega]
theorem under124 : Faag.prog.underlying 124 = some (.array 8 5) := by kernel_rfl
theorem array8 (g o c : Nat) (W : World) : (Instr.arrayAt 124 (.slice (some ⟨g, o, none⟩) 8 c)).run Faag.prog W = .ok (.pointer (some ⟨g, o, none⟩)) W := by
  simp [Instr.arrayAt, run_underlying under124]
theorem cur_after {B0 : Nat} {w w3 : World} {b : Nat} {sv : Value} {sn i : Nat} {ov : Value} {on : Nat} (H : CurAt B0 w b sv sn i ov on) {x : Obj} (kq : Keeps (fun j => some j = ov.ownBlock) (w.alloc x) w3) : w3.cell? ⟨b, 2, none⟩ = some ov ∧ w3.frozen? ⟨b, 2, none⟩ = false := by
  have r := (H.row.alloc x).keeps kq (fun _ e => H.a2 e.symm)
  have r0 := r.at_ (i := 2) rfl
  have r2 := r.live 2 (by simp)
  rw [Nat.zero_add] at r0 r2
  exact ⟨r0, r2⟩
set_option maxHeartbeats 16000000 in
theorem curStep_calls {B0 : Nat} {w : World} {b : Nat} {sv : Value} {sn i : Nat} {ov : Value} {on : Nat} (h : CurAt B0 w b sv sn i ov on) (hB : B0 ≤ w.heap.size) :
    Calls Faag.prog 37 #[.pointer (some ⟨b, 0, none⟩)] w fun e w' => CurOut B0 w b sv sn e w' := by
  obtain ⟨k1, k2, k3⟩ := h.chk
  have c0 := h.row.at_ (i := 0) rfl
  have c1 := h.row.at_ (i := 1) rfl
  have c2 := h.row.at_ (i := 2) rfl
  rw [Nat.zero_add] at c0 c1 c2
  have HC := hide h
  have HCk := hide (fun x : World => (h.below (World.below_ext w x)).check)
  have hblt := h.lt
  by_cases hi : i = sn
  · obtain ⟨sa, sc, rfl, hsc⟩ := h.s.form
    have hi' : ((i : Int) == (sn : Int)) = true := by simp; omega
    clear h hi
    go_enter Faag.func37, Faag.ntmps37
    go_wp2_with fail
    refine wp_region_qx 14 (by kernel_rfl) (by kernel_rfl) ?_
    simp only [List.take_succ_cons, List.take_zero, List.drop_succ_cons, List.drop_zero]
    repeat (go_big_quiet_step ((go_at_call 38; exact Calls.ext_of (HCk.out _))))
    refine wpQuiet_nil ?_
    rintro _ ⟨x, rfl⟩
    go_wp2_with fail
    go_ret
    exact ⟨⟨_, rfl⟩, ⟨_, _, _, HC.out.below (World.below_ext w x)⟩, (World.below_ext w x).mono hB⟩
  · have hi' : ((i : Int) == (sn : Int)) = false := by simp; omega
    have hilt : i < sn := by omega
    obtain ⟨g, sc, hsv, hsc, hg0, hgl⟩ := h.s.form' (by omega)
    obtain ⟨oa, oc, hov, hoc⟩ := h.o.form
    subst hov
    rw [hsv] at c0
    have HSV := hide hsv
    have hsl := slice_from g sn sc i hilt hsc
    have HCell := hide (show ∀ W, Below w.heap.size w W → ∀ j, j < sn → ∃ y : Nat, y < 256 ∧ W.cell? ⟨g, j, none⟩ = some (.int .u8 (y : Int)) from fun W hW j hj => by
      have := h.s.below hW
      rw [hsv] at this
      obtain ⟨y, y1, y2, _⟩ := this.cell hj
      exact ⟨y, y1, y2⟩)
    clear h hi hsv
    go_enter Faag.func37, Faag.ntmps37
    go_wp2_with fail
    refine wp_region_qx 14 (by kernel_rfl) (by kernel_rfl) ?_
    simp only [List.take_succ_cons, List.take_zero, List.drop_succ_cons, List.drop_zero]
    repeat (go_big_quiet_step ((go_at_call 38; exact Calls.ext_of (HCk.out _))))
    refine wpQuiet_nil ?_
    rintro _ ⟨x, rfl⟩
    go_wp2_with fail
    refine wp_region_qy w 18 (by kernel_rfl) (by kernel_rfl) ⟨x, rfl⟩ ?_
    simp only [List.take_succ_cons, List.take_zero, List.drop_succ_cons, List.drop_zero]
    repeat (go_big_quiet_step (fail))
    refine wpQuiet_nil ?_
    rintro _ ⟨x2, rfl⟩
    have hb2 := World.below_ext w x2
    obtain ⟨tg, htg, hct⟩ := HCell.out _ hb2 i hilt
    have HC2 := hide (HC.out.below hb2)
    have HB2 := hide hb2
    clear HCk HC hb2
    generalize hw2 : w.ext x2 = w2 at *
    have HW2 := hide hw2
    clear hw2
    have HOn := hide (onesB_calls tg htg w2)
    go_wp2_with fail
    refine HOn.out.mono ?_
    rintro e w3 ⟨rfl, e3⟩
    rw [e3]
    clear e3 HOn
    have hpc := pc_le tg
    have d2 := HC2.out.row.at_ (i := 2) rfl
    rw [Nat.zero_add] at d2
    clear c0 c1 c2
    obtain ⟨P, hP⟩ : ∃ P, P = pc tg := ⟨_, rfl⟩
    rw [← hP] at hpc ⊢
    have HPe := hide (show P = pc tg from hP)
    obtain ⟨L, hL⟩ : ∃ L, L = sn - i := ⟨_, rfl⟩
    rw [← hL]
    have hLs : i + L = sn := by omega
    have HPv := hide (show (tg = 0 → P = 0) ∧ (tg = 255 → P = 8) from by
      rw [hP]
      exact ⟨fun e => (by rw [e]; rfl), fun e => (by rw [e]; rfl)⟩)
    clear hP hL
    have htc : tg = 0 ∨ tg = 255 ∨ (¬ tg = 0 ∧ ¬ tg = 255) := by omega
    rcases htc with h0 | h0 | ⟨h0, h00⟩
    · have g0 : ((tg : Int) == 0) = true := by simp; omega
      have g1 : ((tg : Int) == 255) = false := by simp; omega
      have hP0 := HPv.out.1 h0
      clear h0
      by_cases hl1 : L ≤ 1 + P
      · go_wp2_with fail
        go_ret
        exact ⟨⟨_, rfl⟩, ⟨_, _, _, HC2.out⟩, HB2.out.mono hB⟩
      obtain ⟨mo, mo1, mo2⟩ := HCell.out w2 HB2.out (i + (1 + P)) (by omega)
      have HP0 := hide hP0
      clear hP0
      by_cases hlen : L < (1 + P + 1) + 0
      · skip
        go_wp2_with fail
        all_goals
          go_ret
          exact ⟨⟨_, rfl⟩, ⟨_, _, _, HC2.out⟩, HB2.out.mono hB⟩
      by_cases hout : 256 < on + 1 + mo
      · skip
        go_wp2_with fail
        go_ret
        exact ⟨⟨_, rfl⟩, ⟨_, _, _, HC2.out⟩, HB2.out.mono hB⟩
      skip
      go_wp2_with fail
      go_loopw [8, 9, 10] (fun p q r wr => ∃ y at_ rest : Nat, p = .int .u64 (y : Nat) ∧ q = .int .i64 (at_ : Nat) ∧ r = .int .u8 (rest : Nat) ∧ y < 18446744073709551616 ∧ rest < 256 ∧ at_ ≤ 9 ∧ Hid (at_ + pc rest = 1 + P) ∧ Hid (CurAt B0 wr b sv sn i (.slice oa on oc) on ∧ Below w.heap.size w wr)) (fun _ _ r _ => (intOf r).toNat)
      case atStart => exact ⟨0, 1, tg, by simp, by simp, rfl, by omega, htg, by omega, hide (by rw [HPe.out]), hide ⟨HC2.out, HB2.out⟩⟩
      case round =>
        obtain ⟨y, at_, rest, rfl, rfl, rfl, hyl, hrl, hat9, HA, H⟩ := hrel
        have hblt3 : b < wr.heap.size := H.out.1.lt
        have hgl3 : g < wr.heap.size := Nat.lt_of_lt_of_le hgl H.out.2.size
        by_cases hr0 : rest = 0
        · subst hr0
          have r0 := H.out.1.row.at_ (i := 2) rfl
          rw [Nat.zero_add] at r0
          have hwrB : B0 ≤ wr.heap.size := Nat.le_trans hB H.out.2.size
          clear HA
          go_wp2_with (refine wpList_pushS (k := .u64) (lim := 18446744073709551616) (B0 := B0) ty_words rfl _ _ rfl (.slice oa on oc) on rfl ?_ _ 1 1 [y] rfl rfl ?_ ?_ ?_ ?_ ?_ ?_ ?_)
          · exact H.out.1.o.alloc _
          · omega
          · exact news1 _ 31 .u64 y
          · intro q hq; rw [List.mem_singleton.1 hq]; exact hyl
          · rw [World.size_alloc]; omega
          · omega
          · omega
          intro v3 w3 s3 b3 kq f3
          obtain ⟨r3, r4⟩ := cur_after H.out.1 kq
          obtain ⟨v3a, v3c, hv3, hv3c⟩ := s3.form
          subst hv3
          go_wp2_with fail
          have HU := hide (show CurAt B0 (w3.setCell ⟨b, 2, none⟩ (.slice v3a (on + 1) v3c)) b sv sn i (.slice v3a (on + 1) v3c) (on + 1) ∧ Below B0 w (w3.setCell ⟨b, 2, none⟩ (.slice v3a (on + 1) v3c)) from by
            have hca := H.out.1.below ((Below.refl _ _).alloc (Nat.le_refl _) (Obj.cells #[Value.int IntKind.u64 (y : Int)] 31))
            have hBa : B0 ≤ (wr.alloc (Obj.cells #[Value.int IntKind.u64 (y : Int)] 31)).heap.size := by rw [World.size_alloc]; omega
            obtain ⟨q1, q2⟩ := hca.putOut hBa s3 kq f3 (by omega)
            exact ⟨q1, (H.out.2.mono hB).trans (((Below.refl B0 wr).alloc hwrB _).trans q2)⟩)
          clear s3 b3 kq f3 H r0 r3 r4
          generalize w3.setCell ⟨b, 2, none⟩ (.slice v3a (on + 1) v3c) = w4 at *
          go_loopw [8, 11] (fun p q wr => ∃ (y j : Nat) (v : Value), p = .int .u64 (y : Nat) ∧ q = .int .i64 (j : Nat) ∧ y < 18446744073709551616 ∧ j ≤ mo ∧ Hid (CurAt B0 wr b sv sn i v (on + 1 + j) ∧ Below B0 w wr)) (fun _ q _ => 65536 - (intOf q).toNat)
          case atStart => exact ⟨y, 0, .slice v3a (on + 1) v3c, rfl, by simp, hyl, by omega, HU⟩
          case round =>
            obtain ⟨y, j, v, rfl, rfl, hyl, hj, H⟩ := hrel
            clear HU
            have hblt3 : b < wr.heap.size := H.out.1.lt
            have hwrB : B0 ≤ wr.heap.size := Nat.le_trans hB H.out.2.size
            by_cases hjm : j < mo
            · obtain ⟨va, vc, hv, hvc⟩ := H.out.1.o.form
              subst hv
              have r0 := H.out.1.row.at_ (i := 2) rfl
              have r2 := H.out.1.row.live 2 (by simp)
              rw [Nat.zero_add] at r0 r2
              have HOo := hide H.out.1.o
              go_wp2_with (refine wpList_pushS (k := .u64) (lim := 18446744073709551616) (B0 := B0) ty_words rfl _ _ rfl (.slice va (on + 1 + j) vc) (on + 1 + j) rfl ?_ _ 1 1 [0] rfl rfl ?_ ?_ ?_ ?_ ?_ ?_ ?_)
              · exact H.out.1.o.alloc _
              · omega
              · exact news1 _ 31 .u64 0
              · intro q hq; rw [List.mem_singleton.1 hq]; exact (by omega)
              · rw [World.size_alloc]; omega
              · omega
              · omega
              intro v3 w3 s3 b3 kq f3
              obtain ⟨r3, r4⟩ := cur_after H.out.1 kq
              obtain ⟨v3a, v3c, hv3, hv3c⟩ := s3.form
              subst hv3
              go_wp2_with fail
              have HU := hide (show CurAt B0 (w3.setCell ⟨b, 2, none⟩ (.slice v3a (on + 1 + j + 1) v3c)) b sv sn i (.slice v3a (on + 1 + j + 1) v3c) (on + 1 + j + 1) ∧ Below B0 w (w3.setCell ⟨b, 2, none⟩ (.slice v3a (on + 1 + j + 1) v3c)) from by
                have hca := H.out.1.below ((Below.refl _ _).alloc (Nat.le_refl _) (Obj.cells #[Value.int IntKind.u64 (0 : Int)] 31))
                have hBa : B0 ≤ (wr.alloc (Obj.cells #[Value.int IntKind.u64 (0 : Int)] 31)).heap.size := by rw [World.size_alloc]; omega
                obtain ⟨q1, q2⟩ := hca.putOut hBa s3 kq f3 (by omega)
                exact ⟨q1, H.out.2.trans (((Below.refl B0 wr).alloc hwrB _).trans q2)⟩)
              clear s3 b3 kq f3
              go_roundw
              case rel => exact ⟨0, j + 1, .slice v3a (on + 1 + j + 1) v3c, by go_num, by go_num, (by omega), by omega, HU⟩
              case measure => simp [intOf]; omega
            · have hje : j = mo := by omega
              have c1' := H.out.1.row.at_ (i := 1) rfl
              have c1f := H.out.1.row.live 1 (by simp)
              rw [Nat.zero_add] at c1' c1f
              have HU := hide (H.out.1.putI hwrB (i' := i + ((1 + P + 1) + 0)) (by omega))
              go_wp2_with fail
              go_ret
              exact ⟨⟨_, rfl⟩, ⟨_, _, _, HU.out.1⟩, H.out.2.trans HU.out.2⟩
        · have hp := pc_step hrl hr0
          have hat : at_ < 1 + P := by have := HA.out; omega
          obtain ⟨z, z1, z2⟩ := HCell.out wr H.out.2 (i + at_) (by omega)
          have hr0' : ((rest : Int) != 0) = true := by simp; omega
          obtain ⟨lw, lw1, lw2⟩ := lowD_calls rest (by omega)
          have HLw := hide lw2
          have hand := u8_and_nat rest (rest - 1) (by omega) (by omega)
          have hsub : (rest : Int) - 1 = ((rest - 1 : Nat) : Int) := by omega
          obtain ⟨r', hr'⟩ : ∃ r', r' = rest &&& (rest - 1) := ⟨_, rfl⟩
          rw [← hr'] at hand hp
          obtain ⟨rm, hrm⟩ : ∃ rm, rm = rest - 1 := ⟨_, rfl⟩
          rw [← hrm] at hand hsub
          have HA2 := hide (show at_ + 1 + pc r' = 1 + P from by have := HA.out; omega)
          have hrl' : r' < rest := hp.2
          obtain ⟨sh, hsh, hshl⟩ : ∃ sh : Nat, IntKind.u8.wrap (8 * (lw : Int)) = (sh : Int) ∧ sh < 256 := ⟨(8 * lw) % 256, by rw [IntKind.wrap_u8]; omega, by omega⟩
          have hwr := wrap_rng ((z : Int) * 2 ^ min sh 64)
          obtain ⟨y', hy', hyl'⟩ := or_nat (y : Int) (IntKind.u64.wrap ((z : Int) * 2 ^ min sh 64)) ⟨by omega, by omega⟩ hwr
          clear hr' hrm hp hr0 lw2 HA
          go_wp2_with fail
          refine wp_region_qx 11 (by kernel_rfl) (by kernel_rfl) ?_
          simp only [List.take_succ_cons, List.take_zero, List.drop_succ_cons, List.drop_zero]
          repeat (go_big_quiet_step ((go_at_call 78; exact Calls.ext_of_same (HLw.out _))))
          refine wpQuiet_nil ?_
          rintro _ ⟨x3, rfl⟩
          go_wp2_with fail
          go_roundw
          case rel => exact ⟨y', at_ + 1, r', by go_num, by go_num, by go_num, hyl', by omega, by omega, HA2, hide ⟨H.out.1.below (World.below_ext wr x3), H.out.2.trans ((World.below_ext wr x3).mono H.out.2.size)⟩⟩
          case measure => simp [intOf]; omega
    · have g0 : ((tg : Int) == 0) = false := by simp; omega
      have g1 : ((tg : Int) == 255) = true := by simp; omega
      have hP8 := HPv.out.2 h0
      clear h0
      by_cases hl1 : L ≤ 1 + P
      · go_wp2_with fail
        go_ret
        exact ⟨⟨_, rfl⟩, ⟨_, _, _, HC2.out⟩, HB2.out.mono hB⟩
      obtain ⟨mo, mo1, mo2⟩ := HCell.out w2 HB2.out (i + (1 + P)) (by omega)
      have HP8 := hide hP8
      clear hP8
      by_cases hlen : L < (1 + P + 1) + 8 * mo
      · skip
        go_wp2_with fail
        all_goals
          go_ret
          exact ⟨⟨_, rfl⟩, ⟨_, _, _, HC2.out⟩, HB2.out.mono hB⟩
      by_cases hout : 256 < on + 1 + mo
      · skip
        go_wp2_with fail
        go_ret
        exact ⟨⟨_, rfl⟩, ⟨_, _, _, HC2.out⟩, HB2.out.mono hB⟩
      skip
      go_wp2_with fail
      go_loopw [8, 9, 10] (fun p q r wr => ∃ y at_ rest : Nat, p = .int .u64 (y : Nat) ∧ q = .int .i64 (at_ : Nat) ∧ r = .int .u8 (rest : Nat) ∧ y < 18446744073709551616 ∧ rest < 256 ∧ at_ ≤ 9 ∧ Hid (at_ + pc rest = 1 + P) ∧ Hid (CurAt B0 wr b sv sn i (.slice oa on oc) on ∧ Below w.heap.size w wr)) (fun _ _ r _ => (intOf r).toNat)
      case atStart => exact ⟨0, 1, tg, by simp, by simp, rfl, by omega, htg, by omega, hide (by rw [HPe.out]), hide ⟨HC2.out, HB2.out⟩⟩
      case round =>
        obtain ⟨y, at_, rest, rfl, rfl, rfl, hyl, hrl, hat9, HA, H⟩ := hrel
        have hblt3 : b < wr.heap.size := H.out.1.lt
        have hgl3 : g < wr.heap.size := Nat.lt_of_lt_of_le hgl H.out.2.size
        by_cases hr0 : rest = 0
        · subst hr0
          have r0 := H.out.1.row.at_ (i := 2) rfl
          rw [Nat.zero_add] at r0
          have hwrB : B0 ≤ wr.heap.size := Nat.le_trans hB H.out.2.size
          clear HA
          go_wp2_with (refine wpList_pushS (k := .u64) (lim := 18446744073709551616) (B0 := B0) ty_words rfl _ _ rfl (.slice oa on oc) on rfl ?_ _ 1 1 [y] rfl rfl ?_ ?_ ?_ ?_ ?_ ?_ ?_)
          · exact H.out.1.o.alloc _
          · omega
          · exact news1 _ 31 .u64 y
          · intro q hq; rw [List.mem_singleton.1 hq]; exact hyl
          · rw [World.size_alloc]; omega
          · omega
          · omega
          intro v3 w3 s3 b3 kq f3
          obtain ⟨r3, r4⟩ := cur_after H.out.1 kq
          obtain ⟨v3a, v3c, hv3, hv3c⟩ := s3.form
          subst hv3
          go_wp2_with fail
          have HU := hide (show CurAt B0 (w3.setCell ⟨b, 2, none⟩ (.slice v3a (on + 1) v3c)) b sv sn i (.slice v3a (on + 1) v3c) (on + 1) ∧ Below B0 w (w3.setCell ⟨b, 2, none⟩ (.slice v3a (on + 1) v3c)) from by
            have hca := H.out.1.below ((Below.refl _ _).alloc (Nat.le_refl _) (Obj.cells #[Value.int IntKind.u64 (y : Int)] 31))
            have hBa : B0 ≤ (wr.alloc (Obj.cells #[Value.int IntKind.u64 (y : Int)] 31)).heap.size := by rw [World.size_alloc]; omega
            obtain ⟨q1, q2⟩ := hca.putOut hBa s3 kq f3 (by omega)
            exact ⟨q1, (H.out.2.mono hB).trans (((Below.refl B0 wr).alloc hwrB _).trans q2)⟩)
          clear s3 b3 kq f3 H r0 r3 r4
          generalize w3.setCell ⟨b, 2, none⟩ (.slice v3a (on + 1) v3c) = w4 at *
          go_loopw [8, 11] (fun p q wr => ∃ (y j : Nat) (v : Value), p = .int .u64 (y : Nat) ∧ q = .int .i64 (j : Nat) ∧ y < 18446744073709551616 ∧ j ≤ mo ∧ Hid (CurAt B0 wr b sv sn i v (on + 1 + j) ∧ Below B0 w wr)) (fun _ q _ => 65536 - (intOf q).toNat)
          case atStart => exact ⟨y, 0, .slice v3a (on + 1) v3c, rfl, by simp, hyl, by omega, HU⟩
          case round =>
            obtain ⟨y, j, v, rfl, rfl, hyl, hj, H⟩ := hrel
            clear HU
            have hblt3 : b < wr.heap.size := H.out.1.lt
            have hwrB : B0 ≤ wr.heap.size := Nat.le_trans hB H.out.2.size
            by_cases hjm : j < mo
            · obtain ⟨va, vc, hv, hvc⟩ := H.out.1.o.form
              subst hv
              have r0 := H.out.1.row.at_ (i := 2) rfl
              have r2 := H.out.1.row.live 2 (by simp)
              rw [Nat.zero_add] at r0 r2
              have HOo := hide H.out.1.o
              have hS := H.out.1.s
              rw [HSV.out] at hS
              obtain ⟨O, hO⟩ : ∃ O, O = 1 + P + 1 + 8 * j := ⟨_, rfl⟩
              have hOL : O + 8 ≤ L := by omega
              have hOi : (1 : Int) + (P : Int) + 1 + 8 * (j : Int) = (O : Int) := by omega
              have hsl2 := slice_mid g i L O hOL
              obtain ⟨z0, a0, b0, _⟩ := hS.cell (i := i + O) (by omega)
              obtain ⟨z1, a1, b1, _⟩ := hS.cell (i := i + O + 1) (by omega)
              obtain ⟨z2, a2, b2, _⟩ := hS.cell (i := i + O + 2) (by omega)
              obtain ⟨z3, a3, b3, _⟩ := hS.cell (i := i + O + 3) (by omega)
              obtain ⟨z4, a4, b4, _⟩ := hS.cell (i := i + O + 4) (by omega)
              obtain ⟨z5, a5, b5, _⟩ := hS.cell (i := i + O + 5) (by omega)
              obtain ⟨z6, a6, b6, _⟩ := hS.cell (i := i + O + 6) (by omega)
              obtain ⟨z7, a7, b7, _⟩ := hS.cell (i := i + O + 7) (by omega)
              obtain ⟨Y, hY, hYl⟩ : ∃ Y : Nat, (z0 : Int) + z1 * 256 + z2 * 65536 + z3 * 16777216 + z4 * 4294967296 + z5 * 1099511627776 + z6 * 281474976710656 + z7 * 72057594037927936 = (Y : Int) ∧ Y < 18446744073709551616 := ⟨z0 + z1 * 256 + z2 * 65536 + z3 * 16777216 + z4 * 4294967296 + z5 * 1099511627776 + z6 * 281474976710656 + z7 * 72057594037927936, by omega, by omega⟩
              have HWd := hide (word_calls z0 z1 z2 z3 z4 z5 z6 z7 ⟨by omega, by omega⟩ ⟨by omega, by omega⟩ ⟨by omega, by omega⟩ ⟨by omega, by omega⟩ ⟨by omega, by omega⟩ ⟨by omega, by omega⟩ ⟨by omega, by omega⟩ ⟨by omega, by omega⟩ wr)
              rw [hY] at HWd
              have HO := hide hO
              have hv0 : 0 < mo := by omega
              have har := array8 g (i + O) (L - O)
              clear hS hO hY
              go_wp2_with fail
              refine HWd.out.mono ?_
              rintro e w5 ⟨rfl, bw5⟩
              have H5 := hide (show CurAt B0 w5 b sv sn i (.slice va (on + 1 + j) vc) (on + 1 + j) ∧ Below B0 w w5 from ⟨H.out.1.below bw5, H.out.2.trans (bw5.mono hwrB)⟩)
              have hw5B : B0 ≤ w5.heap.size := Nat.le_trans hwrB bw5.size
              have hblt5 : b < w5.heap.size := Nat.lt_of_lt_of_le hblt3 bw5.size
              have r05 := H5.out.1.row.at_ (i := 2) rfl
              rw [Nat.zero_add] at r05
              clear bw5 HWd r0 r2 b0 b1 b2 b3 b4 b5 b6 b7 HOo

              go_wp2_with (refine wpList_pushS (k := .u64) (lim := 18446744073709551616) (B0 := B0) ty_words rfl _ _ rfl (.slice va (on + 1 + j) vc) (on + 1 + j) rfl ?_ _ 1 1 [Y] rfl rfl ?_ ?_ ?_ ?_ ?_ ?_ ?_)
              · exact H5.out.1.o.alloc _
              · omega
              · exact news1 _ 31 .u64 Y
              · intro q hq; rw [List.mem_singleton.1 hq]; exact hYl
              · rw [World.size_alloc]; omega
              · omega
              · omega
              intro v3 w3 s3 b3 kq f3
              obtain ⟨r3, r4⟩ := cur_after H5.out.1 kq
              obtain ⟨v3a, v3c, hv3, hv3c⟩ := s3.form
              subst hv3
              go_wp2_with fail
              have HU := hide (show CurAt B0 (w3.setCell ⟨b, 2, none⟩ (.slice v3a (on + 1 + j + 1) v3c)) b sv sn i (.slice v3a (on + 1 + j + 1) v3c) (on + 1 + j + 1) ∧ Below B0 w (w3.setCell ⟨b, 2, none⟩ (.slice v3a (on + 1 + j + 1) v3c)) from by
                have hca := H5.out.1.below ((Below.refl _ _).alloc (Nat.le_refl _) (Obj.cells #[Value.int IntKind.u64 (Y : Int)] 31))
                have hBa : B0 ≤ (w5.alloc (Obj.cells #[Value.int IntKind.u64 (Y : Int)] 31)).heap.size := by rw [World.size_alloc]; omega
                obtain ⟨q1, q2⟩ := hca.putOut hBa s3 kq f3 (by omega)
                exact ⟨q1, H5.out.2.trans (((Below.refl B0 w5).alloc hw5B _).trans q2)⟩)
              clear s3 b3 kq f3
              go_roundw
              case rel => exact ⟨Y, j + 1, .slice v3a (on + 1 + j + 1) v3c, by go_num, by go_num, hYl, by omega, HU⟩
              case measure => simp [intOf]; omega
            · have hje : j = mo := by omega
              have c1' := H.out.1.row.at_ (i := 1) rfl
              have c1f := H.out.1.row.live 1 (by simp)
              rw [Nat.zero_add] at c1' c1f
              have HU := hide (H.out.1.putI hwrB (i' := i + ((1 + P + 1) + 8 * mo)) (by omega))
              go_wp2_with fail
              go_ret
              exact ⟨⟨_, rfl⟩, ⟨_, _, _, HU.out.1⟩, H.out.2.trans HU.out.2⟩
        · have hp := pc_step hrl hr0
          have hat : at_ < 1 + P := by have := HA.out; omega
          obtain ⟨z, z1, z2⟩ := HCell.out wr H.out.2 (i + at_) (by omega)
          have hr0' : ((rest : Int) != 0) = true := by simp; omega
          obtain ⟨lw, lw1, lw2⟩ := lowD_calls rest (by omega)
          have HLw := hide lw2
          have hand := u8_and_nat rest (rest - 1) (by omega) (by omega)
          have hsub : (rest : Int) - 1 = ((rest - 1 : Nat) : Int) := by omega
          obtain ⟨r', hr'⟩ : ∃ r', r' = rest &&& (rest - 1) := ⟨_, rfl⟩
          rw [← hr'] at hand hp
          obtain ⟨rm, hrm⟩ : ∃ rm, rm = rest - 1 := ⟨_, rfl⟩
          rw [← hrm] at hand hsub
          have HA2 := hide (show at_ + 1 + pc r' = 1 + P from by have := HA.out; omega)
          have hrl' : r' < rest := hp.2
          obtain ⟨sh, hsh, hshl⟩ : ∃ sh : Nat, IntKind.u8.wrap (8 * (lw : Int)) = (sh : Int) ∧ sh < 256 := ⟨(8 * lw) % 256, by rw [IntKind.wrap_u8]; omega, by omega⟩
          have hwr := wrap_rng ((z : Int) * 2 ^ min sh 64)
          obtain ⟨y', hy', hyl'⟩ := or_nat (y : Int) (IntKind.u64.wrap ((z : Int) * 2 ^ min sh 64)) ⟨by omega, by omega⟩ hwr
          clear hr' hrm hp hr0 lw2 HA
          go_wp2_with fail
          refine wp_region_qx 11 (by kernel_rfl) (by kernel_rfl) ?_
          simp only [List.take_succ_cons, List.take_zero, List.drop_succ_cons, List.drop_zero]
          repeat (go_big_quiet_step ((go_at_call 78; exact Calls.ext_of_same (HLw.out _))))
          refine wpQuiet_nil ?_
          rintro _ ⟨x3, rfl⟩
          go_wp2_with fail
          go_roundw
          case rel => exact ⟨y', at_ + 1, r', by go_num, by go_num, by go_num, hyl', by omega, by omega, HA2, hide ⟨H.out.1.below (World.below_ext wr x3), H.out.2.trans ((World.below_ext wr x3).mono H.out.2.size)⟩⟩
          case measure => simp [intOf]; omega
    · have g0 : ((tg : Int) == 0) = false := by simp; omega
      have g1 : ((tg : Int) == 255) = false := by simp; omega
      clear h0 h00
      by_cases hlen : L < (1 + P) + 0
      · skip
        go_wp2_with fail
        all_goals
          go_ret
          exact ⟨⟨_, rfl⟩, ⟨_, _, _, HC2.out⟩, HB2.out.mono hB⟩
      by_cases hout : 256 < on + 1 + 0
      · skip
        go_wp2_with fail
        go_ret
        exact ⟨⟨_, rfl⟩, ⟨_, _, _, HC2.out⟩, HB2.out.mono hB⟩
      skip
      go_wp2_with fail
      go_loopw [8, 9, 10] (fun p q r wr => ∃ y at_ rest : Nat, p = .int .u64 (y : Nat) ∧ q = .int .i64 (at_ : Nat) ∧ r = .int .u8 (rest : Nat) ∧ y < 18446744073709551616 ∧ rest < 256 ∧ at_ ≤ 9 ∧ Hid (at_ + pc rest = 1 + P) ∧ Hid (CurAt B0 wr b sv sn i (.slice oa on oc) on ∧ Below w.heap.size w wr)) (fun _ _ r _ => (intOf r).toNat)
      case atStart => exact ⟨0, 1, tg, by simp, by simp, rfl, by omega, htg, by omega, hide (by rw [HPe.out]), hide ⟨HC2.out, HB2.out⟩⟩
      case round =>
        obtain ⟨y, at_, rest, rfl, rfl, rfl, hyl, hrl, hat9, HA, H⟩ := hrel
        have hblt3 : b < wr.heap.size := H.out.1.lt
        have hgl3 : g < wr.heap.size := Nat.lt_of_lt_of_le hgl H.out.2.size
        by_cases hr0 : rest = 0
        · subst hr0
          have r0 := H.out.1.row.at_ (i := 2) rfl
          rw [Nat.zero_add] at r0
          have hwrB : B0 ≤ wr.heap.size := Nat.le_trans hB H.out.2.size
          clear HA
          go_wp2_with (refine wpList_pushS (k := .u64) (lim := 18446744073709551616) (B0 := B0) ty_words rfl _ _ rfl (.slice oa on oc) on rfl ?_ _ 1 1 [y] rfl rfl ?_ ?_ ?_ ?_ ?_ ?_ ?_)
          · exact H.out.1.o.alloc _
          · omega
          · exact news1 _ 31 .u64 y
          · intro q hq; rw [List.mem_singleton.1 hq]; exact hyl
          · rw [World.size_alloc]; omega
          · omega
          · omega
          intro v3 w3 s3 b3 kq f3
          obtain ⟨r3, r4⟩ := cur_after H.out.1 kq
          obtain ⟨v3a, v3c, hv3, hv3c⟩ := s3.form
          subst hv3
          go_wp2_with fail
          have HU := hide (show CurAt B0 (w3.setCell ⟨b, 2, none⟩ (.slice v3a (on + 1) v3c)) b sv sn i (.slice v3a (on + 1) v3c) (on + 1) ∧ Below B0 w (w3.setCell ⟨b, 2, none⟩ (.slice v3a (on + 1) v3c)) from by
            have hca := H.out.1.below ((Below.refl _ _).alloc (Nat.le_refl _) (Obj.cells #[Value.int IntKind.u64 (y : Int)] 31))
            have hBa : B0 ≤ (wr.alloc (Obj.cells #[Value.int IntKind.u64 (y : Int)] 31)).heap.size := by rw [World.size_alloc]; omega
            obtain ⟨q1, q2⟩ := hca.putOut hBa s3 kq f3 (by omega)
            exact ⟨q1, (H.out.2.mono hB).trans (((Below.refl B0 wr).alloc hwrB _).trans q2)⟩)
          clear s3 b3 kq f3 H r0 r3 r4
          generalize w3.setCell ⟨b, 2, none⟩ (.slice v3a (on + 1) v3c) = w4 at *
          go_loopw [8, 11] (fun p q wr => ∃ (y j : Nat) (v : Value), p = .int .u64 (y : Nat) ∧ q = .int .i64 (j : Nat) ∧ y < 18446744073709551616 ∧ j ≤ 0 ∧ Hid (CurAt B0 wr b sv sn i v (on + 1 + j) ∧ Below B0 w wr)) (fun _ q _ => 65536 - (intOf q).toNat)
          case atStart => exact ⟨y, 0, .slice v3a (on + 1) v3c, rfl, by simp, hyl, by omega, HU⟩
          case round =>
            obtain ⟨y, j, v, rfl, rfl, hyl, hj, H⟩ := hrel
            clear HU
            have hblt3 : b < wr.heap.size := H.out.1.lt
            have hwrB : B0 ≤ wr.heap.size := Nat.le_trans hB H.out.2.size
            by_cases hjm : j < 0
            · obtain ⟨va, vc, hv, hvc⟩ := H.out.1.o.form
              subst hv
              have r0 := H.out.1.row.at_ (i := 2) rfl
              have r2 := H.out.1.row.live 2 (by simp)
              rw [Nat.zero_add] at r0 r2
              have HOo := hide H.out.1.o
              omega
            · have hje : j = 0 := by omega
              have c1' := H.out.1.row.at_ (i := 1) rfl
              have c1f := H.out.1.row.live 1 (by simp)
              rw [Nat.zero_add] at c1' c1f
              have HU := hide (H.out.1.putI hwrB (i' := i + ((1 + P) + 0)) (by omega))
              go_wp2_with fail
              go_ret
              exact ⟨⟨_, rfl⟩, ⟨_, _, _, HU.out.1⟩, H.out.2.trans HU.out.2⟩
        · have hp := pc_step hrl hr0
          have hat : at_ < 1 + P := by have := HA.out; omega
          obtain ⟨z, z1, z2⟩ := HCell.out wr H.out.2 (i + at_) (by omega)
          have hr0' : ((rest : Int) != 0) = true := by simp; omega
          obtain ⟨lw, lw1, lw2⟩ := lowD_calls rest (by omega)
          have HLw := hide lw2
          have hand := u8_and_nat rest (rest - 1) (by omega) (by omega)
          have hsub : (rest : Int) - 1 = ((rest - 1 : Nat) : Int) := by omega
          obtain ⟨r', hr'⟩ : ∃ r', r' = rest &&& (rest - 1) := ⟨_, rfl⟩
          rw [← hr'] at hand hp
          obtain ⟨rm, hrm⟩ : ∃ rm, rm = rest - 1 := ⟨_, rfl⟩
          rw [← hrm] at hand hsub
          have HA2 := hide (show at_ + 1 + pc r' = 1 + P from by have := HA.out; omega)
          have hrl' : r' < rest := hp.2
          obtain ⟨sh, hsh, hshl⟩ : ∃ sh : Nat, IntKind.u8.wrap (8 * (lw : Int)) = (sh : Int) ∧ sh < 256 := ⟨(8 * lw) % 256, by rw [IntKind.wrap_u8]; omega, by omega⟩
          have hwr := wrap_rng ((z : Int) * 2 ^ min sh 64)
          obtain ⟨y', hy', hyl'⟩ := or_nat (y : Int) (IntKind.u64.wrap ((z : Int) * 2 ^ min sh 64)) ⟨by omega, by omega⟩ hwr
          clear hr' hrm hp hr0 lw2 HA
          go_wp2_with fail
          refine wp_region_qx 11 (by kernel_rfl) (by kernel_rfl) ?_
          simp only [List.take_succ_cons, List.take_zero, List.drop_succ_cons, List.drop_zero]
          repeat (go_big_quiet_step ((go_at_call 78; exact Calls.ext_of_same (HLw.out _))))
          refine wpQuiet_nil ?_
          rintro _ ⟨x3, rfl⟩
          go_wp2_with fail
          go_roundw
          case rel => exact ⟨y', at_ + 1, r', by go_num, by go_num, by go_num, hyl', by omega, by omega, HA2, hide ⟨H.out.1.below (World.below_ext wr x3), H.out.2.trans ((World.below_ext wr x3).mono H.out.2.size)⟩⟩
          case measure => simp [intOf]; omega
end Go.Proofs.YgcfaaGreat
