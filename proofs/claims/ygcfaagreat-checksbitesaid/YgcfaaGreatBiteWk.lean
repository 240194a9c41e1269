import Derived.Test.YgcfaaGreatWkHurt
namespace Go.Proofs.YgcfaaGreat
open Go.RowKit Bits Bd
set_option linter.unusedVariables false
set_option maxRecDepth 100000
set_option linter.unusedSimpArgs false
attribute [local go_sem] World.cell?_ext World.frozen?_ext

/-- What a walk over A keeps from step to step. -/
structure Steady (A : List Nat) (J : Wk → Prop) : Prop where
  start : J wk1
  step : ∀ W, W.Ok → J W → W.sp = 0 ∨ ∃ got, 0 < W.sp ∧ W.sp ≤ 256 ∧ resolveN A (W.ent (W.sp - 1)).1 = some got ∧ (¬ got.kind = 0 → StepOk A W got (W.ent (W.sp - 1)).2) ∧
    (got.kind = 0 → J { W with sp := W.sp - 1 }) ∧ (¬ got.kind = 0 → ∀ s', TakenS W.set (first got) (words got) s' → J (followW got ((W.ent (W.sp - 1)).2 + 1) { W with set := s', sp := W.sp - 1 }))
  mid : ∀ W, W.Ok → J W → midP A.length W

/-- One Step of such a walk. -/
theorem step_calls {A : List Nat} {J : Wk → Prop} (hS : Steady A J) (g c : Nat) (hA1 : A.length ≤ 256) {w : World} {b : Nat} {W : Wk} (hb : WkAt w b W) (hA : ArAt w g A) (hgb : ¬ g = b) (hJ : J W) :
    Calls Faag.prog 26 #[.pointer (some ⟨b, 0, none⟩), .slice (some ⟨g, 0, none⟩) A.length c] w fun e w' => e = .returned (.bool true) ∧ ∃ W', WkAt w' b W' ∧ J W' ∧ Keeps (fun k => k = b) w w' := by
  rcases hS.step W hb.ok hJ with h0 | ⟨got, h0, h1, hr, hk, j1, j2⟩
  · refine (step0_calls g A c hb h0).mono ?_
    rintro e w' ⟨rfl, rfl⟩
    exact ⟨rfl, W, hb, hJ, Keeps.refl _ _⟩
  · refine (step1_calls g A c hA1 hb hA hgb h0 h1 got hr hk).mono ?_
    rintro e w' ⟨rfl, kp, hor⟩
    refine ⟨rfl, ?_⟩
    rcases hor with ⟨k0, hw⟩ | ⟨k0, s', ht, hw⟩
    · exact ⟨_, hw, j1 k0, kp⟩
    · exact ⟨_, hw, j2 k0 s' ht, kp⟩

set_option maxHeartbeats 8000000 in
theorem biteWalk_calls {A : List Nat} {J : Wk → Prop} (hS : Steady A J) (g c : Nat) (hA0 : 1 ≤ A.length) (hA1 : A.length ≤ 256) (st k : Nat) (hst : st < 7) (hk : k < 5) {w : World} (hA : ArAt w g A) :
    Calls Faag.prog 7 #[.slice (some ⟨g, 0, none⟩) A.length c, .int .i64 st, .int .i64 k] w fun e w' => e = .returned (.bool true) ∧ Below w.heap.size w w' := by
  have hglt : g < w.heap.size := lt_of_cell (hA.1 0 (by omega))
  have HSt := hide (start_calls (some ⟨g, 0, none⟩) A.length c hA0 hA1 w)
  have HA := hide hA
  have HJ := hide hS
  clear hA hS
  go_enter Faag.func7, Faag.ntmps7
  go_wp2_with fail
  refine HSt.out.mono ?_
  rintro e w1 ⟨rfl, ok1, bl1⟩
  have hg1 : g < w1.heap.size := Nat.lt_of_lt_of_le hglt bl1.size
  have hN1 : w.heap.size ≤ w1.heap.size := bl1.size
  have HB1 := hide bl1
  clear bl1 HSt
  go_wp2_with (first | refine wpList_alloc67 rfl rfl ?_ | (refine wpList_store67 rfl _ _ rfl _ wk0 wk1 rfl rfl (wk0_at w1) ok1 ?_; intro w2 h2 k2))
  have hs2 : w1.heap.size < w2.heap.size := h2.lt
  have HW := hide (show WkAt w2 w1.heap.size wk1 ∧ ArAt w2 g A ∧ Below w.heap.size w w2 from by
    have b1 : Below w.heap.size w (w1.alloc (Obj.cells Z67.toArray 67)) := HB1.out.alloc hN1 _
    have a1 : ArAt (w1.alloc (Obj.cells Z67.toArray 67)) g A := HA.out.below b1
    exact ⟨h2, a1.keepsX k2 (by omega), b1.trans (k2.below (by rw [World.size_alloc]; omega) (fun k hk h => by omega))⟩)
  have hgN : ¬ g = w1.heap.size := by omega
  obtain ⟨N, hN⟩ : ∃ N, N = w1.heap.size := ⟨_, rfl⟩
  rw [← hN] at HW hs2 hgN hN1 ⊢
  clear h2 k2 hN HB1 HA hg1 ok1
  go_loopw [1, 8] (fun q f wr => ∃ m : Nat, m ≤ st ∧ q = .int .i64 (m : Nat) ∧ f = .bool true ∧ ∃ W, Hid (WkAt wr N W ∧ J W ∧ ArAt wr g A ∧ Below w.heap.size w wr)) (fun q _ _ => (intOf q).toNat)
  case atStart => exact ⟨st, by omega, rfl, rfl, wk1, hide ⟨HW.out.1, HJ.out.start, HW.out.2.1, HW.out.2.2⟩⟩
  case round =>
    obtain ⟨m, hm, rfl, rfl, W, H1⟩ := hrel
    clear HW
    by_cases hgo : 0 < m
    · have HC := hide (step_calls HJ.out g c hA1 H1.out.1 H1.out.2.2.1 hgN H1.out.2.1)
      go_wp2_with fail
      refine HC.out.mono ?_
      rintro e w3 ⟨rfl, W', q1, q2, q3⟩
      have HQ := hide (show WkAt w3 N W' ∧ J W' ∧ ArAt w3 g A ∧ Below w.heap.size w w3 from ⟨q1, q2, H1.out.2.2.1.keepsX q3 hgN, H1.out.2.2.2.trans (q3.below H1.out.2.2.2.size (fun k hk h => by omega))⟩)
      clear q1 q2 q3 HC H1
      go_wp2_with fail
      go_roundw
      case rel => exact ⟨m - 1, by omega, by go_num, rfl, W', HQ⟩
      case measure => simp [intOf]; omega
    · have HM := hide (mid_calls (some ⟨g, 0, none⟩) A.length c H1.out.1)
      go_wp2_with fail
      refine HM.out.mono ?_
      rintro e w3 ⟨⟨rb, rfl, hrb⟩, hb3⟩
      have hmid := HJ.out.mid W H1.out.1.ok H1.out.2.1
      have hrt : rb = true := hrb.2 hmid
      subst hrt
      have HQ := hide (show WkAt w3 N W ∧ midP A.length W ∧ Below w.heap.size w w3 from ⟨H1.out.1.below hb3, hmid, H1.out.2.2.2.trans (hb3.mono H1.out.2.2.2.size)⟩)
      clear hrb hb3 hmid HM H1
      have hNw : w.heap.size ≤ N := by omega
      obtain ⟨c1, c2⟩ := HQ.out.1.spC
      have hsp := HQ.out.2.1.2.2.1
      have hspl : W.sp < 65536 := by omega
      have hlt3 : N < w3.heap.size := HQ.out.1.lt
      obtain ⟨sp, hspe⟩ : ∃ sp, sp = W.sp := ⟨_, rfl⟩
      rw [← hspe] at c1 hsp hspl
      have HSP := hide hspe
      clear hspe
      have HFin := hide (show ∀ w4 W', WkAt w4 N W' → ¬ midP A.length W' → Keeps (fun k => k = N) w3 w4 → Calls Faag.prog 27 #[.pointer (some ⟨N, 0, none⟩), .slice (some ⟨g, 0, none⟩) A.length c] w4 fun e w' => e = .returned (.bool false) ∧ Below w.heap.size w w' from by
        intro w4 W' h4 hn k4
        refine (mid_calls (some ⟨g, 0, none⟩) A.length c h4).mono ?_
        rintro e w5 ⟨⟨rb, rfl, hrb⟩, hb5⟩
        have hrf : rb = false := by
          cases rb
          · rfl
          · exact absurd (hrb.1 rfl) hn
        subst hrf
        have b4 : Below w.heap.size w w4 := HQ.out.2.2.trans (k4.below HQ.out.2.2.size (fun k hk h => by omega))
        exact ⟨rfl, b4.trans (hb5.mono b4.size)⟩)
      have hk5 : k = 0 ∨ k = 1 ∨ k = 2 ∨ k = 3 ∨ k = 4 := by omega
      rcases hk5 with rfl | rfl | rfl | rfl | rfl
      · obtain ⟨z1, z2⟩ := HQ.out.1.setC (j := 0) (by omega)
        have zl := HQ.out.1.ok.lt 0
        obtain ⟨v0, hv0⟩ : ∃ v, v = W.set.getD 0 0 := ⟨_, rfl⟩
        rw [← hv0] at z1 zl
        have hand := u64_andNot_nat v0 1 zl (by omega)
        rw [show ((1 : Nat) : Int) = 1 by rfl] at hand
        obtain ⟨r, hr⟩ : ∃ r, r = v0 &&& (18446744073709551615 - 1) := ⟨_, rfl⟩
        rw [← hr] at hand
        have hrl : r < 18446744073709551616 := by rw [hr]; exact Nat.lt_of_le_of_lt Nat.and_le_left zl
        have hr2 : r % 2 = 0 := by
          have : r.testBit 0 = false := by rw [hr, Nat.testBit_and]; simp
          rw [Nat.testBit_zero] at this
          simpa using this
        have HC := hide (HFin.out _ _ (HQ.out.1.putSet (j := 0) (n := r) (by omega) hrl) (hurt0 A.length HQ.out.1.ok.four hr2) (keeps_set w3 N 0 _))
        clear hr hr2 hv0
        go_wp2_with fail
        refine HC.out.mono ?_
        rintro e w5 ⟨rfl, b5⟩
        have HB5 := hide b5
        clear b5 HC
        go_wp2_with fail
        go_ret
        exact ⟨rfl, HB5.out⟩
      · have HC := hide (HFin.out _ _ (HQ.out.1.putSp (n := 257) (by omega)) (hurt1 A.length) (keeps_set w3 N 516 _))
        go_wp2_with fail
        refine HC.out.mono ?_
        rintro e w5 ⟨rfl, b5⟩
        have HB5 := hide b5
        clear b5 HC
        go_wp2_with fail
        go_ret
        exact ⟨rfl, HB5.out⟩
      · clear hgo HJ
        go_wp2_with fail
        go_loopw [69] (fun q wr => ∃ i : Nat, i ≤ A.length ∧ q = .int .i64 (i : Nat) ∧ Hid (wr = w3)) (fun q _ => 65536 - (intOf q).toNat)
        case atStart => exact ⟨0, by omega, by simp, hide rfl⟩
        case round =>
          obtain ⟨i, hi, rfl, HW⟩ := hrel
          by_cases hgo : i < A.length
          · have c1' := c1
            rw [← HW.out] at c1'
            by_cases h0 : sp = 0
            · have h0' : ¬ 0 < sp := by omega
              clear h0 c1
              go_wp2_with fail
              go_roundw
              case rel => exact ⟨i + 1, by omega, by go_num, HW⟩
              case measure => simp [intOf]; omega
            · have h0' : 0 < sp := by omega
              have hj : i / 64 < 4 := by omega
              have cx := (HQ.out.1.setC hj).1
              rw [← HW.out] at cx
              have vl := HQ.out.1.ok.lt (i / 64)
              have hand2 := and_one_bit (W.set.getD (i / 64) 0) (i % 64) vl
              obtain ⟨T, hT⟩ : ∃ T, T = tb W.set i := ⟨_, rfl⟩
              have hT2 : (W.set.getD (i / 64) 0).testBit (i % 64) = T := hT.symm
              rw [hT2] at hand2
              generalize W.set.getD (i / 64) 0 = v at *
              have HT := hide hT
              clear hT hT2
              cases T
              · simp only [Bool.toNat_false, Bool.toNat_true] at hand2
                have hs1 : sp - 1 < 256 := by omega
                obtain ⟨e1, e2⟩ := HQ.out.1.e0 hs1
                rw [← HW.out] at e1 e2
                have hsI : (sp : Int) - 1 = ((sp - 1 : Nat) : Int) := by omega
                have HC := hide (HFin.out _ _ (HQ.out.1.put0 (i := sp - 1) (a := i) hs1 (by omega)) (by
                  have := hurt2 (W := W) A.length HQ.out.1.ok (a := i) (by rw [← HSP.out]; omega) (by rw [← HSP.out]; omega) HT.out.symm
                  rw [show W.sp - 1 = sp - 1 by rw [← HSP.out]] at this; exact this) (keeps_set w3 N _ _))
                rw [← HW.out] at HC
                obtain ⟨s1, hs1e⟩ : ∃ s1, s1 = sp - 1 := ⟨_, rfl⟩
                rw [← hs1e] at HC e1 e2 hsI hs1
                have HS1 := hide hs1e
                have hN' : N < wr.heap.size := by rw [HW.out]; exact hlt3
                clear h0 hs1e c1
                go_wp2_with fail
                refine HC.out.mono ?_
                rintro e w5 ⟨rfl, b5⟩
                have HB5 := hide b5
                clear b5 HC
                go_wp2_with fail
                go_ret
                exact ⟨rfl, HB5.out⟩
              · simp only [Bool.toNat_false, Bool.toNat_true] at hand2
                clear h0 c1
                go_wp2_with fail
                go_roundw
                case rel => exact ⟨i + 1, by omega, by go_num, HW⟩
                case measure => simp [intOf]; omega
          · have : i = A.length := by omega
            clear c1 c2
            go_wp2_with fail
            go_ret
            exact ⟨rfl, by rw [HW.out]; exact HQ.out.2.2⟩
      · by_cases h0 : sp = 0
        · have h0' : ((sp : Int) == 0) = true := by simp; omega
          clear h0
          go_wp2_with fail
          go_ret
          exact ⟨rfl, HQ.out.2.2⟩
        · have h0' : ((sp : Int) == 0) = false := by simp; omega
          have hs1 : sp - 1 < 256 := by omega
          obtain ⟨e1, e2⟩ := HQ.out.1.e1 hs1
          have hsI : (sp : Int) - 1 = ((sp - 1 : Nat) : Int) := by omega
          have HC := hide (HFin.out _ _ (HQ.out.1.put1 (i := sp - 1) (d := 255) hs1 (by omega)) (by have := hurt3 (W := W) A.length HQ.out.1.ok (by rw [← HSP.out]; omega) (by rw [← HSP.out]; omega); rw [show W.sp - 1 = sp - 1 by rw [← HSP.out]] at this; exact this) (keeps_set w3 N _ _))
          obtain ⟨s1, hs1e⟩ : ∃ s1, s1 = sp - 1 := ⟨_, rfl⟩
          rw [← hs1e] at HC e1 e2 hsI hs1
          have HS1 := hide hs1e
          clear h0 hs1e
          go_wp2_with fail
          refine HC.out.mono ?_
          rintro e w5 ⟨rfl, b5⟩
          have HB5 := hide b5
          clear b5 HC
          go_wp2_with fail
          go_ret
          exact ⟨rfl, HB5.out⟩
      · by_cases h0 : sp = 0
        · have h0' : ((sp : Int) == 0) = true := by simp; omega
          clear h0
          go_wp2_with fail
          go_ret
          exact ⟨rfl, HQ.out.2.2⟩
        · have h0' : ((sp : Int) == 0) = false := by simp; omega
          by_cases h1 : sp = 256
          · have h1' : ((sp : Int) == 256) = true := by simp; omega
            clear h0 h1
            go_wp2_with fail
            go_ret
            exact ⟨rfl, HQ.out.2.2⟩
          · have h1' : ((sp : Int) == 256) = false := by simp; omega
            have hs2 : sp < 256 := by omega
            have hs1 : sp - 1 < 256 := by omega
            obtain ⟨e1, e2⟩ := HQ.out.1.e0 hs1
            obtain ⟨e3, e4⟩ := HQ.out.1.e1 hs1
            obtain ⟨f1, f2⟩ := HQ.out.1.e0 hs2
            obtain ⟨f3, f4⟩ := HQ.out.1.e1 hs2
            have hsI : (sp : Int) - 1 = ((sp - 1 : Nat) : Int) := by omega
            obtain ⟨ea, ed, hE⟩ : ∃ ea ed, W.ent (sp - 1) = (ea, ed) := ⟨_, _, rfl⟩
            have hal := HQ.out.1.ok.at_ (sp - 1)
            have hdl := HQ.out.1.ok.dep (sp - 1)
            rw [hE] at e1 e3 hal hdl
            dsimp only at e1 e3 hal hdl
            have HC := hide (fun nq : Nat => HFin.out _ _ ((WkAt.put2 (w := w3.drewN nq) ⟨HQ.out.1.row.drewN nq, HQ.out.1.ok⟩ (i := sp) (a := ea) (d := ed) hs2 hal hdl).putSp (n := sp + 1) (by omega)) (by
              have := hurt4 (W := W) A.length HQ.out.1.ok (by rw [← HSP.out]; omega) (by rw [← HSP.out]; omega)
              rw [← HSP.out, hE] at this
              exact this) ((((Keeps.refl (fun k => k = N) w3).drewN nq).trans (keeps_set _ N _ _)).trans ((keeps_set _ N _ _).trans (keeps_set _ N _ _))))
            obtain ⟨s1, hs1e⟩ : ∃ s1, s1 = sp - 1 := ⟨_, rfl⟩
            rw [← hs1e] at e1 e2 e3 e4 hsI hs1
            have HS1 := hide hs1e
            clear h0 h1 hs1e hE
            go_wp2_with fail
            refine wp_region_qd 9 (by kernel_rfl) (by kernel_rfl) ?_
            simp only [List.take_succ_cons, List.take_zero, List.drop_succ_cons, List.drop_zero]
            repeat (go_big_quiet_step (fail))
            refine wpQuiet_nil ?_
            rintro _ ⟨nq, rfl⟩
            go_wp2_with fail
            refine (HC.out nq).mono ?_
            rintro e w5 ⟨rfl, b5⟩
            have HB5 := hide b5
            clear b5 HC
            go_wp2_with fail
            go_ret
            exact ⟨rfl, HB5.out⟩
end Go.Proofs.YgcfaaGreat
