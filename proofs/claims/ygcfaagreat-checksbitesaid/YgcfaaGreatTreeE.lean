import Derived.Test.YgcfaaGreatTreeD
namespace Go.Proofs.YgcfaaGreat
open Go.RowKit Bits Bd
set_option linter.unusedVariables false
set_option maxRecDepth 100000
set_option linter.unusedSimpArgs false
attribute [local go_sem] World.cell?_ext World.frozen?_ext

set_option maxHeartbeats 16000000 in
theorem tcheck_calls {w : World} {p : Nat} {h : Nat → Value} {M : Mo} (m : HM false w p h M) (r0 : Bool)
    (hbd : preT M → ¬ M.root = -1 → ∀ W, HM false W p h M → Calls Faag.prog 32 #[.pointer (some ⟨p, 0, none⟩)] W fun e w' => e = .returned (.bool r0) ∧ Below W.heap.size W w') :
    Calls Faag.prog 10 #[.pointer (some ⟨p, 0, none⟩)] w fun e w' => RetB e (preT M ∧ (M.root = -1 ∨ r0 = true)) ∧ Below w.heap.size w w' := by
  obtain ⟨R, hR⟩ : ∃ R, R = (preT M ∧ (M.root = -1 ∨ r0 = true)) := ⟨_, rfl⟩
  rw [← hR]
  obtain ⟨na, nc, hg⟩ := m.n0
  have f0 := m.f0.1
  have f1 := m.f1.1
  rw [hg] at f0
  have hnn := m.nn
  obtain ⟨rt1, rt2⟩ := m.rt
  obtain ⟨n, hn⟩ : ∃ n, n = M.N.length := ⟨_, rfl⟩
  obtain ⟨rt, hrt⟩ : ∃ rt, rt = M.root := ⟨_, rfl⟩
  rw [← hn] at f0 hnn
  rw [← hrt] at f1 rt1 rt2
  have HM0 := hide m
  have HBd := hide hbd
  have HN := hide hn
  have HRt := hide hrt
  have HG := hide hg
  have HR := hide hR
  have hplt := m.lt
  clear m hbd hn hrt hg hR
  by_cases hbad : 512 < n ∨ rt < -1 ∨ (n : Int) ≤ rt
  · have HF := hide (show R = False from by
      rw [HR.out]
      refine eq_false (fun q => ?_)
      obtain ⟨⟨q1, q2⟩, q3, _⟩ := q.1
      rw [← HN.out] at q2 q3
      rw [← HRt.out] at q1 q2
      omega)
    by_cases b1 : 512 < n
    · have d1 : decide ((512 : Int) < (n : Int)) = true := by simp; omega
      clear hbad
      go_enter Faag.func10, Faag.ntmps10
      go_wp2_with fail
      refine wp_region_qd 28 (by kernel_rfl) (by kernel_rfl) ?_
      simp only [List.take_succ_cons, List.take_zero, List.drop_succ_cons, List.drop_zero]
      repeat (go_big_quiet_step (fail))
      refine wpQuiet_nil ?_
      rintro _ ⟨nq, rfl⟩
      go_wp2_with fail
      go_ret
      exact ⟨RetB.of (by rw [HF.out]; simp), ⟨rfl, rfl, rfl, Nat.le_refl _, fun _ _ => rfl⟩⟩
    · have d1 : decide ((512 : Int) < (n : Int)) = false := by simp; omega
      by_cases b2 : rt < -1
      · have d2 : decide (rt < -1) = true := by simp; omega
        clear hbad
        go_enter Faag.func10, Faag.ntmps10
        go_wp2_with fail
        refine wp_region_qd 28 (by kernel_rfl) (by kernel_rfl) ?_
        simp only [List.take_succ_cons, List.take_zero, List.drop_succ_cons, List.drop_zero]
        repeat (go_big_quiet_step (fail))
        refine wpQuiet_nil ?_
        rintro _ ⟨nq, rfl⟩
        go_wp2_with fail
        go_ret
        exact ⟨RetB.of (by rw [HF.out]; simp), ⟨rfl, rfl, rfl, Nat.le_refl _, fun _ _ => rfl⟩⟩
      · have b3 : (n : Int) ≤ rt := by omega
        have d2 : decide (rt < -1) = false := by simp; omega
        have d3 : decide ((n : Int) ≤ rt) = true := by simp; omega
        clear hbad
        go_enter Faag.func10, Faag.ntmps10
        go_wp2_with fail
        refine wp_region_qd 28 (by kernel_rfl) (by kernel_rfl) ?_
        simp only [List.take_succ_cons, List.take_zero, List.drop_succ_cons, List.drop_zero]
        repeat (go_big_quiet_step (fail))
        refine wpQuiet_nil ?_
        rintro _ ⟨nq, rfl⟩
        go_wp2_with fail
        go_ret
        exact ⟨RetB.of (by rw [HF.out]; simp), ⟨rfl, rfl, rfl, Nat.le_refl _, fun _ _ => rfl⟩⟩
  have b1 : n ≤ 512 := by omega
  have b2 : -1 ≤ rt := by omega
  have b3 : rt < n := by omega
  have d1 : decide ((512 : Int) < (n : Int)) = false := by simp; omega
  have d2 : decide (rt < -1) = false := by simp; omega
  have d3 : decide ((n : Int) ≤ rt) = false := by simp; omega
  clear hbad
  go_enter Faag.func10, Faag.ntmps10
  go_wp2_with fail
  refine wp_region_qd 28 (by kernel_rfl) (by kernel_rfl) ?_
  simp only [List.take_succ_cons, List.take_zero, List.drop_succ_cons, List.drop_zero]
  repeat (go_big_quiet_step (fail))
  refine wpQuiet_nil ?_
  rintro _ ⟨nq, rfl⟩
  have HB1 := hide (show Below w.heap.size w (w.drewN nq) from ⟨rfl, rfl, rfl, Nat.le_refl _, fun _ _ => rfl⟩)
  have HM1 := hide (HM0.out.below HB1.out)
  clear HM0 f0 f1 hplt
  generalize w.drewN nq = w1 at *
  have f0 := HM1.out.f0.1
  have f1 := HM1.out.f1.1
  rw [HG.out, ← HN.out] at f0
  rw [← HRt.out] at f1
  have hplt := HM1.out.lt
  have HZ := hide (show HM false (w1.alloc (Obj.cells #[Value.int IntKind.u64 0, Value.int IntKind.u64 0, Value.int IntKind.u64 0, Value.int IntKind.u64 0, Value.int IntKind.u64 0, Value.int IntKind.u64 0, Value.int IntKind.u64 0, Value.int IntKind.u64 0] 77)) p h M ∧
      Set8 (w1.alloc (Obj.cells #[Value.int IntKind.u64 0, Value.int IntKind.u64 0, Value.int IntKind.u64 0, Value.int IntKind.u64 0, Value.int IntKind.u64 0, Value.int IntKind.u64 0, Value.int IntKind.u64 0, Value.int IntKind.u64 0] 77)) w1.heap.size z8 ∧
      Below w.heap.size w (w1.alloc (Obj.cells #[Value.int IntKind.u64 0, Value.int IntKind.u64 0, Value.int IntKind.u64 0, Value.int IntKind.u64 0, Value.int IntKind.u64 0, Value.int IntKind.u64 0, Value.int IntKind.u64 0, Value.int IntKind.u64 0] 77)) from
    ⟨HM1.out.below ((Below.refl _ _).alloc (Nat.le_refl _) _), ⟨RowAt.of_alloc w1 (U z8) 77, rfl, fun i => by
      match i with
      | 0 => decide
      | 1 => decide
      | 2 => decide
      | 3 => decide
      | 4 => decide
      | 5 => decide
      | 6 => decide
      | 7 => decide
      | i + 8 => exact Nat.zero_lt_succ _⟩, HB1.out.alloc HB1.out.size _⟩)
  have hSw : w.heap.size ≤ w1.heap.size := HB1.out.size
  go_wp2_with fail
  obtain ⟨S, hS⟩ : ∃ S, S = w1.heap.size := ⟨_, rfl⟩
  rw [← hS] at HZ hSw ⊢
  have hpS : p < S := by rw [hS]; exact hplt
  have HNb := hide (show ∀ k, mblk p h M.N.length k → k < S from fun k hk => by rw [hS]; exact HM1.out.blk_lt hk)
  generalize w1.alloc (Obj.cells #[Value.int IntKind.u64 0, Value.int IntKind.u64 0, Value.int IntKind.u64 0, Value.int IntKind.u64 0, Value.int IntKind.u64 0, Value.int IntKind.u64 0, Value.int IntKind.u64 0, Value.int IntKind.u64 0] 77) = w2 at *
  clear hS HM1 HB1 f0 f1 hplt
  go_loopw [43] (fun q wr => ∃ i : Nat, i ≤ n ∧ q = .int .i64 (i : Nat) ∧ ∃ s, Hid (HM false wr p h M ∧ Set8 wr S s ∧ Below w.heap.size w wr ∧ (∀ a, a < i → shapedP M a) ∧ okB M i 0 ∧ ∀ x, x < 512 → (tb s x = true ↔ seenB M i 0 x))) (fun q _ => 65536 - (intOf q).toNat)
  case atStart => exact ⟨0, by omega, by simp, z8, hide ⟨HZ.out.1, HZ.out.2.1, HZ.out.2.2, fun a ha => by omega, okB_zero, fun x _ => by rw [tb_z8]; exact ⟨fun h => (by cases h), fun h => absurd h (seenB_zero x)⟩⟩⟩
  case round =>
    obtain ⟨i, hi, rfl, s, H⟩ := hrel
    clear HZ
    by_cases hgo : i < n
    · have hiN : i < M.N.length := by rw [← HN.out]; exact hgo
      have HSh := hide (shaped_calls H.out.1 hiN)
      go_wp2_with fail
      refine HSh.out.mono ?_
      rintro e w3 ⟨⟨rb, rfl, hrb⟩, e3⟩
      rw [e3]
      clear e3 HSh
      cases rb
      · have HF := hide (show R = False from by
          rw [HR.out]
          refine eq_false (fun q => ?_)
          have := hrb.2 (q.1.2.2.1 i hiN)
          cases this)
        clear hrb
        go_wp2_with fail
        go_ret
        exact ⟨RetB.of (by rw [HF.out]; simp), H.out.2.2.1⟩
      · have hsh : shapedP M i := hrb.1 rfl
        have HSP := hide hsh
        obtain ⟨gg, gc, hgg, hcells⟩ := H.out.1.node hiN
        obtain ⟨ka, kc, hka⟩ := H.out.1.nk_ hiN
        have f0 := H.out.1.f0.1
        rw [hgg, ← HN.out] at f0
        have c3 := (hcells 3 _ rfl).1
        rw [hka] at c3
        have HKA := hide hka
        have hkl := (nd_dl H.out.1 i).2
        obtain ⟨kl, hkl2⟩ : ∃ kl, kl = (M.nd i).kids.length := ⟨_, rfl⟩
        rw [← hkl2] at c3 hkl
        have HKl := hide hkl2
        have HGG := hide hgg
        clear hrb hsh hcells hgg hkl2 hka
        go_wp2_with fail
        obtain ⟨w0, hw0⟩ : ∃ w0, w0 = wr := ⟨_, rfl⟩
        rw [← hw0] at H ⊢
        clear hw0 f0 c3
        go_loopw [59] (fun q wr => ∃ j : Nat, j ≤ kl ∧ q = .int .i64 (j : Nat) ∧ ∃ s, Hid (HM false wr p h M ∧ Set8 wr S s ∧ Below w.heap.size w wr ∧ (∀ a, a < i → shapedP M a) ∧ okB M i j ∧ ∀ x, x < 512 → (tb s x = true ↔ seenB M i j x))) (fun q _ => 65536 - (intOf q).toNat)
        case atStart => exact ⟨0, by omega, by simp, s, H⟩
        case round =>
          obtain ⟨j, hj, rfl, s, H⟩ := hrel
          by_cases hgj : j < kl
          · have hat : M.at_ i j := ⟨hiN, by rw [← HKl.out]; exact hgj⟩
            obtain ⟨b, bc, hbe, hc, _⟩ := H.out.1.kcell hiN hat.2
            rw [HKA.out] at hbe
            have hbe1 : ka = some ⟨b, 0, none⟩ := by cases hbe; rfl
            subst hbe1
            have hkc := HSP.out.1 j hat.2
            change M.kd i j = -1 ∨ ((i : Int) < M.kd i j ∧ M.kd i j < (M.N.length : Int)) at hkc
            change wr.cell? ⟨b, j, none⟩ = some (.int .i16 (M.kd i j)) at hc
            clear hbe
            by_cases hm1 : M.kd i j = -1
            · have HNx := hide (show HM false wr p h M ∧ Set8 wr S s ∧ Below w.heap.size w wr ∧ (∀ a, a < i → shapedP M a) ∧ okB M i (j + 1) ∧ ∀ x, x < 512 → (tb s x = true ↔ seenB M i (j + 1) x) from
                ⟨H.out.1, H.out.2.1, H.out.2.2.1, H.out.2.2.2.1, okB_skip H.out.2.2.2.2.1 hm1, fun x hx => by rw [H.out.2.2.2.2.2 x hx, seenB_skip hm1]⟩)
              rw [hm1] at hc
              clear hm1 hkc
              go_wp2_with fail
              go_roundw
              case rel => exact ⟨j + 1, by omega, by go_num, s, HNx⟩
              case measure => simp [intOf]; omega
            · obtain ⟨k, hk⟩ : ∃ k : Nat, M.kd i j = (k : Int) := ⟨(M.kd i j).toNat, by omega⟩
              rw [hk] at hc hkc
              rw [← HN.out] at hkc
              have hkn : k < n := by omega
              have hk512 : k < 512 := by omega
              have km1 : ((k : Int) == -1) = false := by rw [beq_eq_false_iff_ne]; omega
              have f1 := H.out.1.f1.1
              rw [← HRt.out] at f1
              obtain ⟨q1, q2, q3, q4, q5, q6⟩ := H.out
              have hJ : k / 64 < 8 := by omega
              have x2 := q2.row.at_ (i := k / 64) (U_get (by rw [q2.eight]; exact hJ))
              have x3 := q2.row.live (k / 64) (by rw [U_length, q2.eight]; exact hJ)
              rw [Nat.zero_add] at x2 x3
              have vl := q2.lt (k / 64)
              have hand := and_bit_nat _ (k % 64) vl (by omega)
              have hput := put_or _ (k % 64) vl (by omega)
              obtain ⟨T, hT⟩ : ∃ T, T = tb s k := ⟨_, rfl⟩
              have hT' : (s.getD (k / 64) 0).testBit (k % 64) = T := hT.symm
              rw [hT'] at hand
              obtain ⟨v, hv⟩ : ∃ v, v = s.getD (k / 64) 0 := ⟨_, rfl⟩
              rw [← hv] at x2 hand hput vl
              have HSeen := hide (show T = true ↔ seenB M i j k from by rw [hT]; exact q6 k hk512)
              have hz := bit_zero T (k % 64)
              obtain ⟨Y, hY⟩ : ∃ Y : Int, Y = ((T.toNat * 2 ^ (k % 64) : Nat) : Int) := ⟨_, rfl⟩
              rw [← hY] at hand hz
              have HB2 := hide q3
              have HBadO := hide (show (T = true ∨ (k : Int) = rt) → R = False from fun hh => by
                rw [HR.out]
                refine eq_false (fun q => once_bad hat hk ?_ q.1.2.2.2)
                rcases hh with hh | hh
                · exact .inl (HSeen.out.1 hh)
                · exact .inr (by rw [← HRt.out]; exact hh))
              have HNx := hide (show T = false → ¬ (k : Int) = rt → HM false (wr.setCell ⟨S, k / 64, none⟩ (.int .u64 ((v ||| 2 ^ (k % 64) : Nat) : Int))) p h M ∧ Set8 (wr.setCell ⟨S, k / 64, none⟩ (.int .u64 ((v ||| 2 ^ (k % 64) : Nat) : Int))) S (putS s k) ∧ Below w.heap.size w (wr.setCell ⟨S, k / 64, none⟩ (.int .u64 ((v ||| 2 ^ (k % 64) : Nat) : Int))) ∧ (∀ a, a < i → shapedP M a) ∧ okB M i (j + 1) ∧ ∀ x, x < 512 → (tb (putS s k) x = true ↔ seenB M i (j + 1) x) from fun h1 h2 => by
                have hks := keeps_set wr S (k / 64) (.int .u64 ((v ||| 2 ^ (k % 64) : Nat) : Int))
                refine ⟨q1.keeps hks (fun y hy hx => by have := HNb.out y hy; omega), ?_, q3.trans (hks.below q3.size (fun y hy hx => by omega)), q4, okB_more hat q5 hk (fun hs => by have := HSeen.out.2 hs; rw [h1] at this; cases this) (by rw [← HRt.out]; exact h2), fun x hx => ?_⟩
                · have := put8_at q2 hk512
                  rw [← hv] at this
                  exact this
                · rw [tb_put8 s k x q2.eight hk512, Bool.or_eq_true, decide_eq_true_iff, q6 x hx, seenB_more hat hk])
              clear hm1 hkc hT hT' hv hY hk q1 q2 q3 q4 q5 q6
              cases T
              · have hz' : (Y != 0) = false := by rw [bne, hz]; rfl
                by_cases hrk : (k : Int) = rt
                · have hrk' : ((k : Int) == rt) = true := by rw [beq_iff_eq]; exact hrk
                  have HF := hide (HBadO.out (.inr hrk))
                  clear hrk hz
                  go_wp2_with fail
                  go_ret
                  exact ⟨RetB.of (by rw [HF.out]; simp), HB2.out⟩
                · have hrk' : ((k : Int) == rt) = false := by rw [beq_eq_false_iff_ne]; exact hrk
                  have HX := hide (HNx.out rfl hrk)
                  clear hrk HNx hz
                  go_wp2_with fail
                  go_roundw
                  case rel => exact ⟨j + 1, by omega, by go_num, putS s k, HX⟩
                  case measure => simp [intOf]; omega
              · have hz' : (Y != 0) = true := by rw [bne, hz]; rfl
                have HF := hide (HBadO.out (.inl rfl))
                clear hz
                go_wp2_with fail
                go_ret
                exact ⟨RetB.of (by rw [HF.out]; simp), HB2.out⟩
          · have hje : j = kl := by omega
            have HNx := hide (show HM false wr p h M ∧ Set8 wr S s ∧ Below w.heap.size w wr ∧ (∀ a, a < i + 1 → shapedP M a) ∧ okB M (i + 1) 0 ∧ ∀ x, x < 512 → (tb s x = true ↔ seenB M (i + 1) 0 x) from by
              obtain ⟨q1, q2, q3, q4, q5, q6⟩ := H.out
              rw [hje, HKl.out] at q5 q6
              refine ⟨q1, q2, q3, fun a ha => ?_, okB_row q5, fun x hx => by rw [q6 x hx, seenB_row]⟩
              by_cases hai : a = i
              · subst hai; exact HSP.out
              · exact q4 a (by omega))
            clear hje
            go_wp2_with fail
            go_roundw
            case rel => exact ⟨i + 1, by omega, by go_num, s, HNx⟩
            case measure => simp [intOf]; omega
    · have hie : i = n := by omega
      subst hie
      obtain ⟨q1, q2, q3, q4, q5, q6⟩ := H.out
      have hpre : preT M := by
        refine ⟨⟨by rw [← HRt.out]; exact b2, by rw [← HRt.out, ← HN.out]; exact b3⟩, by rw [← HN.out]; exact b1, fun a ha => q4 a (by rw [HN.out]; exact ha), once_end (by rw [← HN.out]; exact q5)⟩
      have f1 := q1.f1.1
      rw [← HRt.out] at f1
      have HB3 := hide q3
      by_cases hrm : rt = -1
      · have HF := hide (show R = True from by rw [HR.out]; exact eq_true ⟨hpre, .inl (by rw [← HRt.out]; exact hrm)⟩)
        subst hrm
        clear q1 q2 q3 q4 q5 q6 hpre
        go_wp2_with fail
        go_ret
        exact ⟨RetB.of (by rw [HF.out]; simp), HB3.out⟩
      · have hrm' : (rt == -1) = false := by rw [beq_eq_false_iff_ne]; exact hrm
        have HC := hide (HBd.out hpre (by rw [← HRt.out]; exact hrm) wr q1)
        have HF := hide (show R = (r0 = true) from by
          rw [HR.out]
          exact propext ⟨fun q => q.2.resolve_left (by rw [← HRt.out]; exact hrm), fun q => ⟨hpre, .inr q⟩⟩)
        clear q1 q2 q3 q4 q5 q6 hpre hrm
        go_wp2_with fail
        refine HC.out.mono ?_
        rintro e w4 ⟨rfl, b4⟩
        have HB4 := hide (HB3.out.trans (b4.mono HB3.out.size))
        clear b4 HC
        go_wp2_with fail
        go_ret
        exact ⟨RetB.of (by rw [HF.out]), HB4.out⟩
end Go.Proofs.YgcfaaGreat
