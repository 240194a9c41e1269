import Derived.Test.YgcfaaGreatMarkS
namespace Go.Proofs.YgcfaaGreat
open Go.RowKit Bits Bd
set_option linter.unusedVariables false
set_option maxRecDepth 100000
set_option linter.unusedSimpArgs false
attribute [local go_sem] World.cell?_ext World.frozen?_ext

namespace Bd
/-- Builder.zeros, of one handle. -/
def zero1 (B : Bld) (e : List Nat) (h : Nat) : Prop :=
  tb e h = true ∨ ((B.dead.getD h false = true → ∀ i, i < words (B.o h) → B.A.getD (first (B.o h) + i) 0 = 0) ∧
    (B.dead.getD h false = false → isSt (B.o h) → B.A.getD (first (B.o h)) 0 = mkTag (B.o h).count (B.o h).data (B.o h).ptrs) ∧ (B.dead.getD h false = false → ¬ isSt (B.o h) → paddedP B.A (B.o h)))
def zerosP (B : Bld) (e : List Nat) : Prop := ∀ h, 1 ≤ h → h < B.obj.length → zero1 B e h
end Bd

set_option maxHeartbeats 16000000 in
theorem zeros_calls {w : World} {p : Nat} {B : Bld} {a c : Nat → Nat} (see : See w p B a c) (ok : B.Ok) (hev : evenP B) (hcap : B.A.length ≤ c 0) (hc63 : c 0 ≤ 9223372036854775807) (hat : ∀ x, 1 ≤ x → x < B.obj.length → first (B.o x) + words (B.o x) ≤ B.A.length ∧ (isSt (B.o x) → 1 ≤ words (B.o x)))
    (be : Nat) (e : List Nat) (he : SetAt w be e) :
    Calls Faag.prog 23 #[.pointer (some ⟨p, 0, none⟩), .pointer (some ⟨be, 0, none⟩)] w fun r w' => RetB r (zerosP B e) ∧ Below w.heap.size w w' := by
  obtain ⟨⟨a1, a2⟩, ⟨a3, a4⟩, a5, a6, a7, a8⟩ := hev
  obtain ⟨R, hR⟩ : ∃ R, R = zerosP B e := ⟨_, rfl⟩
  rw [← hR]
  unfold zerosP at hR
  have HR := hide hR
  have HS := hide (And.intro see he)
  have HT := hide hat
  have HOK := hide ok
  have HL := hide (And.intro a5 (And.intro a6 (And.intro a7 a8)))
  clear hR hat ok he see a5 a6 a7 a8
  generalize hno : B.obj.length = no at *
  have HNO := hide hno
  clear hno
  generalize hcc : c 0 = c0 at *
  have HCC := hide hcc
  clear hcc
  obtain ⟨nA, hnA⟩ : ∃ n, n = B.A.length := ⟨_, rfl⟩
  rw [← hnA] at a1 a2 hcap HT
  have HNA := hide hnA
  clear hnA
  go_enter Faag.func23, Faag.ntmps23
  go_wp2_with fail
  go_loopw [5] (fun q wr => ∃ k : Nat, 1 ≤ k ∧ k ≤ no ∧ q = .int .i64 k ∧ Hid (Below w.heap.size w wr) ∧ Hid (∀ h, 1 ≤ h → h < k → zero1 B e h)) (fun q _ => no - (intOf q).toNat)
  case atStart => exact ⟨1, by omega, by omega, rfl, hide (Below.refl _ _), hide (fun h h1 h2 => by omega)⟩
  case round =>
    obtain ⟨k, hk1, hk, rfl, H, hG⟩ := hrel
    have f1 := (HS.out.1.below H.out).f1
    rw [HNO.out] at f1
    by_cases hlt : k < no
    · have SE := hide (HS.out.1.below H.out)
      have bo := SE.out.objs k (by rw [HNO.out]; omega)
      have hpk := HT.out k hk1 hlt
      have lo := HOK.out.obj k
      change (B.o k).Ok at lo
      have hext := hide (extent_calls (B.o k) lo)
      have HZ := hide (show zero1 B e k = _ from by unfold zero1; rfl)
      have hst := hide (structsQ_calls (B.o k) lo)
      have hpad := hide (fun W (hW : ArAt W (a 0) B.A) => padded_calls (a 0) B.A (c 0) (by rw [← HNA.out]; exact a2) (B.o k) lo W hW)
      have hmt := hide (mkTag_calls (B.o k).count (B.o k).data (B.o k).ptrs lo.2.2.2.2.2 lo.2.2.1 lo.2.2.2.1)
      have hIS := hide (show isSt (B.o k) ↔ (B.o k).kind = 2 ∧ (B.o k).code = 7 from Iff.rfl)
      generalize first (B.o k) = fi at *
      generalize words (B.o k) = wd at *
      generalize paddedP B.A (B.o k) = PD at *
      generalize isSt (B.o k) = IS at *
      generalize B.o k = P at *
      obtain ⟨kind, at_, data, ptrs, code, count⟩ := P
      dsimp only at hmt hIS HZ
      generalize mkTag count data ptrs = tg at *
      have d0 := bo 0 _ rfl
      have d1 := bo 1 _ rfl
      have d2 := bo 2 _ rfl
      have d3 := bo 3 _ rfl
      have d4 := bo 4 _ rfl
      have d5 := bo 5 _ rfl
      obtain ⟨l1, l2, l3, l4, l5, l6⟩ := lo
      dsimp only at d0 d1 d2 d3 d4 d5 l1 l2 l3 l4 l5 l6
      simp only [Nat.add_zero] at d0
      unfold ptrC at hext hst hpad
      dsimp only at hext hst hpad
      have hpw : p < wr.heap.size := lt_of_cell f1
      have hg1 : a 1 < wr.heap.size := lt_of_cell d0
      have hBA := hide (H.out.step ((Below.refl wr.heap.size wr).alloc (Nat.le_refl _) (.cells #[.int .u8 (kind : Int), .int .u16 (at_ : Int), .int .u8 (data : Int), .int .u8 (ptrs : Int), .int .u8 (code : Int), .int .u16 (count : Int)] 62)))
      have rP := hide (RowAt.of_alloc wr [.int .u8 (kind : Int), .int .u16 (at_ : Int), .int .u8 (data : Int), .int .u8 (ptrs : Int), .int .u8 (code : Int), .int .u16 (count : Int)] 62)
      obtain ⟨p1, p2⟩ := hpk
      clear bo
      obtain ⟨b6, hb6⟩ : ∃ b, b = wr.heap.size := ⟨_, rfl⟩
      go_wp2_with fail
      refine (hext.out _).mono ?_
      rintro r w1 ⟨rfl, hb1⟩
      have HB2 := hide (hBA.out.step hb1)
      have r6 := hide (rP.out.keeps (Keeps.of_below hb1) (fun h1 h2 => by omega))
      rw [← hb6] at r6 ⊢
      clear hb1 hext rP hBA SE f1 d0 d1 d2 d3 d4 d5 hpw hg1 H hb6
      have SE1 := hide (HS.out.1.below HB2.out)
      have hhas := hide (has_calls be k e (by omega) w1 (HS.out.2.below HB2.out))
      have f0 := SE1.out.f0
      rw [← HNA.out, HCC.out] at f0
      have f5 := SE1.out.f5
      rw [HL.out.2.2.2] at f5
      have z1 := SE1.out.deads k (by have := HL.out.2.2.2; omega)
      obtain ⟨tk, htk⟩ : ∃ t, t = tb e k := ⟨_, rfl⟩
      rw [← htk] at hhas HZ
      clear htk
      generalize B.dead.getD k false = dk at *
      obtain ⟨⟨q0, q1, q2, q3, q4, q5⟩, -⟩ := six r6.out
      rcases Nat.eq_zero_or_pos wd with hw0 | hw0
      · subst hw0
        cases tk with
        | true =>
          have HF := hide (show zero1 B e k from by rw [HZ.out]; exact .inl rfl)
          clear HZ
          go_wp2_with fail
          refine (hhas.out).mono ?_
          rintro r w' ⟨rfl, e1⟩
          rw [e1]
          clear e1 hhas
          go_wp2_with fail
          go_roundw
          case rel => exact ⟨k + 1, by omega, by omega, by go_num, hide HB2.out, hide (fun h h1 h2 => by
            by_cases hh : h < k
            · exact hG.out h h1 hh
            · have : h = k := by omega
              subst this; exact HF.out)⟩
          case measure => simp [intOf]; omega
        | false =>
          cases dk with
          | true =>
            have HF := hide (show zero1 B e k from by rw [HZ.out]; exact .inr ⟨fun _ i hi => by omega, fun h => Bool.noConfusion h, fun h => Bool.noConfusion h⟩)
            clear HZ
            go_wp2_with fail
            refine (hhas.out).mono ?_
            rintro r w' ⟨rfl, e1⟩
            rw [e1]
            clear e1 hhas
            go_wp2_with fail
            go_loopw [59] (fun q wr => q = .int .i64 0 ∧ Hid (wr = w1)) (fun q _ => 0)
            case atStart => exact ⟨rfl, hide rfl⟩
            case round =>
              obtain ⟨rfl, hww⟩ := hrel
              obtain rfl := hww.out
              clear hww
              go_wp2_with fail
              go_roundw
              case rel => exact ⟨k + 1, by omega, by omega, by go_num, hide HB2.out, hide (fun h h1 h2 => by
                by_cases hh : h < k
                · exact hG.out h h1 hh
                · have : h = k := by omega
                  subst this; exact HF.out)⟩
              case measure => simp [intOf]; omega
          | false =>
            by_cases hS : kind = 2 ∧ code = 7
            · have HSS := hide hS
              obtain ⟨rfl, rfl⟩ := hS
              have hq : decide (2 = 2 ∧ 7 = 7) = true := decide_eq_true ⟨rfl, rfl⟩
              rw [hq] at hst
              have hw1 := p2 (hIS.out.2 ⟨rfl, rfl⟩)
              omega
            · have hq : decide (kind = 2 ∧ code = 7) = false := decide_eq_false hS
              rw [hq] at hst
              have HZ2 := hide (show zero1 B e k ↔ PD from by
                rw [HZ.out]
                exact ⟨fun h => h.elim (fun h => Bool.noConfusion h) (fun h => h.2.2 rfl (fun h2 => hS (hIS.out.1 h2))), fun h => .inr ⟨fun h => Bool.noConfusion h, fun _ h2 => absurd (hIS.out.1 h2) hS, fun _ _ => h⟩⟩)
              clear HZ hq hS
              go_wp2_with fail
              refine (hhas.out).mono ?_
              rintro r w' ⟨rfl, e1⟩
              rw [e1]
              clear e1 hhas
              go_wp2_with fail
              refine (hst.out _).mono ?_
              rintro r w2 ⟨rfl, hb2⟩
              have HB3 := hide (HB2.out.step hb2)
              have r7 := hide (r6.out.keeps (Keeps.of_below hb2) (fun h1 h2 => by omega))
              clear hb2 q0 q1 q2 q3 q4 q5 f0 f5 z1
              obtain ⟨⟨q0, q1, q2, q3, q4, q5⟩, -⟩ := six r7.out
              have f0 := (HS.out.1.below HB3.out).f0
              go_wp2_with fail
              refine wp_region_qd 5 (by kernel_rfl) (by kernel_rfl) ?_
              simp only [List.take_succ_cons, List.take_zero, List.drop_succ_cons, List.drop_zero]
              repeat (go_big_quiet_step (fail))
              refine wpQuiet_nil ?_
              rintro _ ⟨nq, rfl⟩
              have HB4 := hide (HB3.out.step (below_drewN _ nq))
              go_wp2_with fail
              refine (hpad.out _ ⟨(HS.out.1.below HB4.out).words, HOK.out.A⟩).mono ?_
              rintro r w3 ⟨⟨r', rfl, hr⟩, hb3⟩
              have HB5 := hide (HB4.out.step hb3)
              clear hb3 hpad
              cases r' with
              | false =>
                have HF := hide (show ¬ zero1 B e k from fun h => by have := hr.2 (HZ2.out.1 h); cases this)
                clear hr HZ2
                go_wp2_with fail
                go_ret
                refine ⟨RetB.of ⟨fun h => Bool.noConfusion h, fun h => ?_⟩, HB5.out⟩
                rw [HR.out] at h
                exact (HF.out (h k hk1 hlt)).elim
              | true =>
                have HF := hide (show zero1 B e k from HZ2.out.2 (hr.1 rfl))
                clear hr HZ2
                go_wp2_with fail
                go_roundw
                case rel => exact ⟨k + 1, by omega, by omega, by go_num, hide HB5.out, hide (fun h h1 h2 => by
                  by_cases hh : h < k
                  · exact hG.out h h1 hh
                  · have : h = k := by omega
                    subst this; exact HF.out)⟩
                case measure => simp [intOf]; omega
      · have hnn : ¬ fi + wd = fi := by omega
        cases tk with
        | true =>
          have HF := hide (show zero1 B e k from by rw [HZ.out]; exact .inl rfl)
          clear HZ
          go_wp2_with fail
          refine (hhas.out).mono ?_
          rintro r w' ⟨rfl, e1⟩
          rw [e1]
          clear e1 hhas
          go_wp2_with fail
          go_roundw
          case rel => exact ⟨k + 1, by omega, by omega, by go_num, hide HB2.out, hide (fun h h1 h2 => by
            by_cases hh : h < k
            · exact hG.out h h1 hh
            · have : h = k := by omega
              subst this; exact HF.out)⟩
          case measure => simp [intOf]; omega
        | false =>
          cases dk with
          | true =>
            have HZ2 := hide (show zero1 B e k ↔ ∀ i, i < wd → B.A.getD (fi + i) 0 = 0 from by
              rw [HZ.out]
              exact ⟨fun h => h.elim (fun h => Bool.noConfusion h) (fun h => h.1 rfl), fun h => .inr ⟨fun _ => h, fun h => Bool.noConfusion h, fun h => Bool.noConfusion h⟩⟩)
            have HWS := hide (show ∀ i, i < wd → w1.cell? ⟨a 0, fi + i, none⟩ = some (.int .u64 (B.A.getD (fi + i) 0 : Nat)) from fun i hi => SE1.out.words (fi + i) (by rw [← HNA.out]; omega))
            clear HZ
            go_wp2_with fail
            refine (hhas.out).mono ?_
            rintro r w' ⟨rfl, e1⟩
            rw [e1]
            clear e1 hhas
            go_wp2_with fail
            go_loopw [59] (fun q wr => ∃ j : Nat, j ≤ wd ∧ q = .int .i64 j ∧ Hid (wr = w1) ∧ Hid (∀ i, i < j → B.A.getD (fi + i) 0 = 0)) (fun q _ => wd - (intOf q).toNat)
            case atStart => exact ⟨0, by omega, rfl, hide rfl, hide (fun x hx => by omega)⟩
            case round =>
              obtain ⟨j, hj, rfl, hww, hI⟩ := hrel
              obtain rfl := hww.out
              clear hww
              by_cases hjw : j < wd
              · have cj := HWS.out j hjw
                have lA := HOK.out.A (fi + j)
                obtain ⟨v, hv⟩ : ∃ v, v = B.A.getD (fi + j) 0 := ⟨_, rfl⟩
                rw [← hv] at cj lA
                have HV := hide hv
                clear hv
                by_cases hv0 : v = 0
                · subst hv0
                  go_wp2_with fail
                  go_roundw
                  case rel => exact ⟨j + 1, by omega, by go_num, hide (by simp), hide (fun x hx => by
                    by_cases hh : x < j
                    · exact hI.out x hh
                    · have : x = j := by omega
                      subst this; exact HV.out.symm)⟩
                  case measure => simp [intOf]; omega
                · have g0 : ((v : Int) != 0) = true := by simp; omega
                  have HF := hide (show ¬ zero1 B e k from by rw [HZ2.out]; exact fun h => hv0 (HV.out.trans (h j hjw)))
                  go_wp2_with fail
                  go_ret
                  refine ⟨RetB.of ⟨fun h => Bool.noConfusion h, fun h => ?_⟩, HB2.out⟩
                  rw [HR.out] at h
                  exact (HF.out (h k hk1 hlt)).elim
              · have HF := hide (show zero1 B e k from HZ2.out.2 (fun i hi => hI.out i (by omega)))
                go_wp2_with fail
                go_roundw
                case rel => exact ⟨k + 1, by omega, by omega, by go_num, hide HB2.out, hide (fun h h1 h2 => by
                  by_cases hh : h < k
                  · exact hG.out h h1 hh
                  · have : h = k := by omega
                    subst this; exact HF.out)⟩
                case measure => simp [intOf]; omega
          | false =>
            by_cases hS : kind = 2 ∧ code = 7
            · have HSS := hide hS
              obtain ⟨rfl, rfl⟩ := hS
              have hq : decide (2 = 2 ∧ 7 = 7) = true := decide_eq_true ⟨rfl, rfl⟩
              rw [hq] at hst
              have hw1 := p2 (hIS.out.2 ⟨rfl, rfl⟩)
              have HZ2 := hide (show zero1 B e k ↔ B.A.getD fi 0 = tg from by
                rw [HZ.out]
                exact ⟨fun h => h.elim (fun h => Bool.noConfusion h) (fun h => h.2.1 rfl (hIS.out.2 ⟨rfl, rfl⟩)), fun h => .inr ⟨fun h => Bool.noConfusion h, fun _ _ => h, fun _ h2 => absurd (hIS.out.2 ⟨rfl, rfl⟩) h2⟩⟩)
              clear HZ hq
              go_wp2_with fail
              refine (hhas.out).mono ?_
              rintro r w' ⟨rfl, e1⟩
              rw [e1]
              clear e1 hhas
              go_wp2_with fail
              refine (hst.out _).mono ?_
              rintro r w2 ⟨rfl, hb2⟩
              have HB3 := hide (HB2.out.step hb2)
              have r7 := hide (r6.out.keeps (Keeps.of_below hb2) (fun h1 h2 => by omega))
              clear hb2 q0 q1 q2 q3 q4 q5 f0 f5 z1
              obtain ⟨⟨q0, q1, q2, q3, q4, q5⟩, -⟩ := six r7.out
              have cj := (HS.out.1.below HB3.out).words fi (by rw [← HNA.out]; omega)
              have lA := HOK.out.A fi
              generalize B.A.getD fi 0 = v at *
              by_cases hv : v = tg
              · have g0 : ((v : Int) != (tg : Int)) = false := by simp; omega
                have HF := hide (show zero1 B e k from HZ2.out.2 hv)
                clear HZ2
                go_wp2_with fail
                refine wp_region_qx 10 (by kernel_rfl) (by kernel_rfl) ?_
                simp only [List.take_succ_cons, List.take_zero, List.drop_succ_cons, List.drop_zero]
                repeat (go_big_quiet_step ((go_at_call 64; exact Calls.ext_of_same (hmt.out _))))
                refine wpQuiet_nil ?_
                rintro _ ⟨x, rfl⟩
                go_wp2_with fail
                go_roundw
                case rel => exact ⟨k + 1, by omega, by omega, by go_num, hide (HB3.out.step (World.below_ext _ _)), hide (fun h h1 h2 => by
                  by_cases hh : h < k
                  · exact hG.out h h1 hh
                  · have : h = k := by omega
                    subst this; exact HF.out)⟩
                case measure => simp [intOf]; omega
              · have g0 : ((v : Int) != (tg : Int)) = true := by simp; omega
                have HF := hide (show ¬ zero1 B e k from fun h => hv (HZ2.out.1 h))
                clear HZ2
                go_wp2_with fail
                refine wp_region_qx 10 (by kernel_rfl) (by kernel_rfl) ?_
                simp only [List.take_succ_cons, List.take_zero, List.drop_succ_cons, List.drop_zero]
                repeat (go_big_quiet_step ((go_at_call 64; exact Calls.ext_of_same (hmt.out _))))
                refine wpQuiet_nil ?_
                rintro _ ⟨x, rfl⟩
                go_wp2_with fail
                go_ret
                refine ⟨RetB.of ⟨fun h => Bool.noConfusion h, fun h => ?_⟩, (HB3.out.step (World.below_ext _ _))⟩
                rw [HR.out] at h
                exact (HF.out (h k hk1 hlt)).elim
            · have hq : decide (kind = 2 ∧ code = 7) = false := decide_eq_false hS
              rw [hq] at hst
              have HZ2 := hide (show zero1 B e k ↔ PD from by
                rw [HZ.out]
                exact ⟨fun h => h.elim (fun h => Bool.noConfusion h) (fun h => h.2.2 rfl (fun h2 => hS (hIS.out.1 h2))), fun h => .inr ⟨fun h => Bool.noConfusion h, fun _ h2 => absurd (hIS.out.1 h2) hS, fun _ _ => h⟩⟩)
              clear HZ hq hS
              go_wp2_with fail
              refine (hhas.out).mono ?_
              rintro r w' ⟨rfl, e1⟩
              rw [e1]
              clear e1 hhas
              go_wp2_with fail
              refine (hst.out _).mono ?_
              rintro r w2 ⟨rfl, hb2⟩
              have HB3 := hide (HB2.out.step hb2)
              have r7 := hide (r6.out.keeps (Keeps.of_below hb2) (fun h1 h2 => by omega))
              clear hb2 q0 q1 q2 q3 q4 q5 f0 f5 z1
              obtain ⟨⟨q0, q1, q2, q3, q4, q5⟩, -⟩ := six r7.out
              have f0 := (HS.out.1.below HB3.out).f0
              go_wp2_with fail
              refine wp_region_qd 5 (by kernel_rfl) (by kernel_rfl) ?_
              simp only [List.take_succ_cons, List.take_zero, List.drop_succ_cons, List.drop_zero]
              repeat (go_big_quiet_step (fail))
              refine wpQuiet_nil ?_
              rintro _ ⟨nq, rfl⟩
              have HB4 := hide (HB3.out.step (below_drewN _ nq))
              go_wp2_with fail
              refine (hpad.out _ ⟨(HS.out.1.below HB4.out).words, HOK.out.A⟩).mono ?_
              rintro r w3 ⟨⟨r', rfl, hr⟩, hb3⟩
              have HB5 := hide (HB4.out.step hb3)
              clear hb3 hpad
              cases r' with
              | false =>
                have HF := hide (show ¬ zero1 B e k from fun h => by have := hr.2 (HZ2.out.1 h); cases this)
                clear hr HZ2
                go_wp2_with fail
                go_ret
                refine ⟨RetB.of ⟨fun h => Bool.noConfusion h, fun h => ?_⟩, HB5.out⟩
                rw [HR.out] at h
                exact (HF.out (h k hk1 hlt)).elim
              | true =>
                have HF := hide (show zero1 B e k from HZ2.out.2 (hr.1 rfl))
                clear hr HZ2
                go_wp2_with fail
                go_roundw
                case rel => exact ⟨k + 1, by omega, by omega, by go_num, hide HB5.out, hide (fun h h1 h2 => by
                  by_cases hh : h < k
                  · exact hG.out h h1 hh
                  · have : h = k := by omega
                    subst this; exact HF.out)⟩
                case measure => simp [intOf]; omega
    · go_wp2_with fail
      go_ret
      refine ⟨RetB.of ⟨fun _ => ?_, fun _ => rfl⟩, H.out⟩
      rw [HR.out]
      exact fun h h1 h2 => hG.out h h1 (by omega)
end Go.Proofs.YgcfaaGreat
