import Derived.Test.YgcfaaGreatHangs
namespace Go.Proofs.YgcfaaGreat
open Go.RowKit Bits Bd
set_option linter.unusedVariables false
set_option maxRecDepth 100000
set_option linter.unusedSimpArgs false
attribute [local go_sem] World.cell?_ext World.frozen?_ext

namespace Bd
def elemD (B : Bld) (h j : Nat) : Decidable (elemP B h j) := by
  unfold elemP
  haveI := ptrD (B.o (h + 1 + j)) ⟨1, (B.o h).at_ + j * ((B.o h).data + (B.o h).ptrs), (B.o h).data, (B.o h).ptrs, 0, 0⟩
  infer_instance
/-- The places i .. i + k - 1 put into a set. -/
def putMany : Nat → Nat → List Nat → List Nat
  | 0, _, s => s
  | k + 1, i, s => putMany k (i + 1) (putS s i)
/-- Builder.row -/
def rowGo (B : Bld) : Nat → Nat → Nat → List Nat → Option (List Nat)
  | 0, _, _, _ => none
  | f + 1, w, h, s =>
    haveI := isStD (B.o h)
    haveI : ∀ j, Decidable (elemP B h j) := elemD B h
    if h < B.obj.length then
      if ¬ ((B.o h).kind = 1 ∨ (B.o h).kind = 2) then none
      else if B.A.length < w + words (B.o h) ∨ ¬ (B.o h).at_ = (if isSt (B.o h) then w + 1 else w) then none
      else if ¬ isSt (B.o h) then rowGo B f (w + words (B.o h)) (h + 1) s
      else if B.obj.length ≤ h + (B.o h).count ∨ ¬ (∀ j, j < (B.o h).count → elemP B h j) then none
      else rowGo B f (w + words (B.o h)) (h + (B.o h).count + 1) (putMany (B.o h).count (h + 1) s)
    else if w = B.A.length then some s else none
end Bd
theorem putMany_succ : ∀ (k i : Nat) (s : List Nat), putMany (k + 1) i s = putS (putMany k i s) (i + k)
  | 0, i, s => rfl
  | k + 1, i, s => by
    rw [putMany, putMany_succ k (i + 1) (putS s i), show i + 1 + k = i + (k + 1) by omega]
    rfl
theorem words_isSt {p : Ptr} (h : isSt p) (hw : words p ≤ 256) : p.count ≤ 128 ∧ p.count * (p.data + p.ptrs) ≤ 255 ∧ words p = 1 + p.count * (p.data + p.ptrs) := by
  obtain ⟨h1, h2⟩ := h
  unfold words at hw ⊢
  rw [if_neg (by omega), if_neg (by omega)] at hw ⊢
  split at hw
  · omega
  · rename_i h3
    rw [if_neg h3]
    rw [if_neg (by omega), if_neg (by omega)] at hw ⊢
    split at hw
    · rename_i h4
      rw [if_pos h4]
      generalize p.count * (p.data + p.ptrs) = M at hw ⊢
      omega
    · omega

set_option maxHeartbeats 16000000 in
theorem row_calls {w : World} {p : Nat} {B : Bld} {a c : Nat → Nat} (see : See w p B a c) (ok : B.Ok) (hev : evenP B) (be : Nat) (s0 : List Nat) (hs0 : SetAt w be s0) (hne : be ≠ p ∧ ∀ i, i < 6 → a i ≠ be) :
    Calls Faag.prog 19 #[.pointer (some ⟨p, 0, none⟩), .pointer (some ⟨be, 0, none⟩)] w (HungOut w be (rowGo B B.obj.length 1 1 s0)) := by
  have HEV := hide hev
  obtain ⟨⟨a1, a2⟩, ⟨a3, a4⟩, a5, a6, a7, a8⟩ := hev
  obtain ⟨R, hR⟩ : ∃ R, R = rowGo B B.obj.length 1 1 s0 := ⟨_, rfl⟩
  rw [← hR]
  have HR := hide hR
  have HS := hide see
  have HS0 := hide hs0
  have HNE := hide hne
  have HOK := hide ok
  clear hR hs0 hne ok see a5 a6 a7 a8
  generalize hno : B.obj.length = no at *
  have HNO := hide hno
  clear hno
  obtain ⟨nA, hnA⟩ : ∃ n, n = B.A.length := ⟨_, rfl⟩
  rw [← hnA] at a1 a2
  have HNA := hide hnA
  clear hnA
  go_enter Faag.func19, Faag.ntmps19
  go_wp2_with fail
  go_loopw [5, 6] (fun q5 q6 wr => ∃ W k f : Nat, 1 ≤ k ∧ k ≤ no ∧ W ≤ nA ∧ no - k < f ∧ q5 = .int .i64 W ∧ q6 = .int .i64 k ∧ Hid (Keeps (fun k => k = be) w wr ∧ ∃ s, SetAt wr be s ∧ R = rowGo B f W k s)) (fun q5 q6 _ => no - (intOf q6).toNat)
  case atStart => exact ⟨1, 1, no, by omega, by omega, by omega, by omega, rfl, rfl, hide ⟨Keeps.refl _ _, s0, HS0.out, HR.out⟩⟩
  case round =>
    obtain ⟨W, k, f, hk1, hk, hW, hf, rfl, rfl, H⟩ := hrel
    obtain ⟨hkr, s, hs, hRr⟩ := H.out
    have SE := hide (HS.out.keeps hkr (fun e => HNE.out.1 e.symm) (fun i hi e => HNE.out.2 i hi e))
    have f1 := SE.out.f1
    have f0 := SE.out.f0
    rw [HNO.out] at f1
    rw [← HNA.out] at f0
    obtain ⟨f, rfl⟩ : ∃ f', f = f' + 1 := ⟨f - 1, by omega⟩
    rw [rowGo, HNO.out, ← HNA.out] at hRr
    have HKR := hide hkr
    have HST := hide hs
    by_cases hlt : k < no
    · rw [if_pos hlt] at hRr
      have bo := SE.out.objs k (by rw [HNO.out]; omega)
      have lo := HOK.out.obj k
      change (B.o k).Ok at lo
      have hwd := hide (words_calls (B.o k) lo)
      have hst := hide (structsQ_calls (B.o k) lo)
      have hEL := hide (fun (W' : World) (hW' : Below wr.heap.size wr W') (n : Nat) (hn : k + n < no) (hm : (B.o k).at_ + n * ((B.o k).data + (B.o k).ptrs) ≤ 60000) => elements_calls (SE.out.below hW') HOK.out HEV.out k n (by rw [HNO.out]; exact hn) hm)
      have HIS := hide (show isSt (B.o k) ↔ (B.o k).kind = 2 ∧ (B.o k).code = 7 from Iff.rfl)
      have HWL := hide (words_le (B.o k))
      have HWS := hide (fun h : isSt (B.o k) => @words_isSt (B.o k) h)
      have HRr := hide hRr
      clear hkr hs H hRr
      generalize words (B.o k) = wd at *
      generalize B.o k = P at *
      obtain ⟨kind, at_, data, ptrs, code, count⟩ := P
      have d0 := bo 0 _ rfl
      have d1 := bo 1 _ rfl
      have d2 := bo 2 _ rfl
      have d3 := bo 3 _ rfl
      have d4 := bo 4 _ rfl
      have d5 := bo 5 _ rfl
      obtain ⟨l1, l2, l3, l4, l5, l6⟩ := lo
      dsimp only at d0 d1 d2 d3 d4 d5 l1 l2 l3 l4 l5 l6 HRr HIS HWS hEL
      simp only [Nat.add_zero] at d0
      unfold ptrC at hwd hst
      dsimp only at hwd hst
      have hpw : p < wr.heap.size := lt_of_cell f1
      have hg1 : a 1 < wr.heap.size := lt_of_cell d0
      clear bo
      by_cases hkd : kind = 1 ∨ kind = 2
      · have gk : (((kind : Int) != 1) = false) ∨ ((((kind : Int) != 1) = true) ∧ (((kind : Int) != 2) = false)) := by
          rcases hkd with h | h
          · exact .inl (by simp; omega)
          · exact .inr ⟨by simp; omega, by simp; omega⟩
        have hR2 := HRr.out
        rw [if_neg (fun h => h hkd)] at hR2
        have hwdl : wd ≤ 257 := HWL.out
        by_cases hS : kind = 2 ∧ code = 7
        · have hIS : isSt ⟨kind, at_, data, ptrs, code, count⟩ := HIS.out.2 hS
          have hq : decide (kind = 2 ∧ code = 7) = true := decide_eq_true hS
          rw [hq] at hst
          rw [if_pos hIS] at hR2
          obtain ⟨rfl, rfl⟩ := hS
          by_cases hbad : nA < W + wd ∨ ¬ at_ = W + 1
          · have HN := hide (show R = none from by rw [hR2, if_pos hbad])
            have gb : (nA < W + wd) ∨ (W + wd ≤ nA ∧ (((at_ : Int) != (W : Int) + 1) = true)) := by
              by_cases h1 : nA < W + wd
              · exact .inl h1
              · exact .inr ⟨by omega, by simp; omega⟩
            clear HRr hR2 hEL hkd hbad hq gk hIS
            rcases gb with g3 | ⟨g3, g4⟩
            all_goals
              go_wp2_with fail
              refine (hwd.out _).mono ?_
              rintro r w1 ⟨rfl, hb1⟩
              obtain ⟨x1, rfl⟩ := World.ext_of_below hb1
              clear hb1
              go_wp2_with fail
              refine (hst.out _).mono ?_
              rintro r w1 ⟨rfl, hb1⟩
              obtain ⟨x2, rfl⟩ := ext_below ⟨x1, rfl⟩ hb1
              clear hb1 x1
              go_wp2_with fail
              go_ret
              exact ⟨by rw [HN.out]; rfl, HKR.out.trans ((Keeps.of_below (((Below.refl wr.heap.size wr).alloc (Nat.le_refl _) _).step (World.below_ext _ _))).mono (fun j hj hx => by omega))⟩
          · rw [if_neg hbad, if_neg (by simpa using hIS)] at hR2
            have b1 : W + wd ≤ nA := by omega
            have b2 := hide (show at_ = W + 1 by omega)
            have g9 : ((at_ : Int) != (W : Int) + 1) = false := by simp; omega
            obtain ⟨c1, c2, c3⟩ := HWS.out hIS (by omega)
            by_cases hcn : no ≤ k + count
            · have HN := hide (show R = none from by rw [hR2, if_pos (.inl hcn)])
              clear HRr hR2 hEL hkd hbad hq c2 c3 gk hIS
              all_goals
                go_wp2_with fail
                refine (hwd.out _).mono ?_
                rintro r w1 ⟨rfl, hb1⟩
                obtain ⟨x1, rfl⟩ := World.ext_of_below hb1
                clear hb1
                go_wp2_with fail
                refine (hst.out _).mono ?_
                rintro r w1 ⟨rfl, hb1⟩
                obtain ⟨x2, rfl⟩ := ext_below ⟨x1, rfl⟩ hb1
                clear hb1 x1
                go_wp2_with fail
                refine (hst.out _).mono ?_
                rintro r w1 ⟨rfl, hb1⟩
                obtain ⟨x3, rfl⟩ := ext_below ⟨x2, rfl⟩ hb1
                clear hb1 x2
                go_wp2_with fail
                go_ret
                exact ⟨by rw [HN.out]; rfl, HKR.out.trans ((Keeps.of_below (((Below.refl wr.heap.size wr).alloc (Nat.le_refl _) _).step (World.below_ext _ _))).mono (fun j hj hx => by omega))⟩
            · have hcn' : k + count < no := by omega
              have hELc := hide (fun W' hW' => hEL.out W' hW' count hcn' (by have := b2.out; omega))
              have HR3 := hide hR2
              clear HRr hR2 hEL hkd hbad hq c2 c3 hcn hIS
              clear gk
              go_wp2_with fail
              refine (hwd.out _).mono ?_
              rintro r w1 ⟨rfl, hb1⟩
              obtain ⟨x1, rfl⟩ := World.ext_of_below hb1
              clear hb1
              go_wp2_with fail
              refine (hst.out _).mono ?_
              rintro r w1 ⟨rfl, hb1⟩
              obtain ⟨x2, rfl⟩ := ext_below ⟨x1, rfl⟩ hb1
              clear hb1 x1
              go_wp2_with fail
              refine (hst.out _).mono ?_
              rintro r w1 ⟨rfl, hb1⟩
              obtain ⟨x3, rfl⟩ := ext_below ⟨x2, rfl⟩ hb1
              clear hb1 x2
              go_wp2_with fail
              refine (hELc.out _ (((Below.refl wr.heap.size wr).alloc (Nat.le_refl _) _).step (World.below_ext _ _))).mono ?_
              rintro r w4 ⟨⟨r', rfl, hr⟩, hb4⟩
              have hK4 : Keeps (fun k => k = be) w w4 := HKR.out.trans ((Keeps.of_below ((((Below.refl wr.heap.size wr).alloc (Nat.le_refl _) _).step (World.below_ext _ _)).step hb4)).mono (fun j hj hx => by omega))
              have hS4 : SetAt w4 be s := HST.out.below ((((Below.refl wr.heap.size wr).alloc (Nat.le_refl _) _).step (World.below_ext _ _)).step hb4)
              have HK4 := hide hK4
              have HS4 := hide hS4
              clear hb4 hK4 hS4 hELc
              cases r' with
              | false =>
                have HN := hide (show R = none from by rw [HR3.out, if_pos (.inr (fun h => by have := hr.2 h; cases this))])
                clear hr HR3
                go_wp2_with fail
                go_ret
                exact ⟨by rw [HN.out]; rfl, HK4.out⟩
              | true =>
                have HN := hide (show R = rowGo B f (W + wd) (k + count + 1) (putMany count (k + 1) s) from by
                  rw [HR3.out, if_neg (fun h => h.elim (fun h => by omega) (fun h => h (hr.1 rfl)))])
                clear hr HR3
                go_wp2_with fail
                go_loopw [11] (fun q wr => ∃ j : Nat, 1 ≤ j ∧ j ≤ count + 1 ∧ q = .int .i64 j ∧ Hid (Keeps (fun k => k = be) w wr ∧ SetAt wr be (putMany (j - 1) (k + 1) s))) (fun q _ => count + 1 - (intOf q).toNat)
                case atStart => exact ⟨1, by omega, by omega, rfl, hide ⟨HK4.out, HS4.out⟩⟩
                case round =>
                  obtain ⟨j, hj1, hj2, rfl, HJ⟩ := hrel
                  by_cases hjl : j ≤ count
                  · have hput := hide (putS_calls be (k + j) _ (by omega) _ HJ.out.2)
                    go_wp2_with fail
                    refine (hput.out).mono ?_
                    rintro r w5 ⟨rfl, nq, hw5⟩
                    have HF := hide (show Keeps (fun k => k = be) w w5 ∧ SetAt w5 be (putMany (j + 1 - 1) (k + 1) s) from by
                      rw [hw5]
                      refine ⟨HJ.out.1.trans (((Keeps.refl (fun k => k = be) _).drewN nq).setCell (p := ⟨be, (k + j) / 64, none⟩) (fun _ => rfl) _), ?_⟩
                      rw [show j + 1 - 1 = (j - 1) + 1 by omega, putMany_succ, show k + 1 + (j - 1) = k + j by omega]
                      exact putS_at (w := World.drewN _ nq) ⟨HJ.out.2.row.drewN nq, HJ.out.2.four, HJ.out.2.lt⟩ (by omega))
                    clear hw5 hput
                    go_wp2_with fail
                    go_roundw
                    case rel => exact ⟨j + 1, by omega, by omega, by go_num, HF⟩
                    case measure => simp [intOf]; omega
                  · have hje : j - 1 = count := by omega
                    have HF := hide (show Keeps (fun k => k = be) w wr ∧ SetAt wr be (putMany count (k + 1) s) from by rw [← hje]; exact HJ.out)
                    clear hje HJ
                    go_wp2_with fail
                    go_roundw
                    case rel => exact ⟨W + wd, k + count + 1, f, by omega, by omega, by omega, by omega, by go_num, by go_num, hide ⟨HF.out.1, _, HF.out.2, HN.out⟩⟩
                    case measure => simp [intOf]; omega
        · have hIS : ¬ isSt ⟨kind, at_, data, ptrs, code, count⟩ := fun h => hS (HIS.out.1 h)
          have hq : decide (kind = 2 ∧ code = 7) = false := decide_eq_false hS
          rw [hq] at hst
          rw [if_neg hIS] at hR2
          clear hS
          by_cases hbad : nA < W + wd ∨ ¬ at_ = W
          · have HN := hide (show R = none from by rw [hR2, if_pos hbad])
            have gb : (nA < W + wd) ∨ (W + wd ≤ nA ∧ (((at_ : Int) != (W : Int)) = true)) := by
              by_cases h1 : nA < W + wd
              · exact .inl h1
              · exact .inr ⟨by omega, by simp; omega⟩
            clear HRr hR2 hEL hkd hbad hq hIS
            rcases gk with g1 | ⟨g1, g2⟩
            all_goals
              rcases gb with g3 | ⟨g3, g4⟩
            all_goals
              go_wp2_with fail
              refine (hwd.out _).mono ?_
              rintro r w1 ⟨rfl, hb1⟩
              obtain ⟨x1, rfl⟩ := World.ext_of_below hb1
              clear hb1
              go_wp2_with fail
              refine (hst.out _).mono ?_
              rintro r w1 ⟨rfl, hb1⟩
              obtain ⟨x2, rfl⟩ := ext_below ⟨x1, rfl⟩ hb1
              clear hb1 x1
              go_wp2_with fail
              go_ret
              exact ⟨by rw [HN.out]; rfl, HKR.out.trans ((Keeps.of_below (((Below.refl wr.heap.size wr).alloc (Nat.le_refl _) _).step (World.below_ext _ _))).mono (fun j hj hx => by omega))⟩
          · rw [if_neg hbad, if_pos hIS] at hR2
            have b1 : W + wd ≤ nA := by omega
            have b2 := hide (show at_ = W by omega)
            have g9 : ((at_ : Int) != (W : Int)) = false := by simp; omega
            have HN := hide hR2
            clear HRr hR2 hEL hkd hbad hq hIS
            rcases gk with g1 | ⟨g1, g2⟩
            all_goals
              go_wp2_with fail
              refine (hwd.out _).mono ?_
              rintro r w1 ⟨rfl, hb1⟩
              obtain ⟨x1, rfl⟩ := World.ext_of_below hb1
              clear hb1
              go_wp2_with fail
              refine (hst.out _).mono ?_
              rintro r w1 ⟨rfl, hb1⟩
              obtain ⟨x2, rfl⟩ := ext_below ⟨x1, rfl⟩ hb1
              clear hb1 x1
              go_wp2_with fail
              refine (hst.out _).mono ?_
              rintro r w1 ⟨rfl, hb1⟩
              obtain ⟨x3, rfl⟩ := ext_below ⟨x2, rfl⟩ hb1
              clear hb1 x2
              go_wp2_with fail
              go_roundw
              case rel => exact ⟨W + wd, k + 1, f, by omega, by omega, by omega, by omega, by go_num, by go_num, hide ⟨HKR.out.trans ((Keeps.of_below (((Below.refl wr.heap.size wr).alloc (Nat.le_refl _) _).step (World.below_ext _ _))).mono (fun j hj hx => by omega)), s, HST.out.below (((Below.refl wr.heap.size wr).alloc (Nat.le_refl _) _).step (World.below_ext _ _)), HN.out⟩⟩
              case measure => simp [intOf]; omega
      · have HN := hide (show R = none from by rw [HRr.out, if_pos hkd])
        have g1 : ((kind : Int) != 1) = true := by simp; omega
        have g2 : ((kind : Int) != 2) = true := by simp; omega
        clear HRr hwd hst hEL
        go_wp2_with fail
        go_ret
        exact ⟨by rw [HN.out]; rfl, HKR.out.trans ((Keeps.of_below ((Below.refl wr.heap.size wr).alloc (Nat.le_refl _) _)).mono (fun j hj hx => by omega))⟩
    · rw [if_neg hlt] at hRr
      by_cases hw : W = nA
      · have g1 : ((W : Int) == (nA : Int)) = true := by simp; omega
        have HN := hide (show R = some s from by rw [hRr, if_pos hw])
        clear hRr hkr hs H
        go_wp2_with fail
        go_ret
        exact ⟨by rw [HN.out]; exact ⟨rfl, HST.out⟩, HKR.out⟩
      · have g1 : ((W : Int) == (nA : Int)) = false := by simp; omega
        have HN := hide (show R = none from by rw [hRr, if_neg hw])
        clear hRr hkr hs H
        go_wp2_with fail
        go_ret
        exact ⟨by rw [HN.out]; rfl, HKR.out⟩
end Go.Proofs.YgcfaaGreat
