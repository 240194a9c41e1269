import Derived.Test.YgcfaaGreatElements
namespace Go.Proofs.YgcfaaGreat
open Go.RowKit Bits Bd
set_option linter.unusedVariables false
set_option maxRecDepth 100000
set_option linter.unusedSimpArgs false
attribute [local go_sem] World.cell?_ext World.frozen?_ext

namespace Bd
def isSt (p : Ptr) : Prop := p.kind = 2 ∧ p.code = 7
def isStD (p : Ptr) : Decidable (isSt p) := by unfold isSt; infer_instance
/-- Builder.deep, of one handle. -/
def deep1 (B : Bld) (h : Nat) : Prop := ¬ isSt (B.o (B.up.getD h 0)) ∧ B.depth.getD h 0 = B.depth.getD (B.up.getD h 0) 0 + 1 ∧ B.depth.getD h 0 ≤ 8
def deepP (B : Bld) (s : List Nat) : Prop := ∀ h, 1 ≤ h → h < B.obj.length → tb s h = false → deep1 B h
end Bd

theorem SetAt.below {w w' : World} {b : Nat} {s : List Nat} (h : SetAt w b s) (hb : Below w.heap.size w w') : SetAt w' b s :=
  ⟨h.row.keeps (Keeps.of_below hb) (fun h1 h2 => by omega), h.four, h.lt⟩

set_option maxHeartbeats 8000000 in
theorem deep_calls {w : World} {p : Nat} {B : Bld} {a c : Nat → Nat} (s : See w p B a c) (ok : B.Ok) (hev : evenP B) (hup : ∀ h, 1 ≤ h → h < B.obj.length → B.up.getD h 0 < h) (b : Nat) (e : List Nat) (he : SetAt w b e) :
    Calls Faag.prog 20 #[.pointer (some ⟨p, 0, none⟩), .pointer (some ⟨b, 0, none⟩)] w fun r w' => RetB r (deepP B e) ∧ Below w.heap.size w w' := by
  obtain ⟨⟨a1, a2⟩, ⟨a3, a4⟩, a5, a6, a7, a8⟩ := hev
  obtain ⟨R, hR⟩ : ∃ R, R = deepP B e := ⟨_, rfl⟩
  rw [← hR]
  unfold deepP at hR
  have HR := hide hR
  clear hR
  have HS := hide (And.intro s he)
  have HU := hide hup
  have HOK := hide ok
  have hL := hide (And.intro a5 (And.intro a6 (And.intro a7 a8)))
  clear s he hup ok a5 a6 a7 a8
  generalize hno : B.obj.length = no at *
  have HNO := hide hno
  clear hno
  go_enter Faag.func20, Faag.ntmps20
  go_wp2_with fail
  go_loopw [5] (fun q wr => ∃ k : Nat, 1 ≤ k ∧ k ≤ no ∧ q = .int .i64 k ∧ Hid (See wr p B a c ∧ SetAt wr b e ∧ Below w.heap.size w wr) ∧ Hid (∀ h, 1 ≤ h → h < k → tb e h = false → deep1 B h)) (fun q _ => no - (intOf q).toNat)
  case atStart => exact ⟨1, by omega, by omega, rfl, hide ⟨HS.out.1, HS.out.2, Below.refl _ _⟩, hide (fun h h1 h2 => by omega)⟩
  case round =>
    obtain ⟨k, hk1, hk, rfl, H, hG⟩ := hrel
    have f1 := H.out.1.f1
    rw [HNO.out] at f1
    by_cases hlt : k < no
    · have hhas := hide (has_calls b k e (by omega) wr H.out.2.1)
      obtain ⟨tk, htk⟩ : ∃ t, t = tb e k := ⟨_, rfl⟩
      rw [← htk] at hhas
      have HTK := hide htk
      clear htk
      cases tk with
      | true =>
        go_wp2_with fail
        refine (hhas.out).mono ?_
        rintro r w' ⟨rfl, rfl⟩
        go_wp2_with fail
        go_roundw
        case rel => exact ⟨k + 1, by omega, by omega, by go_num, H, hide (fun h h1 h2 h3 => by
          by_cases hh : h < k
          · exact hG.out h h1 hh h3
          · have : h = k := by omega
            subst this; rw [← HTK.out] at h3; cases h3)⟩
        case measure => simp [intOf]; omega
      | false =>
        obtain ⟨l5, l6, l7, l8⟩ := hL.out
        have f2 := H.out.1.f2
        have f4 := H.out.1.f4
        rw [l5] at f2
        rw [l7] at f4
        have u1 := H.out.1.ups k (by omega)
        have u2 := HU.out k hk1 hlt
        obtain ⟨u, hu⟩ : ∃ u, u = B.up.getD k 0 := ⟨_, rfl⟩
        rw [← hu] at u1 u2
        have bo := H.out.1.objs u (by rw [HNO.out]; omega)
        have e1 := H.out.1.depths k (by omega)
        have e2 := H.out.1.depths u (by omega)
        have hst := hide (structsQ_calls (B.o u) (HOK.out.obj u))
        have HD := hide (show deep1 B k = (¬ isSt (B.o u) ∧ B.depth.getD k 0 = B.depth.getD u 0 + 1 ∧ B.depth.getD k 0 ≤ 8) from by unfold deep1; rw [← hu])
        have HUU := hide hu
        have le1 := HOK.out.depth k
        have le2 := HOK.out.depth u
        clear hu l5 l6 l7 l8
        unfold isSt at HD
        generalize B.o u = P at *
        generalize B.depth.getD k 0 = y1 at *
        generalize B.depth.getD u 0 = y2 at *
        obtain ⟨kind, at_, data, ptrs, code, count⟩ := P
        have d0 := bo 0 _ rfl
        have d1 := bo 1 _ rfl
        have d2 := bo 2 _ rfl
        have d3 := bo 3 _ rfl
        have d4 := bo 4 _ rfl
        have d5 := bo 5 _ rfl
        dsimp only at d0 d1 d2 d3 d4 d5 HD hst
        simp only [Nat.add_zero] at d0
        unfold ptrC at hst
        dsimp only at hst
        clear bo
        have hcs : (kind = 2 ∧ code = 7) ∨ (¬ (kind = 2 ∧ code = 7) ∧ ¬ y1 = y2 + 1) ∨ (¬ (kind = 2 ∧ code = 7) ∧ y1 = y2 + 1 ∧ 8 < y1) ∨ (¬ (kind = 2 ∧ code = 7) ∧ y1 = y2 + 1 ∧ y1 ≤ 8) := by omega
        rcases hcs with c1 | ⟨c1, c2⟩ | ⟨c1, c2, c3⟩ | ⟨c1, c2, c3⟩
        · have hq : decide (kind = 2 ∧ code = 7) = true := decide_eq_true c1
          rw [hq] at hst
          have HF := hide (show ¬ deep1 B k from by rw [HD.out]; exact fun h => h.1 c1)
          clear hq c1 HD
          go_wp2_with fail
          refine (hhas.out).mono ?_
          rintro r w' ⟨rfl, rfl⟩
          go_wp2_with fail
          refine wp_region_qx 34 (by kernel_rfl) (by kernel_rfl) ?_
          simp only [List.take_succ_cons, List.take_zero, List.drop_succ_cons, List.drop_zero]
          repeat (go_big_quiet_step ((go_at_call 55; exact Calls.ext_of (hst.out _))))
          refine wpQuiet_nil ?_
          rintro _ ⟨x, rfl⟩
          go_wp2_with fail
          go_ret
          refine ⟨RetB.of ⟨fun h => Bool.noConfusion h, fun h => ?_⟩, H.out.2.2.step (World.below_ext _ _)⟩
          rw [HR.out] at h
          exact (HF.out (h k hk1 hlt HTK.out.symm)).elim
        · have hq : decide (kind = 2 ∧ code = 7) = false := decide_eq_false c1
          rw [hq] at hst
          have g1 : ((y1 : Int) != (y2 : Int) + 1) = true := by simp; omega
          have HF := hide (show ¬ deep1 B k from by rw [HD.out]; exact fun h => c2 h.2.1)
          clear hq c1 c2 HD
          go_wp2_with fail
          refine (hhas.out).mono ?_
          rintro r w' ⟨rfl, rfl⟩
          go_wp2_with fail
          refine wp_region_qx 34 (by kernel_rfl) (by kernel_rfl) ?_
          simp only [List.take_succ_cons, List.take_zero, List.drop_succ_cons, List.drop_zero]
          repeat (go_big_quiet_step ((go_at_call 55; exact Calls.ext_of (hst.out _))))
          refine wpQuiet_nil ?_
          rintro _ ⟨x, rfl⟩
          go_wp2_with fail
          go_ret
          refine ⟨RetB.of ⟨fun h => Bool.noConfusion h, fun h => ?_⟩, H.out.2.2.step (World.below_ext _ _)⟩
          rw [HR.out] at h
          exact (HF.out (h k hk1 hlt HTK.out.symm)).elim
        · have hq : decide (kind = 2 ∧ code = 7) = false := decide_eq_false c1
          rw [hq] at hst
          have g1 : ((y1 : Int) != (y2 : Int) + 1) = false := by simp; omega
          have g2 : decide ((8 : Int) < (y1 : Int)) = true := by simp; omega
          have HF := hide (show ¬ deep1 B k from by rw [HD.out]; exact fun h => by omega)
          clear hq c1 c2 HD
          go_wp2_with fail
          refine (hhas.out).mono ?_
          rintro r w' ⟨rfl, rfl⟩
          go_wp2_with fail
          refine wp_region_qx 34 (by kernel_rfl) (by kernel_rfl) ?_
          simp only [List.take_succ_cons, List.take_zero, List.drop_succ_cons, List.drop_zero]
          repeat (go_big_quiet_step ((go_at_call 55; exact Calls.ext_of (hst.out _))))
          refine wpQuiet_nil ?_
          rintro _ ⟨x, rfl⟩
          go_wp2_with fail
          go_ret
          refine ⟨RetB.of ⟨fun h => Bool.noConfusion h, fun h => ?_⟩, H.out.2.2.step (World.below_ext _ _)⟩
          rw [HR.out] at h
          exact (HF.out (h k hk1 hlt HTK.out.symm)).elim
        · have hq : decide (kind = 2 ∧ code = 7) = false := decide_eq_false c1
          rw [hq] at hst
          have g1 : ((y1 : Int) != (y2 : Int) + 1) = false := by simp; omega
          have g2 : decide ((8 : Int) < (y1 : Int)) = false := by simp; omega
          have HF := hide (show deep1 B k from by rw [HD.out]; exact ⟨c1, c2, c3⟩)
          clear hq c1 c2 HD
          go_wp2_with fail
          refine (hhas.out).mono ?_
          rintro r w' ⟨rfl, rfl⟩
          go_wp2_with fail
          refine wp_region_qx 34 (by kernel_rfl) (by kernel_rfl) ?_
          simp only [List.take_succ_cons, List.take_zero, List.drop_succ_cons, List.drop_zero]
          repeat (go_big_quiet_step ((go_at_call 55; exact Calls.ext_of (hst.out _))))
          refine wpQuiet_nil ?_
          rintro _ ⟨x, rfl⟩
          go_wp2_with fail
          go_roundw
          case rel => exact ⟨k + 1, by omega, by omega, by go_num, hide ⟨H.out.1.below (World.below_ext _ _), H.out.2.1.below (World.below_ext _ _), H.out.2.2.step (World.below_ext _ _)⟩, hide (fun h h1 h2 h3 => by
            by_cases hh : h < k
            · exact hG.out h h1 hh h3
            · have : h = k := by omega
              subst this; exact HF.out)⟩
          case measure => simp [intOf]; omega
    · go_wp2_with fail
      go_ret
      refine ⟨RetB.of ⟨fun _ => ?_, fun _ => rfl⟩, H.out.2.2⟩
      rw [HR.out]
      exact fun h h1 h2 => hG.out h h1 (by omega)
end Go.Proofs.YgcfaaGreat
