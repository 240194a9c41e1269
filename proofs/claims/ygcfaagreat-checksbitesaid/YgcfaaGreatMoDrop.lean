import Derived.Test.YgcfaaGreatMoOut
import Derived.Test.YgcfaaGreatMoSet2
namespace Go.Proofs.YgcfaaGreat
open Go.RowKit Bits Bd
set_option linter.unusedVariables false
set_option maxRecDepth 100000
set_option linter.unusedSimpArgs false
attribute [local go_sem] World.cell?_ext World.frozen?_ext

/-- Handles being marked. -/
def DS (w : World) (p : Nat) (h : Nat → Value) (M : Mo) (w' : World) : Prop := ∃ M', MS w p h M.N.length w' h M' ∧ Like M M'

set_option maxHeartbeats 16000000 in
theorem mdrop_calls {w : World} {p : Nat} {h : Nat → Value} {M : Mo} (m : HM true w p h M) (v : InvM M) (op : Opn) (hop : op.Ok) (hH : op.h < M.H.length) :
    Calls Faag.prog 53 #[.pointer (some ⟨p, 0, none⟩), .agg (opC op).toArray] w (MOut w p h M.N.length) := by
  obtain ⟨kind, x, i, X, Y, N, V, st⟩ := op
  obtain ⟨o1, o2, o3, o4, o5, o6, o7⟩ := hop
  dsimp only at o1 o2 o3 o4 o5 o6 o7 hH ⊢
  have HM0 := hide m
  have HV := hide v
  have HHH := hide hH
  have hnh := m.nh
  obtain ⟨gh, ch, hgh, _⟩ := m.hand hH
  obtain ⟨nH, hnH⟩ : ∃ nH, nH = M.H.length := ⟨_, rfl⟩
  rw [← hnH] at hgh hnh
  have HGH := hide hgh
  have HNH := hide hnH
  clear m v hH hgh hnH
  unfold opC
  dsimp only
  go_enter Faag.func53, Faag.ntmps53
  go_wp2_with fail
  have hbW : Below w.heap.size w (w.alloc (.cells #[.int .u8 kind, .int .u8 x, .int .u8 i, .int .u8 X, .int .u8 Y, .int .u16 N, .int .u64 V, .string st] 55)) := (Below.refl _ _).alloc (Nat.le_refl _) _
  generalize w.alloc (.cells #[.int .u8 kind, .int .u8 x, .int .u8 i, .int .u8 X, .int .u8 Y, .int .u16 N, .int .u64 V, .string st] 55) = W at *
  refine (kid_calls (HM0.out.below hbW) HV.out x i HHH.out o3).mono ?_
  rintro e w1 ⟨hr, b1⟩
  have b01 : Below w.heap.size w w1 := hbW.step b1
  rcases hr with ⟨_, rfl⟩ | ⟨a, pl, rfl⟩
  · go_wp2_with fail
    go_ret
    exact MOut.no HM0.out HV.out b01 _
  obtain ⟨ba, oa, rfl⟩ := pl.spot
  obtain ⟨pc, pf⟩ := pl.cell (HM0.out.below b01)
  have s3 := ((MS.refl HM0.out).below b01).setP pl (v := -1) (by omega)
  have L3 := like_setP HV.out pl.plc
  have HX0 := hide (show DS w p h M (w1.setCell ⟨ba, oa, none⟩ (.int .i16 (-1))) from ⟨_, s3, L3⟩)
  clear s3 L3 pl hbW b1
  generalize M.pv x i = pv at *
  by_cases e1 : pv = -1
  · subst e1
    go_wp2_with fail
    go_ret
    exact MOut.no HM0.out HV.out b01 _
  have g1 : ((pv : Int) == -1) = false := by simp; omega
  go_wp2_with fail
  generalize w1.setCell ⟨ba, oa, none⟩ (.int .i16 (-1)) = w3 at *
  clear pc pf b01 g1 e1
  go_loopw [7] (fun q wr => ∃ k : Nat, 1 ≤ k ∧ k ≤ 100000 ∧ q = .int .i64 k ∧ Hid (DS w p h M wr)) (fun q _ => 200000 - (intOf q).toNat)
  case atStart => exact ⟨1, by omega, by omega, by simp, HX0⟩
  case round =>
    clear HX0
    obtain ⟨k, hk1, hk2, rfl, H⟩ := hrel
    obtain ⟨M', s, L⟩ := H.out
    have f2 := s.hm.f2.1
    rw [HGH.out] at f2
    have hl : M'.H.length = nH := by rw [L.nh, HNH.out]
    by_cases hlt : k < nH
    · obtain ⟨g, c, hg, hhc⟩ := s.hm.hand (i := k) (by rw [hl]; exact hlt)
      have hge : g = gh := by have := HGH.out.symm.trans hg; cases this; rfl
      subst hge
      have c0 := (hhc 0 _ rfl).1
      have c1 := (hhc 1 _ rfl).1
      have c4 := hhc 4 _ rfl
      obtain ⟨c4, c4f⟩ := c4
      simp only [Nat.add_zero] at c0
      have hup : (M'.hd k).up < nH := by
        rw [(L.hd k).2.1]
        have h1 := HV.out.nh
        have h2 := HV.out.up (k - 1) (by have := HNH.out; omega)
        rw [show k - 1 + 1 = k by omega] at h2
        omega
      obtain ⟨g2, d2, hg2, hhc2⟩ := s.hm.hand (i := (M'.hd k).up) (by rw [hl]; exact hup)
      have hge2 : g2 = g := by have := HGH.out.symm.trans hg2; cases this; rfl
      subst hge2
      have u4 := (hhc2 4 _ rfl).1
      have hup8 : (M'.hd k).up < 256 := (s.hm.hok k).up
      have HS2 := hide (show ∀ nq, DS w p h M (((wr.drewN nq).setCell ⟨g2, k * 7 + 4, none⟩ (.bool true))) from fun nq => ⟨M'.setDead k, (s.below (below_drewN _ nq)).setDead (by rw [hl]; exact hlt) (by rw [hl]; exact HGH.out), like_dead L (by rw [hl]; exact hlt)⟩)
      have HS1 := hide (show ∀ nq, DS w p h M (wr.drewN nq) from fun nq => ⟨M', s.below (below_drewN _ nq), L⟩)
      clear hhc hhc2 hg hg2 s L H hl
      generalize (M'.hd k).node = nd at *
      generalize (M'.hd (M'.hd k).up).dead = du at *
      generalize (M'.hd k).dead = dk at *
      generalize (M'.hd k).up = up at *
      by_cases e2 : nd = pv
      · have g2' : ((nd : Int) == pv) = true := by simp; omega
        clear e2
        go_wp2_with fail
        refine wp_region_qd 23 (by kernel_rfl) (by kernel_rfl) ?_
        simp only [List.take_succ_cons, List.take_zero, List.drop_succ_cons, List.drop_zero]
        repeat (go_big_quiet_step (fail))
        refine wpQuiet_nil ?_
        rintro _ ⟨nq, rfl⟩
        go_wp2_with fail
        go_roundw
        case rel => exact ⟨k + 1, by omega, by omega, by go_num, hide (HS2.out nq)⟩
        case measure => simp [intOf]; omega
      · have g2' : ((nd : Int) == pv) = false := by simp; omega
        clear e2
        cases du
        · go_wp2_with fail
          refine wp_region_qd 23 (by kernel_rfl) (by kernel_rfl) ?_
          simp only [List.take_succ_cons, List.take_zero, List.drop_succ_cons, List.drop_zero]
          repeat (go_big_quiet_step (fail))
          refine wpQuiet_nil ?_
          rintro _ ⟨nq, rfl⟩
          go_wp2_with fail
          go_roundw
          case rel => exact ⟨k + 1, by omega, by omega, by go_num, hide (HS1.out nq)⟩
          case measure => simp [intOf]; omega
        · go_wp2_with fail
          refine wp_region_qd 23 (by kernel_rfl) (by kernel_rfl) ?_
          simp only [List.take_succ_cons, List.take_zero, List.drop_succ_cons, List.drop_zero]
          repeat (go_big_quiet_step (fail))
          refine wpQuiet_nil ?_
          rintro _ ⟨nq, rfl⟩
          go_wp2_with fail
          go_roundw
          case rel => exact ⟨k + 1, by omega, by omega, by go_num, hide (HS2.out nq)⟩
          case measure => simp [intOf]; omega
    · go_wp2_with fail
      go_ret
      exact ⟨⟨_, rfl⟩, h, M', s, inv_like HV.out L⟩
end Go.Proofs.YgcfaaGreat
