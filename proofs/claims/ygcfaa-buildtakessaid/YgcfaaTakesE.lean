import Derived.Test.YgcfaaTakesA
namespace Go.Proofs.Ygcfaa
open Go.RowKit Bits Bd
set_option linter.unusedVariables false
set_option maxRecDepth 100000
set_option linter.unusedSimpArgs false
attribute [local go_sem] World.cell?_ext World.frozen?_ext Kw.cell Kw.frozen

set_option maxHeartbeats 8000000 in
theorem takes_0 (op : Opn) (hop : op.Ok) {w : World} {b : Nat} {r : Value} {s : Nat → Value} {K : Bk} (hb : HK w b r s K) (fit : K.Fit) (fit2 : K.Fit2) (fit3 : K.Fit3) (hlt : op.h < K.e.length) (hdead : (K.at_ op.h).dead = false) (hk : op.kind = 0) {R : Option Bk} (hR : R = if 8 < op.x ∨ 8 < op.y then none else makeK K op ⟨false, 1, 0, op.x, op.y, 0, 0, 0, 0, List.replicate op.y false⟩ (op.x + op.y) 0) : Calls Faag.prog 35 #[.pointer (some ⟨b, 0, none⟩), .agg (opC op).toArray] w (KOut b r s K w R) := by
  have HKO := hide (fun (hc : 8 < op.x ∨ 8 < op.y) (W : World) (bl : Below w.heap.size w W) => KOut.same hb bl (R := R) false (by
    rw [hR, if_pos hc]
    rfl))
  have HMK := hide (fun (hc : ¬ (8 < op.x ∨ 8 < op.y)) (sv : Value) (W : World) (bl : Below w.heap.size w W) (hsv : W.ownsRow 0 4 1 sv op.y (rowB (List.replicate op.y false))) (hnew : ∀ j, sv.ownBlock = some j → w.heap.size ≤ j) => show Calls Faag.prog 81 #[.pointer (some ⟨b, 0, none⟩), .agg (opC op).toArray, .agg (entC ⟨false, 1, 0, op.x, op.y, 0, 0, 0, 0, List.replicate op.y false⟩ sv).toArray, .int .i64 ((op.x + op.y : Nat) : Int), .int .i64 ((0 : Nat) : Int)] W (KOut b r s K w R) from by
    rw [hR, if_neg hc]
    exact make_calls op hop _ sv _ 0 (by omega) (by omega) (by dsimp only; omega) hb hlt fit bl (by simpa using hsv) hnew)
  obtain ⟨g, c, hr, hg, hgb, hcs⟩ := hb.entAt hlt
  have c0 := (hcs 0 _ rfl).1
  have c1 := (hcs 1 _ rfl).1
  have c2 := (hcs 2 _ rfl).1
  have c3 := (hcs 3 _ rfl).1
  have c5 := (hcs 5 _ rfl).1
  simp only [Nat.add_zero] at c0
  rw [hdead] at c0
  obtain ⟨l0, _, _, _⟩ := hb.lenAt
  rw [hr] at l0
  have hbl : b < w.heap.size := hb.lt ⟨0, rfl⟩
  have hn := fit.n
  have hle : decide (K.e.length ≤ op.h) = false := by simpa using hlt
  have k1 := fit3.kind op.h
  have k2 := fit3.code op.h
  have k3 := fit3.data op.h
  have k4 := fit3.count op.h
  clear hcs
  generalize K.e.length = n at *
  clear hdead hb fit fit2 fit3 hr hR
  clear c1 c2 c3 c5 k1 k2 k3 k4
  obtain ⟨kind, x, i, X, Y, N, V, st⟩ := op
  obtain ⟨o1, o2, o3, o4, o5, o6, o7⟩ := hop
  unfold opC at HMK ⊢
  unfold entC at HMK
  dsimp only at *
  subst hk
  go_enter Faag.func35, Faag.ntmps35
  go_wp2_with fail
  refine wp_region_qx 16 (by kernel_rfl) (by kernel_rfl) ?_
  simp only [List.take_succ_cons, List.take_zero, List.drop_succ_cons, List.drop_zero]
  repeat (go_big_quiet_step (fail))
  refine wpQuiet_nil ?_
  rintro _ ⟨x1, rfl⟩
  go_wp2_with fail
  refine wp_region_qy _ 6 (by kernel_rfl) (by kernel_rfl) ⟨x1, rfl⟩ ?_
  simp only [List.take_succ_cons, List.take_zero, List.drop_succ_cons, List.drop_zero]
  repeat (go_big_quiet_step (fail))
  refine wpQuiet_nil ?_
  rintro _ ⟨x2, rfl⟩
  go_wp2_with fail
  refine wp_region_qy _ 7 (by kernel_rfl) (by kernel_rfl) ⟨x2, rfl⟩ ?_
  simp only [List.take_succ_cons, List.take_zero, List.drop_succ_cons, List.drop_zero]
  repeat (go_big_quiet_step (fail))
  refine wpQuiet_nil ?_
  rintro _ ⟨x3, rfl⟩
  have BX : RowAt ((w.alloc (.cells #[.int .u8 0, .int .u8 (x : Int), .int .u8 (i : Int), .int .u8 (X : Int), .int .u8 (Y : Int), .int .u16 (N : Int), .int .u64 (V : Int), .string st] 46)).ext x3) w.heap.size 0 [.int .u8 0, .int .u8 (x : Int), .int .u8 (i : Int), .int .u8 (X : Int), .int .u8 (Y : Int), .int .u16 (N : Int), .int .u64 (V : Int), .string st] := (RowAt.of_alloc w [.int .u8 0, .int .u8 (x : Int), .int .u8 (i : Int), .int .u8 (X : Int), .int .u8 (Y : Int), .int .u16 (N : Int), .int .u64 (V : Int), .string st] 46).keeps (Keeps.of_below (World.below_ext _ x3)) (fun h1 h2 => by simp at h2; omega)
  have BL : Below w.heap.size w ((w.alloc (.cells #[.int .u8 0, .int .u8 (x : Int), .int .u8 (i : Int), .int .u8 (X : Int), .int .u8 (Y : Int), .int .u16 (N : Int), .int .u64 (V : Int), .string st] 46)).ext x3) := ((Below.refl _ w).alloc (Nat.le_refl _) _).trans ((World.below_ext _ x3).mono (by simp))
  generalize hW : World.ext _ x3 = W0 at BX BL ⊢
  clear hW x1 l0 c0 hbl hg hle
  have hob := BX.lt (by simp)
  have hbs := BL.size
  have BX1 : RowAt (W0.alloc (.cells #[.bool false, .int .u8 1, .int .u8 0, .int .i64 (X : Int), .int .i64 (Y : Int), .int .i64 0, .int .i64 0, .int .i64 0, .int .i64 0, .slice none 0 0] 70)) w.heap.size 0 [.int .u8 0, .int .u8 (x : Int), .int .u8 (i : Int), .int .u8 (X : Int), .int .u8 (Y : Int), .int .u16 (N : Int), .int .u64 (V : Int), .string st] := BX.alloc _
  have BM1 : RowAt (W0.alloc (.cells #[.bool false, .int .u8 1, .int .u8 0, .int .i64 (X : Int), .int .i64 (Y : Int), .int .i64 0, .int .i64 0, .int .i64 0, .int .i64 0, .slice none 0 0] 70)) W0.heap.size 0 [.bool false, .int .u8 1, .int .u8 0, .int .i64 (X : Int), .int .i64 (Y : Int), .int .i64 0, .int .i64 0, .int .i64 0, .int .i64 0, .slice none 0 0] := RowAt.of_alloc W0 [.bool false, .int .u8 1, .int .u8 0, .int .i64 (X : Int), .int .i64 (Y : Int), .int .i64 0, .int .i64 0, .int .i64 0, .int .i64 0, .slice none 0 0] 70
  have BL1 : Below w.heap.size w (W0.alloc (.cells #[.bool false, .int .u8 1, .int .u8 0, .int .i64 (X : Int), .int .i64 (Y : Int), .int .i64 0, .int .i64 0, .int .i64 0, .int .i64 0, .slice none 0 0] 70)) := BL.alloc hbs _
  by_cases hbad : 8 < X ∨ 8 < Y
  · have HB := hide (And.intro hbad BL1)
    clear BX1 BM1 BL1 BX BL HMK
    by_cases h1 : 8 < X
    · have e1 : decide ((8 : Int) < (X : Int)) = true := by rw [decide_eq_true_iff]; omega
      go_wp2_with fail
      go_ret
      exact HKO.out HB.out.1 _ HB.out.2
    · have e1 : decide ((8 : Int) < (X : Int)) = false := by rw [decide_eq_false_iff_not]; omega
      have e2 : decide ((8 : Int) < (Y : Int)) = true := by rw [decide_eq_true_iff]; omega
      go_wp2_with fail
      go_ret
      exact HKO.out HB.out.1 _ HB.out.2
  · have e1 : decide ((8 : Int) < (X : Int)) = false := by rw [decide_eq_false_iff_not]; omega
    have e2 : decide ((8 : Int) < (Y : Int)) = false := by rw [decide_eq_false_iff_not]; omega
    obtain ⟨wb, hmk, hownb, hkb⟩ := mk_bools (W0.alloc (.cells #[.bool false, .int .u8 1, .int .u8 0, .int .i64 (X : Int), .int .i64 (Y : Int), .int .i64 0, .int .i64 0, .int .i64 0, .int .i64 0, .slice none 0 0] 70)) Y (by omega)
    have BX2 := BX1.keeps hkb (fun _ => id)
    have BM2 := BM1.keeps hkb (fun _ => id)
    have BL2 : Below w.heap.size w wb := BL1.trans (hkb.below (by simp; omega) (fun _ _ => id))
    simp only [World.size_alloc] at hownb hmk
    have HB := hide (And.intro hownb BL2)
    have d0 := BX2.at_ (i := 0) rfl
    have d1 := BX2.at_ (i := 1) rfl
    have d2 := BX2.at_ (i := 2) rfl
    have d3 := BX2.at_ (i := 3) rfl
    have d4 := BX2.at_ (i := 4) rfl
    have d5 := BX2.at_ (i := 5) rfl
    have d6 := BX2.at_ (i := 6) rfl
    have d7 := BX2.at_ (i := 7) rfl
    have m0 := BM2.at_ (i := 0) rfl
    have m1 := BM2.at_ (i := 1) rfl
    have m2 := BM2.at_ (i := 2) rfl
    have m3 := BM2.at_ (i := 3) rfl
    have m4 := BM2.at_ (i := 4) rfl
    have m5 := BM2.at_ (i := 5) rfl
    have m6 := BM2.at_ (i := 6) rfl
    have m7 := BM2.at_ (i := 7) rfl
    have m8 := BM2.at_ (i := 8) rfl
    have m9 := BM2.at_ (i := 9) rfl
    have f9 := BM2.live 9 (by simp)
    simp only [Nat.zero_add] at d0 d1 d2 d3 d4 d5 d6 d7 m0 m1 m2 m3 m4 m5 m6 m7 m8 m9 f9
    have hne1 : ¬ w.heap.size = W0.heap.size := by omega
    have hne2 : ¬ W0.heap.size = w.heap.size := by omega
    clear BX1 BM1 BL1 BX BL BX2 BM2 BL2 hownb hkb
    go_wp2_with fail
    have HM := HMK.out hbad (.slice (some ⟨W0.heap.size + 1, 0, none⟩) Y Y) (wb.setCell ⟨W0.heap.size, 9, none⟩ (.slice (some ⟨W0.heap.size + 1, 0, none⟩) Y Y)) (HB.out.2.setCell hbs _) (own_keeps HB.out.1 ((Keeps.refl (fun k => k = W0.heap.size) wb).setCell (p := ⟨W0.heap.size, 9, none⟩) (fun _ => rfl) _) (fun k hk e => by
      have : W0.heap.size + 1 = k := by simpa [Value.ownBlock] using hk
      omega)) (fun k hk => by
      have : W0.heap.size + 1 = k := by simpa [Value.ownBlock] using hk
      omega)
    rw [Int.natCast_add] at HM
    refine HM.mono ?_
    intro e w4 H
    obtain ⟨he, H3⟩ := H
    obtain ⟨rb, hrb⟩ : ∃ rb, rb = R.isSome := ⟨_, rfl⟩
    rw [← hrb] at he
    subst he
    have HF := hide (And.intro hrb H3)
    clear hrb H3 HMK HKO
    go_wp2_with fail
    go_ret
    exact ⟨by rw [HF.out.1]; rfl, HF.out.2⟩
end Go.Proofs.Ygcfaa
