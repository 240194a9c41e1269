import Derived.Test.YgcfaaGreatMoOut
import Derived.Test.YgcfaaGreatMoElems
namespace Go.Proofs.YgcfaaGreat
open Go.RowKit Bits Bd
set_option linter.unusedVariables false
set_option maxRecDepth 100000
set_option linter.unusedSimpArgs false
attribute [local go_sem] World.cell?_ext World.frozen?_ext Kw.cell Kw.frozen

theorem el_hang {M : Mo} (v : InvM M) {H I k d t : Nat} {q : Ptr} (r : RoomP M H I q k) (hk : 1 ≤ k) (hw : 1 ≤ words q) : EL M.N.length d t ⟨(M.N.length : Int), H, I, (M.hd H).depth + 1, false, true, words q⟩ 0 (M.hang H I ⟨2, 7, [], []⟩ (words q)) := by
  have m := hang_more r.1 ⟨2, 7, [], []⟩ (words q)
  refine ⟨invM_room v r hk new_structs (by unfold twB; rw [if_neg (by dsimp only; omega), if_neg (by dsimp only; omega), if_pos rfl]; show 1 + 0 * _ ≤ _; omega), by rw [m.n], by rw [m.new], by rw [m.new], by rw [m.new]; rfl, by rw [← v.nh, m.hnew], fun i hi => ?_⟩
  rw [m.new] at hi
  exact absurd hi (Nat.not_lt_zero _)

set_option maxHeartbeats 16000000 in
theorem mlistB_calls {w : World} {p : Nat} {h : Nat → Value} {M : Mo} (m : HM true w p h M) (v : InvM M) (op : Opn) (hop : op.Ok) (hH : op.h < M.H.length) (h7 : op.x = 7) :
    Calls Faag.prog 49 #[.pointer (some ⟨p, 0, none⟩), .agg (opC op).toArray] w (MOut w p h M.N.length) := by
  obtain ⟨kind, x, i, X, Y, N, V, st⟩ := op
  dsimp only at h7 hH ⊢
  subst h7
  have HOP := hide hop
  obtain ⟨o1, o2, o3, o4, o5, o6, o7⟩ := hop
  dsimp only at o1 o2 o3 o4 o5 o6 o7
  obtain ⟨d, hd⟩ : ∃ d, d = Y / 16 := ⟨_, rfl⟩
  obtain ⟨t, ht⟩ : ∃ t, t = Y % 16 := ⟨_, rfl⟩
  have hd16 : d < 16 := by omega
  have ht16 : t < 16 := by omega
  have S1 := hide (show (Y : Int) / 16 = (d : Int) by omega)
  have S2 := hide (show (Y : Int) % 16 = (t : Int) by omega)
  have HDT := hide (And.intro hd ht)
  have HM0 := hide m
  have HV := hide v
  have HHH := hide hH
  have nm : ∀ j, w.heap.size ≤ j → ¬ mblk p h M.N.length j := fun j hj q => by have := m.blk_lt q; omega
  have HNM := hide nm
  clear m v hH nm hd ht
  unfold opC
  dsimp only
  go_enter Faag.func49, Faag.ntmps49
  go_wp2_with fail
  obtain ⟨W, hW⟩ : ∃ W, W = ((w.alloc (.cells #[.int .u8 kind, .int .u8 x, .int .u8 i, .int .u8 7, .int .u8 Y, .int .u16 N, .int .u64 V, .string st] 55)).alloc (.cells #[.int .u8 2, .int .u16 0, .int .u8 0, .int .u8 0, .int .u8 7, .int .u16 N] 62)).alloc (.cells #[.int .u8 2, .int .u8 7, .slice none 0 0, .slice none 0 0] 76) := ⟨_, rfl⟩
  rw [← hW]
  obtain ⟨W2, hW2⟩ : ∃ W, W = (w.alloc (.cells #[.int .u8 kind, .int .u8 x, .int .u8 i, .int .u8 7, .int .u8 Y, .int .u16 N, .int .u64 V, .string st] 55)).alloc (.cells #[.int .u8 2, .int .u16 0, .int .u8 0, .int .u8 0, .int .u8 7, .int .u16 N] 62) := ⟨_, rfl⟩
  rw [← hW2] at hW
  have hs2 : W2.heap.size = w.heap.size + 2 := by rw [hW2, World.size_alloc, World.size_alloc]
  have hb2 : Below w.heap.size w W2 := by rw [hW2]; exact (Below.alloc (Below.alloc (Below.refl _ _) (Nat.le_refl _) _) (by rw [World.size_alloc]; omega) _)
  have hb3 : Below W2.heap.size W2 W := by rw [hW]; exact (Below.refl _ _).alloc (Nat.le_refl _) _
  have r3 : RowAt W w.heap.size 0 [.int .u8 kind, .int .u8 x, .int .u8 i, .int .u8 7, .int .u8 Y, .int .u16 N, .int .u64 V, .string st] := by
    refine row_below ?_ hb3
    rw [hW2]; exact row_below (RowAt.of_alloc w _ 55) ((Below.refl _ _).alloc (Nat.le_refl _) _)
  have r5 : RowAt W (w.heap.size + 1) 0 [.int .u8 2, .int .u16 0, .int .u8 0, .int .u8 0, .int .u8 7, .int .u16 N] := by
    have := RowAt.of_alloc (w.alloc (.cells #[.int .u8 kind, .int .u8 x, .int .u8 i, .int .u8 7, .int .u8 Y, .int .u16 N, .int .u64 V, .string st] 55)) [.int .u8 2, .int .u16 0, .int .u8 0, .int .u8 0, .int .u8 7, .int .u16 N] 62
    rw [World.size_alloc] at this
    refine row_below ?_ hb3
    rw [hW2]; exact this
  have r6 : RowAt W (w.heap.size + 2) 0 [.int .u8 2, .int .u8 7, .slice none 0 0, .slice none 0 0] := by
    have := RowAt.of_alloc W2 [.int .u8 2, .int .u8 7, .slice none 0 0, .slice none 0 0] 76
    rw [hs2] at this
    rw [hW]; exact this
  have hbW : Below w.heap.size w W := hb2.step hb3
  obtain ⟨B3, hB3⟩ : ∃ B, B = w.heap.size := ⟨_, rfl⟩
  obtain ⟨B5, hB5⟩ : ∃ B, B = w.heap.size + 1 := ⟨_, rfl⟩
  obtain ⟨B6, hB6⟩ : ∃ B, B = w.heap.size + 2 := ⟨_, rfl⟩
  rw [← hB6] at r6 ⊢
  rw [← hB5] at r5 ⊢
  rw [← hB3] at r3 ⊢
  have n35 : ¬ B3 = B5 := by omega
  have n53 : ¬ B5 = B3 := by omega
  have n65 : ¬ B6 = B5 := by omega
  have HBB := hide (And.intro hB3 (And.intro hB5 hB6))
  have hWs : w.heap.size + 3 ≤ W.heap.size := by rw [hW, World.size_alloc]; omega
  have b5 : Below w.heap.size w ((W.drew.setCell ⟨B5, 2, none⟩ (.int .u8 (d : Int))).setCell ⟨B5, 3, none⟩ (.int .u8 (t : Int))) := ((hbW.step (below_drew W)).setCell (show w.heap.size ≤ B5 by omega) _).setCell (show w.heap.size ≤ B5 by omega) _
  have ks5 : Keeps (fun k => k = B5) W ((W.drew.setCell ⟨B5, 2, none⟩ (.int .u8 (d : Int))).setCell ⟨B5, 3, none⟩ (.int .u8 (t : Int))) := (((Keeps.refl (fun k => k = B5) W).drew).setCell (fun _ => rfl) _).setCell (fun _ => rfl) _
  have HR3 := hide (r3.keeps ks5 (fun _ e => n35 e))
  have HR6 := hide (r6.keeps ks5 (fun _ e => n65 e))
  have HR5 := hide (show RowAt ((W.drew.setCell ⟨B5, 2, none⟩ (.int .u8 (d : Int))).setCell ⟨B5, 3, none⟩ (.int .u8 (t : Int))) B5 0 [.int .u8 2, .int .u16 0, .int .u8 d, .int .u8 t, .int .u8 7, .int .u16 N] by
    have := ((row_below r5 (below_drew W)).set (i := 2) (by simp) (.int .u8 (d : Int))).set (i := 3) (by simp) (.int .u8 (t : Int))
    simpa using this)
  have HB5 := hide b5
  have hs5 : W.heap.size ≤ ((W.drew.setCell ⟨B5, 2, none⟩ (.int .u8 (d : Int))).setCell ⟨B5, 3, none⟩ (.int .u8 (t : Int))).heap.size := ks5.size
  have HS5 := hide hs5
  have u3 := r3
  have k0 := u3.at_ (i := 0) rfl
  have k1 := u3.at_ (i := 1) rfl
  have k2 := u3.at_ (i := 2) rfl
  have k3 := u3.at_ (i := 3) rfl
  have k4 := u3.at_ (i := 4) rfl
  have k5 := u3.at_ (i := 5) rfl
  have k6 := u3.at_ (i := 6) rfl
  have k7 := u3.at_ (i := 7) rfl
  have u5 := r5
  have l0 := u5.at_ (i := 0) rfl
  have l1 := u5.at_ (i := 1) rfl
  have l2 := u5.at_ (i := 2) rfl
  have l3 := u5.at_ (i := 3) rfl
  have l4 := u5.at_ (i := 4) rfl
  have l5 := u5.at_ (i := 5) rfl
  have u6 := r6
  have n0 := u6.at_ (i := 0) rfl
  have n1 := u6.at_ (i := 1) rfl
  have n2 := u6.at_ (i := 2) rfl
  have n3 := u6.at_ (i := 3) rfl
  simp only [Nat.zero_add] at k0 k1 k2 k3 k4 k5 k6 k7 l0 l1 l2 l3 l4 l5 n0 n1 n2 n3
  have l2f := u5.live 2 (by simp)
  have l3f := u5.live 3 (by simp)
  simp only [Nat.zero_add] at l2f l3f
  clear u3 u5 u6
  clear hB3 hB5 hB6 hW hW2 hb2 hb3 hs2 hbW r3 r5 r6 b5 ks5 hs5
  have hne : ∀ w0 : World, Nonempty (Kw (fun k => ¬ k = B3) w0) := fun w0 => ⟨⟨w0, Keeps.refl _ _⟩⟩
  refine wp_region_seg (fun w' => ∃ y : Kw (fun k => ¬ k = B3) W, w' = y.to) 8 [0, 1, 2, 3, 4, 5, 6] 1 (by kernel_rfl) (by kernel_rfl) ?_ ⟨⟨_, (Keeps.refl _ _).drew⟩, rfl⟩ ?_
  · intro d v c a w hx
    cases d <;> exact hx
  simp only [pickOps, List.getElem?_cons_zero, List.getElem?_cons_succ, Option.toList_some, List.cons_append, List.nil_append, List.drop_succ_cons, List.drop_zero]
  repeat (go_big_quiet_step (fail))
  refine wpQuiet_nil ?_
  rw [S1.out, S2.out]
  refine segH_one (i := 7) (by kernel_rfl) rfl (by omega) ?_
  go_wp2_with fail
  refine ⟨⟨⟨_, ((Keeps.refl _ _).drew).setCell (fun _ => n53) _⟩, rfl⟩, ?_⟩
  refine ⟨by kernel_rfl, ?_⟩
  have hcase : (0 < N ∧ Y = 0) ∨ (N ≤ 0) ∨ (0 < N ∧ ¬ Y = 0) := by omega
  rcases hcase with ⟨hN0, hY0⟩ | hN0 | ⟨hN0, hY0⟩
  · have gY : ((Y : Int) == 0) = true := by simp; omega
    clear hY0
    go_wp2_with fail
    go_ret
    exact MOut.no HM0.out HV.out HB5.out _
  · skip
    go_wp2_with fail
    refine (mroom_calls (HM0.out.below HB5.out) HV.out ⟨kind, x, i, 7, Y, N, V, st⟩ HOP.out ⟨2, 0, d, t, 7, N⟩ ⟨by dsimp only; omega, by dsimp only; omega, by dsimp only; omega, by dsimp only; omega, by dsimp only; omega, o6⟩ (1 + N) (by omega) HHH.out).mono ?_
    rintro e w1 ⟨⟨b, rfl, hbt⟩, b1⟩
    cases b
    · go_wp2_with fail
      go_ret
      exact MOut.no HM0.out HV.out (HB5.out.step b1) _
    have rp := hbt rfl
    have hw1 := words_isSt (p := ⟨2, 0, d, t, 7, N⟩) ⟨rfl, rfl⟩ rp.2.2.2.1
    have hw2 := words_isSt2 (p := ⟨2, 0, d, t, 7, N⟩) ⟨rfl, rfl⟩ rp.2.2.2.1
    dsimp only at hw1 hw2
    have HRP := hide rp
    have HW12 := hide (And.intro hw1 hw2)
    have b01 : Below w.heap.size w w1 := HB5.out.step b1
    have hbb := HBB.out
    have hw1s : w.heap.size + 3 ≤ w1.heap.size := Nat.le_trans hWs (Nat.le_trans HS5.out b1.size)
    have u3 := row_below HR3.out b1
    have k0 := u3.at_ (i := 0) rfl
    have k1 := u3.at_ (i := 1) rfl
    have k2 := u3.at_ (i := 2) rfl
    have k3 := u3.at_ (i := 3) rfl
    have k4 := u3.at_ (i := 4) rfl
    have k5 := u3.at_ (i := 5) rfl
    have k6 := u3.at_ (i := 6) rfl
    have k7 := u3.at_ (i := 7) rfl
    have u5 := row_below HR5.out b1
    have l0 := u5.at_ (i := 0) rfl
    have l1 := u5.at_ (i := 1) rfl
    have l2 := u5.at_ (i := 2) rfl
    have l3 := u5.at_ (i := 3) rfl
    have l4 := u5.at_ (i := 4) rfl
    have l5 := u5.at_ (i := 5) rfl
    have u6 := row_below HR6.out b1
    have n0 := u6.at_ (i := 0) rfl
    have n1 := u6.at_ (i := 1) rfl
    have n2 := u6.at_ (i := 2) rfl
    have n3 := u6.at_ (i := 3) rfl
    simp only [Nat.zero_add] at k0 k1 k2 k3 k4 k5 k6 k7 l0 l1 l2 l3 l4 l5 n0 n1 n2 n3
    clear hbt rp hw1 hw2 b1
    have HB01 := hide b01
    have HU := hide (And.intro u3 u5)
    have HQ := hide hbb
    clear b01 u3 u5 u6 hbb
    go_wp2_with fail
    refine (mhang_calls (MS.refl (HM0.out.below HB01.out)) HV.out ⟨kind, x, i, 7, Y, N, V, st⟩ HOP.out ⟨2, 0, d, t, 7, N⟩ ⟨by dsimp only; omega, by dsimp only; omega, by dsimp only; omega, by dsimp only; omega, by dsimp only; omega, o6⟩ ⟨2, 7, [], []⟩ (.slice none 0 0) (.slice none 0 0) (World.ownsRow_nil _ _ _ _) (World.ownsRow_nil _ _ _ _) (fun j hj => by cases hj) (fun j hj => by cases hj) (fun j hj => by cases hj) ⟨show (2 : Nat) < 256 by decide, show (7 : Nat) < 256 by decide, (fun _ hd => by cases hd), (fun _ hd => by cases hd), by first | decide | (dsimp only; omega), by first | decide | (dsimp only; omega)⟩ HHH.out HRP.out.1 HRP.out.2.2.1).mono ?_
    rintro e w4 ⟨rfl, h', s'⟩
    have nB3 : ¬ mblk p h M.N.length B3 := HNM.out _ (by have := HQ.out; omega)
    have nB5 : ¬ mblk p h M.N.length B5 := HNM.out _ (by have := HQ.out; omega)
    have v3 := (HU.out.1.keeps s'.st.kp (fun _ e => nB3 e)).at_ (i := 5) rfl
    have v52 := (HU.out.2.keeps s'.st.kp (fun _ e => nB5 e)).at_ (i := 2) rfl
    have v53 := (HU.out.2.keeps s'.st.kp (fun _ e => nB5 e)).at_ (i := 3) rfl
    simp only [Nat.zero_add] at v3 v52 v53
    have HSS := hide (((MS.refl HM0.out).below HB01.out).trans s')
    clear s' nB3 nB5
    clear k0 k1 k2 k3 k4 k5 k6 k7 l0 l1 l2 l3 l4 l5 n0 n1 n2 n3
    go_wp2_with fail
    have hwd := HW12.out
    refine (melements_calls (cnt := N) HSS.out (el_hang (d := d) (t := t) HV.out HRP.out (by omega) (by rw [hwd.1.2.2]; omega)) hwd.1.1 rfl (Nat.le_of_eq hwd.1.2.2.symm) (fun z => by have := HDT.out; omega) hwd.2.1 hwd.2.2 (by have := HRP.out.2.2.2.2.2; have := HV.out.nh; omega)).mono ?_
    rintro e w6 ⟨rfl, h6, M6, s6, v6⟩
    go_wp2_with fail
    go_ret
    exact ⟨⟨_, rfl⟩, h6, M6, s6, v6⟩
  · have gY : ((Y : Int) == 0) = false := by simp; omega
    go_wp2_with fail
    refine (mroom_calls (HM0.out.below HB5.out) HV.out ⟨kind, x, i, 7, Y, N, V, st⟩ HOP.out ⟨2, 0, d, t, 7, N⟩ ⟨by dsimp only; omega, by dsimp only; omega, by dsimp only; omega, by dsimp only; omega, by dsimp only; omega, o6⟩ (1 + N) (by omega) HHH.out).mono ?_
    rintro e w1 ⟨⟨b, rfl, hbt⟩, b1⟩
    cases b
    · go_wp2_with fail
      go_ret
      exact MOut.no HM0.out HV.out (HB5.out.step b1) _
    have rp := hbt rfl
    have hw1 := words_isSt (p := ⟨2, 0, d, t, 7, N⟩) ⟨rfl, rfl⟩ rp.2.2.2.1
    have hw2 := words_isSt2 (p := ⟨2, 0, d, t, 7, N⟩) ⟨rfl, rfl⟩ rp.2.2.2.1
    dsimp only at hw1 hw2
    have HRP := hide rp
    have HW12 := hide (And.intro hw1 hw2)
    have b01 : Below w.heap.size w w1 := HB5.out.step b1
    have hbb := HBB.out
    have hw1s : w.heap.size + 3 ≤ w1.heap.size := Nat.le_trans hWs (Nat.le_trans HS5.out b1.size)
    have u3 := row_below HR3.out b1
    have k0 := u3.at_ (i := 0) rfl
    have k1 := u3.at_ (i := 1) rfl
    have k2 := u3.at_ (i := 2) rfl
    have k3 := u3.at_ (i := 3) rfl
    have k4 := u3.at_ (i := 4) rfl
    have k5 := u3.at_ (i := 5) rfl
    have k6 := u3.at_ (i := 6) rfl
    have k7 := u3.at_ (i := 7) rfl
    have u5 := row_below HR5.out b1
    have l0 := u5.at_ (i := 0) rfl
    have l1 := u5.at_ (i := 1) rfl
    have l2 := u5.at_ (i := 2) rfl
    have l3 := u5.at_ (i := 3) rfl
    have l4 := u5.at_ (i := 4) rfl
    have l5 := u5.at_ (i := 5) rfl
    have u6 := row_below HR6.out b1
    have n0 := u6.at_ (i := 0) rfl
    have n1 := u6.at_ (i := 1) rfl
    have n2 := u6.at_ (i := 2) rfl
    have n3 := u6.at_ (i := 3) rfl
    simp only [Nat.zero_add] at k0 k1 k2 k3 k4 k5 k6 k7 l0 l1 l2 l3 l4 l5 n0 n1 n2 n3
    clear hbt rp hw1 hw2 b1
    have HB01 := hide b01
    have HU := hide (And.intro u3 u5)
    have HQ := hide hbb
    clear b01 u3 u5 u6 hbb
    go_wp2_with fail
    refine (mhang_calls (MS.refl (HM0.out.below HB01.out)) HV.out ⟨kind, x, i, 7, Y, N, V, st⟩ HOP.out ⟨2, 0, d, t, 7, N⟩ ⟨by dsimp only; omega, by dsimp only; omega, by dsimp only; omega, by dsimp only; omega, by dsimp only; omega, o6⟩ ⟨2, 7, [], []⟩ (.slice none 0 0) (.slice none 0 0) (World.ownsRow_nil _ _ _ _) (World.ownsRow_nil _ _ _ _) (fun j hj => by cases hj) (fun j hj => by cases hj) (fun j hj => by cases hj) ⟨show (2 : Nat) < 256 by decide, show (7 : Nat) < 256 by decide, (fun _ hd => by cases hd), (fun _ hd => by cases hd), by first | decide | (dsimp only; omega), by first | decide | (dsimp only; omega)⟩ HHH.out HRP.out.1 HRP.out.2.2.1).mono ?_
    rintro e w4 ⟨rfl, h', s'⟩
    have nB3 : ¬ mblk p h M.N.length B3 := HNM.out _ (by have := HQ.out; omega)
    have nB5 : ¬ mblk p h M.N.length B5 := HNM.out _ (by have := HQ.out; omega)
    have v3 := (HU.out.1.keeps s'.st.kp (fun _ e => nB3 e)).at_ (i := 5) rfl
    have v52 := (HU.out.2.keeps s'.st.kp (fun _ e => nB5 e)).at_ (i := 2) rfl
    have v53 := (HU.out.2.keeps s'.st.kp (fun _ e => nB5 e)).at_ (i := 3) rfl
    simp only [Nat.zero_add] at v3 v52 v53
    have HSS := hide (((MS.refl HM0.out).below HB01.out).trans s')
    clear s' nB3 nB5
    clear k0 k1 k2 k3 k4 k5 k6 k7 l0 l1 l2 l3 l4 l5 n0 n1 n2 n3
    go_wp2_with fail
    have hwd := HW12.out
    refine (melements_calls (cnt := N) HSS.out (el_hang (d := d) (t := t) HV.out HRP.out (by omega) (by rw [hwd.1.2.2]; omega)) hwd.1.1 rfl (Nat.le_of_eq hwd.1.2.2.symm) (fun z => by have := HDT.out; omega) hwd.2.1 hwd.2.2 (by have := HRP.out.2.2.2.2.2; have := HV.out.nh; omega)).mono ?_
    rintro e w6 ⟨rfl, h6, M6, s6, v6⟩
    go_wp2_with fail
    go_ret
    exact ⟨⟨_, rfl⟩, h6, M6, s6, v6⟩
end Go.Proofs.YgcfaaGreat
