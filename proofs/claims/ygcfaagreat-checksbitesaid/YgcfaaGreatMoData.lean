import Derived.Test.YgcfaaGreatMoElem
import Derived.Test.YgcfaaGreatMoSet2
namespace Go.Proofs.YgcfaaGreat
open Go.RowKit Bits Bd
set_option linter.unusedVariables false
set_option maxRecDepth 100000
set_option linter.unusedSimpArgs false
attribute [local go_sem] World.cell?_ext World.frozen?_ext

set_option maxHeartbeats 16000000 in
theorem mdata_calls {w : World} {p : Nat} {h : Nat → Value} {M : Mo} (m : HM true w p h M) (v : InvM M) (op : Opn) (hop : op.Ok) (hH : op.h < M.H.length) :
    Calls Faag.prog 51 #[.pointer (some ⟨p, 0, none⟩), .agg (opC op).toArray] w (MOut w p h M.N.length) := by
  obtain ⟨kind, x, i, X, Y, N, V, st⟩ := op
  obtain ⟨o1, o2, o3, o4, o5, o6, o7⟩ := hop
  dsimp only at o1 o2 o3 o4 o5 o6 o7 hH ⊢
  have HM0 := hide m
  have HV := hide v
  unfold opC
  dsimp only
  match x, hH with
  | 0, hH =>
    clear m v
    go_enter Faag.func51, Faag.ntmps51
    go_wp2_with fail
    go_ret
    exact MOut.no HM0.out HV.out ((Below.refl _ _).alloc (Nat.le_refl _) _) _
  | k + 1, hH =>
    have gx : (((k + 1 : Nat) : Int) == 0) = false := by simp; omega
    have hbad : (¬ X = 0 ∧ X < 3) ∨ 6 < X ∨ (X = 0 ∨ X = 3 ∨ X = 4 ∨ X = 5 ∨ X = 6) := by omega
    rcases hbad with ⟨h1, h2⟩ | h1 | hX
    · have g0 : ((X : Int) != 0) = true := by simp; omega
      clear m v h1
      go_enter Faag.func51, Faag.ntmps51
      go_wp2_with fail
      go_ret
      exact MOut.no HM0.out HV.out ((Below.refl _ _).alloc (Nat.le_refl _) _) _
    · have g0 : ((X : Int) != 0) = true := by simp; omega
      clear m v
      go_enter Faag.func51, Faag.ntmps51
      go_wp2_with fail
      go_ret
      exact MOut.no HM0.out HV.out ((Below.refl _ _).alloc (Nat.le_refl _) _) _
    · have hnh := v.nh
      have hk : k < M.N.length := by omega
      have f0 := m.f0.1
      have f2 := m.f2.1
      obtain ⟨gh, ch, hgh, hhc⟩ := m.hand (i := k + 1) (by omega)
      have hn := (hhc 0 _ rfl).1
      simp only [Nat.add_zero] at hn
      rw [v.node k hk] at hn
      obtain ⟨gn, cn, hgn, hnc⟩ := m.node hk
      have c0 := (hnc 0 _ rfl).1
      have c2 := (hnc 2 _ rfl).1
      simp only [Nat.add_zero] at c0
      obtain ⟨da, dc, hda⟩ := m.nd_ hk
      rw [hda] at c2
      rw [hgn] at f0
      rw [hgh] at f2
      have hdl := (m.ok k).dl
      have hnn := m.nn
      have hnhl := m.nh
      have hkd8 := (m.ok k).kind
      have HK := hide hk
      have HDA := hide hda
      have hk1 := v.n2
      obtain ⟨n, hnE⟩ : ∃ n, n = M.N.length := ⟨_, rfl⟩
      obtain ⟨nH, hnH⟩ : ∃ n, n = M.H.length := ⟨_, rfl⟩
      rw [← hnE] at f0 hk hnn hk1
      rw [← hnH] at f2 hH hnhl
      obtain ⟨kd, hkdE⟩ : ∃ y, y = (M.nd k).kind := ⟨_, rfl⟩
      obtain ⟨dl, hdlE⟩ : ∃ y, y = (M.nd k).data.length := ⟨_, rfl⟩
      rw [← hkdE] at c0 hkd8
      rw [← hdlE] at c2 hdl
      have HE := hide (And.intro hkdE hdlE)
      have hpl := m.lt
      have hgnl : gn < w.heap.size := lt_of_cell c0
      have hghl : gh < w.heap.size := lt_of_cell hn
      clear hhc hnc hgh hgn hda m v hnh hnE hnH hkdE hdlE
      by_cases hk1' : kd = 1
      · subst hk1'
        rcases hX with rfl | rfl | rfl | rfl | rfl
        · by_cases hfit : N * 1 + 1 ≤ 64 * dl
          · skip
            have hj : N / 64 < dl := by omega
            have hjE : True := trivial
            obtain ⟨gd, cdd, hgd, dcl, dcf⟩ := HM0.out.dcell (i := k) (j := N / 64) HK.out (by rw [← HE.out.2]; exact hj)
            have hdae : da = some ⟨gd, 0, none⟩ := by have := HDA.out.symm.trans hgd; cases this; rfl
            subst hdae
            have hold := HM0.out.ok k
            generalize (M.nd k).data.getD (N / 64) 0 = old at *
            have HSD := hide (fun (W : World) (b : Below w.heap.size w W) (val : Nat) (hv : val < 18446744073709551616) => ((MS.refl HM0.out).below b).setData (v := val) HK.out (show N / 64 < (M.nd k).data.length by rw [← HE.out.2]; exact hj) HDA.out hv)
            have HLK := hide (fun (val : Nat) => like_setD (x := val) HV.out HK.out (show N / 64 < (M.nd k).data.length by rw [← HE.out.2]; exact hj) (fun h2 _ _ => by have := HE.out.1; omega))
            have hgdl : gd < w.heap.size := lt_of_cell dcl
            clear hgd hjE
            go_enter Faag.func51, Faag.ntmps51
            go_wp2_with fail
            refine wp_region_qd 14 (by kernel_rfl) (by kernel_rfl) ?_
            simp only [List.take_succ_cons, List.take_zero, List.drop_succ_cons, List.drop_zero]
            repeat (go_big_quiet_step (fail))
            refine wpQuiet_nil ?_
            rintro _ ⟨nq, rfl⟩
            go_wp2_with fail
            refine wp_region_qd 14 (by kernel_rfl) (by kernel_rfl) ?_
            simp only [List.take_succ_cons, List.take_zero, List.drop_succ_cons, List.drop_zero]
            repeat (go_big_quiet_step (fail))
            refine wpQuiet_nil ?_
            rintro _ ⟨nq2, rfl⟩
            go_wp2_with fail
            go_ret
            generalize hz : bits .or .u64 _ _ = z
            obtain ⟨val, hlt, hze⟩ : ∃ val : Nat, val < 18446744073709551616 ∧ z = (val : Int) := by rw [← hz]; exact bits_nat _ _ _
            subst hze
            exact ⟨⟨_, rfl⟩, h, _, HSD.out _ (((Below.refl _ _).alloc (Nat.le_refl _) _).step (below_drewN _ _)) val hlt, inv_like HV.out (HLK.out val)⟩
          · go_enter Faag.func51, Faag.ntmps51
            go_wp2_with fail
            refine wp_region_qd 14 (by kernel_rfl) (by kernel_rfl) ?_
            simp only [List.take_succ_cons, List.take_zero, List.drop_succ_cons, List.drop_zero]
            repeat (go_big_quiet_step (fail))
            refine wpQuiet_nil ?_
            rintro _ ⟨nq, rfl⟩
            go_wp2_with fail
            go_ret
            exact MOut.no HM0.out HV.out (((Below.refl _ _).alloc (Nat.le_refl _) _).step (below_drewN _ _)) _
        · by_cases hfit : N * 8 + 8 ≤ 64 * dl
          · skip
            have hj : N * 8 / 64 < dl := by omega
            obtain ⟨j, hjE⟩ : ∃ j, j = N * 8 / 64 := ⟨_, rfl⟩
            have hjI : (N : Int) * 8 / 64 = (j : Int) := by omega
            have HJ := hide hjE
            rw [← hjE] at hj
            obtain ⟨gd, cdd, hgd, dcl, dcf⟩ := HM0.out.dcell (i := k) (j := j) HK.out (by rw [← HE.out.2]; exact hj)
            have hdae : da = some ⟨gd, 0, none⟩ := by have := HDA.out.symm.trans hgd; cases this; rfl
            subst hdae
            have hold := HM0.out.ok k
            generalize (M.nd k).data.getD (j) 0 = old at *
            have HSD := hide (fun (W : World) (b : Below w.heap.size w W) (val : Nat) (hv : val < 18446744073709551616) => ((MS.refl HM0.out).below b).setData (v := val) HK.out (show j < (M.nd k).data.length by rw [← HE.out.2]; exact hj) HDA.out hv)
            have HLK := hide (fun (val : Nat) => like_setD (x := val) HV.out HK.out (show j < (M.nd k).data.length by rw [← HE.out.2]; exact hj) (fun h2 _ _ => by have := HE.out.1; omega))
            have hgdl : gd < w.heap.size := lt_of_cell dcl
            clear hgd hjE
            go_enter Faag.func51, Faag.ntmps51
            go_wp2_with fail
            refine wp_region_qd 14 (by kernel_rfl) (by kernel_rfl) ?_
            simp only [List.take_succ_cons, List.take_zero, List.drop_succ_cons, List.drop_zero]
            repeat (go_big_quiet_step (fail))
            refine wpQuiet_nil ?_
            rintro _ ⟨nq, rfl⟩
            go_wp2_with fail
            refine wp_region_qd 14 (by kernel_rfl) (by kernel_rfl) ?_
            simp only [List.take_succ_cons, List.take_zero, List.drop_succ_cons, List.drop_zero]
            repeat (go_big_quiet_step (fail))
            refine wpQuiet_nil ?_
            rintro _ ⟨nq2, rfl⟩
            go_wp2_with fail
            go_ret
            generalize hz : bits .or .u64 _ _ = z
            obtain ⟨val, hlt, hze⟩ : ∃ val : Nat, val < 18446744073709551616 ∧ z = (val : Int) := by rw [← hz]; exact bits_nat _ _ _
            subst hze
            exact ⟨⟨_, rfl⟩, h, _, HSD.out _ (((Below.refl _ _).alloc (Nat.le_refl _) _).step (below_drewN _ _)) val hlt, inv_like HV.out (HLK.out val)⟩
          · go_enter Faag.func51, Faag.ntmps51
            go_wp2_with fail
            refine wp_region_qd 14 (by kernel_rfl) (by kernel_rfl) ?_
            simp only [List.take_succ_cons, List.take_zero, List.drop_succ_cons, List.drop_zero]
            repeat (go_big_quiet_step (fail))
            refine wpQuiet_nil ?_
            rintro _ ⟨nq, rfl⟩
            go_wp2_with fail
            go_ret
            exact MOut.no HM0.out HV.out (((Below.refl _ _).alloc (Nat.le_refl _) _).step (below_drewN _ _)) _
        · by_cases hfit : N * 16 + 16 ≤ 64 * dl
          · skip
            have hj : N * 16 / 64 < dl := by omega
            obtain ⟨j, hjE⟩ : ∃ j, j = N * 16 / 64 := ⟨_, rfl⟩
            have hjI : (N : Int) * 16 / 64 = (j : Int) := by omega
            have HJ := hide hjE
            rw [← hjE] at hj
            obtain ⟨gd, cdd, hgd, dcl, dcf⟩ := HM0.out.dcell (i := k) (j := j) HK.out (by rw [← HE.out.2]; exact hj)
            have hdae : da = some ⟨gd, 0, none⟩ := by have := HDA.out.symm.trans hgd; cases this; rfl
            subst hdae
            have hold := HM0.out.ok k
            generalize (M.nd k).data.getD (j) 0 = old at *
            have HSD := hide (fun (W : World) (b : Below w.heap.size w W) (val : Nat) (hv : val < 18446744073709551616) => ((MS.refl HM0.out).below b).setData (v := val) HK.out (show j < (M.nd k).data.length by rw [← HE.out.2]; exact hj) HDA.out hv)
            have HLK := hide (fun (val : Nat) => like_setD (x := val) HV.out HK.out (show j < (M.nd k).data.length by rw [← HE.out.2]; exact hj) (fun h2 _ _ => by have := HE.out.1; omega))
            have hgdl : gd < w.heap.size := lt_of_cell dcl
            clear hgd hjE
            go_enter Faag.func51, Faag.ntmps51
            go_wp2_with fail
            refine wp_region_qd 14 (by kernel_rfl) (by kernel_rfl) ?_
            simp only [List.take_succ_cons, List.take_zero, List.drop_succ_cons, List.drop_zero]
            repeat (go_big_quiet_step (fail))
            refine wpQuiet_nil ?_
            rintro _ ⟨nq, rfl⟩
            go_wp2_with fail
            refine wp_region_qd 14 (by kernel_rfl) (by kernel_rfl) ?_
            simp only [List.take_succ_cons, List.take_zero, List.drop_succ_cons, List.drop_zero]
            repeat (go_big_quiet_step (fail))
            refine wpQuiet_nil ?_
            rintro _ ⟨nq2, rfl⟩
            go_wp2_with fail
            go_ret
            generalize hz : bits .or .u64 _ _ = z
            obtain ⟨val, hlt, hze⟩ : ∃ val : Nat, val < 18446744073709551616 ∧ z = (val : Int) := by rw [← hz]; exact bits_nat _ _ _
            subst hze
            exact ⟨⟨_, rfl⟩, h, _, HSD.out _ (((Below.refl _ _).alloc (Nat.le_refl _) _).step (below_drewN _ _)) val hlt, inv_like HV.out (HLK.out val)⟩
          · go_enter Faag.func51, Faag.ntmps51
            go_wp2_with fail
            refine wp_region_qd 14 (by kernel_rfl) (by kernel_rfl) ?_
            simp only [List.take_succ_cons, List.take_zero, List.drop_succ_cons, List.drop_zero]
            repeat (go_big_quiet_step (fail))
            refine wpQuiet_nil ?_
            rintro _ ⟨nq, rfl⟩
            go_wp2_with fail
            go_ret
            exact MOut.no HM0.out HV.out (((Below.refl _ _).alloc (Nat.le_refl _) _).step (below_drewN _ _)) _
        · by_cases hfit : N * 32 + 32 ≤ 64 * dl
          · skip
            have hj : N * 32 / 64 < dl := by omega
            obtain ⟨j, hjE⟩ : ∃ j, j = N * 32 / 64 := ⟨_, rfl⟩
            have hjI : (N : Int) * 32 / 64 = (j : Int) := by omega
            have HJ := hide hjE
            rw [← hjE] at hj
            obtain ⟨gd, cdd, hgd, dcl, dcf⟩ := HM0.out.dcell (i := k) (j := j) HK.out (by rw [← HE.out.2]; exact hj)
            have hdae : da = some ⟨gd, 0, none⟩ := by have := HDA.out.symm.trans hgd; cases this; rfl
            subst hdae
            have hold := HM0.out.ok k
            generalize (M.nd k).data.getD (j) 0 = old at *
            have HSD := hide (fun (W : World) (b : Below w.heap.size w W) (val : Nat) (hv : val < 18446744073709551616) => ((MS.refl HM0.out).below b).setData (v := val) HK.out (show j < (M.nd k).data.length by rw [← HE.out.2]; exact hj) HDA.out hv)
            have HLK := hide (fun (val : Nat) => like_setD (x := val) HV.out HK.out (show j < (M.nd k).data.length by rw [← HE.out.2]; exact hj) (fun h2 _ _ => by have := HE.out.1; omega))
            have hgdl : gd < w.heap.size := lt_of_cell dcl
            clear hgd hjE
            go_enter Faag.func51, Faag.ntmps51
            go_wp2_with fail
            refine wp_region_qd 14 (by kernel_rfl) (by kernel_rfl) ?_
            simp only [List.take_succ_cons, List.take_zero, List.drop_succ_cons, List.drop_zero]
            repeat (go_big_quiet_step (fail))
            refine wpQuiet_nil ?_
            rintro _ ⟨nq, rfl⟩
            go_wp2_with fail
            refine wp_region_qd 14 (by kernel_rfl) (by kernel_rfl) ?_
            simp only [List.take_succ_cons, List.take_zero, List.drop_succ_cons, List.drop_zero]
            repeat (go_big_quiet_step (fail))
            refine wpQuiet_nil ?_
            rintro _ ⟨nq2, rfl⟩
            go_wp2_with fail
            go_ret
            generalize hz : bits .or .u64 _ _ = z
            obtain ⟨val, hlt, hze⟩ : ∃ val : Nat, val < 18446744073709551616 ∧ z = (val : Int) := by rw [← hz]; exact bits_nat _ _ _
            subst hze
            exact ⟨⟨_, rfl⟩, h, _, HSD.out _ (((Below.refl _ _).alloc (Nat.le_refl _) _).step (below_drewN _ _)) val hlt, inv_like HV.out (HLK.out val)⟩
          · go_enter Faag.func51, Faag.ntmps51
            go_wp2_with fail
            refine wp_region_qd 14 (by kernel_rfl) (by kernel_rfl) ?_
            simp only [List.take_succ_cons, List.take_zero, List.drop_succ_cons, List.drop_zero]
            repeat (go_big_quiet_step (fail))
            refine wpQuiet_nil ?_
            rintro _ ⟨nq, rfl⟩
            go_wp2_with fail
            go_ret
            exact MOut.no HM0.out HV.out (((Below.refl _ _).alloc (Nat.le_refl _) _).step (below_drewN _ _)) _
        · by_cases hfit : N * 64 + 64 ≤ 64 * dl
          · skip
            have hj : N < dl := by omega
            have hjE : True := trivial
            obtain ⟨gd, cdd, hgd, dcl, dcf⟩ := HM0.out.dcell (i := k) (j := N) HK.out (by rw [← HE.out.2]; exact hj)
            have hdae : da = some ⟨gd, 0, none⟩ := by have := HDA.out.symm.trans hgd; cases this; rfl
            subst hdae
            have hold := HM0.out.ok k
            generalize (M.nd k).data.getD (N) 0 = old at *
            have HSD := hide (fun (W : World) (b : Below w.heap.size w W) (val : Nat) (hv : val < 18446744073709551616) => ((MS.refl HM0.out).below b).setData (v := val) HK.out (show N < (M.nd k).data.length by rw [← HE.out.2]; exact hj) HDA.out hv)
            have HLK := hide (fun (val : Nat) => like_setD (x := val) HV.out HK.out (show N < (M.nd k).data.length by rw [← HE.out.2]; exact hj) (fun h2 _ _ => by have := HE.out.1; omega))
            have hgdl : gd < w.heap.size := lt_of_cell dcl
            clear hgd hjE
            go_enter Faag.func51, Faag.ntmps51
            go_wp2_with fail
            refine wp_region_qd 14 (by kernel_rfl) (by kernel_rfl) ?_
            simp only [List.take_succ_cons, List.take_zero, List.drop_succ_cons, List.drop_zero]
            repeat (go_big_quiet_step (fail))
            refine wpQuiet_nil ?_
            rintro _ ⟨nq, rfl⟩
            go_wp2_with fail
            refine wp_region_qd 14 (by kernel_rfl) (by kernel_rfl) ?_
            simp only [List.take_succ_cons, List.take_zero, List.drop_succ_cons, List.drop_zero]
            repeat (go_big_quiet_step (fail))
            refine wpQuiet_nil ?_
            rintro _ ⟨nq2, rfl⟩
            go_wp2_with fail
            go_ret
            generalize hz : bits .or .u64 _ _ = z
            obtain ⟨val, hlt, hze⟩ : ∃ val : Nat, val < 18446744073709551616 ∧ z = (val : Int) := by rw [← hz]; exact bits_nat _ _ _
            subst hze
            exact ⟨⟨_, rfl⟩, h, _, HSD.out _ (((Below.refl _ _).alloc (Nat.le_refl _) _).step (below_drewN _ _)) val hlt, inv_like HV.out (HLK.out val)⟩
          · go_enter Faag.func51, Faag.ntmps51
            go_wp2_with fail
            refine wp_region_qd 14 (by kernel_rfl) (by kernel_rfl) ?_
            simp only [List.take_succ_cons, List.take_zero, List.drop_succ_cons, List.drop_zero]
            repeat (go_big_quiet_step (fail))
            refine wpQuiet_nil ?_
            rintro _ ⟨nq, rfl⟩
            go_wp2_with fail
            go_ret
            exact MOut.no HM0.out HV.out (((Below.refl _ _).alloc (Nat.le_refl _) _).step (below_drewN _ _)) _
      · have gk : ((kd : Int) != 1) = true := by simp; omega
        clear hk1'
        rcases hX with rfl | rfl | rfl | rfl | rfl
        all_goals
          go_enter Faag.func51, Faag.ntmps51
          go_wp2_with fail
          refine wp_region_qd 14 (by kernel_rfl) (by kernel_rfl) ?_
          simp only [List.take_succ_cons, List.take_zero, List.drop_succ_cons, List.drop_zero]
          repeat (go_big_quiet_step (fail))
          refine wpQuiet_nil ?_
          rintro _ ⟨nq, rfl⟩
          go_wp2_with fail
          go_ret
          exact MOut.no HM0.out HV.out (((Below.refl _ _).alloc (Nat.le_refl _) _).step (below_drewN _ _)) _
end Go.Proofs.YgcfaaGreat
