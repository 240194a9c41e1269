import Derived.Test.YgcfaaGreatTreeH
namespace Go.Proofs.YgcfaaGreat
open Go.RowKit Bits Bd
set_option linter.unusedVariables false
set_option maxRecDepth 100000
set_option linter.unusedSimpArgs false
attribute [local go_sem] World.cell?_ext World.frozen?_ext

namespace Bd
def Mo.setK (M : Mo) (i j : Nat) (v : Int) : Mo := { M with N := M.N.set i { M.nd i with kids := (M.nd i).kids.set j v } }
end Bd
section
variable {M : Mo}
theorem setK_len (i j : Nat) (v : Int) : (M.setK i j v).N.length = M.N.length := List.length_set
theorem setK_kids {i : Nat} (hi : i < M.N.length) (j : Nat) (v : Int) (a : Nat) : ((M.setK i j v).nd a).kids.length = (M.nd a).kids.length := by
  have := nd_set hi { M.nd i with kids := (M.nd i).kids.set j v } a
  unfold Mo.setK
  rw [this]
  split
  · rename_i h; subst h; show ((M.nd a).kids.set j v).length = _; rw [List.length_set]
  · rfl
theorem setK_kd {i j : Nat} (hi : i < M.N.length) (hj : j < (M.nd i).kids.length) (v : Int) (a b : Nat) : (M.setK i j v).kd a b = if a = i ∧ b = j then v else M.kd a b := by
  have := nd_set hi { M.nd i with kids := (M.nd i).kids.set j v } a
  unfold Mo.kd Mo.setK
  rw [this]
  by_cases ha : a = i
  · subst ha
    rw [if_pos rfl]
    show ((M.nd a).kids.set j v).getD b 0 = _
    by_cases hb : b = j
    · subst hb; rw [if_pos ⟨rfl, rfl⟩, List.getD_eq_getElem?_getD, List.getElem?_set_self hj]; rfl
    · rw [if_neg (fun e => hb e.2), List.getD_eq_getElem?_getD, List.getElem?_set_ne (fun e => hb e.symm), List.getD_eq_getElem?_getD]
  · rw [if_neg ha, if_neg (fun e => ha e.1)]
/-- A kid that is no place of the tree. -/
theorem hurt_kid {i j : Nat} (hi : i < M.N.length) (hj : j < (M.nd i).kids.length) {v : Int} (h1 : ¬ v = -1) (h2 : v ≤ (i : Int) ∨ (M.N.length : Int) ≤ v) : ¬ preT (M.setK i j v) := fun hp => by
  have := (hp.2.2.1 i (by rw [setK_len]; exact hi)).1 j (by rw [setK_kids hi]; exact hj)
  change (M.setK i j v).kd i j = -1 ∨ ((i : Int) < (M.setK i j v).kd i j ∧ (M.setK i j v).kd i j < ((M.setK i j v).N.length : Int)) at this
  rw [setK_kd hi hj, if_pos ⟨rfl, rfl⟩, setK_len] at this
  omega
/-- A kid that another pointer names. -/
theorem hurt_twice {i j a b : Nat} (hi : i < M.N.length) (hj : j < (M.nd i).kids.length) (hat : M.at_ a b) (hne : ¬ (a = i ∧ b = j)) (h0 : 0 ≤ M.kd a b) : ¬ preT (M.setK i j (M.kd a b)) := fun hp => by
  have := hp.2.2.2.2 a b i j ⟨by rw [setK_len]; exact hat.1, by rw [setK_kids hi]; exact hat.2⟩ ⟨by rw [setK_len]; exact hi, by rw [setK_kids hi]; exact hj⟩
  rw [setK_kd hi hj, setK_kd hi hj, if_neg hne, if_pos ⟨rfl, rfl⟩] at this
  exact hne (this (by omega) rfl)
end

set_option maxHeartbeats 16000000 in
theorem biteKid_calls {w : World} {p : Nat} {h : Nat → Value} {M : Mo} (m : HM false w p h M) {g c i : Nat} (hg : h 0 = .slice (some ⟨g, 0, none⟩) M.N.length c) (hi : i < M.N.length) (k : Nat) (hk : k = 7 ∨ k = 8 ∨ k = 10) :
    Calls Faag.prog 35 #[.pointer (some ⟨p, 0, none⟩), .pointer (some ⟨g, i * 4, none⟩), .int .i64 k] w fun e w' => e = .returned (.bool true) ∧ Keeps (mblk p h M.N.length) w w' := by
  obtain ⟨g', c', hg', hcells⟩ := m.node hi
  have hgg : g' = g := by rw [hg] at hg'; cases hg'; rfl
  subst hgg
  obtain ⟨ka, kc, hka⟩ := m.nk_ hi
  have c3 := (hcells 3 _ rfl).1
  rw [hka] at c3
  have f0 := m.f0.1
  rw [hg] at f0
  have hnn := m.nn
  have hkl := (nd_dl m i).2
  have HM0 := hide m
  have HG := hide hg
  have HKA := hide hka
  have hplt := m.lt
  have hglt : g' < w.heap.size := m.blk_lt (.inr ⟨0, by omega, by rw [hg]; rfl⟩)
  by_cases hk0 : (M.nd i).kids.length = 0
  · rw [hk0] at c3
    clear m hg hka hcells
    go_enter Faag.func35, Faag.ntmps35
    go_wp2_with fail
    go_ret
    exact ⟨rfl, Keeps.refl _ _⟩
  obtain ⟨b, bc, hbe, hc, hcf⟩ := m.kcell hi (show 0 < (M.nd i).kids.length by omega)
  have hbk : ka = some ⟨b, 0, none⟩ ∧ bc = kc := by rw [hka] at hbe; cases hbe; exact ⟨rfl, rfl⟩
  obtain ⟨rfl, rfl⟩ := hbk
  have hbb : mblk p h M.N.length b := .inr ⟨2 * i + 3, by omega, by rw [hbe]; rfl⟩
  have hkz : (((M.nd i).kids.length : Int) == 0) = false := by rw [beq_eq_false_iff_ne]; omega
  have hset := fun (v : Int) (hv : -32768 ≤ v ∧ v ≤ 32767) (W : World) (mW : HM false W p h M) => mW.setKid hi (show 0 < (M.nd i).kids.length by omega) hbe hv
  have HSet := hide hset
  have HEnd := hide (show ∀ (v : Int) (W : World), HM false W p h M → Below w.heap.size w W → -32768 ≤ v ∧ v ≤ 32767 → ¬ preT (M.setK i 0 v) → Calls Faag.prog 10 #[.pointer (some ⟨p, 0, none⟩)] (W.setCell ⟨b, 0, none⟩ (.int .i16 v)) fun e w' => e = .returned (.bool false) ∧ Keeps (mblk p h M.N.length) w w' from fun v W mW hbW hv hnp => by
    refine (tcheck_no (hset v hv W mW) hnp).mono ?_
    rintro e w' ⟨rfl, hb'⟩
    refine ⟨rfl, ?_⟩
    have k1 : Keeps (mblk p h M.N.length) w W := (Keeps.of_below hbW).mono (fun y hy hx => by have hx' : w.heap.size ≤ y := hx; omega)
    have k2 : Keeps (mblk p h M.N.length) w (W.setCell ⟨b, 0, none⟩ (.int .i16 v)) := k1.setCell (p := ⟨b, 0, none⟩) (fun _ => hbb) _
    exact k2.trans ((Keeps.of_below hb').mono (fun y hy hx => by have hx' : (W.setCell ⟨b, 0, none⟩ (.int .i16 v)).heap.size ≤ y := hx; omega)))
  obtain ⟨n, hn⟩ : ∃ n, n = M.N.length := ⟨_, rfl⟩
  obtain ⟨kl, hkl2⟩ : ∃ kl, kl = (M.nd i).kids.length := ⟨_, rfl⟩
  rw [← hn] at f0 hnn
  rw [← hkl2] at c3 hkz hkl
  have hkl0 : 0 < kl := by omega
  have HN := hide hn
  have HKl := hide hkl2
  have hblt : b < w.heap.size := lt_of_cell hc
  clear m hg hka hcells hbe hset hk0 hg'
  rcases hk with rfl | rfl | rfl
  · have HC := hide (fun nq : Nat => HEnd.out (n : Int) (w.drewN nq) (HM0.out.below ⟨rfl, rfl, rfl, Nat.le_refl _, fun _ _ => rfl⟩) ⟨rfl, rfl, rfl, Nat.le_refl _, fun _ _ => rfl⟩ ⟨by omega, by omega⟩ (hurt_kid hi (by rw [← HKl.out]; exact hkl0) (by omega) (.inr (by rw [← HN.out]; omega))))
    clear hn hkl2
    go_enter Faag.func35, Faag.ntmps35
    go_wp2_with fail
    refine wp_region_qd 10 (by kernel_rfl) (by kernel_rfl) ?_
    simp only [List.take_succ_cons, List.take_zero, List.drop_succ_cons, List.drop_zero]
    repeat (go_big_quiet_step (fail))
    refine wpQuiet_nil ?_
    rintro _ ⟨nq, rfl⟩
    go_wp2_with fail
    refine (HC.out nq).mono ?_
    rintro e w5 ⟨rfl, b5⟩
    have HB5 := hide b5
    clear b5 HC
    go_wp2_with fail
    go_ret
    exact ⟨rfl, HB5.out⟩
  · have HC := hide (HEnd.out (-2) w HM0.out (Below.refl _ _) ⟨by omega, by omega⟩ (hurt_kid hi (by rw [← HKl.out]; exact hkl0) (by omega) (.inl (by omega))))
    clear hn hkl2
    go_enter Faag.func35, Faag.ntmps35
    go_wp2_with fail
    refine HC.out.mono ?_
    rintro e w5 ⟨rfl, b5⟩
    have HB5 := hide b5
    clear b5 HC
    go_wp2_with fail
    go_ret
    exact ⟨rfl, HB5.out⟩
  · have HGe := hide (show h 0 = .slice (some ⟨g', 0, none⟩) M.N.length c from HG.out)
    have HK0 := hide (show M.kd i 0 = (M.nd i).kids.getD 0 0 from rfl)
    clear hn hkl2 hc hcf
    go_enter Faag.func35, Faag.ntmps35
    go_wp2_with fail
    go_loopw [23] (fun q wr => ∃ a : Nat, a ≤ n ∧ q = .int .i64 (a : Nat) ∧ Hid (Below w.heap.size w wr)) (fun q _ => 65536 - (intOf q).toNat)
    case atStart => exact ⟨0, by omega, by simp, hide (Below.refl _ _)⟩
    case round =>
      obtain ⟨a, ha, rfl, H⟩ := hrel
      by_cases hga : a < n
      · have haN : a < M.N.length := by rw [← HN.out]; exact hga
        have HMr := hide (HM0.out.below H.out)
        obtain ⟨g2, gc2, hg2, hcells⟩ := HMr.out.node haN
        have hgg2 : g2 = g' := by rw [HG.out] at hg2; cases hg2; rfl
        subst hgg2
        obtain ⟨ka2, kc2, hka2⟩ := HMr.out.nk_ haN
        obtain ⟨da2, dc2, hda2⟩ := HMr.out.nd_ haN
        have d0 := (hcells 0 _ rfl).1
        have d1 := (hcells 1 _ rfl).1
        have d2 := (hcells 2 _ rfl).1
        have d3 := (hcells 3 _ rfl).1
        rw [hda2] at d2
        rw [hka2] at d3
        simp only [Nat.add_zero] at d0
        have hglt2 : g2 < wr.heap.size := lt_of_cell d0
        obtain ⟨kl2, hkl2⟩ : ∃ kl2, kl2 = (M.nd a).kids.length := ⟨_, rfl⟩
        have hkl2b := (nd_dl HMr.out a).2
        rw [← hkl2] at d3 hkl2b
        have HKl2 := hide hkl2
        have HKA2 := hide hka2
        generalize (M.nd a).data.length = dl2 at *
        generalize (M.nd a).kind = kd2 at *
        generalize (M.nd a).code = cd2 at *
        clear hcells hg2 hkl2 hka2 hda2
        go_wp2_with fail
        obtain ⟨w1, hw1⟩ : ∃ w1, w1 = wr.alloc (Obj.cells #[Value.int IntKind.u8 kd2, Value.int IntKind.u8 cd2, Value.slice da2 dl2 dc2, Value.slice ka2 kl2 kc2] 76) := ⟨_, rfl⟩
        have H1 := hide (show Below w.heap.size w w1 from by rw [hw1]; exact H.out.alloc H.out.size _)
        rw [← hw1]
        clear hw1 H HMr d0 d1 d2 d3
        go_loopw [30] (fun q wr => ∃ j : Nat, j ≤ kl2 ∧ q = .int .i64 (j : Nat) ∧ Hid (wr = w1)) (fun q _ => 65536 - (intOf q).toNat)
        case atStart => exact ⟨0, by omega, by simp, hide rfl⟩
        case round =>
          obtain ⟨j, hj, rfl, HW⟩ := hrel
          have e1 := HW.out
          subst e1
          by_cases hgj : j < kl2
          · have HMs := hide (HM0.out.below H1.out)
            have hjk : j < (M.nd a).kids.length := by rw [← HKl2.out]; exact hgj
            obtain ⟨b2, bc2, hb2, hcv, _⟩ := HMs.out.kcell haN hjk
            rw [HKA2.out] at hb2
            have hb2e : ka2 = some ⟨b2, 0, none⟩ := by cases hb2; rfl
            subst hb2e
            obtain ⟨b3, bc3, hb3, hcw, hcwf⟩ := HMs.out.kcell hi (show 0 < (M.nd i).kids.length by rw [← HKl.out]; exact hkl0)
            rw [HKA.out] at hb3
            have hb3e : b3 = b := by cases hb3; rfl
            subst hb3e
            obtain ⟨gq, gqc, hgq, hcellq⟩ := HMs.out.node hi
            have hgqe : gq = g2 := by rw [HG.out] at hgq; cases hgq; rfl
            subst hgqe
            have c3' := (hcellq 3 _ rfl).1
            rw [HKA.out, ← HKl.out] at c3'
            have hrng := (HMs.out.ok a).kids ((M.nd a).kids.getD j 0) (by
              rw [List.getD_eq_getElem?_getD, List.getElem?_eq_getElem hjk]
              exact List.getElem_mem _)
            obtain ⟨v, hv⟩ : ∃ v, v = (M.nd a).kids.getD j 0 := ⟨_, rfl⟩
            obtain ⟨v0, hv0⟩ : ∃ v0, v0 = (M.nd i).kids.getD 0 0 := ⟨_, rfl⟩
            rw [← hv] at hcv hrng
            rw [← hv0] at hcw
            have hblt2 : b3 < wr.heap.size := lt_of_cell hcw
            by_cases hgo : 0 ≤ v ∧ ¬ v = v0
            · obtain ⟨g0, gne⟩ := hgo
              have gne' : (v != v0) = true := by simpa using gne
              have HC := hide (HEnd.out v wr HMs.out H1.out hrng (by
                have := hurt_twice (M := M) hi (show 0 < (M.nd i).kids.length by rw [← HKl.out]; exact hkl0) (a := a) (b := j) ⟨haN, hjk⟩ (fun e => gne (by rw [hv, hv0, e.1, e.2])) (by show 0 ≤ (M.nd a).kids.getD j 0; rw [← hv]; exact g0)
                rw [show M.kd a j = v from hv.symm] at this
                exact this))
              clear hb2 hb3 hgq hcellq hv hv0 gne
              go_wp2_with fail
              refine HC.out.mono ?_
              rintro e w5 ⟨rfl, b5⟩
              have HB5 := hide b5
              clear b5 HC
              go_wp2_with fail
              go_ret
              exact ⟨rfl, HB5.out⟩
            · clear hb2 hb3 hgq hcellq hv hv0
              by_cases g0 : 0 ≤ v
              · have gne' : (v != v0) = false := by
                  have : v = v0 := by
                    by_cases e : v = v0
                    · exact e
                    · exact absurd ⟨g0, e⟩ hgo
                  rw [this]; simp
                clear hgo
                go_wp2_with fail
                go_roundw
                case rel => exact ⟨j + 1, by omega, by go_num, hide (by simp)⟩
                case measure => simp [intOf]; omega
              · clear hgo
                go_wp2_with fail
                go_roundw
                case rel => exact ⟨j + 1, by omega, by go_num, hide (by simp)⟩
                case measure => simp [intOf]; omega
          · go_wp2_with fail
            go_roundw
            case rel => exact ⟨a + 1, by omega, by go_num, H1⟩
            case measure => simp [intOf]; omega
      · go_wp2_with fail
        go_ret
        exact ⟨rfl, (Keeps.of_below H.out).mono (fun y hy hx => by have hx' : w.heap.size ≤ y := hx; omega)⟩
end Go.Proofs.YgcfaaGreat
