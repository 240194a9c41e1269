import Derived.Test.YgcfaaGreatLive
namespace Go.Proofs.YgcfaaGreat
open Go.RowKit Bits Bd
set_option linter.unusedVariables false
set_option maxRecDepth 100000
set_option linter.unusedSimpArgs false
attribute [local go_sem] World.cell?_ext World.frozen?_ext

set_option maxHeartbeats 16000000 in
theorem live2_calls {w : World} {p : Nat} {B : Bld} {a c : Nat → Nat} (see : See w p B a c) (ok : B.Ok) (hev : evenP B) (hup : ∀ h, 1 ≤ h → h < B.obj.length → B.up.getD h 0 < h) :
    Calls Faag.prog 28 #[.pointer (some ⟨p, 0, none⟩), .int .u8 2, .int .u8 7] w fun e w' => (∃ h, e = .returned (.int .i64 ((h : Nat) : Int)) ∧ LiveAt B 2 7 h) ∧ Below w.heap.size w w' := by
  obtain ⟨⟨a1, a2⟩, ⟨a3, a4⟩, a5, a6, a7, a8⟩ := hev
  have HS := hide see
  have HU := hide hup
  have HOK := hide ok
  have HL := hide (And.intro a5 (And.intro a6 (And.intro a7 a8)))
  have f1 := see.f1
  clear see hup ok a5 a6 a7 a8
  generalize hno : B.obj.length = no at *
  have HNO := hide hno
  clear hno
  go_enter Faag.func28, Faag.ntmps28
  go_wp2_with fail
  go_loopw [7] (fun q wr => ∃ k : Nat, k < no ∧ q = .int .i64 k ∧ Hid (Below w.heap.size w wr)) (fun q _ => (intOf q).toNat)
  case atStart => exact ⟨no - 1, by omega, by congr 1; omega, hide (Below.refl _ _)⟩
  case round =>
    obtain ⟨k, hlt, rfl, H⟩ := hrel
    by_cases hk1 : 1 ≤ k
    · have SE := hide (HS.out.below H.out)
      have f1' := SE.out.f1
      rw [HNO.out] at f1'
      have f2 := SE.out.f2
      rw [HL.out.1] at f2
      have f5 := SE.out.f5
      rw [HL.out.2.2.2] at f5
      have z5 := SE.out.deads k (by have := HL.out.2.2.2; omega)
      have u1 := SE.out.ups k (by have := HL.out.1; omega)
      have u2 := HU.out k hk1 hlt
      obtain ⟨u, hu⟩ : ∃ u, u = B.up.getD k 0 := ⟨_, rfl⟩
      obtain ⟨dk, hdk⟩ : ∃ d, d = B.dead.getD k false := ⟨_, rfl⟩
      rw [← hdk] at z5
      rw [← hu] at u1 u2
      have bo := SE.out.objs u (by rw [HNO.out]; omega)
      have bp := SE.out.objs k (by rw [HNO.out]; omega)
      have lq := HOK.out.obj k
      change (B.o k).Ok at lq
      have HLV := hide (show dk = false → (2 = 0 ∨ (B.o k).kind = 2) → (7 = 0 ∨ (B.o k).code = 7) → ¬ ((B.o u).kind = 2 ∧ (B.o u).code = 7) → LiveAt B 2 7 k from fun h1 h2 h3 h4 => .inr ⟨hk1, by rw [HNO.out]; exact hlt, by rw [← hdk]; exact h1, h2, h3, by rw [← hu]; exact h4⟩)
      clear hu hdk
      generalize B.o u = P at *
      generalize B.o k = Q at *
      obtain ⟨kind, at_, data, ptrs, code, count⟩ := P
      obtain ⟨k1, k2, k3, k4, k5, k6⟩ := Q
      have d0 := bo 0 _ rfl
      have d1 := bo 1 _ rfl
      have d2 := bo 2 _ rfl
      have d3 := bo 3 _ rfl
      have d4 := bo 4 _ rfl
      have d5 := bo 5 _ rfl
      have e0 := bp 0 _ rfl
      have e1 := bp 1 _ rfl
      have e2 := bp 2 _ rfl
      have e3 := bp 3 _ rfl
      have e4 := bp 4 _ rfl
      have e5 := bp 5 _ rfl
      dsimp only at d0 d1 d2 d3 d4 d5 e0 e1 e2 e3 e4 e5 HLV
      simp only [Nat.add_zero] at d0 e0
      have hpw : p < wr.heap.size := lt_of_cell f1'
      have hg1 : a 1 < wr.heap.size := lt_of_cell d0
      have hg2 : a 2 < wr.heap.size := lt_of_cell u1
      have hg5 : a 5 < wr.heap.size := lt_of_cell z5
      clear bo bp f1
      have hup3 : ((kind = 2 ∧ code = 7) ∧ ((kind : Int) == 2) = true ∧ ((code : Int) == 7) = true) ∨ (¬ (kind = 2 ∧ code = 7) ∧ ((((kind : Int) == 2) = false) ∨ ((((kind : Int) == 2) = true) ∧ (((code : Int) == 7) = false)))) := by
        by_cases hk2 : kind = 2
        · by_cases hc7 : code = 7
          · exact .inl ⟨⟨hk2, hc7⟩, by simp; omega, by simp; omega⟩
          · exact .inr ⟨by omega, .inr ⟨by simp; omega, by simp; omega⟩⟩
        · exact .inr ⟨by omega, .inl (by simp; omega)⟩
      rcases hup3 with ⟨hS, g1, g2⟩ | ⟨hS, hg⟩
      · clear hS HLV
        cases dk with
        | true =>
          go_wp2_with fail
          refine wp_region_qp (fun w' => ∃ x, w' = wr.ext x) 23 [0, 1, 2, 3, 4, 5, 6, 7, 8, 9, 10, 11, 12, 13, 14, 15, 16, 17, 18, 19] 2 [20, 21] [22] (by kernel_rfl) (by kernel_rfl) ?_ (ext_drew _) ?_
          · intro d v c a w hx
            cases d <;> exact hx
          simp only [pickOps, List.getElem?_cons_zero, List.getElem?_cons_succ, Option.toList_some, List.cons_append, List.nil_append, List.drop_succ_cons, List.drop_zero]
          repeat (go_big_quiet_step (fail))
          refine wpQuiet_nil ?_
          refine wpPm_two (by omega) rfl rfl ?_ ?_
          all_goals
            go_wp2_with fail
            refine ⟨ext_alloc _ _, ?_⟩
            go_wp2_with fail
            refine ⟨World.ext_of_below ((below_two wr _ _).step (below_drew _)), ?_⟩
            refine wpLd_cons ?_
            go_wp2_with fail
            refine ⟨World.ext_of_below ((below_two wr _ _).step (below_drew _)), ?_⟩
            unfold wpLd
            go_wp2_with fail
            go_roundw
            case rel => exact ⟨k - 1, by omega, by congr 1; omega, hide (H.out.step ((below_two wr _ _).step (below_drew _)))⟩
            case measure => simp [intOf]; omega
        | false =>
          go_wp2_with fail
          refine wp_region_qp (fun w' => ∃ x, w' = wr.ext x) 23 [0, 1, 2, 3, 4, 5, 6, 7, 8, 9, 10, 11, 12, 13, 14, 15, 16, 17, 18, 19] 2 [20, 21] [22] (by kernel_rfl) (by kernel_rfl) ?_ (ext_drew _) ?_
          · intro d v c a w hx
            cases d <;> exact hx
          simp only [pickOps, List.getElem?_cons_zero, List.getElem?_cons_succ, Option.toList_some, List.cons_append, List.nil_append, List.drop_succ_cons, List.drop_zero]
          repeat (go_big_quiet_step (fail))
          refine wpQuiet_nil ?_
          refine wpPm_two (by omega) rfl rfl ?_ ?_
          all_goals
            go_wp2_with fail
            refine ⟨ext_alloc _ _, ?_⟩
            go_wp2_with fail
            refine ⟨World.ext_of_below ((below_two wr _ _).step (below_drew _)), ?_⟩
            refine wpLd_cons ?_
            go_wp2_with fail
            refine ⟨World.ext_of_below ((below_two wr _ _).step (below_drew _)), ?_⟩
            unfold wpLd
            go_wp2_with fail
            go_roundw
            case rel => exact ⟨k - 1, by omega, by congr 1; omega, hide (H.out.step ((below_two wr _ _).step (below_drew _)))⟩
            case measure => simp [intOf]; omega
      · cases dk with
        | true =>
          clear hS HLV
          rcases hg with g1 | ⟨g1, g2⟩
          all_goals
            go_wp2_with fail
            refine wp_region_qp (fun w' => ∃ x, w' = wr.ext x) 23 [0, 1, 2, 3, 4, 5, 6, 7, 8, 9, 10, 11, 12, 13, 14, 15, 16, 17, 18, 19] 2 [20, 21] [22] (by kernel_rfl) (by kernel_rfl) ?_ (ext_drew _) ?_
            · intro d v c a w hx
              cases d <;> exact hx
            simp only [pickOps, List.getElem?_cons_zero, List.getElem?_cons_succ, Option.toList_some, List.cons_append, List.nil_append, List.drop_succ_cons, List.drop_zero]
            repeat (go_big_quiet_step (fail))
            refine wpQuiet_nil ?_
            refine wpPm_two (by omega) rfl rfl ?_ ?_
            all_goals
              go_wp2_with fail
              refine ⟨ext_alloc _ _, ?_⟩
              go_wp2_with fail
              refine ⟨World.ext_of_below ((below_two wr _ _).step (below_drew _)), ?_⟩
              refine wpLd_cons ?_
              go_wp2_with fail
              refine ⟨World.ext_of_below ((below_two wr _ _).step (below_drew _)), ?_⟩
              unfold wpLd
              go_wp2_with fail
              go_roundw
              case rel => exact ⟨k - 1, by omega, by congr 1; omega, hide (H.out.step ((below_two wr _ _).step (below_drew _)))⟩
              case measure => simp [intOf]; omega
        | false =>
          by_cases hq1 : k1 = 2
          · have r1 : ((k1 : Int) == 2) = true := by simp; omega
            by_cases hq2 : k5 = 7
            · have r2 : ((k5 : Int) == 7) = true := by simp; omega
              have HF := hide (HLV.out rfl (.inr hq1) (.inr hq2) hS)
              clear hS HLV hq1 hq2
              rcases hg with g1 | ⟨g1, g2⟩
              all_goals
                go_wp2_with fail
                refine wp_region_qp (fun w' => ∃ x, w' = wr.ext x) 23 [0, 1, 2, 3, 4, 5, 6, 7, 8, 9, 10, 11, 12, 13, 14, 15, 16, 17, 18, 19] 2 [20, 21] [22] (by kernel_rfl) (by kernel_rfl) ?_ (ext_drew _) ?_
                · intro d v c a w hx
                  cases d <;> exact hx
                simp only [pickOps, List.getElem?_cons_zero, List.getElem?_cons_succ, Option.toList_some, List.cons_append, List.nil_append, List.drop_succ_cons, List.drop_zero]
                repeat (go_big_quiet_step (fail))
                refine wpQuiet_nil ?_
                refine wpPm_two (by omega) rfl rfl ?_ ?_
                all_goals
                  go_wp2_with fail
                  refine ⟨ext_alloc _ _, ?_⟩
                  go_wp2_with fail
                  refine ⟨World.ext_of_below ((below_two wr _ _).step (below_drew _)), ?_⟩
                  refine wpLd_cons ?_
                  go_wp2_with fail
                  refine ⟨World.ext_of_below ((below_two wr _ _).step (below_drew _)), ?_⟩
                  unfold wpLd
                  go_wp2_with fail
                  go_ret
                  exact ⟨⟨k, rfl, HF.out⟩, H.out.step ((below_two wr _ _).step (below_drew _))⟩
            · have r2 : ((k5 : Int) == 7) = false := by simp; omega
              clear hS HLV hq1 hq2
              rcases hg with g1 | ⟨g1, g2⟩
              all_goals
                go_wp2_with fail
                refine wp_region_qp (fun w' => ∃ x, w' = wr.ext x) 23 [0, 1, 2, 3, 4, 5, 6, 7, 8, 9, 10, 11, 12, 13, 14, 15, 16, 17, 18, 19] 2 [20, 21] [22] (by kernel_rfl) (by kernel_rfl) ?_ (ext_drew _) ?_
                · intro d v c a w hx
                  cases d <;> exact hx
                simp only [pickOps, List.getElem?_cons_zero, List.getElem?_cons_succ, Option.toList_some, List.cons_append, List.nil_append, List.drop_succ_cons, List.drop_zero]
                repeat (go_big_quiet_step (fail))
                refine wpQuiet_nil ?_
                refine wpPm_two (by omega) rfl rfl ?_ ?_
                all_goals
                  go_wp2_with fail
                  refine ⟨ext_alloc _ _, ?_⟩
                  go_wp2_with fail
                  refine ⟨World.ext_of_below ((below_two wr _ _).step (below_drew _)), ?_⟩
                  refine wpLd_cons ?_
                  go_wp2_with fail
                  refine ⟨World.ext_of_below ((below_two wr _ _).step (below_drew _)), ?_⟩
                  unfold wpLd
                  go_wp2_with fail
                  go_roundw
                  case rel => exact ⟨k - 1, by omega, by congr 1; omega, hide (H.out.step ((below_two wr _ _).step (below_drew _)))⟩
                  case measure => simp [intOf]; omega
          · have r1 : ((k1 : Int) == 2) = false := by simp; omega
            clear hS HLV hq1
            rcases hg with g1 | ⟨g1, g2⟩
            all_goals
              go_wp2_with fail
              refine wp_region_qp (fun w' => ∃ x, w' = wr.ext x) 23 [0, 1, 2, 3, 4, 5, 6, 7, 8, 9, 10, 11, 12, 13, 14, 15, 16, 17, 18, 19] 2 [20, 21] [22] (by kernel_rfl) (by kernel_rfl) ?_ (ext_drew _) ?_
              · intro d v c a w hx
                cases d <;> exact hx
              simp only [pickOps, List.getElem?_cons_zero, List.getElem?_cons_succ, Option.toList_some, List.cons_append, List.nil_append, List.drop_succ_cons, List.drop_zero]
              repeat (go_big_quiet_step (fail))
              refine wpQuiet_nil ?_
              refine wpPm_two (by omega) rfl rfl ?_ ?_
              all_goals
                go_wp2_with fail
                refine ⟨ext_alloc _ _, ?_⟩
                go_wp2_with fail
                refine ⟨World.ext_of_below ((below_two wr _ _).step (below_drew _)), ?_⟩
                refine wpLd_cons ?_
                go_wp2_with fail
                refine ⟨World.ext_of_below ((below_two wr _ _).step (below_drew _)), ?_⟩
                unfold wpLd
                go_wp2_with fail
                go_roundw
                case rel => exact ⟨k - 1, by omega, by congr 1; omega, hide (H.out.step ((below_two wr _ _).step (below_drew _)))⟩
                case measure => simp [intOf]; omega
    · go_wp2_with fail
      go_ret
      exact ⟨⟨0, rfl, .inl rfl⟩, H.out⟩
end Go.Proofs.YgcfaaGreat
