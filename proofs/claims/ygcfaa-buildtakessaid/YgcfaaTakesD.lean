import Derived.Test.YgcfaaTakesA
import Derived.Test.YgcfaaContent
import Derived.Laws.IdiomStrings
namespace Go.Proofs.Ygcfaa
open Go.RowKit Bits Bd Utf
set_option linter.unusedVariables false
set_option maxRecDepth 100000
set_option linter.unusedSimpArgs false
attribute [local go_sem] World.cell?_ext World.frozen?_ext Kw.cell Kw.frozen

theorem str_bytes (w : World) (s : ByteArray) : ∃ cap w', (convert 9 25 (.string s)).run Faag.prog w = .ok (.slice (some ⟨w.heap.size, 0, none⟩) s.size cap) w' ∧ Below w.heap.size w w' ∧ w.heap.size < w'.heap.size ∧ ∀ i, i < s.size → w'.cell? ⟨w.heap.size, i, none⟩ = some (.int .u8 (zOf s i : Nat)) := by
  refine ⟨_, _, run_bytes_of_string w 9 25 5 s (by kernel_rfl) (by kernel_rfl) (by kernel_rfl), ?_, ?_, ?_⟩
  · exact ((Below.refl _ w).drew).alloc (Nat.le_refl _) _
  · simp
  · intro i hi
    have e : (w.drew.alloc (.cells (bytesRow s (grownCap w s.size 0 5)) 5 ((bytesRow s (grownCap w s.size 0 5)).size, (bytesRow s (grownCap w s.size 0 5)).size + 1))).cell? ⟨w.heap.size, i, none⟩ = (bytesRow s (grownCap w s.size 0 5))[i]? := by
      refine cell_of_row (w.drew.alloc (.cells (bytesRow s (grownCap w s.size 0 5)) 5 ((bytesRow s (grownCap w s.size 0 5)).size, (bytesRow s (grownCap w s.size 0 5)).size + 1))) w.heap.size i (bytesRow s (grownCap w s.size 0 5)) 5 ((bytesRow s (grownCap w s.size 0 5)).size, (bytesRow s (grownCap w s.size 0 5)).size + 1) ?_
      show (w.heap.push _)[w.heap.size]? = _
      simp
    rw [e]
    unfold bytesRow
    have h2 : i < (s.data.map (fun b => Value.int .u8 (b.toNat : Int))).size := by simpa using hi
    rw [Array.getElem?_append_left h2, Array.getElem?_map, Array.getElem?_eq_getElem (show i < s.data.size from hi)]
    simp only [Option.map_some, Option.some.injEq, Value.int.injEq, true_and]
    rw [zOf_get hi]
    rfl

set_option maxHeartbeats 8000000 in
theorem takes_2 (op : Opn) (hop : op.Ok) {w : World} {b : Nat} {r : Value} {s : Nat → Value} {K : Bk} (hb : HK w b r s K) (fit : K.Fit) (fit2 : K.Fit2) (fit3 : K.Fit3) (hlt : op.h < K.e.length) (hdead : (K.at_ op.h).dead = false) (hk : op.kind = 2) (hs : op.s.size ≤ 140737488355328) (c2 : Bool) (hc2 : c2 = true ↔ contentP op.s) {R : Option Bk} (hR : R = if c2 = true then makeK K op ⟨false, 2, 2, 0, 0, op.s.size + 1, 0, 0, 0, []⟩ ((op.s.size + 1 + 7) / 8) 0 else none) : Calls Faag.prog 35 #[.pointer (some ⟨b, 0, none⟩), .agg (opC op).toArray] w (KOut b r s K w R) := by
  have HKO := hide (fun (hc : ¬ contentP op.s) (W : World) (bl : Below w.heap.size w W) => KOut.same hb bl (R := R) false (by
    rw [hR, if_neg (fun e => hc (hc2.1 e))]
    rfl))
  have HMK := hide (fun (hc : contentP op.s) (W : World) (bl : Below w.heap.size w W) => show Calls Faag.prog 81 #[.pointer (some ⟨b, 0, none⟩), .agg (opC op).toArray, .agg (entC ⟨false, 2, 2, 0, 0, op.s.size + 1, 0, 0, 0, []⟩ (.slice none 0 0)).toArray, .int .i64 (((op.s.size + 1 + 7) / 8 : Nat) : Int), .int .i64 ((0 : Nat) : Int)] W (KOut b r s K w R) from by
    rw [hR, if_pos (hc2.2 hc)]
    exact make_calls op hop _ (.slice none 0 0) _ 0 (by have := hc.1; omega) (by omega) (by simp) hb hlt fit bl (own_nil _ _ _) (by simp [Value.ownBlock]))
  have HCP := hide (show contentP op.s ↔ (op.s.size < 128 ∧ (∀ k, k < op.s.size → ¬ zOf op.s k = 0) ∧ Utf8Ok (zOf op.s) op.s.size 0) from Iff.rfl)
  obtain ⟨g, c, hr, hg, hgb, hcs⟩ := hb.entAt hlt
  have c0 := (hcs 0 _ rfl).1
  have c1 := (hcs 1 _ rfl).1
  have c2 := (hcs 2 _ rfl).1
  have c3 := (hcs 3 _ rfl).1
  have c5 := (hcs 5 _ rfl).1
  simp only [Nat.add_zero] at c0
  rw [hdead] at c0
  obtain ⟨l0, _, _, _⟩ := hb.lenAt
  rw [hr] at l0
  have hbl : b < w.heap.size := hb.lt ⟨0, rfl⟩
  have hn := fit.n
  have hle : decide (K.e.length ≤ op.h) = false := by simpa using hlt
  have k1 := fit3.kind op.h
  have k2 := fit3.code op.h
  have k3 := fit3.data op.h
  have k4 := fit3.count op.h
  clear hcs
  generalize K.e.length = n at *
  clear hdead hb fit fit2 fit3 hr hR hc2
  clear c1 c2 c3 c5 k1 k2 k3 k4
  obtain ⟨kind, x, i, X, Y, N, V, st⟩ := op
  obtain ⟨o1, o2, o3, o4, o5, o6, o7⟩ := hop
  unfold opC at HMK ⊢
  unfold entC at HMK
  dsimp only at *
  subst hk
  go_enter Faag.func35, Faag.ntmps35
  go_wp2_with fail
  refine wp_region_qx 16 (by kernel_rfl) (by kernel_rfl) ?_
  simp only [List.take_succ_cons, List.take_zero, List.drop_succ_cons, List.drop_zero]
  repeat (go_big_quiet_step (fail))
  refine wpQuiet_nil ?_
  rintro _ ⟨x1, rfl⟩
  go_wp2_with fail
  refine wp_region_qy _ 6 (by kernel_rfl) (by kernel_rfl) ⟨x1, rfl⟩ ?_
  simp only [List.take_succ_cons, List.take_zero, List.drop_succ_cons, List.drop_zero]
  repeat (go_big_quiet_step (fail))
  refine wpQuiet_nil ?_
  rintro _ ⟨x2, rfl⟩
  go_wp2_with fail
  have BX : RowAt ((w.alloc (.cells #[.int .u8 2, .int .u8 (x : Int), .int .u8 (i : Int), .int .u8 (X : Int), .int .u8 (Y : Int), .int .u16 (N : Int), .int .u64 (V : Int), .string st] 46)).ext x2) w.heap.size 0 [.int .u8 2, .int .u8 (x : Int), .int .u8 (i : Int), .int .u8 (X : Int), .int .u8 (Y : Int), .int .u16 (N : Int), .int .u64 (V : Int), .string st] := (RowAt.of_alloc w [.int .u8 2, .int .u8 (x : Int), .int .u8 (i : Int), .int .u8 (X : Int), .int .u8 (Y : Int), .int .u16 (N : Int), .int .u64 (V : Int), .string st] 46).keeps (Keeps.of_below (World.below_ext _ x2)) (fun h1 h2 => by simp at h2; omega)
  have BL : Below w.heap.size w ((w.alloc (.cells #[.int .u8 2, .int .u8 (x : Int), .int .u8 (i : Int), .int .u8 (X : Int), .int .u8 (Y : Int), .int .u16 (N : Int), .int .u64 (V : Int), .string st] 46)).ext x2) := ((Below.refl _ w).alloc (Nat.le_refl _) _).trans ((World.below_ext _ x2).mono (by simp))
  generalize hW : World.ext _ x2 = W0 at BX BL ⊢
  clear hW x1 l0 c0 hbl hg hle
  have hob := BX.lt (by simp)
  obtain ⟨cap1, w1, hcv, bl1, sz1, by1⟩ := str_bytes W0 st
  have BX1 := BX.keeps (Keeps.of_below bl1) (fun h1 h2 => by omega)
  have BL1 : Below w.heap.size w w1 := BL.trans (bl1.mono (by omega))
  have HB1 := hide (And.intro BX1 BL1)
  have HY1 := hide by1
  clear BL bl1 by1 BX
  rw [hcv]
  clear hcv
  have HGB := hide (show W0.heap.size < w1.heap.size from sz1)
  generalize W0.heap.size = gb at *
  go_wp2_with fail
  have BX := BX1
  clear BX1 BL1
  have d0 := BX.at_ (i := 0) rfl
  have d1 := BX.at_ (i := 1) rfl
  have d2 := BX.at_ (i := 2) rfl
  have d3 := BX.at_ (i := 3) rfl
  have d4 := BX.at_ (i := 4) rfl
  have d5 := BX.at_ (i := 5) rfl
  have d6 := BX.at_ (i := 6) rfl
  have d7 := BX.at_ (i := 7) rfl
  simp only [Nat.zero_add] at d0 d1 d2 d3 d4 d5 d6 d7
  clear BX
  go_loop [80] (fun q => ∃ k : Nat, k ≤ st.size ∧ q = .int .i64 k ∧ Hid (∀ j, j < k → ¬ zOf st j = 0)) (fun q => st.size - (intOf q).toNat)
  case atStart => exact ⟨0, by omega, rfl, hide (fun j hj => by omega)⟩
  case round =>
    obtain ⟨k, hk, rfl, hG⟩ := hrel
    by_cases hlt2 : k < st.size
    · have yk := HY1.out k hlt2
      have hz8 := zOf_lt st k
      by_cases hz0 : zOf st k = 0
      · have e0 : ((zOf st k : Int) == 0) = true := by simp; omega
        have HZ := hide (show ¬ contentP st from fun h => (HCP.out.1 h).2.1 k hlt2 hz0)
        generalize zOf st k = zk at *
        clear hz0
        go_wp2_with fail
        go_ret
        exact HKO.out HZ.out _ HB1.out.2
      · have e0 : ((zOf st k : Int) == 0) = false := by simp; omega
        have HZ := hide (show ∀ j, j < k + 1 → ¬ zOf st j = 0 from fun j hj => by
          by_cases hjk : j < k
          · exact hG.out j hjk
          · rw [show j = k by omega]; exact hz0)
        generalize zOf st k = zk at *
        clear hz0
        go_wp2_with fail
        go_round
        case rel => exact ⟨k + 1, by omega, by go_num, HZ⟩
        case measure => simp [intOf]; omega
    · by_cases h128 : st.size < 128
      · have e128 : decide ((st.size : Int) + 1 ≤ 128) = true := by rw [decide_eq_true_iff]; omega
        go_wp2_with fail
        obtain ⟨cap2, w2, hcv2, bl2, sz2, by2⟩ := str_bytes w1 st
        have hob2 : w.heap.size < w1.heap.size := HB1.out.1.lt (by simp)
        have BX := HB1.out.1.keeps (Keeps.of_below bl2) (fun h1 h2 => by omega)
        have BL2 : Below w.heap.size w w2 := HB1.out.2.trans (bl2.mono (by omega))
        have HB2 := hide BL2
        have HZA := hide (show ∀ j, j < st.size → ¬ zOf st j = 0 from fun j hj => hG.out j (by omega))
        clear bl2 BL2 d0 d1 d2 d3 d4 d5 d6 d7
        rw [hcv2]
        clear hcv2
        go_wp2_with fail
        refine (wellFormed_calls _ _ _ (zOf st) (by omega) w2 ⟨zOf_lt st, fun h0 => ⟨w1.heap.size, 0, rfl, fun i hi => by rw [Nat.zero_add]; exact by2 i hi⟩⟩).mono ?_
        rintro e w3 ⟨⟨rr, rfl, hrr⟩, rfl⟩
        clear by2
        cases rr with
        | true =>
          have HCT := hide (show contentP st from HCP.out.2 ⟨h128, HZA.out, hrr.1 rfl⟩)
          clear hrr
          have d0 := BX.at_ (i := 0) rfl
          have d1 := BX.at_ (i := 1) rfl
          have d2 := BX.at_ (i := 2) rfl
          have d3 := BX.at_ (i := 3) rfl
          have d4 := BX.at_ (i := 4) rfl
          have d5 := BX.at_ (i := 5) rfl
          have d6 := BX.at_ (i := 6) rfl
          have d7 := BX.at_ (i := 7) rfl
          simp only [Nat.zero_add] at d0 d1 d2 d3 d4 d5 d6 d7
          clear BX
          go_wp2_with fail
          have HM := HMK.out HCT.out _ HB2.out
          rw [show (((st.size + 1 + 7) / 8 : Nat) : Int) = ((st.size : Int) + 1 + 7) / 8 by omega] at HM
          refine HM.mono ?_
          intro e w4 H
          obtain ⟨he, H3⟩ := H
          obtain ⟨rb, hrb⟩ : ∃ rb, rb = R.isSome := ⟨_, rfl⟩
          rw [← hrb] at he
          subst he
          have HF := hide (And.intro hrb H3)
          clear hrb H3 HMK HKO
          go_wp2_with fail
          go_ret
          exact ⟨by rw [HF.out.1]; rfl, HF.out.2⟩
        | false =>
          have HCT := hide (show ¬ contentP st from fun h => by have := hrr.2 (HCP.out.1 h).2.2; cases this)
          clear hrr BX
          go_wp2_with fail
          go_ret
          exact HKO.out HCT.out _ HB2.out
      · have e128 : decide ((st.size : Int) + 1 ≤ 128) = false := by rw [decide_eq_false_iff_not]; omega
        have HZ := hide (show ¬ contentP st from fun h => h128 (HCP.out.1 h).1)
        go_wp2_with fail
        go_ret
        exact HKO.out HZ.out _ HB1.out.2
end Go.Proofs.Ygcfaa
