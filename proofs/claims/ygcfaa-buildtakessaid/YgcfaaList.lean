import Derived.Test.YgcfaaList7bad
import Derived.Test.YgcfaaList7good
namespace Go.Proofs.Ygcfaa
open Go.RowKit Bits Bd
set_option linter.unusedVariables false
set_option maxRecDepth 100000
set_option linter.unusedSimpArgs false
attribute [local go_sem] World.cell?_ext World.frozen?_ext Kw.cell Kw.frozen

set_option maxHeartbeats 8000000 in
theorem list_calls (op : Opn) (hop : op.Ok) {w : World} {b : Nat} {r : Value} {s : Nat → Value} {K : Bk} (hb : HK w b r s K) (hlt : op.h < K.e.length) (fit : K.Fit) :
    Calls Faag.prog 82 #[.pointer (some ⟨b, 0, none⟩), .agg (opC op).toArray] w (KOut b r s K w (listK K op)) := by
  have HM := hide (fun (made : Ent) (sv : Value) (words elements : Nat) (hw : words ≤ 10000000) (hel : elements ≤ 65535) (hp8 : made.ptrs ≤ 255) (w1 : World) (bl : Below w.heap.size w w1) (hsv : w1.ownsRow 0 4 1 sv made.set.length (rowB made.set)) (hnew : ∀ j, sv.ownBlock = some j → w.heap.size ≤ j) => make_calls op hop made sv words elements hw hel hp8 hb hlt fit bl hsv hnew)
  have HNO := hide (fun (W : World) (hW : Below w.heap.size w W) => show KOut b r s K w none (.returned (.bool false)) W from ⟨rfl, r, s, hb.below hW, MvK.of_below hW⟩)
  by_cases hn : 128 < op.n
  · have HL := hide (show listK K op = none from if_pos hn)
    generalize listK K op = R at *
    obtain ⟨kind, x, i, X, Y, N, V, st⟩ := op
    obtain ⟨o1, o2, o3, o4, o5, o6, o7⟩ := hop
    unfold opC
    dsimp only at *
    clear hb HM
    go_enter Faag.func82, Faag.ntmps82
    go_wp2_with fail
    go_ret
    rw [HL.out]
    exact HNO.out _ (((Below.refl _ w).alloc (Nat.le_refl _) _).alloc (by simp) _)
  · by_cases h25 : 2 ≤ op.x ∧ op.x ≤ 5
    · have HL := hide (show listK K op = makeK K op ⟨false, 2, op.x, 0, 0, op.n, 0, 0, 0, []⟩ ((op.n * (8 * 2 ^ (op.x - 2)) + 63) / 64) 0 from by unfold listK; rw [if_neg hn, if_pos h25])
      generalize listK K op = R at *
      obtain ⟨kind, x, i, X, Y, N, V, st⟩ := op
      obtain ⟨o1, o2, o3, o4, o5, o6, o7⟩ := hop
      unfold opC at HM ⊢
      dsimp only at *
      clear hb
      have hx : X = 2 ∨ X = 3 ∨ X = 4 ∨ X = 5 := by omega
      rcases hx with rfl | rfl | rfl | rfl
      · go_enter Faag.func82, Faag.ntmps82
        go_wp2_with fail
        have HM2 := HM.out ⟨false, 2, 2, 0, 0, N, 0, 0, 0, []⟩ (.slice none 0 0) ((N * 8 + 63) / 64) 0 (by omega) (by omega) (by simp) _ (((Below.refl _ w).alloc (Nat.le_refl _) (.cells #[.int .u8 (kind : Int), .int .u8 (x : Int), .int .u8 (i : Int), .int .u8 2, .int .u8 (Y : Int), .int .u16 (N : Int), .int .u64 (V : Int), .string st] 46)).alloc (by simp) (.cells (entC ⟨false, 2, 2, 0, 0, N, 0, 0, 0, []⟩ (.slice none 0 0)).toArray 70)) (own_nil _ _ _) (by simp [Value.ownBlock])
        rw [show (((N * 8 + 63) / 64 : Nat) : Int) = ((N : Int) * 8 + 63) / 64 by omega] at HM2
        generalize hR2 : makeK _ _ _ _ _ = R2 at HM2
        have hL2 : R = R2 := HL.out.trans hR2
        clear hR2 HL
        have HL := hide hL2
        clear hL2
        refine HM2.mono ?_
        rintro e w2 ⟨he, H2⟩
        obtain ⟨rb, hrb⟩ : ∃ rb, rb = R2.isSome := ⟨_, rfl⟩
        rw [← hrb] at he
        subst he
        have HF := hide (And.intro hrb H2)
        clear hrb H2 HM HNO
        go_wp2_with fail
        go_ret
        rw [HL.out]
        exact ⟨by rw [HF.out.1]; rfl, HF.out.2⟩
      · go_enter Faag.func82, Faag.ntmps82
        go_wp2_with fail
        have HM2 := HM.out ⟨false, 2, 3, 0, 0, N, 0, 0, 0, []⟩ (.slice none 0 0) ((N * 16 + 63) / 64) 0 (by omega) (by omega) (by simp) _ (((Below.refl _ w).alloc (Nat.le_refl _) (.cells #[.int .u8 (kind : Int), .int .u8 (x : Int), .int .u8 (i : Int), .int .u8 3, .int .u8 (Y : Int), .int .u16 (N : Int), .int .u64 (V : Int), .string st] 46)).alloc (by simp) (.cells (entC ⟨false, 2, 3, 0, 0, N, 0, 0, 0, []⟩ (.slice none 0 0)).toArray 70)) (own_nil _ _ _) (by simp [Value.ownBlock])
        rw [show (((N * 16 + 63) / 64 : Nat) : Int) = ((N : Int) * 16 + 63) / 64 by omega] at HM2
        generalize hR2 : makeK _ _ _ _ _ = R2 at HM2
        have hL2 : R = R2 := HL.out.trans hR2
        clear hR2 HL
        have HL := hide hL2
        clear hL2
        refine HM2.mono ?_
        rintro e w2 ⟨he, H2⟩
        obtain ⟨rb, hrb⟩ : ∃ rb, rb = R2.isSome := ⟨_, rfl⟩
        rw [← hrb] at he
        subst he
        have HF := hide (And.intro hrb H2)
        clear hrb H2 HM HNO
        go_wp2_with fail
        go_ret
        rw [HL.out]
        exact ⟨by rw [HF.out.1]; rfl, HF.out.2⟩
      · go_enter Faag.func82, Faag.ntmps82
        go_wp2_with fail
        have HM2 := HM.out ⟨false, 2, 4, 0, 0, N, 0, 0, 0, []⟩ (.slice none 0 0) ((N * 32 + 63) / 64) 0 (by omega) (by omega) (by simp) _ (((Below.refl _ w).alloc (Nat.le_refl _) (.cells #[.int .u8 (kind : Int), .int .u8 (x : Int), .int .u8 (i : Int), .int .u8 4, .int .u8 (Y : Int), .int .u16 (N : Int), .int .u64 (V : Int), .string st] 46)).alloc (by simp) (.cells (entC ⟨false, 2, 4, 0, 0, N, 0, 0, 0, []⟩ (.slice none 0 0)).toArray 70)) (own_nil _ _ _) (by simp [Value.ownBlock])
        rw [show (((N * 32 + 63) / 64 : Nat) : Int) = ((N : Int) * 32 + 63) / 64 by omega] at HM2
        generalize hR2 : makeK _ _ _ _ _ = R2 at HM2
        have hL2 : R = R2 := HL.out.trans hR2
        clear hR2 HL
        have HL := hide hL2
        clear hL2
        refine HM2.mono ?_
        rintro e w2 ⟨he, H2⟩
        obtain ⟨rb, hrb⟩ : ∃ rb, rb = R2.isSome := ⟨_, rfl⟩
        rw [← hrb] at he
        subst he
        have HF := hide (And.intro hrb H2)
        clear hrb H2 HM HNO
        go_wp2_with fail
        go_ret
        rw [HL.out]
        exact ⟨by rw [HF.out.1]; rfl, HF.out.2⟩
      · go_enter Faag.func82, Faag.ntmps82
        go_wp2_with fail
        have HM2 := HM.out ⟨false, 2, 5, 0, 0, N, 0, 0, 0, []⟩ (.slice none 0 0) ((N * 64 + 63) / 64) 0 (by omega) (by omega) (by simp) _ (((Below.refl _ w).alloc (Nat.le_refl _) (.cells #[.int .u8 (kind : Int), .int .u8 (x : Int), .int .u8 (i : Int), .int .u8 5, .int .u8 (Y : Int), .int .u16 (N : Int), .int .u64 (V : Int), .string st] 46)).alloc (by simp) (.cells (entC ⟨false, 2, 5, 0, 0, N, 0, 0, 0, []⟩ (.slice none 0 0)).toArray 70)) (own_nil _ _ _) (by simp [Value.ownBlock])
        rw [show (((N * 64 + 63) / 64 : Nat) : Int) = ((N : Int) * 64 + 63) / 64 by omega] at HM2
        generalize hR2 : makeK _ _ _ _ _ = R2 at HM2
        have hL2 : R = R2 := HL.out.trans hR2
        clear hR2 HL
        have HL := hide hL2
        clear hL2
        refine HM2.mono ?_
        rintro e w2 ⟨he, H2⟩
        obtain ⟨rb, hrb⟩ : ∃ rb, rb = R2.isSome := ⟨_, rfl⟩
        rw [← hrb] at he
        subst he
        have HF := hide (And.intro hrb H2)
        clear hrb H2 HM HNO
        go_wp2_with fail
        go_ret
        rw [HL.out]
        exact ⟨by rw [HF.out.1]; rfl, HF.out.2⟩
    · by_cases h6 : op.x = 6
      · have HL := hide (show listK K op = makeK K op ⟨false, 2, op.x, 0, 0, op.n, 0, 0, 0, List.replicate op.n false⟩ op.n 0 from by unfold listK; rw [if_neg hn, if_neg h25, if_pos h6])
        generalize listK K op = R at *
        obtain ⟨kind, x, i, X, Y, N, V, st⟩ := op
        obtain ⟨o1, o2, o3, o4, o5, o6, o7⟩ := hop
        unfold opC at HM ⊢
        dsimp only at *
        clear hb
        subst h6
        obtain ⟨wb, hmk, hownb, hkb⟩ := mk_bools ((w.alloc (.cells #[.int .u8 (kind : Int), .int .u8 (x : Int), .int .u8 (i : Int), .int .u8 6, .int .u8 (Y : Int), .int .u16 (N : Int), .int .u64 (V : Int), .string st] 46)).alloc (.cells #[.bool false, .int .u8 2, .int .u8 6, .int .i64 0, .int .i64 0, .int .i64 (N : Int), .int .i64 0, .int .i64 0, .int .i64 0, .slice none 0 0] 70)) N (by omega)
        have szb := hkb.size
        simp only [World.size_alloc] at szb
        have cm : ∀ (j : Nat) (u : Value), ((w.alloc (.cells #[.int .u8 (kind : Int), .int .u8 (x : Int), .int .u8 (i : Int), .int .u8 6, .int .u8 (Y : Int), .int .u16 (N : Int), .int .u64 (V : Int), .string st] 46)).alloc (.cells #[.bool false, .int .u8 2, .int .u8 6, .int .i64 0, .int .i64 0, .int .i64 (N : Int), .int .i64 0, .int .i64 0, .int .i64 0, .slice none 0 0] 70)).cell? ⟨w.heap.size + 1, j, none⟩ = some u → wb.cell? ⟨w.heap.size + 1, j, none⟩ = some u := fun j u hu => (hkb.cell (p := ⟨w.heap.size + 1, j, none⟩) (by simp) id).trans hu
        have co : ∀ (j : Nat) (u : Value), ((w.alloc (.cells #[.int .u8 (kind : Int), .int .u8 (x : Int), .int .u8 (i : Int), .int .u8 6, .int .u8 (Y : Int), .int .u16 (N : Int), .int .u64 (V : Int), .string st] 46)).alloc (.cells #[.bool false, .int .u8 2, .int .u8 6, .int .i64 0, .int .i64 0, .int .i64 (N : Int), .int .i64 0, .int .i64 0, .int .i64 0, .slice none 0 0] 70)).cell? ⟨w.heap.size, j, none⟩ = some u → wb.cell? ⟨w.heap.size, j, none⟩ = some u := fun j u hu => (hkb.cell (p := ⟨w.heap.size, j, none⟩) (by simp; omega) id).trans hu
        have fm : wb.frozen? ⟨w.heap.size + 1, 9, none⟩ = false := (hkb.frozen (p := ⟨w.heap.size + 1, 9, none⟩) (by simp) id).trans (by simp)
        have m0 := cm 0 _ (by simp; rfl)
        have m1 := cm 1 _ (by simp; rfl)
        have m2 := cm 2 _ (by simp; rfl)
        have m3 := cm 3 _ (by simp; rfl)
        have m4 := cm 4 _ (by simp; rfl)
        have m5 := cm 5 _ (by simp; rfl)
        have m6 := cm 6 _ (by simp; rfl)
        have m7 := cm 7 _ (by simp; rfl)
        have m8 := cm 8 _ (by simp; rfl)
        have m9 := cm 9 _ (by simp; rfl)
        have d0 := co 0 _ (by simp; rfl)
        have d1 := co 1 _ (by simp; rfl)
        have d2 := co 2 _ (by simp; rfl)
        have d3 := co 3 _ (by simp; rfl)
        have d4 := co 4 _ (by simp; rfl)
        have d5 := co 5 _ (by simp; rfl)
        have d6 := co 6 _ (by simp; rfl)
        have d7 := co 7 _ (by simp; rfl)
        simp only [World.size_alloc] at hownb
        have blb : Below w.heap.size w wb := (((Below.refl _ w).alloc (Nat.le_refl _) _).alloc (by simp) _).trans (hkb.below (by simp; omega) (fun _ _ => id))
        have HKB := hide (And.intro hownb blb)
        clear hownb hkb cm co blb
        go_enter Faag.func82, Faag.ntmps82
        go_wp2_with fail
        have HM2 := HM.out ⟨false, 2, 6, 0, 0, N, 0, 0, 0, List.replicate N false⟩ (.slice (some ⟨w.heap.size + 1 + 1, 0, none⟩) N N) N 0 (by omega) (by omega) (by simp) (wb.setCell ⟨w.heap.size + 1, 9, none⟩ (.slice (some ⟨w.heap.size + 1 + 1, 0, none⟩) N N)) (HKB.out.2.setCell (by simp) _) (by
          have := own_keeps HKB.out.1 ((Keeps.refl (fun k => k = w.heap.size + 1) wb).setCell (p := ⟨w.heap.size + 1, 9, none⟩) (fun _ => rfl) (.slice (some ⟨w.heap.size + 1 + 1, 0, none⟩) N N)) (fun k hk e => by
            have : w.heap.size + 1 + 1 = k := by simpa [Value.ownBlock] using hk
            omega)
          simpa using this) (fun k hk => by
            have : w.heap.size + 1 + 1 = k := by simpa [Value.ownBlock] using hk
            omega)
        generalize hR2 : makeK _ _ _ _ _ = R2 at HM2
        have hL2 : R = R2 := HL.out.trans hR2
        clear hR2 HL
        have HL := hide hL2
        clear hL2
        refine HM2.mono ?_
        rintro e w2 ⟨he, H2⟩
        obtain ⟨rb, hrb⟩ : ∃ rb, rb = R2.isSome := ⟨_, rfl⟩
        rw [← hrb] at he
        subst he
        have HF := hide (And.intro hrb H2)
        clear hrb H2 HM HNO
        go_wp2_with fail
        go_ret
        rw [HL.out]
        exact ⟨by rw [HF.out.1]; rfl, HF.out.2⟩
      · by_cases h7 : op.x = 7
        · obtain ⟨kind, x, i, X, Y, N, V, st⟩ := op
          obtain ⟨o1, o2, o3, o4, o5, o6, o7⟩ := hop
          dsimp only at *
          subst h7
          obtain ⟨d, hd⟩ : ∃ d, d = Y / 16 := ⟨_, rfl⟩
          obtain ⟨q, hq⟩ : ∃ q, q = Y % 16 := ⟨_, rfl⟩
          by_cases hbad : 8 < d ∨ 8 < q ∨ (0 < N ∧ Y = 0)
          · have hL : listK K ⟨kind, x, i, 7, Y, N, V, st⟩ = none := by unfold listK; rw [if_neg hn, if_neg h25, if_neg h6, if_pos rfl, if_pos (by dsimp only; rw [← hd, ← hq]; exact hbad)]
            rw [hL]
            by_cases h1 : 8 < d
            · exact list7_bad1 kind x i Y N V st o1 o2 o3 o5 o6 o7 (by omega) d q hd hq h1 HNO
            · by_cases h2 : 8 < q
              · exact list7_bad2 kind x i Y N V st o1 o2 o3 o5 o6 o7 (by omega) d q hd hq ⟨by omega, h2⟩ HNO
              · exact list7_bad3 kind x i Y N V st o1 o2 o3 o5 o6 o7 (by omega) d q hd hq ⟨by omega, by omega, by omega, by omega⟩ HNO
          · have hL : listK K ⟨kind, x, i, 7, Y, N, V, st⟩ = makeK K ⟨kind, x, i, 7, Y, N, V, st⟩ ⟨false, 2, 7, d, q, N, 0, 0, 0, []⟩ (1 + N * (d + q)) N := by
              unfold listK
              rw [if_neg hn, if_neg h25, if_neg h6, if_pos rfl, if_neg (by dsimp only; rw [← hd, ← hq]; exact hbad), hd, hq]
            rw [hL]
            obtain ⟨M, hM0⟩ : ∃ M, M = N * (d + q) := ⟨_, rfl⟩
            have hM : (N : Int) * ((d : Int) + (q : Int)) = (M : Int) := by rw [hM0]; simp
            have hM2 : M ≤ 3840 := by
              rw [hM0]
              exact Nat.mul_le_mul (show N ≤ 128 by omega) (show d + q ≤ 30 by omega)
            have HM2 := hide (fun (w1 : World) (bl : Below w.heap.size w w1) => (by
              have := HM.out ⟨false, 2, 7, d, q, N, 0, 0, 0, []⟩ (.slice none 0 0) (1 + N * (d + q)) N (by have := Nat.mul_le_mul (show N ≤ 128 by omega) (show d + q ≤ 30 by omega); omega) (by omega) (by dsimp only; omega) w1 bl (own_nil _ _ _) (by simp [Value.ownBlock])
              rw [show ((1 + N * (d + q) : Nat) : Int) = 1 + (M : Int) by rw [← hM0]; simp] at this
              exact this : Calls Faag.prog 81 #[.pointer (some ⟨b, 0, none⟩), .agg (opC ⟨kind, x, i, 7, Y, N, V, st⟩).toArray, .agg (entC ⟨false, 2, 7, d, q, N, 0, 0, 0, []⟩ (.slice none 0 0)).toArray, .int .i64 (1 + (M : Int)), .int .i64 (N : Int)] w1 (KOut b r s K w (makeK K ⟨kind, x, i, 7, Y, N, V, st⟩ ⟨false, 2, 7, d, q, N, 0, 0, 0, []⟩ (1 + N * (d + q)) N))))
            by_cases h0 : N = 0
            · exact list7_good1 kind x i Y N V st o1 o2 o3 o5 o6 o7 (by omega) d q M hd hq hM hM2 ⟨by omega, by omega, h0⟩ HM2 (hide (fun w' h => ⟨rfl, h⟩))
            · exact list7_good2 kind x i Y N V st o1 o2 o3 o5 o6 o7 (by omega) d q M hd hq hM hM2 ⟨by omega, by omega, by omega, fun e => hbad (.inr (.inr ⟨by omega, e⟩))⟩ HM2 (hide (fun w' h => ⟨rfl, h⟩))
        · have HL := hide (show listK K op = none from by unfold listK; rw [if_neg hn, if_neg h25, if_neg h6, if_neg h7])
          generalize listK K op = R at *
          obtain ⟨kind, x, i, X, Y, N, V, st⟩ := op
          obtain ⟨o1, o2, o3, o4, o5, o6, o7⟩ := hop
          unfold opC
          dsimp only at *
          clear hb HM
          have t2 : ((X : Int) == 2) = false := by simp; omega
          have t3 : ((X : Int) == 3) = false := by simp; omega
          have t4 : ((X : Int) == 4) = false := by simp; omega
          have t5 : ((X : Int) == 5) = false := by simp; omega
          have t6 : ((X : Int) == 6) = false := by simp; omega
          have t7 : ((X : Int) == 7) = false := by simp; omega
          go_enter Faag.func82, Faag.ntmps82
          go_wp2_with fail
          go_ret
          rw [HL.out]
          exact HNO.out _ (((Below.refl _ w).alloc (Nat.le_refl _) _).alloc (by simp) _)
end Go.Proofs.Ygcfaa
