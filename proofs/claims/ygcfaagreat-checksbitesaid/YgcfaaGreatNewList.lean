import Derived.Test.YgcfaaGreatNewStructs
namespace Go.Proofs.YgcfaaGreat
open Go.RowKit Bits Bd
set_option linter.unusedVariables false
set_option maxRecDepth 100000
set_option linter.unusedSimpArgs false
attribute [local go_sem] World.cell?_ext World.frozen?_ext

set_option maxHeartbeats 8000000 in
theorem newList_calls (op : Opn) (hop : op.Ok) {w : World} {p : Nat} {h : Nat → Value} {B : Bld} (hb : HB w p h B) (hl : Live B op.h) :
    Calls Faag.prog 41 #[.pointer (some ⟨p, 0, none⟩), .agg (opC op).toArray] w fun e w' => RetO e (newListB B op) ∧ ∃ h', HB w' p h' ((newListB B op).getD B) ∧ Mv p h h' w w' := by
  obtain ⟨⟨a1, a2⟩, ⟨a3, a4⟩, _, _, a5, _⟩ := hl.even
  by_cases h7 : op.x = 7
  · have HC := hide (fun (W : World) (hW : HB W p h B) => newStructs_calls op hop h7 hW hl)
    have HN2 := hide (show newListB B op = newStructsB B op from if_pos h7)
    have HH := hide hb
    obtain ⟨kind, x, i, X, Y, N, V, s⟩ := op
    obtain ⟨o1, o2, o3, o4, o5, o6, o7⟩ := hop
    unfold opC at HC ⊢
    dsimp only at o1 o2 o3 o4 o5 o6 o7 h7 HC ⊢
    have g1 : ((X : Int) == 7) = true := by simp; omega
    clear hb h7
    go_enter Faag.func41, Faag.ntmps41
    go_wp2_with fail
    refine (HC.out _ (HH.out.alloc _)).mono ?_
    rintro e w1 ⟨he, h1, hb1, mv1⟩
    unfold RetO at he
    have HF := hide (And.intro hb1 ((Mv.of_below (p := p) (h := h) ((Below.refl _ w).alloc (Nat.le_refl _) (.cells #[.int .u8 kind, .int .u8 x, .int .u8 i, .int .u8 X, .int .u8 Y, .int .u16 N, .int .u64 V, .string s] 55))).trans mv1))
    clear hb1 mv1
    obtain ⟨r, hr⟩ : ∃ r, r = (newStructsB B ⟨kind, x, i, X, Y, N, V, s⟩).isSome := ⟨_, rfl⟩
    rw [← hr] at he
    subst he
    have HR := hide hr
    clear hr
    go_wp2_with fail
    go_ret
    rw [HN2.out, HR.out]
    exact ⟨rfl, h1, HF.out⟩
  have hopH := hide hop
  obtain ⟨q, hq⟩ : ∃ q : Ptr, q = ⟨2, B.A.length, 0, 0, op.x, op.n⟩ := ⟨_, rfl⟩
  have hqok : q.Ok := by rw [hq]; exact ⟨by dsimp only; omega, by dsimp only; omega, by dsimp only; omega, by dsimp only; omega, hop.x, hop.n⟩
  have HW := hide (words_calls q hqok)
  have hwl := words_le q
  have hnsB : newListB B op = match roomB B op.h op.i (words q) 1 with | none => none | some a => some (hangB (if op.x = 6 then markB (growB (setA B a (mkList a B.A.length op.x op.n)) (words q)) B.A.length op.n true else growB (setA B a (mkList a B.A.length op.x op.n)) (words q)) q op.h op.i (B.depth.getD op.h 0 + 1)) := by
    unfold newListB
    rw [if_neg h7, hq]
    rfl
  have HR := hide (fun (W : World) (hW : HB W p h B) => room_calls op hop (words q) 1 (by omega) (by omega) hW hl)
  generalize hwq : words q = m at *
  have HN := hide hnsB
  obtain ⟨c0, _⟩ := hb.cell 0 (by omega)
  obtain ⟨b0, cp0, hv0, _⟩ := own_len (hb.own 0 (by omega))
  simp only [fOff, Nat.reduceAdd, Bld.len] at c0 hv0
  rw [hv0] at c0
  have hp : p < w.heap.size := hb.lt ⟨0, rfl⟩
  have HH := hide hb
  obtain ⟨kind, x, i, X, Y, N, V, s⟩ := op
  obtain ⟨o1, o2, o3, o4, o5, o6, o7⟩ := hop
  unfold opC at HR ⊢
  dsimp only at o1 o2 o3 o4 o5 o6 o7 hl hq HR HN ⊢
  subst hq
  unfold ptrC at HW
  dsimp only at HW
  have hHl := hide hl
  have g7 : ((X : Int) == 7) = false := by have h7x : ¬ X = 7 := h7; simp; omega
  clear hb hl hwq hnsB hqok h7
  go_enter Faag.func41, Faag.ntmps41
  go_wp2_with fail
  refine wp_region_ql (fun w' => ∃ x, w' = (w.alloc _).ext x) 12 [0, 1, 2, 3, 4, 5, 6, 7, 8, 9, 10] [11] (by kernel_rfl) (by kernel_rfl) ?_ (ext_drew _) ?_
  · intro d v c a w hx
    cases d <;> exact hx
  simp only [pickOps, List.getElem?_cons_zero, List.getElem?_cons_succ, Option.toList_some, List.cons_append, List.nil_append, List.drop_succ_cons, List.drop_zero]
  repeat (go_big_quiet_step (fail))
  refine wpQuiet_nil ?_
  refine wpLd_cons ?_
  go_wp2_with fail
  refine ⟨ext_alloc _ _, ?_⟩
  unfold wpLd
  go_wp2_with fail
  have hst := St.two HH.out [.int .u8 kind, .int .u8 x, .int .u8 i, .int .u8 X, .int .u8 Y, .int .u16 N, .int .u64 V, .string s] 55 [.int .u8 2, .int .u16 B.A.length, .int .u8 0, .int .u8 0, .int .u8 X, .int .u16 N] 62
  obtain ⟨W, hW⟩ : ∃ W, W = ((w.alloc (.cells #[.int .u8 kind, .int .u8 x, .int .u8 i, .int .u8 X, .int .u8 Y, .int .u16 N, .int .u64 V, .string s] 55)).alloc (.cells #[.int .u8 2, .int .u16 B.A.length, .int .u8 0, .int .u8 0, .int .u8 X, .int .u16 N] 62)).drew := ⟨_, rfl⟩
  rw [← hW] at hst ⊢
  have HS := hide hst
  clear c0 hp HH
  obtain ⟨c0, c0f⟩ := hst.hb.cell 0 (by omega)
  simp only [fOff] at c0 c0f
  have bx := fun j u hu => hst.r1.at_ (i := j) (v := u) hu
  have e1 := bx 1 _ rfl
  have e2 := bx 2 _ rfl
  have e3 := bx 3 _ rfl
  have e4 := bx 4 _ rfl
  have e0 := bx 0 _ rfl
  have e5 := bx 5 _ rfl
  have e6 := bx 6 _ rfl
  have e7 := bx 7 _ rfl
  have by_ := fun j u hu => hst.r2.at_ (i := j) (v := u) hu
  have f0 := by_ 0 _ rfl
  have f1 := by_ 1 _ rfl
  have f2 := by_ 2 _ rfl
  have f3 := by_ 3 _ rfl
  have f4 := by_ 4 _ rfl
  have f5 := by_ 5 _ rfl
  simp only [Nat.zero_add, Nat.reduceAdd] at e0 e1 e2 e3 e4 e5 e6 e7 f0 f1 f2 f3 f4 f5
  clear bx by_ hst hW
  refine (HW.out _).mono ?_
  rintro e w1 ⟨rfl, hb1⟩
  obtain ⟨x1, rfl⟩ := World.ext_of_below hb1
  clear hb1
  go_wp2_with fail
  refine (HR.out _ (HS.out.hb.ext x1)).mono ?_
  rintro e w2 ⟨⟨a, r, rfl, hr, hal⟩, hb2⟩
  obtain ⟨x2, rfl⟩ := ext_below ⟨x1, rfl⟩ hb2
  clear hb2
  rcases hr with ⟨rfl, hr⟩ | ⟨rfl, hr⟩
  · have HN2 := HN.out
    rw [hr] at HN2
    dsimp only at HN2
    replace HN2 := hide HN2
    obtain ⟨r1, r2, r3, r4, _⟩ := roomB_lt hr
    have hb0 := HS.out.hb
    obtain ⟨ga, ca, hga, hgl, hgp, cA, cAf⟩ := hb0.aAt r1
    have HM := hide (mkList_calls a B.A.length X N (by omega) (by omega) o4 (by omega))
    have hml := mkList_lt a B.A.length X N
    obtain ⟨M, hM⟩ : ∃ M, M = mkList a B.A.length X N := ⟨_, rfl⟩
    rw [← hM] at HM hml HN2
    rw [hga] at c0
    have HGA := hide hga
    clear HN hr hb0 hM hv0 hga
    go_wp2_with fail
    refine wp_region_qy W 14 (by kernel_rfl) (by kernel_rfl) ⟨_, rfl⟩ ?_
    simp only [List.take_succ_cons, List.take_zero, List.drop_succ_cons, List.drop_zero]
    repeat (go_big_quiet_step ((go_at_call 85; exact Calls.ext_of_same (HM.out _))))
    refine wpQuiet_nil ?_
    rintro _ ⟨x3, rfl⟩
    go_wp2_with fail
    have HS2 := hide (show St p w h _ _ _ _ ((W.ext x3).setCell ⟨ga, a, none⟩ (.int .u64 (M : Int))) h (Bd.setA B a M) from
      (HS.out.ext (by simp) (by simp) x3).step (by simp) (by simp) ((HS.out.ext (by simp) (by simp) x3).hb.setA HGA.out hml) (HB.put_mv p (i := 0) (by omega) HGA.out))
    have hDlt := HS.out.hb.ok.depth x
    clear HS e0 e1 e2 e3 e4 e5 e6 e7 f0 f1 f2 f3 f4 f5 c0 c0f cA cAf HGA HM HR HW
    refine (grow_calls m HS2.out.hb (by simp [Bd.setA]; omega) (by omega)).mono ?_
    rintro e w4 ⟨rfl, h4, hb4, mv4⟩
    have HS3 := hide (HS2.out.step (by simp) (by simp) hb4 mv4)
    clear hb4 mv4 HS2
    have bx := fun j u hu => HS3.out.r1.at_ (i := j) (v := u) hu
    have e5 := bx 5 _ rfl
    have e1 := bx 1 _ rfl
    have e2 := bx 2 _ rfl
    have e3 := bx 3 _ rfl
    have e4 := bx 4 _ rfl
    have by_ := fun j u hu => HS3.out.r2.at_ (i := j) (v := u) hu
    have f0 := by_ 0 _ rfl
    have f1 := by_ 1 _ rfl
    have f2 := by_ 2 _ rfl
    have f3 := by_ 3 _ rfl
    have f4 := by_ 4 _ rfl
    have f5 := by_ 5 _ rfl
    simp only [Nat.zero_add, Nat.reduceAdd] at e1 e2 e3 e4 e5 f0 f1 f2 f3 f4 f5
    clear bx by_
    by_cases h6 : X = 6
    · have g6 : ((X : Int) == 6) = true := by simp; omega
      rw [if_pos h6] at HN2
      clear h6
      go_wp2_with fail
      refine (mark_calls B.A.length N (by omega) (by omega) true HS3.out.hb).mono ?_
      rintro e w5 ⟨rfl, hb5, mv5⟩
      have HS4 := hide (HS3.out.step (by simp) (by simp) hb5 mv5)
      clear hb5 mv5 HS3 e1 e2 e3 e4 f0 f1 f2 f3 f4 f5
      have bx := fun j u hu => HS4.out.r1.at_ (i := j) (v := u) hu
      have e1 := bx 1 _ rfl
      have e2 := bx 2 _ rfl
      have by_ := fun j u hu => HS4.out.r2.at_ (i := j) (v := u) hu
      have f0 := by_ 0 _ rfl
      have f1 := by_ 1 _ rfl
      have f2 := by_ 2 _ rfl
      have f3 := by_ 3 _ rfl
      have f4 := by_ 4 _ rfl
      have f5 := by_ 5 _ rfl
      simp only [Nat.zero_add, Nat.reduceAdd] at e1 e2 f0 f1 f2 f3 f4 f5
      clear bx by_
      obtain ⟨gd, cd, hgd, hgdl, cD⟩ := HS4.out.hb.dAt (j := x) (by show x < B.depth.length; have := hHl.out.lt; omega)
      obtain ⟨c4, _⟩ := HS4.out.hb.cell 4 (by omega)
      simp only [fOff, Nat.reduceAdd] at c4
      rw [hgd] at c4
      have hxd : x < B.depth.length := by have := hHl.out.lt; omega
      change w5.cell? _ = some (.slice _ B.depth.length cd) at c4
      change w5.cell? _ = some (.int .u8 (B.depth.getD x 0 : Nat)) at cD
      obtain ⟨D, hD⟩ : ∃ D, D = B.depth.getD x 0 := ⟨_, rfl⟩
      rw [← hD] at cD r4 hDlt HN2
      clear hgd hD
      go_wp2_with fail
      refine wp_region_qy w5 15 (by kernel_rfl) (by kernel_rfl) (ext_self _) ?_
      simp only [List.take_succ_cons, List.take_zero, List.drop_succ_cons, List.drop_zero]
      repeat (go_big_quiet_step (fail))
      refine wpQuiet_nil ?_
      rintro _ ⟨x6, rfl⟩
      go_wp2_with fail
      have hev := hHl.out.even
      refine (hang_calls ⟨2, B.A.length, 0, 0, X, N⟩ ⟨by dsimp only; omega, by dsimp only; omega, by dsimp only; omega, by dsimp only; omega, o4, o6⟩ x i (D + 1) o2 o3 (by omega) (HS4.out.hb.ext x6)
        (by show B.obj.length ≤ _; omega) (by show B.up.length ≤ _; have := hev.2.2.1; omega) (by show B.via.length ≤ _; have := hev.2.2.2.1; omega) (by show B.depth.length ≤ _; omega) (by show B.dead.length ≤ _; have := hev.2.2.2.2.2; omega)).mono ?_
      rintro e w7 ⟨rfl, h7, hb7, mv7⟩
      have HF := hide (And.intro hb7 ((HS4.out.ext (by simp) (by simp) x6).mv.trans mv7))
      clear hb7 mv7 hev HS4 e1 e2 f0 f1 f2 f3 f4 f5 c4 cD
      go_wp2_with fail
      go_ret
      rw [HN2.out]
      exact ⟨rfl, h7, HF.out⟩
    · have g6 : ((X : Int) == 6) = false := by simp; omega
      rw [if_neg h6] at HN2
      clear h6
      obtain ⟨w5, hw5⟩ : ∃ w5, w5 = w4 := ⟨_, rfl⟩
      subst hw5
      have HS4 := HS3
      clear HS3
      obtain ⟨gd, cd, hgd, hgdl, cD⟩ := HS4.out.hb.dAt (j := x) (by show x < B.depth.length; have := hHl.out.lt; omega)
      obtain ⟨c4, _⟩ := HS4.out.hb.cell 4 (by omega)
      simp only [fOff, Nat.reduceAdd] at c4
      rw [hgd] at c4
      have hxd : x < B.depth.length := by have := hHl.out.lt; omega
      change w5.cell? _ = some (.slice _ B.depth.length cd) at c4
      change w5.cell? _ = some (.int .u8 (B.depth.getD x 0 : Nat)) at cD
      obtain ⟨D, hD⟩ : ∃ D, D = B.depth.getD x 0 := ⟨_, rfl⟩
      rw [← hD] at cD r4 hDlt HN2
      clear hgd hD
      go_wp2_with fail
      refine wp_region_qy w5 15 (by kernel_rfl) (by kernel_rfl) (ext_self _) ?_
      simp only [List.take_succ_cons, List.take_zero, List.drop_succ_cons, List.drop_zero]
      repeat (go_big_quiet_step (fail))
      refine wpQuiet_nil ?_
      rintro _ ⟨x6, rfl⟩
      go_wp2_with fail
      have hev := hHl.out.even
      refine (hang_calls ⟨2, B.A.length, 0, 0, X, N⟩ ⟨by dsimp only; omega, by dsimp only; omega, by dsimp only; omega, by dsimp only; omega, o4, o6⟩ x i (D + 1) o2 o3 (by omega) (HS4.out.hb.ext x6)
        (by show B.obj.length ≤ _; omega) (by show B.up.length ≤ _; have := hev.2.2.1; omega) (by show B.via.length ≤ _; have := hev.2.2.2.1; omega) (by show B.depth.length ≤ _; omega) (by show B.dead.length ≤ _; have := hev.2.2.2.2.2; omega)).mono ?_
      rintro e w7 ⟨rfl, h7, hb7, mv7⟩
      have HF := hide (And.intro hb7 ((HS4.out.ext (by simp) (by simp) x6).mv.trans mv7))
      clear hb7 mv7 hev HS4 e1 e2 f0 f1 f2 f3 f4 f5 c4 cD
      go_wp2_with fail
      go_ret
      rw [HN2.out]
      exact ⟨rfl, h7, HF.out⟩
  · have HN2 := HN.out
    rw [hr] at HN2
    dsimp only at HN2
    replace HN2 := hide HN2
    clear HN hr
    go_wp2_with fail
    go_ret
    rw [HN2.out]
    exact ⟨rfl, h, (HS.out.ext (by simp) (by simp) _).hb, (HS.out.ext (by simp) (by simp) _).mv⟩
end Go.Proofs.YgcfaaGreat
