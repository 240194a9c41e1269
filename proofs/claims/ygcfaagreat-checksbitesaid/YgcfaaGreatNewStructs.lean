import Derived.Test.YgcfaaGreatNewStruct
namespace Go.Proofs.YgcfaaGreat
open Go.RowKit Bits Bd
set_option linter.unusedVariables false
set_option maxRecDepth 100000
set_option linter.unusedSimpArgs false
attribute [local go_sem] World.cell?_ext World.frozen?_ext

theorem words7 {a d t n : Nat} (h : words ⟨2, a, d, t, 7, n⟩ ≤ 256) : n ≤ 128 ∧ d ≤ 8 ∧ t ≤ 8 ∧ words ⟨2, a, d, t, 7, n⟩ = 1 + n * (d + t) := by
  unfold words at h ⊢
  dsimp only at h ⊢
  rw [if_neg (by omega), if_neg (by omega)] at h ⊢
  by_cases h1 : ¬ (2 : Nat) = 2 ∨ 128 < n
  · rw [if_pos h1] at h; omega
  · rw [if_neg h1, if_neg (by omega), if_neg (by omega)] at h ⊢
    by_cases h2 : (7 : Nat) = 7 ∧ (d ≤ 8 ∧ t ≤ 8)
    · rw [if_pos h2] at h ⊢
      exact ⟨by omega, h2.2.1, h2.2.2, by omega⟩
    · rw [if_neg h2] at h; omega

theorem elems_go (L d t D : Nat) : ∀ (k i a : Nat) (B : Bld), elems L d t D (k + 1) i a B = hangB (markB (elems L d t D k i a B) (a + k * (d + t) + d) t true) ⟨1, a + k * (d + t), d, t, 0, 0⟩ L (i + k) D
  | 0, i, a, B => by simp [elems]
  | k + 1, i, a, B => by
    rw [elems, elems_go L d t D k (i + 1) (a + (d + t)) _, show a + (d + t) + k * (d + t) = a + (k + 1) * (d + t) by rw [Nat.add_mul]; omega, show i + 1 + k = i + (k + 1) by omega]
    rfl
theorem elems_len (L d t D : Nat) : ∀ (k i a : Nat) (B : Bld), (elems L d t D k i a B).obj.length = B.obj.length + k ∧ (elems L d t D k i a B).up.length = B.up.length + k ∧ (elems L d t D k i a B).via.length = B.via.length + k ∧
    (elems L d t D k i a B).depth.length = B.depth.length + k ∧ (elems L d t D k i a B).dead.length = B.dead.length + k
  | 0, i, a, B => by simp [elems]
  | k + 1, i, a, B => by
    obtain ⟨h1, h2, h3, h4, h5⟩ := elems_len L d t D k (i + 1) (a + (d + t)) (hangB (markB B (a + d) t true) ⟨1, a, d, t, 0, 0⟩ L i D)
    simp only [hangB, markB, List.length_append, List.length_cons, List.length_nil] at h1 h2 h3 h4 h5
    simp only [elems]
    refine ⟨?_, ?_, ?_, ?_, ?_⟩
    · exact h1.trans (by omega)
    · exact h2.trans (by omega)
    · exact h3.trans (by omega)
    · exact h4.trans (by omega)
    · exact h5.trans (by omega)

/-- Two boxes are laid, with some draws between. -/
theorem St.twoN {p : Nat} {w : World} {h : Nat → Value} {B : Bld} (hb : HB w p h B) (vs1 : List Value) (t1 : TypeId) (vs2 : List Value) (t2 : TypeId) (n : Nat) : St p w h w.heap.size vs1 (w.heap.size + 1) vs2 (((w.alloc (.cells vs1.toArray t1)).drewN n).alloc (.cells vs2.toArray t2)) h B := by
  have k : Keeps (fun _ => False) w (((w.alloc (.cells vs1.toArray t1)).drewN n).alloc (.cells vs2.toArray t2)) := (((Keeps.refl _ _).alloc _).drewN _).alloc _
  refine ⟨hb.kp k, Mv.of_kp k, ?_, hb.not_new (Nat.le_refl _), ?_, hb.not_new (by omega)⟩
  · exact (RowAt.of_alloc w vs1 t1).keeps (((Keeps.refl (fun _ => False) _).drewN n).alloc _) (fun _ => id)
  · have := RowAt.of_alloc ((w.alloc (.cells vs1.toArray t1)).drewN n) vs2 t2
    simpa using this

set_option maxHeartbeats 16000000 in
theorem newStructs_calls (op : Opn) (hop : op.Ok) (hX : op.x = 7) {w : World} {p : Nat} {h : Nat → Value} {B : Bld} (hb : HB w p h B) (hl : Live B op.h) :
    Calls Faag.prog 84 #[.pointer (some ⟨p, 0, none⟩), .agg (opC op).toArray] w fun e w' => RetO e (newStructsB B op) ∧ ∃ h', HB w' p h' ((newStructsB B op).getD B) ∧ Mv p h h' w w' := by
  obtain ⟨⟨a1, a2⟩, ⟨a3, a4⟩, _, _, a5, _⟩ := hl.even
  obtain ⟨d, hd⟩ : ∃ d, d = op.y / 16 := ⟨_, rfl⟩
  obtain ⟨t, ht⟩ : ∃ t, t = op.y % 16 := ⟨_, rfl⟩
  have hY := hop.y
  have hd16 : d < 16 := by omega
  have ht16 : t < 16 := by omega
  obtain ⟨q, hq⟩ : ∃ q : Ptr, q = ⟨2, B.A.length + 1, d, t, 7, op.n⟩ := ⟨_, rfl⟩
  have hqok : q.Ok := by rw [hq]; exact ⟨by dsimp only; omega, by dsimp only; omega, by dsimp only; omega, by dsimp only; omega, by dsimp only; omega, hop.n⟩
  have HW := hide (words_calls q hqok)
  have hwl := words_le q
  have HR := hide (fun (W : World) (hW : HB W p h B) => room_calls op hop (words q) (1 + op.n) (by omega) (by have := hop.n; omega) hW hl)
  obtain ⟨m, hm⟩ : ∃ m, m = words q := ⟨_, rfl⟩
  rw [← hm] at HW hwl HR
  obtain ⟨c0, _⟩ := hb.cell 0 (by omega)
  obtain ⟨b0, cp0, hv0, _⟩ := own_len (hb.own 0 (by omega))
  simp only [fOff, Nat.reduceAdd, Bld.len] at c0 hv0
  rw [hv0] at c0
  have hp : p < w.heap.size := hb.lt ⟨0, rfl⟩
  have HH := hide hb
  obtain ⟨kind, x, i, X, Y, N, V, s⟩ := op
  obtain ⟨o1, o2, o3, o4, o5, o6, o7⟩ := hop
  unfold opC at HR ⊢
  dsimp only at o1 o2 o3 o4 o5 o6 o7 hl hq HR hX hd ht hY ⊢
  subst hX
  have HQ := hide (And.intro hq hm)
  unfold ptrC at HW
  rw [hq] at HW
  dsimp only at HW
  have hHl := hide hl
  have S1 := hide (show (Y : Int) / 16 = (d : Int) by omega)
  have S2 := hide (show (Y : Int) % 16 = (t : Int) by omega)
  have HD := hide (And.intro hd ht)
  clear hd ht
  clear hb hl hqok hq hm
  go_enter Faag.func84, Faag.ntmps84
  go_wp2_with fail
  refine wp_region_qd 7 (by kernel_rfl) (by kernel_rfl) ?_
  simp only [List.take_succ_cons, List.take_zero, List.drop_succ_cons, List.drop_zero]
  repeat (go_big_quiet_step (fail))
  refine wpQuiet_nil ?_
  rintro _ ⟨nq, rfl⟩
  rw [S1.out, S2.out]
  go_wp2_with fail
  have hst := St.twoN HH.out [.int .u8 kind, .int .u8 x, .int .u8 i, .int .u8 7, .int .u8 Y, .int .u16 N, .int .u64 V, .string s] 55 [.int .u8 2, .int .u16 ((B.A.length : Int) + 1), .int .u8 d, .int .u8 t, .int .u8 7, .int .u16 N] 62 nq
  obtain ⟨W, hW⟩ : ∃ W, W = ((w.alloc (.cells #[.int .u8 kind, .int .u8 x, .int .u8 i, .int .u8 7, .int .u8 Y, .int .u16 N, .int .u64 V, .string s] 55)).drewN nq).alloc (.cells #[.int .u8 2, .int .u16 ((B.A.length : Int) + 1), .int .u8 d, .int .u8 t, .int .u8 7, .int .u16 N] 62) := ⟨_, rfl⟩
  rw [← hW] at hst ⊢
  have HS := hide hst
  clear c0 hp HH
  obtain ⟨c0, c0f⟩ := hst.hb.cell 0 (by omega)
  simp only [fOff] at c0 c0f
  have bx := fun j u hu => hst.r1.at_ (i := j) (v := u) hu
  have e0 := bx 0 _ rfl
  have e1 := bx 1 _ rfl
  have e2 := bx 2 _ rfl
  have e3 := bx 3 _ rfl
  have e4 := bx 4 _ rfl
  have e5 := bx 5 _ rfl
  have e6 := bx 6 _ rfl
  have e7 := bx 7 _ rfl
  have by_ := fun j u hu => hst.r2.at_ (i := j) (v := u) hu
  have f0 := by_ 0 _ rfl
  have f1 := by_ 1 _ rfl
  have f2 := by_ 2 _ rfl
  have f3 := by_ 3 _ rfl
  have f4 := by_ 4 _ rfl
  have f5 := by_ 5 _ rfl
  simp only [Nat.zero_add, Nat.reduceAdd] at e0 e1 e2 e3 e4 e5 e6 e7 f0 f1 f2 f3 f4 f5
  clear bx by_
  clear hst hW S1 S2
  refine (HW.out _).mono ?_
  rintro e w1 ⟨rfl, hb1⟩
  obtain ⟨x1, rfl⟩ := World.ext_of_below hb1
  clear hb1
  by_cases hz : d + t = 0 ∧ 0 < N
  · obtain ⟨hz1, hz2⟩ := hz
    have g1 : (((d : Int) + t) == 0) = true := by simp; omega
    have HN2 := hide (show newStructsB B ⟨kind, x, i, 7, Y, N, V, s⟩ = none from by
      unfold newStructsB
      dsimp only
      rw [← HD.out.1, ← HD.out.2, if_pos ⟨hz1, hz2⟩])
    clear hz1
    go_wp2_with fail
    go_ret
    rw [HN2.out]
    exact ⟨rfl, h, (HS.out.ext (by simp) (by simp) _).hb, (HS.out.ext (by simp) (by simp) _).mv⟩
  have HN := hide (show newStructsB B ⟨kind, x, i, 7, Y, N, V, s⟩ = match roomB B x i m (1 + N) with | none => none | some a => some (elems B.obj.length d t (B.depth.getD x 0 + 1) N 0 (B.A.length + 1) (hangB (Bd.setA (growB (Bd.setA B a (mkList a B.A.length 7 (N * (d + t)))) m) B.A.length (mkTag N d t)) q x i (B.depth.getD x 0 + 1))) from by
    have hm := HQ.out.2
    have hq := HQ.out.1
    subst hq
    rw [hm]
    unfold newStructsB
    dsimp only
    rw [← HD.out.1, ← HD.out.2, if_neg hz]
    rfl)
  have hzz : (((d : Int) + t) == 0) = false ∨ ((((d : Int) + t) == 0) = true ∧ N ≤ 0) := by simp only [beq_eq_false_iff_ne, ne_eq, beq_iff_eq]; omega
  clear hz
  rcases hzz with g1 | ⟨g1, hN0⟩
  all_goals
    go_wp2_with fail
    refine (HR.out _ (HS.out.hb.ext x1)).mono ?_
    rintro e w2 ⟨⟨a, r, rfl, hr, hal⟩, hb2⟩
    obtain ⟨x2, rfl⟩ := ext_below ⟨x1, rfl⟩ hb2
    clear hb2
    rcases hr with ⟨rfl, hr⟩ | ⟨rfl, hr⟩
    · have HN2 := HN.out
      rw [hr] at HN2
      dsimp only at HN2
      replace HN2 := hide HN2
      obtain ⟨r1, r2, r3, r4, _⟩ := roomB_lt hr
      have h7 : N ≤ 128 ∧ d ≤ 8 ∧ t ≤ 8 ∧ m = 1 + N * (d + t) := by
        have hm := HQ.out.2
        have hq := HQ.out.1
        subst hq
        rw [hm]
        exact words7 (by omega)
      obtain ⟨w1, w2, w3, w4⟩ := h7
      obtain ⟨P, hP⟩ : ∃ P, P = N * (d + t) := ⟨_, rfl⟩
      have hPI : (N : Int) * ((d : Int) + t) = (P : Int) := by rw [hP]; simp
      have HP := hide hP
      rw [← hP] at w4 HN2
      clear hP
      have hm1 : 1 ≤ m := by omega
      have hPl : P ≤ 255 := by omega
      clear w4
      have hb0 := HS.out.hb
      obtain ⟨ga, ca, hga, hgl, hgp, cA, cAf⟩ := hb0.aAt r1
      have HM := hide (mkList_calls a B.A.length 7 P (by omega) (by omega) (by omega) (by omega))
      have hml := mkList_lt a B.A.length 7 P
      obtain ⟨M, hM⟩ : ∃ M, M = mkList a B.A.length 7 P := ⟨_, rfl⟩
      rw [← hM] at HM hml HN2
      rw [hga] at c0
      have HGA := hide hga
      clear HN hr hb0 hM hv0 hga
      go_wp2_with fail
      refine wp_region_qy W 15 (by kernel_rfl) (by kernel_rfl) ⟨_, rfl⟩ ?_
      simp only [List.take_succ_cons, List.take_zero, List.drop_succ_cons, List.drop_zero]
      repeat (go_big_quiet_step ((go_at_call 85; exact Calls.ext_of_same (HM.out _))))
      refine wpQuiet_nil ?_
      rintro _ ⟨x3, rfl⟩
      go_wp2_with fail
      have HS2 := hide (show St p w h _ _ _ _ ((W.ext x3).setCell ⟨ga, a, none⟩ (.int .u64 (M : Int))) h (Bd.setA B a M) from
        (HS.out.ext (by simp) (by simp) x3).step (by simp) (by simp) ((HS.out.ext (by simp) (by simp) x3).hb.setA HGA.out hml) (HB.put_mv p (i := 0) (by omega) HGA.out))
      have hDlt := HS.out.hb.ok.depth x
      clear HS e0 e1 e2 e3 e4 e5 e6 e7 f0 f1 f2 f3 f4 f5 c0 c0f cA cAf HGA HM HR HW
      refine (grow_calls m HS2.out.hb (by simp [Bd.setA]; omega) (by omega)).mono ?_
      rintro e w4 ⟨rfl, h4, hb4, mv4⟩
      have HS3 := hide (HS2.out.step (by simp) (by simp) hb4 mv4)
      clear hb4 mv4 HS2
      have bx := fun j u hu => HS3.out.r1.at_ (i := j) (v := u) hu
      have e0 := bx 0 _ rfl
      have e1 := bx 1 _ rfl
      have e2 := bx 2 _ rfl
      have e3 := bx 3 _ rfl
      have e4 := bx 4 _ rfl
      have e5 := bx 5 _ rfl
      have e6 := bx 6 _ rfl
      have e7 := bx 7 _ rfl
      have by_ := fun j u hu => HS3.out.r2.at_ (i := j) (v := u) hu
      have f0 := by_ 0 _ rfl
      have f1 := by_ 1 _ rfl
      have f2 := by_ 2 _ rfl
      have f3 := by_ 3 _ rfl
      have f4 := by_ 4 _ rfl
      have f5 := by_ 5 _ rfl
      simp only [Nat.zero_add, Nat.reduceAdd] at e0 e1 e2 e3 e4 e5 e6 e7 f0 f1 f2 f3 f4 f5
      clear bx by_
      obtain ⟨gb, cb, hgb, hgbl, hgbp, cA, cAf⟩ := HS3.out.hb.aAt (j := B.A.length) (by simp [growB, Bd.setA]; omega)
      obtain ⟨c0, _⟩ := HS3.out.hb.cell 0 (by omega)
      simp only [fOff] at c0
      rw [hgb] at c0
      have hAl2 : (growB (Bd.setA B a M) m).A.length = B.A.length + m := by simp [growB, Bd.setA]
      rw [hAl2] at c0
      have HGB := hide hgb
      have HM := hide (mkTag_calls N d t (by omega) (by omega) (by omega))
      have hml2 := mkTag_lt N d t
      obtain ⟨M2, hM2⟩ : ∃ M2, M2 = mkTag N d t := ⟨_, rfl⟩
      rw [← hM2] at HM hml2 HN2
      clear hgb hM2
      go_wp2_with fail
      refine wp_region_qy w4 10 (by kernel_rfl) (by kernel_rfl) (ext_self _) ?_
      simp only [List.take_succ_cons, List.take_zero, List.drop_succ_cons, List.drop_zero]
      repeat (go_big_quiet_step ((go_at_call 64; exact Calls.ext_of_same (HM.out _))))
      refine wpQuiet_nil ?_
      rintro _ ⟨x5, rfl⟩
      go_wp2_with fail
      have HS4 := hide (show St p w h _ _ _ _ ((w4.ext x5).setCell ⟨gb, B.A.length, none⟩ (.int .u64 (M2 : Int))) h4 (Bd.setA (growB (Bd.setA B a M) m) B.A.length M2) from
        (HS3.out.ext (by simp) (by simp) x5).step (by simp) (by simp) ((HS3.out.ext (by simp) (by simp) x5).hb.setA HGB.out hml2) (HB.put_mv p (i := 0) (by omega) HGB.out))
      clear HS3 e0 e1 e2 e3 e4 e5 e6 e7 f0 f1 f2 f3 f4 f5 c0 cA cAf HGB HM
      generalize (w4.ext x5).setCell ⟨gb, B.A.length, none⟩ (.int .u64 (M2 : Int)) = W6 at *
      have bx := fun j u hu => HS4.out.r1.at_ (i := j) (v := u) hu
      have e0 := bx 0 _ rfl
      have e1 := bx 1 _ rfl
      have e2 := bx 2 _ rfl
      have e3 := bx 3 _ rfl
      have e4 := bx 4 _ rfl
      have e5 := bx 5 _ rfl
      have e6 := bx 6 _ rfl
      have e7 := bx 7 _ rfl
      have by_ := fun j u hu => HS4.out.r2.at_ (i := j) (v := u) hu
      have f0 := by_ 0 _ rfl
      have f1 := by_ 1 _ rfl
      have f2 := by_ 2 _ rfl
      have f3 := by_ 3 _ rfl
      have f4 := by_ 4 _ rfl
      have f5 := by_ 5 _ rfl
      simp only [Nat.zero_add, Nat.reduceAdd] at e0 e1 e2 e3 e4 e5 e6 e7 f0 f1 f2 f3 f4 f5
      clear bx by_
      obtain ⟨gd, cd, hgd, hgdl, cD⟩ := HS4.out.hb.dAt (j := x) (by show x < B.depth.length; have := hHl.out.lt; omega)
      obtain ⟨c4, _⟩ := HS4.out.hb.cell 4 (by omega)
      obtain ⟨b1, cp1, c1, _⟩ := HS4.out.hb.lens 1 (by omega)
      simp only [fOff, Nat.reduceAdd] at c4 c1
      rw [hgd] at c4
      have hxd : x < B.depth.length := by have := hHl.out.lt; omega
      change W6.cell? _ = some (.slice _ B.depth.length cd) at c4
      change W6.cell? _ = some (.slice _ B.obj.length cp1) at c1
      change W6.cell? _ = some (.int .u8 (B.depth.getD x 0 : Nat)) at cD
      obtain ⟨D, hD⟩ : ∃ D, D = B.depth.getD x 0 := ⟨_, rfl⟩
      rw [← hD] at cD r4 hDlt HN2
      clear hgd hD
      refine wp_region_qy W6 16 (by kernel_rfl) (by kernel_rfl) (ext_self _) ?_
      simp only [List.take_succ_cons, List.take_zero, List.drop_succ_cons, List.drop_zero]
      repeat (go_big_quiet_step (fail))
      refine wpQuiet_nil ?_
      rintro _ ⟨x6, rfl⟩
      go_wp2_with fail
      have hev := hHl.out.even
      refine (hang_calls ⟨2, B.A.length + 1, d, t, 7, N⟩ ⟨by dsimp only; omega, by dsimp only; omega, by dsimp only; omega, by dsimp only; omega, by dsimp only; omega, by dsimp only; omega⟩ x i (D + 1) o2 o3 (by omega) (HS4.out.hb.ext x6)
        (by show B.obj.length ≤ _; omega) (by show B.up.length ≤ _; have := hev.2.2.1; omega) (by show B.via.length ≤ _; have := hev.2.2.2.1; omega) (by show B.depth.length ≤ _; omega) (by show B.dead.length ≤ _; have := hev.2.2.2.2.2; omega)).mono ?_
      rintro e w7 ⟨rfl, h7, hb7, mv7⟩
      have HS5 := hide ((HS4.out.ext (by simp) (by simp) x6).step (by simp) (by simp) hb7 mv7)
      clear hb7 mv7 HS4 e0 e1 e2 e3 e4 e5 e6 e7 f0 f1 f2 f3 f4 f5 c4 cD c1
      obtain ⟨B1, hB1⟩ : ∃ B1, B1 = hangB (Bd.setA (growB (Bd.setA B a M) m) B.A.length M2) ⟨2, B.A.length + 1, d, t, 7, N⟩ x i (D + 1) := ⟨_, rfl⟩
      have hlens : B1.obj.length = B.obj.length + 1 ∧ B1.up.length = B.up.length + 1 ∧ B1.via.length = B.via.length + 1 ∧ B1.depth.length = B.depth.length + 1 ∧ B1.dead.length = B.dead.length + 1 := by
        rw [hB1]; simp [hangB, Bd.setA, growB]
      have HN3 := hide (show newStructsB B ⟨kind, x, i, 7, Y, N, V, s⟩ = some (elems B.obj.length d t (D + 1) N 0 (B.A.length + 1) B1) from by rw [HN2.out, hB1, HQ.out.1])
      rw [← hB1] at HS5
      have HL := hide (And.intro hlens hev)
      clear HN2 hB1 hlens hev
      go_wp2_with fail
      go_loopw [15] (fun q wr => ∃ k : Nat, k ≤ N ∧ q = .int .u16 k ∧ Hid (∃ h', St p w h w.heap.size [.int .u8 kind, .int .u8 x, .int .u8 i, .int .u8 7, .int .u8 Y, .int .u16 N, .int .u64 V, .string s] (w.heap.size + 1) [.int .u8 2, .int .u16 ((B.A.length : Int) + 1), .int .u8 d, .int .u8 t, .int .u8 7, .int .u16 N] wr h' (elems B.obj.length d t (D + 1) k 0 (B.A.length + 1) B1))) (fun q _ => 65536 - (intOf q).toNat)
      case atStart => exact ⟨0, by omega, rfl, hide ⟨h7, HS5.out⟩⟩
      case round =>
        obtain ⟨k, hk, rfl, H1⟩ := hrel
        obtain ⟨h8, hs8⟩ := H1.out
        have HS6 := hide hs8
        clear H1 hs8
        have bx := fun j u hu => HS6.out.r1.at_ (i := j) (v := u) hu
        have e0 := bx 0 _ rfl
        have e1 := bx 1 _ rfl
        have e2 := bx 2 _ rfl
        have e3 := bx 3 _ rfl
        have e4 := bx 4 _ rfl
        have e5 := bx 5 _ rfl
        have e6 := bx 6 _ rfl
        have e7 := bx 7 _ rfl
        have by_ := fun j u hu => HS6.out.r2.at_ (i := j) (v := u) hu
        have f0 := by_ 0 _ rfl
        have f1 := by_ 1 _ rfl
        have f2 := by_ 2 _ rfl
        have f3 := by_ 3 _ rfl
        have f4 := by_ 4 _ rfl
        have f5 := by_ 5 _ rfl
        simp only [Nat.zero_add, Nat.reduceAdd] at e0 e1 e2 e3 e4 e5 e6 e7 f0 f1 f2 f3 f4 f5
        clear bx by_
        by_cases hkN : k < N
        · try (exfalso; omega)
          all_goals
            obtain ⟨Pk, hPk⟩ : ∃ Pk, Pk = k * (d + t) := ⟨_, rfl⟩
            have hPkI : (k : Int) * ((d : Int) + t) = (Pk : Int) := by rw [hPk]; simp
            have hPkl : Pk ≤ P := by rw [hPk, HP.out]; exact Nat.mul_le_mul_right _ (by omega)
            have HPk := hide hPk
            clear hPk
            go_wp2_with fail
            have hal8 := HS6.out.hb.alloc (.cells #[.int .u8 1, .int .u16 ((B.A.length : Int) + 1 + Pk), .int .u8 d, .int .u8 t, .int .u8 0, .int .u16 0] 62)
            refine (mark_calls (B.A.length + 1 + Pk + d) t (by omega) (by omega) true hal8).mono ?_
            rintro e w9 ⟨rfl, hb9, mv9⟩
            have HS7 := hide ((HS6.out.step (by simp) (by simp) hal8 (Mv.of_below ((Below.refl _ _).alloc (Nat.le_refl _) _))).step (by simp) (by simp) hb9 mv9)
            have hbox := (mv9.step (RowAt.of_alloc wr [.int .u8 1, .int .u16 ((B.A.length : Int) + 1 + Pk), .int .u8 d, .int .u8 t, .int .u8 0, .int .u16 0] 62) (by simp) (HS6.out.hb.not_new (Nat.le_refl _))).1
            have g0 := hbox.at_ (i := 0) rfl
            have g2 := hbox.at_ (i := 1) rfl
            have g3 := hbox.at_ (i := 2) rfl
            have g4 := hbox.at_ (i := 3) rfl
            have g5 := hbox.at_ (i := 4) rfl
            have g6 := hbox.at_ (i := 5) rfl
            simp only [Nat.zero_add, Nat.reduceAdd] at g0 g2 g3 g4 g5 g6
            clear hb9 mv9 hal8 hbox HS6 e0 e1 e2 e3 e4 e5 e6 e7 f0 f1 f2 f3 f4 f5
            go_wp2_with fail
            have hel := elems_len B.obj.length d t (D + 1) k 0 (B.A.length + 1) B1
            obtain ⟨l1, l2, l3, l4, l5⟩ := hel
            obtain ⟨⟨m1, m2, m3, m4, m5⟩, hev⟩ := HL.out
            refine (hang_calls ⟨1, B.A.length + 1 + Pk, d, t, 0, 0⟩ ⟨by dsimp only; omega, by dsimp only; omega, by dsimp only; omega, by dsimp only; omega, by dsimp only; omega, by dsimp only; omega⟩ B.obj.length k (D + 1) (by omega) (by omega) (by omega) HS7.out.hb
              (by show (elems _ _ _ _ _ _ _ _).obj.length ≤ _; omega) (by show (elems _ _ _ _ _ _ _ _).up.length ≤ _; have := hev.2.2.1; omega) (by show (elems _ _ _ _ _ _ _ _).via.length ≤ _; have := hev.2.2.2.1; omega)
              (by show (elems _ _ _ _ _ _ _ _).depth.length ≤ _; omega) (by show (elems _ _ _ _ _ _ _ _).dead.length ≤ _; have := hev.2.2.2.2.2; omega)).mono ?_
            rintro e w10 ⟨rfl, h10, hb10, mv10⟩
            have HF := hide (show ∃ h', St p w h w.heap.size _ (w.heap.size + 1) _ w10 h' (elems B.obj.length d t (D + 1) (k + 1) 0 (B.A.length + 1) B1) from ⟨h10, by
              rw [elems_go, ← HPk.out, Nat.zero_add]
              exact HS7.out.step (by simp) (by simp) hb10 mv10⟩)
            clear hb10 mv10 HS7 l1 l2 l3 l4 l5 m1 m2 m3 m4 m5 hev g0 g2 g3 g4 g5 g6
            go_wp2_with fail
            go_roundw
            case rel => exact ⟨k + 1, by omega, by go_num, HF⟩
            case measure => simp [intOf]; omega
        · have : k = N := by omega
          subst this
          go_wp2_with fail
          go_ret
          rw [HN3.out]
          exact ⟨rfl, h8, HS6.out.hb, HS6.out.mv⟩
    · have HN2 := HN.out
      rw [hr] at HN2
      dsimp only at HN2
      replace HN2 := hide HN2
      clear HN hr
      go_wp2_with fail
      go_ret
      rw [HN2.out]
      exact ⟨rfl, h, (HS.out.ext (by simp) (by simp) _).hb, (HS.out.ext (by simp) (by simp) _).mv⟩
end Go.Proofs.YgcfaaGreat
