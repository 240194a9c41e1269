import Derived.Test.YgcfaaKs
namespace Go.Proofs.Ygcfaa
open Go.RowKit Bits Bd
set_option linter.unusedVariables false
set_option maxRecDepth 100000
set_option linter.unusedSimpArgs false
attribute [local go_sem] World.cell?_ext World.frozen?_ext Kw.cell Kw.frozen

theorem elemsK_succ (m : Ent) (list : Nat) : ∀ (k i : Nat) (l : List Ent), elemsK m list (k + 1) i l = elemsK m list k i l ++ [⟨false, 1, 0, m.data, m.ptrs, 0, m.depth, list, i + k, List.replicate m.ptrs false⟩]
  | 0, i, l => rfl
  | k + 1, i, l => by
    rw [elemsK, elemsK_succ m list k (i + 1), elemsK, show i + 1 + k = i + (k + 1) by omega]
theorem elemsK_len (m : Ent) (list : Nat) : ∀ (k i : Nat) (l : List Ent), (elemsK m list k i l).length = l.length + k
  | 0, i, l => rfl
  | k + 1, i, l => by
    rw [elemsK, elemsK_len m list k]
    simp
    omega

theorem entC_one {e : Ent} {sv : Value} (h : sv.oneCell' = true) : ∀ u ∈ entC e sv, u.oneCell' = true := by
  intro u hu
  simp only [entC, List.mem_cons, List.not_mem_nil, or_false] at hu
  rcases hu with rfl | rfl | rfl | rfl | rfl | rfl | rfl | rfl | rfl | rfl <;> first | rfl | exact h
theorem own_one {w : World} {e : TypeId} {n k : Nat} {v : Value} {xs : List Value} (h : w.ownsRow 0 e k v n xs) : v.oneCell' = true := by
  obtain ⟨a, c, rfl, _⟩ := own_len h
  rfl

/-- The cells of a book that lies in W. -/
theorem HK.cells {W : World} {b : Nat} {r : Value} {s : Nat → Value} {K : Bk} (hb : HK W b r s K) {h : Nat} (hh : h < K.e.length) {g c : Nat} (hr : r = .slice (some ⟨g, 0, none⟩) K.e.length c) :
    W.cell? ⟨g, h * 10 + 6, none⟩ = some (.int .i64 ((K.at_ h).depth : Int)) ∧ W.cell? ⟨b, 0, none⟩ = some (.slice (some ⟨g, 0, none⟩) K.e.length c) ∧ W.cell? ⟨b, 1, none⟩ = some (.int .i64 (K.len : Int)) ∧ W.frozen? ⟨b, 1, none⟩ = false ∧ b < W.heap.size ∧ g < W.heap.size := by
  obtain ⟨g', c', hr', hg, hgb, hcs⟩ := hb.entAt hh
  rw [hr] at hr'
  simp only [Value.slice.injEq, Option.some.injEq, Addr.mk.injEq, and_true, true_and] at hr'
  obtain ⟨rfl, rfl⟩ := hr'
  obtain ⟨l0, _, l1, l2⟩ := hb.lenAt
  exact ⟨(hcs 6 _ rfl).1, by rw [← hr]; exact l0, l1, l2, hb.lt ⟨0, rfl⟩, hg⟩

set_option maxHeartbeats 16000000 in
theorem make_yes (op : Opn) (hop : op.Ok) (made : Ent) (sv : Value) (words elements : Nat) (hw : words ≤ 10000000) (hel : elements ≤ 65535) (hp8 : made.ptrs ≤ 255) {w : World} {b : Nat} {r : Value} {s : Nat → Value} {K K' : Bk} (hb : HK w b r s K) (hlt : op.h < K.e.length) (hn : K.e.length ≤ 256) (hL : (K.at_ op.h).set.length ≤ 256) (hD : (K.at_ op.h).depth ≤ 100) (hlen : K.len ≤ 256)
    (hsv : w.ownsRow 0 4 1 sv made.set.length (rowB made.set)) (hnew : ∀ j, sv.ownBlock = some j → ¬ blkK b r s K.e.length j)
    (hyes : makeK K op made words elements = some K') :
    Calls Faag.prog 81 #[.pointer (some ⟨b, 0, none⟩), .agg (opC op).toArray, .agg (entC made sv).toArray, .int .i64 (words : Int), .int .i64 (elements : Int)] w fun e w' => e = .returned (.bool true) ∧ ∃ r' s', HK w' b r' s' K' ∧ MvX (fun k => blkK b r s K.e.length k ∨ sv.ownBlock = some k) b r' s' K'.e.length w w' := by
  obtain ⟨h1, h2, h3, h4, h5, hK'⟩ : op.i < (K.at_ op.h).set.length ∧ (K.at_ op.h).set.getD op.i false = false ∧ (K.at_ op.h).depth + 1 ≤ 8 ∧ K.len + words ≤ 256 ∧ K.e.length + 1 + elements ≤ 256 ∧
      K' = ⟨elemsK { made with depth := (K.at_ op.h).depth + 1, up := op.h, via := op.i } K.e.length elements 0 ((K.putSet op.h ((K.at_ op.h).set.set op.i true)).e ++ [{ made with depth := (K.at_ op.h).depth + 1, up := op.h, via := op.i }]), K.len + words⟩ := by
    unfold makeK at hyes
    split at hyes
    · rename_i h
      cases hyes
      exact ⟨h.1, h.2.1, h.2.2.1, h.2.2.2.1, h.2.2.2.2, rfl⟩
    · cases hyes
  clear hyes
  obtain ⟨g, c, hr, hg, hgb, hcs⟩ := hb.entAt hlt
  obtain ⟨a, c2, hs, hset⟩ := hb.setAt hlt
  obtain ⟨gs, rfl, hgs, hgsb, hgsr, bit⟩ := hset (by omega)
  have c6 := (hcs 6 _ rfl).1
  have c9 := (hcs 9 _ rfl).1
  obtain ⟨l0, _, l1, _⟩ := hb.lenAt
  have hbl : b < w.heap.size := hb.lt ⟨0, rfl⟩
  have hbl1 : b < w.heap.size + 1 := by omega
  have hg1 : g < w.heap.size + 1 := by omega
  have hgs1 : gs < w.heap.size + 1 := by omega
  obtain ⟨b1, b2⟩ := bit op.i h1
  rw [h2] at b1
  rw [hs] at c9
  subst hr
  have HN := hide (fun (W : World) (hW : Below w.heap.size w W) => named_calls op hop (hb.below hW) hlt hn rfl hL)
  have HST := hide (fun (x : World) => show KS (blkK b (.slice (some ⟨g, 0, none⟩) K.e.length c) s K.e.length) w b w.heap.size (w.heap.size + 1) (opC op) (entC made sv) ((((w.alloc (.cells (opC op).toArray 46)).alloc (.cells (entC made sv).toArray 70)).ext x).setCell ⟨gs, op.i, none⟩ (.bool true)) (.slice (some ⟨g, 0, none⟩) K.e.length c) s (K.putSet op.h ((K.at_ op.h).set.set op.i true)) ∧ _ from by
    have st := (KS.two hb (opC op) 46 (entC made sv) 70 (by simp [opC]) (by simp [entC])).ext x
    have h := st.hk.setBit (i := op.i) hlt hs true
    have st2 := st.stepK ⟨h.1, by rw [putSet_len]; exact h.2⟩
    refine ⟨st2, ?_⟩
    have h6 := st2.hk.cells (h := op.h) (by rw [putSet_len]; exact hlt) (by rw [putSet_len])
    rw [putSet_len, putSet_at K hlt, if_pos rfl] at h6
    exact h6)
  have HK' := hide hK'
  have HSV := hide (And.intro hsv hnew)
  have HR := hide (show gs ≠ g ∧ g ≠ b from ⟨fun e => hgsr (by rw [e]; rfl), hgb⟩)
  have dL : decide (op.i < (K.at_ op.h).set.length) = true := by simpa using h1
  have e3 : decide ((8 : Int) < ((K.at_ op.h).depth : Int) + 1) = false := by rw [decide_eq_false_iff_not]; omega
  have e4 : decide ((256 : Int) < (K.len : Int) + (words : Int)) = false := by rw [decide_eq_false_iff_not]; omega
  have e5 : decide ((256 : Int) < (K.e.length : Int) + 1 + (elements : Int)) = false := by rw [decide_eq_false_iff_not]; omega
  have HKL := hide (show (K.putSet op.h ((K.at_ op.h).set.set op.i true)).e.length = K.e.length from putSet_len _ _ _)
  generalize hKB : K.putSet op.h ((K.at_ op.h).set.set op.i true) = KB at *
  have HKD := hide (show KB.len = K.len from by rw [← hKB]; rfl)
  clear hKB
  generalize hLL : (K.at_ op.h).set.length = L at *
  generalize hnn : K.e.length = n at *
  generalize hDD : (K.at_ op.h).depth = D at *
  generalize hll : K.len = ln at *
  clear hLL hnn hDD hll hcs hs hb bit hset hK' hsv hnew hgsr
  obtain ⟨kind, x, i, X, Y, N, V, st⟩ := op
  obtain ⟨o1, o2, o3, o4, o5, o6, o7⟩ := hop
  obtain ⟨mdead, mkind, mcode, mdata, mptrs, mcount, mdepth, mup, mvia, mset⟩ := made
  unfold opC at HN HST ⊢
  unfold entC at HST ⊢
  dsimp only at *
  go_enter Faag.func81, Faag.ntmps81
  go_wp2_with fail
  refine (HN.out _ (((Below.refl _ w).alloc (Nat.le_refl _) _).alloc (by simp) _)).mono ?_
  rintro e w1 ⟨rfl, bl1⟩
  obtain ⟨x1, rfl⟩ := World.ext_of_below bl1
  rw [dL]
  clear bl1 HN
  go_wp2_with fail
  refine wp_region_qy _ 37 (by kernel_rfl) (by kernel_rfl) ⟨x1, rfl⟩ ?_
  simp only [List.take_succ_cons, List.take_zero, List.drop_succ_cons, List.drop_zero]
  repeat (go_big_quiet_step (fail))
  refine wpQuiet_nil ?_
  rintro _ ⟨x2, rfl⟩
  go_wp2_with fail
  refine wp_region_qy _ 6 (by kernel_rfl) (by kernel_rfl) ⟨x2, rfl⟩ ?_
  simp only [List.take_succ_cons, List.take_zero, List.drop_succ_cons, List.drop_zero]
  repeat (go_big_quiet_step (fail))
  refine wpQuiet_nil ?_
  rintro _ ⟨x3, rfl⟩
  go_wp2_with fail
  obtain ⟨ST1, q6, q0, q1, q2, qb, qg⟩ := HST.out x3
  have H1 := hide ST1
  clear ST1 HST c6 c9 l0 l1 b1 b2 x1 x2 hbl hg hgs hbl1 hg1 hgs1
  generalize hW4 : World.setCell _ _ (Value.bool true) = w4 at H1 q6 q0 q1 q2 qb qg ⊢
  clear hW4
  rw [HKD.out] at q1
  have hbm : ¬ b = w.heap.size + 1 := fun e => H1.out.nm ⟨0, by rw [e]; rfl⟩
  have hgm : ¬ g = w.heap.size + 1 := fun e => H1.out.nm ⟨1, by rw [← e]; rfl⟩
  generalize w.heap.size + 1 = mb at H1 hbm hgm ⊢
  generalize w.heap.size = ob at H1 ⊢
  have hom : ¬ ob = mb := H1.out.om
  have d1 := H1.out.ro.at_ (i := 1) rfl
  have d2 := H1.out.ro.at_ (i := 2) rfl
  have m6 := H1.out.rm.at_ (i := 6) rfl
  have m7 := H1.out.rm.at_ (i := 7) rfl
  have m8 := H1.out.rm.at_ (i := 8) rfl
  have f6 := H1.out.rm.live 6 (by simp)
  have f7 := H1.out.rm.live 7 (by simp)
  have f8 := H1.out.rm.live 8 (by simp)
  simp only [Nat.zero_add] at d1 d2 m6 m7 m8 f6 f7 f8
  have hne : ∀ w0 : World, Nonempty (Kw (fun k => k = mb) w0) := fun w0 => ⟨⟨w0, Keeps.refl _ _⟩⟩
  go_wp2_with fail
  refine wp_region_ql (fun w' => ∃ x : Kw (fun k => k = mb) w4, w' = x.to) 15 [0, 1, 2, 3, 4, 5, 6, 7, 8, 9, 10, 11] [12, 13, 14] (by kernel_rfl) (by kernel_rfl) ?_ ⟨⟨_, (Keeps.refl _ _).drew⟩, rfl⟩ ?_
  · intro d v c a w hx
    cases d <;> exact hx
  simp only [pickOps, List.getElem?_cons_zero, List.getElem?_cons_succ, Option.toList_some, List.cons_append, List.nil_append, List.drop_succ_cons, List.drop_zero]
  repeat (go_big_quiet_step (fail))
  refine wpQuiet_nil ?_
  refine wpLd_cons ?_
  go_wp2_with fail
  refine ⟨⟨⟨_, ((Keeps.refl (fun k => k = mb) w4).setCell (p := ⟨mb, 6, none⟩) (fun _ => rfl) _).drew⟩, rfl⟩, ?_⟩
  refine wpLd_cons ?_
  go_wp2_with fail
  refine ⟨⟨⟨_, ((Keeps.refl (fun k => k = mb) w4).setCell (p := ⟨mb, 6, none⟩) (fun _ => rfl) _).drew⟩, rfl⟩, ?_⟩
  refine wpLd_cons ?_
  go_wp2_with fail
  refine ⟨⟨⟨_, (((Keeps.refl (fun k => k = mb) w4).setCell (p := ⟨mb, 6, none⟩) (fun _ => rfl) _).setCell (p := ⟨mb, 7, none⟩) (fun _ => rfl) _).drew⟩, rfl⟩, ?_⟩
  unfold wpLd
  go_wp2_with fail
  have ST2 := ((H1.out.putm (i := 6) (by simp) (.int .i64 ((D : Int) + 1))).putm (i := 7) (by simp) (.int .i64 (x : Int))).putm (i := 8) (by simp) (.int .i64 (i : Int))
  have ST3 := (ST2.stepK (ST2.hk.setLen (ln + words))).drew
  simp only [List.set_cons_succ, List.set_cons_zero, Int.natCast_add] at ST3
  clear ST2 H1 q6 q0 q1 q2 qb qg d1 d2 m6 m7 m8 f6 f7 f8 hne
  have H3 := hide ST3
  clear ST3
  generalize hW5 : World.drew _ = w5 at H3 ⊢
  clear hW5
  obtain ⟨l0, l1, _, _⟩ := H3.out.hk.lenAt
  have hbl : b < w5.heap.size := H3.out.hk.lt ⟨0, rfl⟩
  have hml : mb < w5.heap.size := H3.out.ltm
  have m0 := H3.out.rm.at_ (i := 0) rfl
  have m1 := H3.out.rm.at_ (i := 1) rfl
  have m2 := H3.out.rm.at_ (i := 2) rfl
  have m3 := H3.out.rm.at_ (i := 3) rfl
  have m4 := H3.out.rm.at_ (i := 4) rfl
  have m5 := H3.out.rm.at_ (i := 5) rfl
  have m6 := H3.out.rm.at_ (i := 6) rfl
  have m7 := H3.out.rm.at_ (i := 7) rfl
  have m8 := H3.out.rm.at_ (i := 8) rfl
  have m9 := H3.out.rm.at_ (i := 9) rfl
  simp only [Nat.zero_add] at m0 m1 m2 m3 m4 m5 m6 m7 m8 m9
  have n1 : ¬ some b = (Value.slice (some ⟨g, 0, none⟩) n c).ownBlock := fun e => HR.out.2 (by simpa [Value.ownBlock] using e.symm)
  have n2 : ¬ some mb = (Value.slice (some ⟨g, 0, none⟩) n c).ownBlock := fun e => hgm (by simpa [Value.ownBlock] using e.symm)
  have hne : ∀ w0 : World, Nonempty (Kw (fun k => some k = (Value.slice (some ⟨g, 0, none⟩) n c).ownBlock) w0) := fun w0 => ⟨⟨w0, Keeps.refl _ _⟩⟩
  refine wp_region_ql (fun w' => ∃ x : Kw (fun k => some k = (Value.slice (some ⟨g, 0, none⟩) n c).ownBlock) w5, w' = x.to) 8 [0, 1, 2, 3, 4, 5] [6, 7] (by kernel_rfl) (by kernel_rfl) ?_ ⟨⟨_, (Keeps.refl _ _).drew⟩, rfl⟩ ?_
  · intro d v c a w hx
    cases d <;> exact hx
  simp only [pickOps, List.getElem?_cons_zero, List.getElem?_cons_succ, Option.toList_some, List.cons_append, List.nil_append, List.drop_succ_cons, List.drop_zero]
  repeat (go_big_quiet_step (fail))
  refine wpQuiet_nil ?_
  refine wpLd_cons ?_
  go_wp2_with fail
  refine ⟨⟨⟨_, ((Keeps.refl _ _).drew).alloc _⟩, rfl⟩, ?_⟩
  refine wpLd_one rfl ?_
  have ST6 := H3.out.below (W' := (w5.alloc (.cells (entC ⟨mdead, mkind, mcode, mdata, mptrs, mcount, D + 1, x, i, mset⟩ sv).toArray 70)).drew) (((Below.refl _ w5).alloc (Nat.le_refl _) _).drew)
  have hsv6 := own_keeps HSV.out.1 ST6.mv.keeps (fun j hj => HSV.out.2 j hj)
  refine wp_appK _ _ rfl (.slice (some ⟨g, 0, none⟩) n c) _ _ rfl ST6.hk.own w5.heap.size 1 (entC ⟨mdead, mkind, mcode, mdata, mptrs, mcount, D + 1, x, i, mset⟩ sv) rfl rfl ?c1 (entC_one (own_one hsv6)) ?c4 ?_
  case c1 =>
    intro j u hj
    have := (RowAt.of_alloc w5 (entC ⟨mdead, mkind, mcode, mdata, mptrs, mcount, D + 1, x, i, mset⟩ sv) 70).at_ hj
    rw [Nat.zero_add] at this
    exact this
  case c4 => have := HKL.out; dsimp only; omega
  intro v' w7 ho hk hbk
  refine ⟨⟨⟨w7, ?_⟩, rfl⟩, ?_⟩
  · exact Keeps.trans (((Keeps.refl _ _).alloc _).drew) hk
  obtain ⟨g7, c7, rfl⟩ := own_form ho (by omega)
  have hrow := ST6.hk.row.keeps hk (fun _ e => n1 e)
  have k0 := hrow.at_ (i := 0) rfl
  have k1 := hrow.live 0 (by simp)
  simp only [Nat.zero_add] at k0 k1
  have hnew6 : ∀ j, sv.ownBlock = some j → ¬ blkK b (.slice (some ⟨g, 0, none⟩) n c) s KB.e.length j := fun j hj => by rw [HKL.out]; exact HSV.out.2 j hj
  have HF := ST6.hk.push (e := ⟨mdead, mkind, mcode, mdata, mptrs, mcount, D + 1, x, i, mset⟩) hk ho hbk hsv6 hnew6
  have svlt : ∀ j, sv.ownBlock = some j → j < w.heap.size := fun j hj => (HSV.out.1.lt j hj).2
  have ST7 := (ST6.weaken (Y := fun k => blkK b (.slice (some ⟨g, 0, none⟩) n c) s n k ∨ sv.ownBlock = some k) (fun k h => .inl h)).push rfl HF.1 HF.2 (fun k h => .inl (.inr h)) (fun e => by have := svlt _ e; have := ST6.lo; omega) (fun e => by have := svlt _ e; have := ST6.lm; omega)
  have H7 := hide (show ∃ r' s', KS (fun k => blkK b (.slice (some ⟨g, 0, none⟩) n c) s n k ∨ sv.ownBlock = some k) w b ob mb _ _ (w7.setCell ⟨b, 0, none⟩ (.slice (some ⟨g7, 0, none⟩) (KB.e.length + 1) c7)) r' s' ⟨elemsK ⟨mdead, mkind, mcode, mdata, mptrs, mcount, D + 1, x, i, mset⟩ n 0 0 (KB.e ++ [⟨mdead, mkind, mcode, mdata, mptrs, mcount, D + 1, x, i, mset⟩]), ln + words⟩ from ⟨_, _, ST7⟩)
  clear ST7 HF ST6 hk ho hbk hsv6 hnew6 hrow l0 l1 hbl hml m0 m1 m2 m3 m4 m5 m6 m7 m8 m9 n1 n2 hne H3 HSV svlt
  unfold wpLd
  go_wp2_with fail
  generalize hW8 : World.setCell w7 _ _ = w8 at H7 ⊢
  clear hW8 k0 k1
  have hkl := HKL.out
  have hq1 : (KB.e ++ [(⟨mdead, mkind, mcode, mdata, mptrs, mcount, D + 1, x, i, mset⟩ : Ent)]).length = n + 1 := by simp [hkl]
  clear hkl
  have HQ1 := hide hq1
  clear hq1
  generalize KB.e ++ [(⟨mdead, mkind, mcode, mdata, mptrs, mcount, D + 1, x, i, mset⟩ : Ent)] = E0 at H7 HQ1 HK'
  obtain ⟨XX, hXX⟩ : ∃ XX, XX = (fun k => blkK b (.slice (some ⟨g, 0, none⟩) n c) s n k ∨ sv.ownBlock = some k) := ⟨_, rfl⟩
  rw [← hXX] at H7
  have HXX := hide hXX
  clear hXX
  go_loopw [14] (fun q wr => ∃ j : Nat, j ≤ elements ∧ q = .int .i64 j ∧ Hid (∃ r' s', KS XX w b ob mb _ _ wr r' s' ⟨elemsK ⟨mdead, mkind, mcode, mdata, mptrs, mcount, D + 1, x, i, mset⟩ n j 0 E0, ln + words⟩)) (fun q _ => elements - (intOf q).toNat)
  case atStart => exact ⟨0, by omega, rfl, H7⟩
  case round =>
    obtain ⟨j, hj, rfl, HJ⟩ := hrel
    by_cases hlt2 : j < elements
    · obtain ⟨r', s', stj⟩ := HJ.out
      have hej : (elemsK ⟨mdead, mkind, mcode, mdata, mptrs, mcount, D + 1, x, i, mset⟩ n j 0 E0).length = n + 1 + j := by rw [elemsK_len, HQ1.out]
      obtain ⟨gj, cj, hrj⟩ := own_form stj.hk.own (by dsimp only; omega)
      dsimp only at hrj
      rw [hej] at hrj
      subst hrj
      have HSJ := hide stj
      obtain ⟨l0, l1, _, _⟩ := stj.hk.lenAt
      have hbl : b < wr.heap.size := stj.hk.lt ⟨0, rfl⟩
      have hml : mb < wr.heap.size := stj.ltm
      have hgjb : gj ≠ b := fun e => by have := stj.hk.apart 1 0 b (by rw [e]; rfl) rfl; omega
      have hgjm : gj ≠ mb := fun e => stj.nm ⟨1, by rw [e]; rfl⟩
      have m3 := stj.rm.at_ (i := 3) rfl
      have m4 := stj.rm.at_ (i := 4) rfl
      have m6 := stj.rm.at_ (i := 6) rfl
      simp only [Nat.zero_add] at m3 m4 m6
      have n1 : ¬ some b = (Value.slice (some ⟨gj, 0, none⟩) (n + 1 + j) cj).ownBlock := fun e => hgjb (by simpa [Value.ownBlock] using e.symm)
      have n2 : ¬ some mb = (Value.slice (some ⟨gj, 0, none⟩) (n + 1 + j) cj).ownBlock := fun e => hgjm (by simpa [Value.ownBlock] using e.symm)
      have hne : ∀ w0 : World, Nonempty (Kw (fun k => some k = (Value.slice (some ⟨gj, 0, none⟩) (n + 1 + j) cj).ownBlock) w0) := fun w0 => ⟨⟨w0, Keeps.refl _ _⟩⟩
      clear stj HJ
      go_wp2_with fail
      refine wp_region_ql (fun w' => ∃ x : Kw (fun k => some k = (Value.slice (some ⟨gj, 0, none⟩) (n + 1 + j) cj).ownBlock) wr, w' = x.to) 19 [0, 1, 2, 3, 4, 5, 6, 7, 8, 9, 10, 11, 12, 13, 14] [15, 16, 17, 18] (by kernel_rfl) (by kernel_rfl) ?_ ⟨⟨_, (Keeps.refl _ _).drew⟩, rfl⟩ ?_
      · intro d v c a w hx
        cases d <;> exact hx
      simp only [pickOps, List.getElem?_cons_zero, List.getElem?_cons_succ, Option.toList_some, List.cons_append, List.nil_append, List.drop_succ_cons, List.drop_zero]
      repeat (go_big_quiet_step (fail))
      refine wpQuiet_nil ?_
      refine wpLd_cons ?_
      obtain ⟨wb, hmk, hownb, hkb⟩ := mk_bools wr.drew mptrs (by omega)
      have HKB := hide (And.intro hownb hkb)
      clear hownb hkb
      go_wp2_with fail
      have hkw : Keeps (fun _ => False) wr wb := ((Keeps.refl _ _).drew).trans HKB.out.2
      refine ⟨⟨⟨wb, hkw.mono (fun _ _ h => h.elim)⟩, rfl⟩, ?_⟩
      have HKW := hide hkw
      clear hkw hmk
      refine wpLd_cons ?_
      go_wp2_with fail
      refine ⟨⟨⟨wb, HKW.out.mono (fun _ _ h => h.elim)⟩, rfl⟩, ?_⟩
      refine wpLd_cons ?_
      go_wp2_with fail
      refine ⟨⟨⟨_, (HKW.out.mono (fun _ _ h => h.elim)).alloc _⟩, rfl⟩, ?_⟩
      refine wpLd_one rfl ?_
      have blw : Below wr.heap.size wr wb := HKW.out.below (Nat.le_refl _) (fun _ _ => id)
      have hszw := HKW.out.size
      have ST9 := HSJ.out.below (W' := wb.alloc (.cells (entC ⟨false, 1, 0, mdata, mptrs, 0, D + 1, n, j, List.replicate mptrs false⟩ (.slice (some ⟨wr.drew.heap.size, 0, none⟩) mptrs mptrs)).toArray 70)) (blw.alloc hszw _)
      have hsv9 := own_keeps HKB.out.1 ((Keeps.refl (fun _ => False) wb).alloc (.cells (entC ⟨false, 1, 0, mdata, mptrs, 0, D + 1, n, j, List.replicate mptrs false⟩ (.slice (some ⟨wr.drew.heap.size, 0, none⟩) mptrs mptrs)).toArray 70)) (fun _ _ => id)
      have own9 := ST9.hk.own
      rw [show (⟨elemsK ⟨mdead, mkind, mcode, mdata, mptrs, mcount, D + 1, x, i, mset⟩ n j 0 E0, ln + words⟩ : Bk).e.length = n + 1 + j from hej] at own9
      refine wp_appK _ _ rfl (.slice (some ⟨gj, 0, none⟩) (n + 1 + j) cj) _ _ rfl own9 wb.heap.size 1 (entC ⟨false, 1, 0, mdata, mptrs, 0, D + 1, n, j, List.replicate mptrs false⟩ (.slice (some ⟨wr.drew.heap.size, 0, none⟩) mptrs mptrs)) rfl rfl ?c1 (entC_one rfl) ?c4 ?_
      case c1 =>
        intro j' u hj'
        have := (RowAt.of_alloc wb (entC ⟨false, 1, 0, mdata, mptrs, 0, D + 1, n, j, List.replicate mptrs false⟩ (.slice (some ⟨wr.drew.heap.size, 0, none⟩) mptrs mptrs)) 70).at_ hj'
        rw [Nat.zero_add] at this
        exact this
      case c4 => omega
      intro v' w7' ho hk hbk
      refine ⟨⟨⟨w7', ?_⟩, rfl⟩, ?_⟩
      · exact Keeps.trans ((HKW.out.mono (fun _ _ h => h.elim)).alloc _) hk
      obtain ⟨g7', c7', rfl⟩ := own_form ho (by omega)
      have hrow := ST9.hk.row.keeps hk (fun _ e => n1 e)
      have k0 := hrow.at_ (i := 0) rfl
      have k1 := hrow.live 0 (by simp)
      simp only [Nat.zero_add] at k0 k1
      have hlt9 : ∀ k, blkK b (.slice (some ⟨gj, 0, none⟩) (n + 1 + j) cj) s' (⟨elemsK ⟨mdead, mkind, mcode, mdata, mptrs, mcount, D + 1, x, i, mset⟩ n j 0 E0, ln + words⟩ : Bk).e.length k → k < wr.heap.size := fun k h => HSJ.out.hk.lt h
      have HF := ST9.hk.push (e := ⟨false, 1, 0, mdata, mptrs, 0, D + 1, n, j, List.replicate mptrs false⟩) (sv := .slice (some ⟨wr.drew.heap.size, 0, none⟩) mptrs mptrs) hk (by rw [show (⟨elemsK ⟨mdead, mkind, mcode, mdata, mptrs, mcount, D + 1, x, i, mset⟩ n j 0 E0, ln + words⟩ : Bk).e.length = n + 1 + j from hej]; exact ho) hbk (by simpa using hsv9) (fun k h hb => by
        have := hlt9 k hb
        have e : wr.heap.size = k := by simpa [Value.ownBlock] using h
        omega)
      have hle : w.heap.size ≤ wr.heap.size := HSJ.out.mv.keeps.size
      have hlo := HSJ.out.lto
      have hlm := HSJ.out.ltm
      have eo : ∀ k, (Value.slice (some ⟨wr.drew.heap.size, 0, none⟩) mptrs mptrs).ownBlock = some k → wr.heap.size = k := fun k h => by simpa [Value.ownBlock] using h
      have ST10 := ST9.push rfl HF.1 HF.2 (fun k h => .inr (by rw [← eo k h]; exact hle)) (fun h => by have := eo _ h; omega) (fun h => by have := eo _ h; omega)
      have HNX := hide (show ∃ r' s', KS XX w b ob mb _ _ (w7'.setCell ⟨b, 0, none⟩ (.slice (some ⟨g7', 0, none⟩) (n + 1 + j + 1) c7')) r' s' ⟨elemsK ⟨mdead, mkind, mcode, mdata, mptrs, mcount, D + 1, x, i, mset⟩ n (j + 1) 0 E0, ln + words⟩ from ⟨_, _, by rw [elemsK_succ, Nat.zero_add]; exact ST10⟩)
      clear ST10 HF ST9 hk ho hbk hsv9 own9 hrow l0 l1 hbl hml m3 m4 m6 n1 n2 hne HSJ HKB HKW hlt9 blw hszw hle hlo hlm hej eo
      unfold wpLd
      go_wp2_with fail
      go_roundw
      case rel => exact ⟨j + 1, by omega, by go_num, HNX⟩
      case measure => simp [intOf]; omega
    · go_wp2_with fail
      go_ret
      obtain ⟨r', s', st⟩ := HJ.out
      have : j = elements := by omega
      subst this
      refine ⟨rfl, r', s', ?_, ?_⟩
      · rw [HK'.out]; exact st.hk
      · have h9 := st.mv
        rw [HXX.out] at h9
        rw [HK'.out]
        exact h9
end Go.Proofs.Ygcfaa
