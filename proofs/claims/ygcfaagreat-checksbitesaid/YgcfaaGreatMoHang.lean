import Derived.Test.YgcfaaGreatMoPush2
namespace Go.Proofs.YgcfaaGreat
open Go.RowKit Bits Bd
set_option linter.unusedVariables false
set_option maxRecDepth 100000
set_option linter.unusedSimpArgs false
attribute [local go_sem] World.cell?_ext World.frozen?_ext Kw.cell Kw.frozen

theorem nor2 {a b : Prop} (h : ¬ (a ∨ b)) : ¬ a ∧ ¬ b := ⟨fun x => h (.inl x), fun x => h (.inr x)⟩
theorem nor3 {a b c : Prop} (h : ¬ (a ∨ b ∨ c)) : ¬ a ∧ ¬ b ∧ ¬ c := ⟨fun x => h (.inl x), fun x => h (.inr (.inl x)), fun x => h (.inr (.inr x))⟩
theorem hPush_one (h : Nat → Value) (n : Nat) (v0 dv kv : Value) : hPush h n v0 dv kv 1 = h 1 := by
  unfold hPush
  rw [if_neg (by omega), if_neg (by omega), if_neg (by omega)]

theorem kbel {w w' : World} {X : Nat → Prop} (b : Below w.heap.size w w') (hX : ∀ k, w.heap.size ≤ k → X k) : Keeps X w w' := (Keeps.of_below b).mono (fun k _ e => hX k e)

set_option maxHeartbeats 16000000 in
theorem mhang_calls {wb w : World} {p nb : Nat} {hb h : Nat → Value} {M : Mo} (s : MS wb p hb nb w h M) (v : InvM M) (op : Opn) (hop : op.Ok) (q : Ptr) (hq : q.Ok) (nd : Nd) (dv kv : Value)
    (hd : w.ownsRow 0 31 1 dv nd.data.length (cellsK .u64 nd.data)) (hk : w.ownsRow 0 40 1 kv nd.kids.length (kidsC nd.kids))
    (fd : ∀ j, dv.ownBlock = some j → wb.heap.size ≤ j ∧ ¬ mblk p h M.N.length j) (fk : ∀ j, kv.ownBlock = some j → wb.heap.size ≤ j ∧ ¬ mblk p h M.N.length j) (fdk : ∀ j, dv.ownBlock = some j → ¬ kv.ownBlock = some j) (hok : nd.Ok)
    (hH : op.h < M.H.length) (hpl : M.plc op.h op.i) (hdp : (M.hd op.h).depth < 8) :
    Calls Faag.prog 47 #[.pointer (some ⟨p, 0, none⟩), .agg (opC op).toArray, .agg (ptrC q).toArray, .agg #[.int .u8 (nd.kind : Int), .int .u8 (nd.code : Int), dv, kv]] w fun e w' => e = .returned (.bool true) ∧ ∃ h', MS wb p hb nb w' h' (M.hang op.h op.i nd (words q)) := by
  obtain ⟨kind, x, i, X, Y, N, V, st⟩ := op
  obtain ⟨o1, o2, o3, o4, o5, o6, o7⟩ := hop
  dsimp only at o1 o2 o3 o4 o5 o6 o7 hH hpl hdp ⊢
  have HWc := hide (fun w => words_calls q hq w)
  obtain ⟨wd, hwd⟩ : ∃ wd, wd = words q := ⟨_, rfl⟩
  rw [← hwd] at HWc ⊢
  have hwl : wd < 65536 := by rw [hwd]; have := words_le q; omega
  clear hwd hq
  obtain ⟨qk, qa, qd, qp, qc, qn⟩ := q
  obtain ⟨kd, cd, data, kids⟩ := nd
  dsimp only at hd hk hok ⊢
  unfold opC
  unfold ptrC at HWc ⊢
  dsimp only at HWc ⊢
  obtain ⟨da, dc, hdv, _⟩ := own_len hd
  obtain ⟨ka, kc, hkv, _⟩ := own_len hk
  obtain ⟨dl, hdl⟩ : ∃ dl, dl = data.length := ⟨_, rfl⟩
  obtain ⟨kl, hkl⟩ : ∃ kl, kl = kids.length := ⟨_, rfl⟩
  rw [← hdl] at hdv
  rw [← hkl] at hkv
  have hn2 := v.n2
  obtain ⟨na, nc, hna⟩ := s.hm.n0
  obtain ⟨n, hn⟩ : ∃ n, n = M.N.length := ⟨_, rfl⟩
  have f0 := s.hm.f0.1
  rw [hna] at f0
  rw [← hn] at f0 hn2 hna
  have hpb : p < w.heap.size := s.hm.lt
  have hpb1 : p < w.heap.size + 1 := by omega
  have hpb2 : p < w.heap.size + 1 + 1 := by omega
  have hpb3 : p < w.heap.size + 2 := by omega
  have HS := hide s
  have HV := hide v
  have HD := hide hd
  have HK0 := hide hk
  have HFD := hide fd
  have HFK := hide fk
  have HFDK := hide fdk
  have HOK := hide hok
  have HNA := hide hna
  have HN := hide hn
  have HDV := hide hdv
  have HKV := hide hkv
  have HPL := hide hpl
  have nm : ∀ j, w.heap.size ≤ j → ¬ mblk p h M.N.length j := fun j hj q => by have := s.hm.blk_lt q; omega
  have HNM := hide nm
  clear s v hd hk fd fk fdk hok hna hdl hkl hn hpl nm
  rw [hdv, hkv]
  clear hdv hkv
  go_enter Faag.func47, Faag.ntmps47
  go_wp2_with fail
  obtain ⟨W, hW⟩ : ∃ W, W = ((w.alloc (.cells #[.int .u8 kind, .int .u8 x, .int .u8 i, .int .u8 X, .int .u8 Y, .int .u16 N, .int .u64 V, .string st] 55)).alloc (.cells #[.int .u8 qk, .int .u16 qa, .int .u8 qd, .int .u8 qp, .int .u8 qc, .int .u16 qn] 62)).alloc (.cells #[.int .u8 kd, .int .u8 cd, .slice da dl dc, .slice ka kl kc] 76) := ⟨_, rfl⟩
  rw [← hW]
  obtain ⟨W2, hW2⟩ : ∃ W, W = (w.alloc (.cells #[.int .u8 kind, .int .u8 x, .int .u8 i, .int .u8 X, .int .u8 Y, .int .u16 N, .int .u64 V, .string st] 55)).alloc (.cells #[.int .u8 qk, .int .u16 qa, .int .u8 qd, .int .u8 qp, .int .u8 qc, .int .u16 qn] 62) := ⟨_, rfl⟩
  rw [← hW2] at hW
  have hs2 : W2.heap.size = w.heap.size + 2 := by rw [hW2, World.size_alloc, World.size_alloc]
  have hb2 : Below w.heap.size w W2 := by rw [hW2]; exact (Below.alloc (Below.alloc (Below.refl _ _) (Nat.le_refl _) _) (by rw [World.size_alloc]; omega) _)
  have hb3 : Below W2.heap.size W2 W := by rw [hW]; exact (Below.refl _ _).alloc (Nat.le_refl _) _
  have r5 : RowAt W w.heap.size 0 [.int .u8 kind, .int .u8 x, .int .u8 i, .int .u8 X, .int .u8 Y, .int .u16 N, .int .u64 V, .string st] := by
    refine row_below ?_ hb3
    rw [hW2]; exact row_below (RowAt.of_alloc w _ 55) ((Below.refl _ _).alloc (Nat.le_refl _) _)
  have r6 : RowAt W (w.heap.size + 1) 0 [.int .u8 qk, .int .u16 qa, .int .u8 qd, .int .u8 qp, .int .u8 qc, .int .u16 qn] := by
    have := RowAt.of_alloc (w.alloc (.cells #[.int .u8 kind, .int .u8 x, .int .u8 i, .int .u8 X, .int .u8 Y, .int .u16 N, .int .u64 V, .string st] 55)) [.int .u8 qk, .int .u16 qa, .int .u8 qd, .int .u8 qp, .int .u8 qc, .int .u16 qn] 62
    rw [World.size_alloc] at this
    refine row_below ?_ hb3
    rw [hW2]; exact this
  have r7 : RowAt W (w.heap.size + 2) 0 [.int .u8 kd, .int .u8 cd, .slice da dl dc, .slice ka kl kc] := by
    have := RowAt.of_alloc W2 [.int .u8 kd, .int .u8 cd, .slice da dl dc, .slice ka kl kc] 76
    rw [hs2] at this
    rw [hW]; exact this
  have hbW : Below w.heap.size w W := hb2.step hb3
  obtain ⟨B5, hB5⟩ : ∃ B, B = w.heap.size := ⟨_, rfl⟩
  obtain ⟨B6, hB6⟩ : ∃ B, B = w.heap.size + 1 := ⟨_, rfl⟩
  obtain ⟨B7, hB7⟩ : ∃ B, B = w.heap.size + 2 := ⟨_, rfl⟩
  rw [← hB7] at r7 ⊢
  rw [← hB6] at r6 ⊢
  rw [← hB5] at r5 ⊢
  have hWs : w.heap.size + 3 ≤ W.heap.size := by rw [hW, World.size_alloc]; omega
  have nB5 : ¬ mblk p h M.N.length B5 := HNM.out _ (by omega)
  have nB6 : ¬ mblk p h M.N.length B6 := HNM.out _ (by omega)
  have nB7 : ¬ mblk p h M.N.length B7 := HNM.out _ (by omega)
  have HBB := hide (And.intro hB5 (And.intro hB6 hB7))
  clear hB5 hB6 hB7
  have mW := HS.out.hm.below hbW
  refine (kid_calls mW HV.out x i hH o3).mono ?_
  rintro e w1 ⟨hr, b1⟩
  rcases hr with ⟨hr, _⟩ | ⟨a, pl, rfl⟩
  · exact absurd HPL.out hr
  obtain ⟨ba, oa, rfl⟩ := pl.spot
  obtain ⟨pc, pf⟩ := pl.cell (mW.below b1)
  have hpbk : mblk p h M.N.length ba := pl.blk
  have ks := keeps_set w1 ba oa (.int .i16 (n : Int))
  have s3 : MS wb p hb nb (w1.setCell ⟨ba, oa, none⟩ (.int .i16 (n : Int))) h (M.setP x i (n : Int)) := ((HS.out.below hbW).below b1).setP pl (by omega)
  have o3d := own_keeps (own_below (own_below HD.out hbW) b1) ks (fun j hj e => (HFD.out j hj).2 (by rw [show j = ba from e]; exact hpbk))
  have o3k := own_keeps (own_below (own_below HK0.out hbW) b1) ks (fun j hj e => (HFK.out j hj).2 (by rw [show j = ba from e]; exact hpbk))
  have r35 := (row_below r5 b1).keeps ks (fun _ e => nB5 (by rw [show B5 = ba from e]; exact hpbk))
  have r36 := (row_below r6 b1).keeps ks (fun _ e => nB6 (by rw [show B6 = ba from e]; exact hpbk))
  have r37 := (row_below r7 b1).keeps ks (fun _ e => nB7 (by rw [show B7 = ba from e]; exact hpbk))
  have hW3s : w.heap.size + 3 ≤ (w1.setCell ⟨ba, oa, none⟩ (.int .i16 (n : Int))).heap.size := Nat.le_trans hWs (Nat.le_trans b1.size ks.size)
  clear r5 r6 r7 mW hbW hb2 hb3 hW hW2 hs2 hWs ks HD HK0
  go_wp2_with fail
  generalize w1.setCell ⟨ba, oa, none⟩ (.int .i16 (n : Int)) = W3 at *
  have HM1 := hide (show (M.setP x i (n : Int)).N.length = n ∧ (M.setP x i (n : Int)).H = M.H ∧ ∀ j, (M.setP x i (n : Int)).hd j = M.hd j from ⟨by rw [setP_len, HN.out], setP_H _ _ _, fun j => by unfold Mo.hd; rw [setP_H]⟩)
  have HMH := hide (show M.hang x i ⟨kd, cd, data, kids⟩ wd = { ({ (M.setP x i (n : Int)) with N := (M.setP x i (n : Int)).N ++ [⟨kd, cd, data, kids⟩] } : Mo) with H := (M.setP x i (n : Int)).H ++ [⟨(n : Int), x, i, (M.hd x).depth + 1, false, true, wd⟩] } by
    rw [setP_H, HN.out]; rfl)
  generalize M.setP x i (n : Int) = M1 at *
  have HR5 := hide r35
  have HR6 := hide r36
  have c7 := And.intro (r37.at_ (i := 0) rfl) (And.intro (r37.at_ (i := 1) rfl) (And.intro (r37.at_ (i := 2) rfl) (r37.at_ (i := 3) rfl)))
  obtain ⟨c70, c71, c72, c73⟩ := c7
  simp only [Nat.zero_add] at c70 c71 c72 c73
  have f3 := s3.hm.f0.1
  rw [HNA.out] at f3
  have HS3 := hide s3
  have HO := hide (And.intro o3d o3k)
  have HNB := hide (And.intro nB5 (And.intro nB6 nB7))
  have HHH := hide hH
  have HMk := hide (show mblk p h M.N.length = mblk p h M1.N.length by rw [HM1.out.1, HN.out])
  clear s3 o3d o3k r35 r36 r37 pc pf pl hpbk b1 nB5 nB6 nB7 HS HPL f0 hH
  have hne1 : ∀ w0 : World, Nonempty (Kw (fun k => ¬ k = p ∧ ¬ k = B7) w0) := fun w0 => ⟨⟨w0, Keeps.refl _ _⟩⟩
  refine wp_region_seg (fun w' => ∃ y : Kw (fun k => ¬ k = p ∧ ¬ k = B7) W3, w' = y.to) 9 [0, 1, 2, 3, 4, 5, 6] 2 (by kernel_rfl) (by kernel_rfl) ?_ ⟨⟨_, (Keeps.refl _ _).drew⟩, rfl⟩ ?_
  · intro d v c a w hx
    cases d <;> exact hx
  simp only [pickOps, List.getElem?_cons_zero, List.getElem?_cons_succ, Option.toList_some, List.cons_append, List.nil_append, List.drop_succ_cons, List.drop_zero]
  repeat (go_big_quiet_step (fail))
  refine wpQuiet_nil ?_
  refine segH_one (i := 7) (by kernel_rfl) rfl (by omega) ?_
  go_wp2_with fail
  refine ⟨⟨⟨_, ((Keeps.refl _ _).drew).alloc _⟩, rfl⟩, ?_⟩
  refine segH_one (i := 8) (by kernel_rfl) rfl (by omega) ?_
  have bq : Below W3.heap.size W3 (W3.drew.alloc (.cells #[.int .u8 kd, .int .u8 cd, .slice da dl dc, .slice ka kl kc] 76)) := (below_drew W3).step ((Below.refl _ _).alloc (Nat.le_refl _) _)
  have HCC := hide (show ∀ j u, [Value.int .u8 (kd : Int), .int .u8 (cd : Int), .slice da dl dc, .slice ka kl kc][j]? = some u → (W3.drew.alloc (.cells #[.int .u8 kd, .int .u8 cd, .slice da dl dc, .slice ka kl kc] 76)).cell? (Addr.add ⟨W3.heap.size, 0, none⟩ j) = some u from fun j u hu => lit_cells W3.drew 76 _ j u hu)
  have HBQ := hide bq
  clear bq
  go_wp2_with (refine wpList_appN2 (M := M1) (h := h) (p := p) (full := true) ?_ ⟨kd, cd, data, kids⟩ (.slice da dl dc) (.slice ka kl kc) ?_ ?_ ?_ ?_ ?_ ?_ ?_ rfl _ _ rfl (.slice na n nc) ?_ rfl _ rfl (fun j u hu => HCC.out j u hu) ?_)
  · exact HS3.out.hm.below HBQ.out
  · have := own_below HO.out.1 HBQ.out
    rw [HDV.out] at this; exact this
  · have := own_below HO.out.2 HBQ.out
    rw [HKV.out] at this; exact this
  · intro j hj; rw [← HMk.out]; exact (HFD.out j (by rw [HDV.out]; exact hj)).2
  · intro j hj; rw [← HMk.out]; exact (HFK.out j (by rw [HKV.out]; exact hj)).2
  · intro j hj; have := HFDK.out j (by rw [HDV.out]; exact hj); rw [HKV.out] at this; exact this
  · exact HOK.out
  · rw [HM1.out.1]; omega
  · exact HNA.out
  intro va vc W1 m4 k4 bl4 c4 fz4 kp4
  rw [HM1.out.1] at m4 k4 bl4 ⊢
  have hC1 : Keeps (fun k => ¬ k = p ∧ ¬ k = B7) W3 W1 := Keeps.trans (((Keeps.refl _ _).drew).alloc _) (kp4.mono (fun k _ e => nor2 fun q => by
    have hk : mblk p h M1.N.length k := .inr ⟨0, by omega, e.symm⟩
    rcases q with q | q
    · exact HS3.out.hm.pp 0 (by omega) (by rw [← q]; exact e.symm)
    · rw [q, ← HMk.out] at hk; exact HNB.out.2.2 hk))
  have hsW : W3.heap.size ≤ (W3.drew.alloc (.cells #[.int .u8 kd, .int .u8 cd, .slice da dl dc, .slice ka kl kc] 76)).heap.size := HBQ.out.size
  have s4 : MS wb p hb nb (W1.setCell ⟨p, 0, none⟩ (.slice va (n + 1) vc)) (hPush h n (.slice va (n + 1) vc) (.slice da dl dc) (.slice ka kl kc)) { M1 with N := M1.N ++ [⟨kd, cd, data, kids⟩] } := by
    have hNl : ({ M1 with N := M1.N ++ [⟨kd, cd, data, kids⟩] } : Mo).N.length = n + 1 := by
      show (M1.N ++ [_]).length = _
      rw [List.length_append, HM1.out.1]; rfl
    refine (HS3.out.below HBQ.out).of m4 (by rw [HM1.out.1]; exact k4) (fun j hj => ?_)
    rw [hNl] at hj
    rw [HM1.out.1]
    rcases bl4 j hj with z | z | z | z
    · exact .inl z
    · exact .inr (HFD.out j (by rw [HDV.out]; exact z)).1
    · exact .inr (HFK.out j (by rw [HKV.out]; exact z)).1
    · exact .inr (by have := HS3.out.size; omega)
  have r45 := (row_below HR5.out HBQ.out).keeps k4 (fun _ e => HNB.out.1 (by rw [HMk.out, HM1.out.1]; exact e))
  have r46 := (row_below HR6.out HBQ.out).keeps k4 (fun _ e => HNB.out.2.1 (by rw [HMk.out, HM1.out.1]; exact e))
  have hW4s : w.heap.size + 3 ≤ (W1.setCell ⟨p, 0, none⟩ (.slice va (n + 1) vc)).heap.size := Nat.le_trans hW3s (Nat.le_trans HBQ.out.size k4.size)
  have HC1 := hide hC1
  have HS4 := hide s4
  have HR45 := hide r45
  have HR46 := hide r46
  clear hC1 s4 r45 r46 m4 k4 bl4 kp4 hsW HR5 HR6 c70 c71 c72 c73 HBQ HCC HS3 HO
  go_wp2_with fail
  refine ⟨⟨⟨W1, HC1.out⟩, rfl⟩, ?_⟩
  refine ⟨by kernel_rfl, ?_⟩
  clear HC1
  go_wp2_with fail
  generalize W1.setCell ⟨p, 0, none⟩ (.slice va (n + 1) vc) = W4 at *
  have h41 : hPush h n (.slice va (n + 1) vc) (.slice da dl dc) (.slice ka kl kc) 1 = h 1 := hPush_one _ _ _ _ _
  have HHB := hide (show ∀ k, some k = (h 1).ownBlock → ¬ (k = p ∨ k = B5 ∨ k = B6) from fun k e q => by
    have hk : mblk p h M.N.length k := .inr ⟨1, by omega, e.symm⟩
    rcases q with q | q | q
    · have := HS4.out.hm.pp 1 (by omega)
      rw [h41] at this
      exact this (by rw [← q]; exact e.symm)
    · rw [q] at hk; exact HNB.out.1 hk
    · rw [q] at hk; exact HNB.out.2.1 hk)
  have HH4 := hide h41
  clear h41
  generalize hPush h n (.slice va (n + 1) vc) (.slice da dl dc) (.slice ka kl kc) = h4 at *
  obtain ⟨gh, ch, hgh, hhc⟩ := HS4.out.hm.hand (i := x) (show x < M1.H.length by rw [HM1.out.2.1]; exact HHH.out)
  have cdp := (hhc 3 _ rfl).1
  have e1 : ({ M1 with N := M1.N ++ [⟨kd, cd, data, kids⟩] } : Mo).hd x = M.hd x := HM1.out.2.2 x
  rw [e1] at cdp
  have f42 := HS4.out.hm.f2.1
  rw [hgh] at f42
  have HGH := hide hgh
  clear hhc e1 hgh
  have c51 := HR45.out.at_ (i := 1) rfl
  have c52 := HR45.out.at_ (i := 2) rfl
  have d0 := HR46.out.at_ (i := 0) rfl
  have d1 := HR46.out.at_ (i := 1) rfl
  have d2 := HR46.out.at_ (i := 2) rfl
  have d3 := HR46.out.at_ (i := 3) rfl
  have d4 := HR46.out.at_ (i := 4) rfl
  have d5 := HR46.out.at_ (i := 5) rfl
  simp only [Nat.zero_add] at c51 c52 d0 d1 d2 d3 d4 d5
  have hnl : M1.H.length ≤ 1000 := HS4.out.hm.nh
  have hnl2 : M1.H.length ≤ 256 := by rw [HM1.out.2.1, HV.out.nh, ← HN.out]; omega
  have hxl : x < M1.H.length := by rw [HM1.out.2.1]; exact HHH.out
  obtain ⟨nH, hnH⟩ : ∃ nH, nH = M1.H.length := ⟨_, rfl⟩
  have HnH := hide hnH
  have f42' : W4.cell? ⟨p, 2, none⟩ = some (.slice (some ⟨gh, 0, none⟩) nH ch) := by rw [hnH]; exact f42
  rw [← hnH] at hnl hnl2 hxl
  have HGH2 := hide (show h4 1 = .slice (some ⟨gh, 0, none⟩) nH ch by rw [hnH]; exact HGH.out)
  clear f42 HGH hnH HR45 HR46 c4 fz4
  generalize (M.hd x).depth = dp at *
  have hdrw : Below W4.heap.size W4 W4.drew := below_drew W4
  have ghl : gh < W4.heap.size := lt_of_cell cdp
  have hne2 : ∀ w0 : World, Nonempty (Kw (fun k => ¬ k = p ∧ ¬ k = B5 ∧ ¬ k = B6) w0) := fun w0 => ⟨⟨w0, Keeps.refl _ _⟩⟩
  refine wp_region_seg (fun w' => ∃ y : Kw (fun k => ¬ k = p ∧ ¬ k = B5 ∧ ¬ k = B6) W4, w' = y.to) 25 [0, 1, 2, 3, 4, 5, 6, 7, 8, 9, 10, 11, 12, 13, 14, 15, 16, 17, 20] 6 (by kernel_rfl) (by kernel_rfl) ?_ ⟨⟨_, (Keeps.refl _ _).drew⟩, rfl⟩ ?_
  · intro d v c a w hx
    cases d <;> exact hx
  simp only [pickOps, List.getElem?_cons_zero, List.getElem?_cons_succ, Option.toList_some, List.cons_append, List.nil_append, List.drop_succ_cons, List.drop_zero]
  repeat (go_big_quiet_step (fail))
  refine wpQuiet_nil ?_
  refine segH_two (i := 18) (j := 21) (by kernel_rfl) rfl rfl (by omega) (by omega) ?_ ?_
  · have cdp' : W4.drew.cell? ⟨gh, x * 7 + 3, none⟩ = some (.int .u8 (dp : Int)) := cdp
    go_wp2_with fail
    refine ⟨⟨⟨_, (Keeps.refl _ _).drew⟩, rfl⟩, ?_⟩
    refine segH_more [19] (f := 4) (by kernel_rfl) ?_ ⟨⟨_, (Keeps.refl _ _).drew⟩, rfl⟩ ?_
    · intro d v c a w hx
      cases d <;> exact hx
    simp only [pickOps, List.getElem?_cons_zero, List.getElem?_cons_succ, Option.toList_some, List.cons_append, List.nil_append, List.drop_succ_cons, List.drop_zero]
    repeat (go_big_quiet_step (fail))
    refine wpQuiet_nil ?_
    refine segH_one (i := 21) (by kernel_rfl) rfl (by omega) ?_
    go_wp2_with fail
    refine (HWc.out _).mono ?_
    rintro e w5 ⟨rfl, b5⟩
    go_wp2_with fail
    have b5' : Below W4.heap.size W4 w5 := hdrw.step b5
    have hC5 : Keeps (fun k => ¬ k = p ∧ ¬ k = B5 ∧ ¬ k = B6) W4 w5 := kbel b5' (fun k hk => nor3 fun q => by have := HBB.out; omega)
    refine ⟨⟨⟨_, hC5⟩, rfl⟩, ?_⟩
    refine segH_more [22] (f := 2) (by kernel_rfl) ?_ ⟨⟨_, hC5⟩, rfl⟩ ?_
    · intro d v c a w hx
      cases d <;> exact hx
    simp only [pickOps, List.getElem?_cons_zero, List.getElem?_cons_succ, Option.toList_some, List.cons_append, List.nil_append, List.drop_succ_cons, List.drop_zero]
    repeat (go_big_quiet_step (fail))
    refine wpQuiet_nil ?_
    refine segH_one (i := 23) (by kernel_rfl) rfl (by omega) ?_
    go_wp2_with fail
    refine ⟨⟨⟨_, hC5.alloc _⟩, rfl⟩, ?_⟩
    refine segH_one (i := 24) (by kernel_rfl) rfl (by omega) ?_
    have HHE := hide (show hdC ⟨(n : Int), x, i, dp + 1, false, true, wd⟩ = [.int .i16 (n : Int), .int .u8 (x : Int), .int .u8 (i : Int), .int .u8 ((dp : Int) + 1), .bool false, .bool true, .int .u16 (wd : Int)] by simp [hdC])
    have HCC := hide (show ∀ j u, (hdC ⟨(n : Int), x, i, dp + 1, false, true, wd⟩)[j]? = some u → (w5.alloc (.cells #[.int .i16 (n : Int), .int .u8 (x : Int), .int .u8 (i : Int), .int .u8 ((dp : Int) + 1), .bool false, .bool true, .int .u16 (wd : Int)] 89)).cell? (Addr.add ⟨w5.heap.size, 0, none⟩ j) = some u from fun j u hu => lit_cells w5 89 _ j u (by rw [← HHE.out]; exact hu))
    have b6 : Below W4.heap.size W4 (w5.alloc (.cells #[.int .i16 (n : Int), .int .u8 (x : Int), .int .u8 (i : Int), .int .u8 ((dp : Int) + 1), .bool false, .bool true, .int .u16 (wd : Int)] 89)) := b5'.step ((Below.refl _ _).alloc (Nat.le_refl _) _)
    have HB6 := hide b6
    have HC5 := hide hC5
    clear b6 hC5
    go_wp2_with (refine wpList_appH2 (M := { M1 with N := M1.N ++ [⟨kd, cd, data, kids⟩] }) (h := h4) (p := p) ?_ ⟨(n : Int), x, i, dp + 1, false, true, wd⟩ ?_ ?_ rfl _ _ rfl (.slice (some ⟨gh, 0, none⟩) nH ch) ?_ rfl _ rfl (fun j u hu => HCC.out j u hu) ?_)
    · exact HS4.out.hm.below HB6.out
    · exact ⟨by dsimp only; omega, o2, o3, by dsimp only; omega, hwl⟩
    · show M1.H.length < 1000
      rw [← HnH.out]; omega
    · exact HGH2.out
    intro va' vc' W6 m6 k6 bl6 c6 fz6 kp6
    have hml : ({ M1 with N := M1.N ++ [⟨kd, cd, data, kids⟩] } : Mo).H.length = nH := HnH.out.symm
    rw [hml] at m6 k6 bl6 ⊢
    have HFIN := hide (show MS wb p hb nb (W6.setCell ⟨p, 2, none⟩ (.slice va' (nH + 1) vc')) (hHand h4 (.slice va' (nH + 1) vc')) (M.hang x i ⟨kd, cd, data, kids⟩ wd) by
      rw [HMH.out]
      have hNl2 : ({ M1 with N := M1.N ++ [⟨kd, cd, data, kids⟩] } : Mo).N.length = M1.N.length + 1 := by simp
      refine (HS4.out.below HB6.out).of m6 (by rw [hNl2]; exact k6) (fun j hj => ?_)
      have hj' : mblk p (hHand h4 (.slice va' (nH + 1) vc')) (M1.N.length + 1) j := by rw [← hNl2]; exact hj
      rcases bl6 j hj' with z | z
      · rw [hNl2]; exact .inl z
      · exact .inr (by have := HS4.out.size; have := b5'.size; omega))
    have HC6 := hide (show Keeps (fun k => ¬ k = p ∧ ¬ k = B5 ∧ ¬ k = B6) W4 W6 from Keeps.trans (HC5.out.alloc _) (kp6.mono (fun k _ e => nor3 <| HHB.out k (by rw [← HH4.out]; exact e))))
    clear m6 k6 bl6 kp6
    go_wp2_with fail
    refine ⟨⟨⟨W6, HC6.out⟩, rfl⟩, ?_⟩
    refine ⟨by kernel_rfl, ?_⟩
    clear HC6
    go_wp2_with fail
    go_ret
    exact ⟨rfl, _, HFIN.out⟩
  · go_wp2_with fail
    refine (HWc.out _).mono ?_
    rintro e w5 ⟨rfl, b5⟩
    go_wp2_with fail
    have b5' : Below W4.heap.size W4 w5 := hdrw.step b5
    have hC5 : Keeps (fun k => ¬ k = p ∧ ¬ k = B5 ∧ ¬ k = B6) W4 w5 := kbel b5' (fun k hk => nor3 fun q => by have := HBB.out; omega)
    refine ⟨⟨⟨_, hC5⟩, rfl⟩, ?_⟩
    refine segH_one (i := 18) (by kernel_rfl) rfl (by omega) ?_
    have cdp' : w5.cell? ⟨gh, x * 7 + 3, none⟩ = some (.int .u8 (dp : Int)) := by rw [← cdp]; exact World.cell?_of_block (b5'.block gh ghl)
    go_wp2_with fail
    refine ⟨⟨⟨_, hC5⟩, rfl⟩, ?_⟩
    refine segH_more [19] (f := 3) (by kernel_rfl) ?_ ⟨⟨_, hC5⟩, rfl⟩ ?_
    · intro d v c a w hx
      cases d <;> exact hx
    simp only [pickOps, List.getElem?_cons_zero, List.getElem?_cons_succ, Option.toList_some, List.cons_append, List.nil_append, List.drop_succ_cons, List.drop_zero]
    repeat (go_big_quiet_step (fail))
    refine wpQuiet_nil ?_
    refine segH_more [22] (f := 2) (by kernel_rfl) ?_ ⟨⟨_, hC5⟩, rfl⟩ ?_
    · intro d v c a w hx
      cases d <;> exact hx
    simp only [pickOps, List.getElem?_cons_zero, List.getElem?_cons_succ, Option.toList_some, List.cons_append, List.nil_append, List.drop_succ_cons, List.drop_zero]
    repeat (go_big_quiet_step (fail))
    refine wpQuiet_nil ?_
    refine segH_one (i := 23) (by kernel_rfl) rfl (by omega) ?_
    go_wp2_with fail
    refine ⟨⟨⟨_, hC5.alloc _⟩, rfl⟩, ?_⟩
    refine segH_one (i := 24) (by kernel_rfl) rfl (by omega) ?_
    have HHE := hide (show hdC ⟨(n : Int), x, i, dp + 1, false, true, wd⟩ = [.int .i16 (n : Int), .int .u8 (x : Int), .int .u8 (i : Int), .int .u8 ((dp : Int) + 1), .bool false, .bool true, .int .u16 (wd : Int)] by simp [hdC])
    have HCC := hide (show ∀ j u, (hdC ⟨(n : Int), x, i, dp + 1, false, true, wd⟩)[j]? = some u → (w5.alloc (.cells #[.int .i16 (n : Int), .int .u8 (x : Int), .int .u8 (i : Int), .int .u8 ((dp : Int) + 1), .bool false, .bool true, .int .u16 (wd : Int)] 89)).cell? (Addr.add ⟨w5.heap.size, 0, none⟩ j) = some u from fun j u hu => lit_cells w5 89 _ j u (by rw [← HHE.out]; exact hu))
    have b6 : Below W4.heap.size W4 (w5.alloc (.cells #[.int .i16 (n : Int), .int .u8 (x : Int), .int .u8 (i : Int), .int .u8 ((dp : Int) + 1), .bool false, .bool true, .int .u16 (wd : Int)] 89)) := b5'.step ((Below.refl _ _).alloc (Nat.le_refl _) _)
    have HB6 := hide b6
    have HC5 := hide hC5
    clear b6 hC5
    go_wp2_with (refine wpList_appH2 (M := { M1 with N := M1.N ++ [⟨kd, cd, data, kids⟩] }) (h := h4) (p := p) ?_ ⟨(n : Int), x, i, dp + 1, false, true, wd⟩ ?_ ?_ rfl _ _ rfl (.slice (some ⟨gh, 0, none⟩) nH ch) ?_ rfl _ rfl (fun j u hu => HCC.out j u hu) ?_)
    · exact HS4.out.hm.below HB6.out
    · exact ⟨by dsimp only; omega, o2, o3, by dsimp only; omega, hwl⟩
    · show M1.H.length < 1000
      rw [← HnH.out]; omega
    · exact HGH2.out
    intro va' vc' W6 m6 k6 bl6 c6 fz6 kp6
    have hml : ({ M1 with N := M1.N ++ [⟨kd, cd, data, kids⟩] } : Mo).H.length = nH := HnH.out.symm
    rw [hml] at m6 k6 bl6 ⊢
    have HFIN := hide (show MS wb p hb nb (W6.setCell ⟨p, 2, none⟩ (.slice va' (nH + 1) vc')) (hHand h4 (.slice va' (nH + 1) vc')) (M.hang x i ⟨kd, cd, data, kids⟩ wd) by
      rw [HMH.out]
      have hNl2 : ({ M1 with N := M1.N ++ [⟨kd, cd, data, kids⟩] } : Mo).N.length = M1.N.length + 1 := by simp
      refine (HS4.out.below HB6.out).of m6 (by rw [hNl2]; exact k6) (fun j hj => ?_)
      have hj' : mblk p (hHand h4 (.slice va' (nH + 1) vc')) (M1.N.length + 1) j := by rw [← hNl2]; exact hj
      rcases bl6 j hj' with z | z
      · rw [hNl2]; exact .inl z
      · exact .inr (by have := HS4.out.size; have := b5'.size; omega))
    have HC6 := hide (show Keeps (fun k => ¬ k = p ∧ ¬ k = B5 ∧ ¬ k = B6) W4 W6 from Keeps.trans (HC5.out.alloc _) (kp6.mono (fun k _ e => nor3 <| HHB.out k (by rw [← HH4.out]; exact e))))
    clear m6 k6 bl6 kp6
    go_wp2_with fail
    refine ⟨⟨⟨W6, HC6.out⟩, rfl⟩, ?_⟩
    refine ⟨by kernel_rfl, ?_⟩
    clear HC6
    go_wp2_with fail
    go_ret
    exact ⟨rfl, _, HFIN.out⟩
end Go.Proofs.YgcfaaGreat
