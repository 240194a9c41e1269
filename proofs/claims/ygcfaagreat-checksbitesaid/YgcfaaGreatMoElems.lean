import Derived.Test.YgcfaaGreatMoPush3
import Derived.Test.YgcfaaGreatMoHang
namespace Go.Proofs.YgcfaaGreat
open Go.RowKit Bits Bd
set_option linter.unusedVariables false
set_option maxRecDepth 100000
set_option linter.unusedSimpArgs false
attribute [local go_sem] World.cell?_ext World.frozen?_ext Kw.cell Kw.frozen

set_option maxHeartbeats 16000000 in
theorem melements_calls {wb w : World} {p nb : Nat} {hb h : Nat → Value} {M : Mo} (s : MS wb p hb nb w h M) {l cnt d q : Nat} {hx : Hd} (el : EL l d q hx 0 M) (hc : cnt ≤ 128) (hnm : hx.named = true) (hw : 1 + cnt * (d + q) ≤ hx.words) (hdq : 0 < cnt → 1 ≤ d + q) (hd8 : d ≤ 8) (hq8 : q ≤ 8) (hn : l + 2 + cnt ≤ 256) :
    Calls Faag.prog 92 #[.pointer (some ⟨p, 0, none⟩), .int .i64 cnt, .int .u8 d, .int .u8 q] w fun e w' => e = .returned (.bool true) ∧ ∃ h' M', MS wb p hb nb w' h' M' ∧ InvM M' := by
  have hsn := el.n
  have hnh := el.inv.nh
  have hHl : M.H.length = l + 2 := by omega
  obtain ⟨gh, ch, hgh, hhc⟩ := s.hm.hand (i := l + 1) (by omega)
  have f2 := s.hm.f2.1
  rw [hgh, hHl] at f2
  rw [el.hd] at hhc
  have hnode : hx.node = (l : Int) := by rw [← el.hd]; exact el.inv.node l (by omega)
  obtain ⟨xn, xu, xv, xd, xe, xm, xw⟩ := hx
  dsimp only at hnode
  subst hnode
  have c0 := (hhc 0 _ rfl).1
  have c1 := (hhc 1 _ rfl).1
  have c2 := (hhc 2 _ rfl).1
  have c3 := (hhc 3 _ rfl).1
  have c4 := (hhc 4 _ rfl).1
  have c5 := (hhc 5 _ rfl).1
  have c6 := (hhc 6 _ rfl).1
  simp only [Nat.add_zero] at c0
  have hok := s.hm.hok (l + 1)
  rw [el.hd] at hok
  have hdp : xd < 256 := hok.depth
  have hgl : gh < w.heap.size := lt_of_cell c0
  have HST := hide (show ∀ j M, EL l d q ⟨(l : Int), xu, xv, xd, xe, xm, xw⟩ j M → j < cnt → EL l d q ⟨(l : Int), xu, xv, xd, xe, xm, xw⟩ (j + 1) (M.elem l d q) from fun j M e hj => e.step hj hc hnm hw (hdq (by omega)) hd8 hq8 hn)
  have HE := hide el
  have HS := hide s
  have nm : ¬ mblk p h M.N.length w.heap.size := fun q => by have := s.hm.blk_lt q; omega
  have HNM := hide nm
  clear s el nm hok hhc hgh hHl hnh hsn hw hnm hdq
  go_enter Faag.func92, Faag.ntmps92
  go_wp2_with fail
  have hbA : Below w.heap.size w (w.alloc (.cells #[.int .i16 (l : Int), .int .u8 xu, .int .u8 xv, .int .u8 xd, .bool xe, .bool xm, .int .u16 xw] 89)) := (Below.refl _ _).alloc (Nat.le_refl _) _
  have HI := hide (show EW wb p hb nb l d q ⟨(l : Int), xu, xv, xd, xe, xm, xw⟩ w.heap.size 0 (w.alloc (.cells #[.int .i16 (l : Int), .int .u8 xu, .int .u8 xv, .int .u8 xd, .bool xe, .bool xm, .int .u16 xw] 89)) from ⟨h, M, HS.out.below hbA, HE.out, RowAt.of_alloc w _ 89, HNM.out⟩)
  obtain ⟨B, hB⟩ : ∃ B, B = w.heap.size := ⟨_, rfl⟩
  rw [← hB] at HI ⊢
  generalize w.alloc (.cells #[.int .i16 (l : Int), .int .u8 xu, .int .u8 xv, .int .u8 xd, .bool xe, .bool xm, .int .u16 xw] 89) = w1 at *
  clear hB hbA HS HE HNM c0 c1 c2 c3 c4 c5 c6 f2 hgl
  go_loopw [11] (fun i wr => ∃ j : Nat, j ≤ cnt ∧ i = .int .i64 (j : Nat) ∧ Hid (EW wb p hb nb l d q ⟨(l : Int), xu, xv, xd, xe, xm, xw⟩ B j wr)) (fun i _ => 65536 - (intOf i).toNat)
  case atStart => exact ⟨0, by omega, by simp, HI⟩
  case round =>
    clear HI
    obtain ⟨j, hj, rfl, H⟩ := hrel
    by_cases hgj : j < cnt
    · obtain ⟨h1, M1, s1, el1, rB, nB⟩ := H.out
      have hlN : l < M1.N.length := by have := el1.n; omega
      obtain ⟨gn, cn, hgn, hnc⟩ := s1.hm.node hlN
      obtain ⟨ka, kc, hka⟩ := s1.hm.nk_ hlN
      have n3 := (hnc 3 _ rfl).1
      rw [hka, el1.kl] at n3
      have f0 := s1.hm.f0.1
      have hgn' := hgn
      rw [hgn, el1.n] at f0
      have b0 := rB.at_ (i := 0) rfl
      have b3 := rB.at_ (i := 3) rfl
      simp only [Nat.zero_add] at b0 b3
      have hgnb : (h1 0).ownBlock = some gn := by rw [hgn]; rfl
      have hgnp : ¬ gn = p := fun e => s1.hm.pp 0 (by omega) (by rw [hgnb, e])
      have HX := hide (show ∀ k, some k = (h1 (2 * l + 3)).ownBlock → ¬ (k = p ∨ k = B ∨ k = gn) from fun k e q => by
        rcases q with q | q | q
        · exact s1.hm.pp (2 * l + 3) (by omega) (by rw [← q]; exact e.symm)
        · exact nB (.inr ⟨2 * l + 3, by omega, by rw [← q]; exact e.symm⟩)
        · exact absurd (s1.hm.ap (2 * l + 3) 0 k (by omega) (by omega) e.symm (by rw [hgnb, q])) (by omega))
      have HS1 := hide s1
      have HE1 := hide el1
      have HRB := hide rB
      have HNB := hide nB
      have HG := hide hgn
      have HKA := hide hka
      have hpl : p < wr.heap.size := s1.hm.lt
      have hBl : B < wr.heap.size := lt_of_cell b0
      clear s1 el1 rB nB hnc hgn hka hgn' H
      go_wp2_with fail
      have hne20 : ∀ w0 : World, Nonempty (Kw (fun k => ¬ k = p ∧ ¬ k = B ∧ ¬ k = gn) w0) := fun w0 => ⟨⟨w0, Keeps.refl _ _⟩⟩
      refine wp_region_seg (fun w' => ∃ y : Kw (fun k => ¬ k = p ∧ ¬ k = B ∧ ¬ k = gn) wr, w' = y.to) 20 [0, 1, 2, 3, 4, 5, 6, 7, 8, 9, 10, 11, 12, 13, 14, 15, 16, 17] 2 (by kernel_rfl) (by kernel_rfl) ?_ ⟨⟨_, (Keeps.refl _ _).drew⟩, rfl⟩ ?_
      · intro d v c a w hx
        cases d <;> exact hx
      simp only [pickOps, List.getElem?_cons_zero, List.getElem?_cons_succ, Option.toList_some, List.cons_append, List.nil_append, List.drop_succ_cons, List.drop_zero]
      repeat (go_big_quiet_step (fail))
      refine wpQuiet_nil ?_
      refine segH_one (i := 18) (by kernel_rfl) rfl (by omega) ?_
      go_wp2_with fail
      refine ⟨⟨⟨_, ((Keeps.refl _ _).drew).alloc _⟩, rfl⟩, ?_⟩
      refine segH_one (i := 19) (by kernel_rfl) rfl (by omega) ?_
      obtain ⟨nn, hnn⟩ : ∃ nn, nn = l + 1 + j := ⟨_, rfl⟩
      have HCC := hide (show (wr.drew.alloc (.cells #[.int .i16 ((l + 1 + j : Nat) : Int)] 40)).cell? (Addr.add ⟨wr.heap.size, 0, none⟩ 0) = some (.int .i16 ((l + 1 + j : Nat) : Int)) from lit_cells wr.drew 40 [.int .i16 ((l + 1 + j : Nat) : Int)] 0 _ rfl)
      have HBQ := hide (show Below wr.heap.size wr (wr.drew.alloc (.cells #[.int .i16 ((l + 1 + j : Nat) : Int)] 40)) from (below_drew wr).step ((Below.refl _ _).alloc (Nat.le_refl _) _))
      try simp only [Nat.cast_add, Nat.cast_one] at HCC HBQ
      go_wp2_with (refine wpList_appK2 (M := M1) (h := h1) (p := p) (full := true) (l := l) (gn := gn) (cn := cn) ?_ ?_ ((l + 1 + j : Nat) : Int) ?_ ?_ ?_ rfl _ _ rfl (.slice ka j kc) ?_ rfl _ rfl ?_ ?_)
      · exact HS1.out.hm.below HBQ.out
      · exact hlN
      · omega
      · rw [HE1.out.kl]; omega
      · exact HG.out
      · have := HKA.out; rw [HE1.out.kl] at this; exact this
      · first | exact HCC.out | (have := HCC.out; simpa using this)
      intro va vc W1 m2 k2 bl2 c2 fz2 kp2
      rw [HE1.out.kl] at m2 k2 bl2 ⊢
      have s2 : MS wb p hb nb (W1.setCell ⟨gn, l * 4 + 3, none⟩ (.slice va (j + 1) vc)) (hKid h1 l (.slice va (j + 1) vc)) { M1 with N := M1.N.set l { M1.nd l with kids := (M1.nd l).kids ++ [((l + 1 + j : Nat) : Int)] } } := by
        refine (HS1.out.below HBQ.out).of m2 k2 (fun i hi => ?_)
        rw [show ({ M1 with N := M1.N.set l { M1.nd l with kids := (M1.nd l).kids ++ [((l + 1 + j : Nat) : Int)] } } : Mo).N.length = M1.N.length from List.length_set] at hi
        rcases bl2 i hi with z | z
        · exact .inl z
        · exact .inr (by have := HS1.out.size; have := HBQ.out.size; omega)
      have hC1 : Keeps (fun k => ¬ k = p ∧ ¬ k = B ∧ ¬ k = gn) wr W1 := Keeps.trans (((Keeps.refl _ _).drew).alloc _) (kp2.mono (fun k _ e => nor3 (HX.out k e)))
      have r2 := (row_below HRB.out HBQ.out).keeps k2 (fun _ e => HNB.out e)
      have nB2 : ¬ mblk p (hKid h1 l (.slice va (j + 1) vc)) M1.N.length B := fun e => by
        rcases bl2 B e with z | z
        · exact HNB.out z
        · have := HBQ.out.size; omega
      have HM2 := hide (show M1.elem l d q = { ({ ({ M1 with N := M1.N.set l { M1.nd l with kids := (M1.nd l).kids ++ [((l + 1 + j : Nat) : Int)] } } : Mo) with N := (M1.N.set l { M1.nd l with kids := (M1.nd l).kids ++ [((l + 1 + j : Nat) : Int)] }) ++ [stN d q] } : Mo) with H := M1.H ++ [⟨((l + 1 + j : Nat) : Int), l + 1, j, xd, false, false, 0⟩] } by
        unfold Mo.elem
        rw [HE1.out.n, HE1.out.kl, HE1.out.hd])
      have hN2 : ({ M1 with N := M1.N.set l { M1.nd l with kids := (M1.nd l).kids ++ [((l + 1 + j : Nat) : Int)] } } : Mo).N.length = l + 1 + j := by
        rw [show ({ M1 with N := M1.N.set l { M1.nd l with kids := (M1.nd l).kids ++ [((l + 1 + j : Nat) : Int)] } } : Mo).N.length = M1.N.length from List.length_set, HE1.out.n]
      have h20 : hKid h1 l (.slice va (j + 1) vc) 0 = .slice (some ⟨gn, 0, none⟩) (l + 1 + j) cn := by
        unfold hKid
        rw [if_neg (by omega), HG.out, HE1.out.n]
      have HS2 := hide s2
      have HC1 := hide hC1
      have HR2 := hide r2
      have HNB2 := hide nB2
      have HN2 := hide hN2
      have H20 := hide h20
      have hW2s : wr.heap.size ≤ (W1.setCell ⟨gn, l * 4 + 3, none⟩ (.slice va (j + 1) vc)).heap.size := Nat.le_trans HBQ.out.size k2.size
      have hHl : M1.H.length = l + 2 + j := by have := HE1.out.inv.nh; have := HE1.out.n; omega
      have HHL := hide hHl
      have HN1 := hide HE1.out.n
      clear m2 k2 bl2 kp2 s2 hC1 r2 nB2 hN2 h20 hHl HCC HBQ HX HRB HNB
      go_wp2_with fail
      refine ⟨⟨⟨W1, HC1.out⟩, rfl⟩, ?_⟩
      refine ⟨by kernel_rfl, ?_⟩
      clear HC1
      go_wp2_with fail
      generalize W1.setCell ⟨gn, l * 4 + 3, none⟩ (.slice va (j + 1) vc) = W2 at *
      generalize hKid h1 l (.slice va (j + 1) vc) = h2 at *
      have f0 := HS2.out.hm.f0.1
      rw [H20.out] at f0
      have hH2 : ({ M1 with N := M1.N.set l { M1.nd l with kids := (M1.nd l).kids ++ [((l + 1 + j : Nat) : Int)] } } : Mo).H = M1.H := rfl
      obtain ⟨M2, hM2⟩ : ∃ M2 : Mo, M2 = { M1 with N := M1.N.set l { M1.nd l with kids := (M1.nd l).kids ++ [((l + 1 + j : Nat) : Int)] } } := ⟨_, rfl⟩
      have HM3 := hide (show M1.elem l d q = { ({ M2 with N := M2.N ++ [stN d q] } : Mo) with H := M2.H ++ [⟨((l + 1 + j : Nat) : Int), l + 1, j, xd, false, false, 0⟩] } by rw [HM2.out, hM2])
      have HH2 := hide (show M2.H.length = l + 2 + j by rw [hM2]; exact HHL.out)
      rw [← hM2] at HS2
      replace HN2 := hide (show M2.N.length = l + 1 + j by rw [hM2]; exact HN2.out)
      have HNB3 := hide (show ¬ mblk p h2 M2.N.length B by rw [HN2.out, ← HN1.out]; exact HNB2.out)
      clear hM2 HM2 hH2 HNB2 HHL n3 b0 b3 c2 fz2 HS1 HG HKA hlN hgnb hgnp HN1
      have hne11 : ∀ w0 : World, Nonempty (Kw (fun k => ¬ k = p) w0) := fun w0 => ⟨⟨w0, Keeps.refl _ _⟩⟩
      refine wp_region_seg (fun w' => ∃ y : Kw (fun k => ¬ k = p) W2, w' = y.to) 11 [0, 1, 2, 3, 4, 5, 6, 7] 3 (by kernel_rfl) (by kernel_rfl) ?_ ⟨⟨_, (Keeps.refl _ _).drew⟩, rfl⟩ ?_
      · intro d v c a w hx
        cases d <;> exact hx
      simp only [pickOps, List.getElem?_cons_zero, List.getElem?_cons_succ, Option.toList_some, List.cons_append, List.nil_append, List.drop_succ_cons, List.drop_zero]
      repeat (go_big_quiet_step (fail))
      refine wpQuiet_nil ?_
      refine segH_one (i := 8) (by kernel_rfl) rfl (by omega) ?_
      go_wp2_with fail
      refine (structOf_calls _ d q (by omega) (by omega)).mono ?_
      rintro e w4 ⟨dv, kv, rfl, od, okv, fd, fk, fdk, b4⟩
      have b4' : Below W2.heap.size W2 w4 := (below_drew W2).step b4
      have hdrs : W2.drew.heap.size = W2.heap.size := rfl
      obtain ⟨da, dc, hdv, _⟩ := own_len od
      obtain ⟨ka', kc', hkv, _⟩ := own_len okv
      subst hdv
      subst hkv
      have HO := hide (And.intro od (And.intro okv (And.intro fd (And.intro fk fdk))))
      have HB4 := hide b4'
      have hpl2 : p < W2.heap.size := by omega
      clear od okv fd fk fdk b4 b4'
      go_wp2_with fail
      have hC4 : Keeps (fun k => ¬ k = p) W2 w4 := kbel HB4.out (fun k hk q => by omega)
      refine ⟨⟨⟨_, hC4⟩, rfl⟩, ?_⟩
      refine segH_one (i := 9) (by kernel_rfl) rfl (by omega) ?_
      go_wp2_with fail
      refine ⟨⟨⟨_, hC4.alloc _⟩, rfl⟩, ?_⟩
      refine segH_one (i := 10) (by kernel_rfl) rfl (by omega) ?_
      have HCC := hide (show ∀ i u, [Value.int .u8 ((1 : Nat) : Int), .int .u8 ((0 : Nat) : Int), .slice da d dc, .slice ka' q kc'][i]? = some u → (w4.alloc (.cells #[.int .u8 1, .int .u8 0, .slice da d dc, .slice ka' q kc'] 76)).cell? (Addr.add ⟨w4.heap.size, 0, none⟩ i) = some u from fun i u hu => lit_cells w4 76 [.int .u8 1, .int .u8 0, .slice da d dc, .slice ka' q kc'] i u hu)
      have HBQ := hide (show Below W2.heap.size W2 (w4.alloc (.cells #[.int .u8 1, .int .u8 0, .slice da d dc, .slice ka' q kc'] 76)) from HB4.out.step ((Below.refl _ _).alloc (Nat.le_refl _) _))
      have HB5 := hide (show Below w4.heap.size w4 (w4.alloc (.cells #[.int .u8 1, .int .u8 0, .slice da d dc, .slice ka' q kc'] 76)) from (Below.refl _ _).alloc (Nat.le_refl _) _)
      have HC4 := hide hC4
      clear hC4
      go_wp2_with (refine wpList_appN2 (M := M2) (h := h2) (p := p) (full := true) ?_ (stN d q) (.slice da d dc) (.slice ka' q kc') ?_ ?_ ?_ ?_ ?_ ?_ ?_ rfl _ _ rfl (.slice (some ⟨gn, 0, none⟩) (l + 1 + j) cn) ?_ rfl _ rfl (fun j u hu => HCC.out j u hu) ?_)
      · exact HS2.out.hm.below HBQ.out
      · show World.ownsRow _ 0 31 1 _ (List.replicate d 0).length _
        rw [List.length_replicate]; exact own_below HO.out.1 HB5.out
      · show World.ownsRow _ 0 40 1 _ (List.replicate q (-1 : Int)).length _
        rw [List.length_replicate]; exact own_below HO.out.2.1 HB5.out
      · intro i hi z
        have := HS2.out.hm.blk_lt z
        have := HO.out.2.2.1 i hi
        omega
      · intro i hi z
        have := HS2.out.hm.blk_lt z
        have := HO.out.2.2.2.1 i hi
        omega
      · exact HO.out.2.2.2.2
      · refine ⟨show (1 : Nat) < 256 by decide, show (0 : Nat) < 256 by decide, fun y hy => ?_, fun y hy => ?_, ?_, ?_⟩
        · have : y = 0 := List.eq_of_mem_replicate hy
          omega
        · have : y = -1 := List.eq_of_mem_replicate hy
          omega
        · show (List.replicate d 0).length ≤ 1000
          rw [List.length_replicate]; omega
        · show (List.replicate q (-1 : Int)).length ≤ 1000
          rw [List.length_replicate]; omega
      · rw [HN2.out]; omega
      · exact H20.out
      intro va' vc' W3 m3 k3 bl3 c3 fz3 kp3
      have h21 : (hPush h2 M2.N.length (.slice va' (M2.N.length + 1) vc') (.slice da d dc) (.slice ka' q kc')) 1 = h2 1 := hPush_one _ _ _ _ _
      have s3 : MS wb p hb nb (W3.setCell ⟨p, 0, none⟩ (.slice va' (M2.N.length + 1) vc')) (hPush h2 M2.N.length (.slice va' (M2.N.length + 1) vc') (.slice da d dc) (.slice ka' q kc')) { M2 with N := M2.N ++ [stN d q] } := by
        refine (HS2.out.below HBQ.out).of m3 k3 (fun i hi => ?_)
        rw [show ({ M2 with N := M2.N ++ [stN d q] } : Mo).N.length = M2.N.length + 1 from by show (M2.N ++ [_]).length = _; rw [List.length_append]; rfl] at hi
        have hsz := HS2.out.size
        rcases bl3 i hi with z | z | z | z
        · exact .inl z
        · exact .inr (by have := HO.out.2.2.1 i z; omega)
        · exact .inr (by have := HO.out.2.2.2.1 i z; omega)
        · exact .inr (by have := HBQ.out.size; have := HB4.out.size; omega)
      have nB3 : ¬ mblk p (hPush h2 M2.N.length (.slice va' (M2.N.length + 1) vc') (.slice da d dc) (.slice ka' q kc')) (M2.N.length + 1) B := fun e => by
        rcases bl3 B e with z | z | z | z
        · exact HNB3.out z
        · have := HO.out.2.2.1 B z; omega
        · have := HO.out.2.2.2.1 B z; omega
        · have := HBQ.out.size; have := HB4.out.size; omega
      have r3 := (row_below HR2.out HBQ.out).keeps k3 (fun _ e => HNB3.out e)
      have hC5 : Keeps (fun k => ¬ k = p) W2 W3 := Keeps.trans (HC4.out.alloc _) (kp3.mono (fun k _ e z => HS2.out.hm.pp 0 (by omega) (by rw [← z]; exact e.symm)))
      have hW3s : W2.heap.size ≤ (W3.setCell ⟨p, 0, none⟩ (.slice va' (M2.N.length + 1) vc')).heap.size := Nat.le_trans HBQ.out.size k3.size
      rw [HN2.out] at s3 nB3 r3 h21 hW3s ⊢
      have HS3 := hide s3
      have HNB4 := hide nB3
      have HR3 := hide r3
      have HC5 := hide hC5
      have H21 := hide h21
      clear m3 k3 bl3 kp3 s3 nB3 r3 hC5 h21 HCC HBQ HB5 HO HC4 HB4 HS2 H20 HR2 HNB3 hdrs
      go_wp2_with fail
      refine ⟨⟨⟨W3, HC5.out⟩, rfl⟩, ?_⟩
      refine ⟨by kernel_rfl, ?_⟩
      clear HC5
      go_wp2_with fail
      generalize W3.setCell ⟨p, 0, none⟩ (.slice va' (l + 1 + j + 1) vc') = W4 at *
      generalize hPush h2 (l + 1 + j) (.slice va' (l + 1 + j + 1) vc') (.slice da d dc) (.slice ka' q kc') = h3 at *
      obtain ⟨ha, hcc, hh1⟩ := HS3.out.hm.n1
      have hh1' : h3 1 = .slice ha (l + 2 + j) hcc := by rw [hh1]; show Value.slice ha M2.H.length hcc = _; rw [HH2.out]
      have f2 := HS3.out.hm.f2.1
      rw [hh1'] at f2
      have b3 := HR3.out.at_ (i := 3) rfl
      simp only [Nat.zero_add] at b3
      have HH1 := hide hh1'
      have HX := hide (show ∀ k, some k = (h3 1).ownBlock → ¬ (k = p ∨ k = B) from fun k e z => by
        rcases z with z | z
        · exact HS3.out.hm.pp 1 (by omega) (by rw [← z]; exact e.symm)
        · exact HNB4.out (.inr ⟨1, by omega, by rw [← z]; exact e.symm⟩))
      have hpl4 : p < W4.heap.size := by omega
      clear hh1 hh1' c3 fz3 f0
      have hne14 : ∀ w0 : World, Nonempty (Kw (fun k => ¬ k = p ∧ ¬ k = B) w0) := fun w0 => ⟨⟨w0, Keeps.refl _ _⟩⟩
      refine wp_region_seg (fun w' => ∃ y : Kw (fun k => ¬ k = p ∧ ¬ k = B) W4, w' = y.to) 14 [0, 1, 2, 3, 4, 5, 6, 7, 8, 9, 10, 11] 2 (by kernel_rfl) (by kernel_rfl) ?_ ⟨⟨_, (Keeps.refl _ _).drew⟩, rfl⟩ ?_
      · intro d v c a w hx
        cases d <;> exact hx
      simp only [pickOps, List.getElem?_cons_zero, List.getElem?_cons_succ, Option.toList_some, List.cons_append, List.nil_append, List.drop_succ_cons, List.drop_zero]
      repeat (go_big_quiet_step (fail))
      refine wpQuiet_nil ?_
      refine segH_one (i := 12) (by kernel_rfl) rfl (by omega) ?_
      go_wp2_with fail
      refine ⟨⟨⟨_, ((Keeps.refl _ _).drew).alloc _⟩, rfl⟩, ?_⟩
      refine segH_one (i := 13) (by kernel_rfl) rfl (by omega) ?_
      have HHE := hide (show hdC ⟨((l + 1 + j : Nat) : Int), l + 1, j, xd, false, false, 0⟩ = [.int .i16 ((l : Int) + 1 + j), .int .u8 ((l : Int) + 2 - 1), .int .u8 (j : Int), .int .u8 (xd : Int), .bool false, .bool false, .int .u16 0] by
        have e1 : ((l : Int) + 2 - 1) = ((l + 1 : Nat) : Int) := by omega
        have e2 : ((l : Int) + 1 + j) = ((l + 1 + j : Nat) : Int) := by omega
        rw [e1, e2]; rfl)
      have HCC := hide (show ∀ i u, (hdC ⟨((l + 1 + j : Nat) : Int), l + 1, j, xd, false, false, 0⟩)[i]? = some u → (W4.alloc (.cells #[.int .i16 ((l : Int) + 1 + j), .int .u8 ((l : Int) + 2 - 1), .int .u8 (j : Int), .int .u8 (xd : Int), .bool false, .bool false, .int .u16 0] 89)).drew.cell? (Addr.add ⟨W4.heap.size, 0, none⟩ i) = some u from fun i u hu => lit_cells W4 89 _ i u (by rw [← HHE.out]; exact hu))
      have HBQ := hide (show Below W4.heap.size W4 (W4.alloc (.cells #[.int .i16 ((l : Int) + 1 + j), .int .u8 ((l : Int) + 2 - 1), .int .u8 (j : Int), .int .u8 (xd : Int), .bool false, .bool false, .int .u16 0] 89)).drew from ((Below.refl _ _).alloc (Nat.le_refl _) _).step (below_drew _))
      go_wp2_with (refine wpList_appH2 (M := { M2 with N := M2.N ++ [stN d q] }) (h := h3) (p := p) ?_ ⟨((l + 1 + j : Nat) : Int), l + 1, j, xd, false, false, 0⟩ ?_ ?_ rfl _ _ rfl (.slice ha (l + 2 + j) hcc) ?_ rfl _ rfl ?_ ?_)
      · exact HS3.out.hm.below HBQ.out
      · exact ⟨by dsimp only; omega, by dsimp only; omega, by dsimp only; omega, hdp, show (0 : Nat) < 65536 by decide⟩
      · show M2.H.length < 1000
        rw [HH2.out]; omega
      · exact HH1.out
      · intro i u hu; first | exact HCC.out i u hu | (have := HCC.out i u hu; simpa using this)
      intro va2 vc2 W6 m6 k6 bl6 c6 fz6 kp6
      have hml : ({ M2 with N := M2.N ++ [stN d q] } : Mo).H.length = l + 2 + j := HH2.out
      rw [hml] at m6 k6 bl6 ⊢
      have hNl : ({ M2 with N := M2.N ++ [stN d q] } : Mo).N.length = M2.N.length + 1 := by show (M2.N ++ [_]).length = _; rw [List.length_append]; rfl
      have HFIN := hide (show EW wb p hb nb l d q ⟨(l : Int), xu, xv, xd, xe, xm, xw⟩ B (j + 1) (W6.setCell ⟨p, 2, none⟩ (.slice va2 (l + 2 + j + 1) vc2)) by
        refine ⟨hHand h3 (.slice va2 (l + 2 + j + 1) vc2), M1.elem l d q, ?_, HST.out j M1 HE1.out hgj, (row_below HR3.out HBQ.out).keeps k6 (fun _ e => HNB4.out (by rw [← HN2.out]; exact e)), fun e => ?_⟩
        · rw [HM3.out]
          refine (HS3.out.below HBQ.out).of m6 (by rw [hNl]; exact k6) (fun i hi => ?_)
          have hi' : mblk p (hHand h3 (.slice va2 (l + 2 + j + 1) vc2)) (M2.N.length + 1) i := by rw [← hNl]; exact hi
          rcases bl6 i hi' with z | z
          · exact .inl (by rw [hNl]; exact z)
          · exact .inr (by have := HS3.out.size; have := HBQ.out.size; omega)
        · rw [HM3.out] at e
          have e' : mblk p (hHand h3 (.slice va2 (l + 2 + j + 1) vc2)) (M2.N.length + 1) B := by rw [← hNl]; exact e
          rcases bl6 B e' with z | z
          · rw [HN2.out] at z; exact HNB4.out z
          · have := HBQ.out.size; omega)
      have HC6 := hide (show Keeps (fun k => ¬ k = p ∧ ¬ k = B) W4 W6 from Keeps.trans (((Keeps.refl _ _).alloc _).drew) (kp6.mono (fun k _ e => nor2 (HX.out k e))))
      clear m6 k6 bl6 kp6 hml hNl
      go_wp2_with fail
      refine ⟨⟨⟨W6, HC6.out⟩, rfl⟩, ?_⟩
      refine ⟨by kernel_rfl, ?_⟩
      clear HC6
      go_wp2_with fail
      go_roundw
      case rel => exact ⟨j + 1, by omega, by go_num, HFIN⟩
      case measure => simp [intOf]; omega
    · go_wp2_with fail
      go_ret
      obtain ⟨h1, M1, s1, el1, _⟩ := H.out
      exact ⟨rfl, h1, M1, s1, el1.inv⟩
end Go.Proofs.YgcfaaGreat
