import Derived.Test.YgcfaaGreatTreeF
namespace Go.Proofs.YgcfaaGreat
open Go.RowKit Bits Bd
set_option linter.unusedVariables false
set_option maxRecDepth 100000
set_option linter.unusedSimpArgs false
attribute [local go_sem] World.cell?_ext World.frozen?_ext

theorem shaped_codes {M : Mo} {i : Nat} (h : shapedP M i) : (M.nd i).kind = 1 ∨ (M.nd i).code = 6 ∨ (M.nd i).code = 7 ∨ (2 ≤ (M.nd i).code ∧ (M.nd i).code ≤ 5) := by
  have h2 := h.2
  by_cases k1 : (M.nd i).kind = 1
  · exact .inl k1
  · rw [if_neg k1] at h2
    obtain ⟨_, _, _, h3⟩ := h2
    by_cases c25 : 2 ≤ (M.nd i).code ∧ (M.nd i).code ≤ 5
    · exact .inr (.inr (.inr c25))
    · rw [if_neg c25] at h3
      by_cases c7 : (M.nd i).code = 7
      · exact .inr (.inr (.inl c7))
      · rw [if_neg c7] at h3; exact .inr (.inl h3.1)

theorem arrs0 (w : World) : Arrs ((w.alloc (.cells Z119.toArray 119)).alloc (.cells Z120.toArray 120)) w.heap.size (w.heap.size + 1) (List.replicate 512 0) (List.replicate 512 false) ∧ Below w.heap.size w ((w.alloc (.cells Z119.toArray 119)).alloc (.cells Z120.toArray 120)) ∧ ((w.alloc (.cells Z119.toArray 119)).alloc (.cells Z120.toArray 120)).heap.size = w.heap.size + 2 := by
  have e1 : cellsK .u8 (List.replicate 512 0) = Z119 := by simp [cellsK, Z119]
  have e2 : rowB (List.replicate 512 false) = Z120 := by simp [rowB, Z120]
  refine ⟨⟨?_, ?_, List.length_replicate, List.length_replicate⟩, below_two _ _ _, by rw [World.size_alloc, World.size_alloc]⟩
  · rw [e1]; exact (RowAt.of_alloc w Z119 119).alloc _
  · rw [e2]
    have := RowAt.of_alloc (w.alloc (.cells Z119.toArray 119)) Z120 120
    rw [World.size_alloc] at this
    exact this
set_option maxHeartbeats 16000000 in
theorem bounded_calls {w : World} {p : Nat} {h : Nat → Value} {M : Mo} (m : HM false w p h M) (hpre : preT M) (hr : ¬ M.root = -1) {r0 : Bool} {tw : Nat → Nat} {I : Nat → Nat → List Nat → List Bool → Prop} (hI : BIn M r0 tw I) :
    Calls Faag.prog 32 #[.pointer (some ⟨p, 0, none⟩)] w fun e w' => e = .returned (.bool r0) ∧ Below w.heap.size w w' := by
  obtain ⟨⟨r1, r2⟩, hn5, hsh, _⟩ := hpre
  obtain ⟨rt, hrt⟩ : ∃ rt : Nat, M.root = (rt : Int) := ⟨M.root.toNat, by omega⟩
  rw [hrt] at r2
  have f1 := m.f1.1
  rw [hrt] at f1
  obtain ⟨n, hn⟩ : ∃ n, n = M.N.length := ⟨_, rfl⟩
  rw [← hn] at r2 hn5
  have hrtn : rt < n := by omega
  have HM0 := hide m
  have HI := hide hI
  have HSh := hide hsh
  have HN := hide hn
  have HRt := hide hrt
  have hplt := m.lt
  have hnpos : 0 < M.N.length := by omega
  obtain ⟨gg, gc, hgg⟩ := own_form m.nodes hnpos
  have HGG := hide hgg
  clear m hI hsh hn hrt r1 r2 hr hgg hnpos
  go_enter Faag.func32, Faag.ntmps32
  have HA0 := hide (arrs0 w)
  have hrt5 : rt < 512 := by omega
  go_wp2_with (first | refine wpList_alloc119 rfl rfl ?_ | (refine wpList_alloc120 rfl rfl ?_; generalize (w.alloc (Obj.cells Z119.toArray 119)).alloc (Obj.cells Z120.toArray 120) = w2 at *; obtain ⟨a1, a2⟩ := HA0.out.1.dc hrt5; have f1' := (HM0.out.below HA0.out.2.1).f1.1; rw [HRt.out] at f1'))
  have HA1 := hide (show Arrs (w2.setCell ⟨w.heap.size, rt, none⟩ (.int .u8 ((1 : Nat) : Int))) w.heap.size (w.heap.size + 1) ((List.replicate 512 0).set rt 1) (List.replicate 512 false) ∧ Below w.heap.size w (w2.setCell ⟨w.heap.size, rt, none⟩ (.int .u8 ((1 : Nat) : Int))) ∧ HM false (w2.setCell ⟨w.heap.size, rt, none⟩ (.int .u8 ((1 : Nat) : Int))) p h M from by
    have b2 : Below w.heap.size w (w2.setCell ⟨w.heap.size, rt, none⟩ (.int .u8 ((1 : Nat) : Int))) := HA0.out.2.1.trans ((keeps_set w2 w.heap.size rt _).below HA0.out.2.1.size (fun y hy e => by omega))
    exact ⟨HA0.out.1.putD (by omega) hrt5, b2, HM0.out.below b2⟩)
  rw [show ((1 : Nat) : Int) = 1 from rfl] at HA1
  clear a1 a2 f1' f1 HA0
  generalize w2.setCell ⟨w.heap.size, rt, none⟩ (.int .u8 1) = w3 at *
  obtain ⟨D, hD⟩ : ∃ D, D = w.heap.size := ⟨_, rfl⟩
  rw [← hD] at HA1 ⊢
  have hDw : w.heap.size ≤ D := by omega
  have HNb := hide (show ∀ k, mblk p h M.N.length k → k < D from fun k hk => by rw [hD]; exact HM0.out.blk_lt hk)
  have hpD : p < D := by rw [hD]; exact hplt
  clear hD hplt
  have HDw := hide hDw
  go_loopw [5, 6] (fun a q wr => ∃ (wd i : Nat) (dA : List Nat) (eA : List Bool), a = .int .i64 (wd : Nat) ∧ q = .int .i64 (i : Nat) ∧ i ≤ n ∧ wd ≤ 100000 ∧ Hid (I i wd dA eA ∧ Arrs wr D (D + 1) dA eA ∧ Below w.heap.size w wr ∧ HM false wr p h M)) (fun _ q _ => 65536 - (intOf q).toNat)
  case atStart => exact ⟨1, rt, _, _, rfl, rfl, by omega, by omega, hide ⟨HI.out.start rt HRt.out, HA1.out.1, HA1.out.2.1.mono hDw, HA1.out.2.2⟩⟩
  case round =>
    obtain ⟨wd, i, dA, eA, rfl, rfl, hi, hwd, H⟩ := hrel
    clear HA1
    have f0 := H.out.2.2.2.f0.1
    rw [HGG.out, ← HN.out] at f0
    by_cases hgo : i < n
    · have hiN : i < M.N.length := by rw [← HN.out]; exact hgo
      have hi5 : i < 512 := by omega
      obtain ⟨q1, q2, q3, q4⟩ := H.out
      have hd := (q2.dc hi5).1
      have he := (q2.ec hi5).1
      have hdl := (HI.out.len _ _ _ _ q1).2.2.2 i
      obtain ⟨da, ka, dc, kc, nd⟩ := q4.ndAt hiN HGG.out
      obtain ⟨dv, hdv⟩ : ∃ dv, dv = dA.getD i 0 := ⟨_, rfl⟩
      obtain ⟨ev, hev⟩ : ∃ ev, ev = eA.getD i false := ⟨_, rfl⟩
      rw [← hdv] at hd hdl
      rw [← hev] at he
      by_cases hdz : dv = 0
      · have HS := hide (HI.out.skip _ _ _ _ q1 hiN (by rw [← hdv]; exact hdz))
        subst hdz
        clear q1 q2 q3 q4 nd hev hdv he
        go_wp2_with fail
        go_roundw
        case rel => exact ⟨wd, i + 1, dA, eA, rfl, by go_num, by omega, hwd, hide ⟨HS.out, H.out.2⟩⟩
        case measure => simp [intOf]; omega
      · have hdz' : ((dv : Int) == 0) = false := by simp; omega
        have HDv := hide hdv
        have HEv := hide hev
        have HGo := hide (fun wd' (hw : wd' ≤ wd + (if ev then 0 else tw i)) => HI.out.go i wd wd' dA eA q1 hiN (by rw [← hdv]; exact hdz) (by rw [← hev]; exact hw))
        have HWd := hide (fun (he0 : ev = false) => HI.out.wds i wd dA eA q1 hiN (by rw [← hdv]; exact hdz) (by rw [← hev]; exact he0))
        have HShi := hide (HSh.out i hiN)
        have HAr := hide q2
        have HM2 := hide q4
        have HB2 := hide q3
        have hwrD : D ≤ wr.heap.size := Nat.le_of_lt (q2.d.lt (by simp [cellsK, q2.dl]))
        clear q1 q2 q3 q4 nd hev hdv hdz H
        cases ev
        · obtain ⟨D0, Q0, hb1, hb2, hb3⟩ := HWd.out rfl
          have HTw := hide (twords_calls HM2.out HGG.out hiN D0 Q0 (shaped_codes HShi.out) hb3)
          clear hb3
          go_wp2_with fail
          refine HTw.out.mono ?_
          rintro e w4 ⟨⟨a, rfl, ha⟩, b4⟩
          have HAr4 := hide (HAr.out.below b4)
          have HM4 := hide (HM2.out.below b4)
          have HB4 := hide (HB2.out.trans (b4.mono HB2.out.size))
          have hw4D : D ≤ w4.heap.size := Nat.le_trans hwrD b4.size
          obtain ⟨wx, hwxe, hwxl2⟩ : ∃ wx, wx = wd + a ∧ wx ≤ 200000 := ⟨_, rfl, by omega⟩
          have hwx : wx ≤ wd + (if false = true then 0 else tw i) := by rw [if_neg (by decide)]; omega
          have hwxi : (wd : Int) + (a : Int) = (wx : Int) := by omega
          clear b4 HTw HAr HM2 HB2 hd he f0 hwxe hb1
          have hcs : ((M.nd i).kind = 2 ∧ (M.nd i).code = 7 ∧ (((M.nd i).kind : Int) == 2) = true ∧ (((M.nd i).code : Int) == 7) = true) ∨ (¬ ((M.nd i).kind = 2 ∧ (M.nd i).code = 7) ∧ (((((M.nd i).kind : Int) == 2) = false) ∨ (((((M.nd i).kind : Int) == 2) = true) ∧ ((((M.nd i).code : Int) == 7) = false)))) := by
            by_cases hk2 : (M.nd i).kind = 2
            · by_cases hc7 : (M.nd i).code = 7
              · exact .inl ⟨hk2, hc7, by simp; omega, by simp; omega⟩
              · exact .inr ⟨fun h => hc7 h.2, .inr ⟨by simp; omega, by simp; omega⟩⟩
            · exact .inr ⟨fun h => hk2 h.1, .inl (by simp; omega)⟩
          have HCs := hide hcs
          clear hcs
          obtain ⟨da, ka0, dc, kc0, nd⟩ := HM4.out.ndAt hiN HGG.out
          have c0 := nd.c0
          have c1 := nd.c1
          obtain ⟨gg', gc', hgg', hcells⟩ := HM4.out.node hiN
          rw [HGG.out] at hgg'
          cases hgg'
          obtain ⟨ka, kc, hka⟩ := HM4.out.nk_ hiN
          have c3 := (hcells 3 _ rfl).1
          rw [hka] at c3
          have HKA := hide hka
          have hkl := (nd_dl HM4.out i).2
          obtain ⟨kl, hkl2⟩ : ∃ kl, kl = (M.nd i).kids.length := ⟨_, rfl⟩
          rw [← hkl2] at c3 hkl
          have HKl := hide hkl2
          have hd4 := (HAr4.out.dc hi5).1
          rw [← HDv.out] at hd4
          have hko := (HM4.out.ok i).kind
          have hco := (HM4.out.ok i).code
          obtain ⟨knd, hknd⟩ : ∃ knd, knd = (M.nd i).kind := ⟨_, rfl⟩
          obtain ⟨cde, hcde⟩ : ∃ cde, cde = (M.nd i).code := ⟨_, rfl⟩
          rw [← hknd] at c0 hko HCs
          rw [← hcde] at c1 hco HCs
          have HKnd := hide hknd
          have HCde := hide hcde
          clear hknd hcde hcells hka hkl2 nd
          rcases HCs.out with ⟨k2, c7, g1, g2⟩ | ⟨kn2, hg⟩
          · have HIl := hide (show inl (M.nd i) = true from by unfold inl; rw [← HKnd.out, ← HCde.out]; exact decide_eq_true ⟨k2, c7⟩)
            obtain ⟨bb, hbb, hbbl⟩ : ∃ bb, bb = dv ∧ bb ≤ 9 := ⟨dv, rfl, by omega⟩
            have HBel := hide (show bel (M.nd i) dv = bb from by unfold bel; rw [HIl.out, if_pos rfl, hbb])
            subst hbb
            clear k2 c7
            clear HCs
            go_wp2_with fail
            obtain ⟨w5, hw5⟩ : ∃ w5, w5 = w4 := ⟨_, rfl⟩
            rw [← hw5] at HAr4 HM4 HB4 hw4D ⊢
            clear hw5
            go_loopw [74] (fun q wr => ∃ (j : Nat) (dA' : List Nat) (eA' : List Bool), j ≤ kl ∧ q = .int .i64 (j : Nat) ∧ Hid ((dA', eA') = putK bb true ((M.nd i).kids.take j) (dA, eA) ∧ Arrs wr D (D + 1) dA' eA' ∧ Below w.heap.size w wr ∧ HM false wr p h M ∧ (8 < bb → ∀ x, x < j → (M.nd i).kids.getD x 0 = -1))) (fun q _ => 65536 - (intOf q).toNat)
            case atStart => exact ⟨0, dA, eA, by omega, by simp, hide ⟨by simp [putK], HAr4.out, HB4.out, HM4.out, fun _ x hx => by omega⟩⟩
            case round =>
              obtain ⟨j, dA', eA', hj, rfl, H⟩ := hrel
              by_cases hgj : j < kl
              · have hjk : j < (M.nd i).kids.length := by rw [← HKl.out]; exact hgj
                obtain ⟨b, bc, hbe, hc, _⟩ := H.out.2.2.2.1.kcell hiN hjk
                rw [HKA.out] at hbe
                have hbe1 : ka = some ⟨b, 0, none⟩ := by cases hbe; rfl
                subst hbe1
                clear hbe
                have hkr := HShi.out.1 j hjk
                obtain ⟨k, hk⟩ : ∃ k, k = (M.nd i).kids.getD j 0 := ⟨_, rfl⟩
                rw [← hk] at hc hkr
                have htk : (M.nd i).kids.take (j + 1) = (M.nd i).kids.take j ++ [k] := by
                  rw [hk, List.take_add_one, List.getElem?_eq_getElem hjk, List.getD_eq_getElem?_getD, List.getElem?_eq_getElem hjk]; rfl
                have HTk := hide htk
                have HKk := hide hk
                clear htk hk
                by_cases hm1 : k = -1
                · subst hm1
                  have HNx := hide (show (dA', eA') = putK bb true ((M.nd i).kids.take (j + 1)) (dA, eA) ∧ (8 < bb → ∀ x, x < j + 1 → (M.nd i).kids.getD x 0 = -1) from by
                    refine ⟨?_, fun h8 x hx => ?_⟩
                    · rw [HTk.out, putK_append, ← H.out.1]; rfl
                    · by_cases hxj : x = j
                      · subst hxj; exact HKk.out.symm
                      · exact H.out.2.2.2.2 h8 x (by omega))
                  clear hkr
                  go_wp2_with fail
                  go_roundw
                  case rel => exact ⟨j + 1, dA', eA', by omega, by go_num, hide ⟨HNx.out.1, H.out.2.1, H.out.2.2.1, H.out.2.2.2.1, HNx.out.2⟩⟩
                  case measure => simp [intOf]; omega
                · obtain ⟨kn, hkn⟩ : ∃ kn : Nat, k = (kn : Int) := ⟨k.toNat, by omega⟩
                  subst hkn
                  rw [← HN.out] at hkr
                  have hkn5 : kn < 512 := by omega
                  have km1 : ((kn : Int) == -1) = false := by rw [beq_eq_false_iff_ne]; omega
                  by_cases h8 : 8 < bb
                  · have HF := hide (show r0 = false from (HGo.out wx hwx).1 ⟨⟨j, hjk, by rw [← HKk.out]; omega⟩, by rw [← HDv.out, HBel.out]; exact h8⟩)
                    clear hm1 hkr
                    go_wp2_with fail
                    all_goals
                      go_ret
                      exact ⟨by rw [HF.out]; rfl, H.out.2.2.1⟩
                  · have hec := H.out.2.1.ec hkn5
                    have hdc := H.out.2.1.dc hkn5
                    obtain ⟨ec1, ec2⟩ := hec
                    obtain ⟨dc1, dc2⟩ := hdc
                    have HNx := hide (show (dA'.set kn bb, eA'.set kn true) = putK bb true ((M.nd i).kids.take (j + 1)) (dA, eA) ∧ Arrs ((wr.setCell ⟨D + 1, kn, none⟩ (.bool true)).setCell ⟨D, kn, none⟩ (.int .u8 (bb : Int))) D (D + 1) (dA'.set kn bb) (eA'.set kn true) ∧ Below w.heap.size w ((wr.setCell ⟨D + 1, kn, none⟩ (.bool true)).setCell ⟨D, kn, none⟩ (.int .u8 (bb : Int))) ∧ HM false ((wr.setCell ⟨D + 1, kn, none⟩ (.bool true)).setCell ⟨D, kn, none⟩ (.int .u8 (bb : Int))) p h M ∧ (8 < bb → ∀ x, x < j + 1 → (M.nd i).kids.getD x 0 = -1) from by
                      refine ⟨?_, (H.out.2.1.putE (by omega) hkn5).putD (by omega) hkn5, ?_, ?_, fun h => absurd h h8⟩
                      · rw [HTk.out, putK_append, ← H.out.1]
                        show _ = (if (kn : Int) = -1 then (dA', eA') else (dA'.set (kn : Int).toNat bb, eA'.set (kn : Int).toNat true))
                        rw [if_neg hm1, Int.toNat_natCast]
                      · exact (H.out.2.2.1.trans ((keeps_set wr (D + 1) kn _).below H.out.2.2.1.size (fun y hy e => by have := HDw.out; omega))).trans ((keeps_set _ D kn _).below (Nat.le_trans H.out.2.2.1.size (keeps_set wr (D + 1) kn _).size) (fun y hy e => by have := HDw.out; omega))
                      · exact (H.out.2.2.2.1.keeps (keeps_set wr (D + 1) kn _) (fun y hy e => by have := HNb.out y hy; omega)).keeps (keeps_set _ D kn _) (fun y hy e => by have := HNb.out y hy; omega))
                    have hw5 : D + 1 < wr.heap.size := lt_of_cell ec1
                    have hlt8 : ¬ (8 : Int) < (bb : Int) := by omega
                    clear hm1 hkr
                    go_wp2_with fail
                    go_roundw
                    case rel => exact ⟨j + 1, dA'.set kn bb, eA'.set kn true, by omega, by go_num, HNx⟩
                    case measure => simp [intOf]; omega
              · have hje : j = kl := by omega
                have HNx := hide (show I (i + 1) wx dA' eA' ∧ Arrs wr D (D + 1) dA' eA' ∧ Below w.heap.size w wr ∧ HM false wr p h M from by
                  obtain ⟨p1, p2, p3, p4, p5⟩ := H.out
                  refine ⟨?_, p2, p3, p4⟩
                  have := (HGo.out wx hwx).2 (fun hh => by
                    obtain ⟨⟨x, x1, x2⟩, x3⟩ := hh
                    rw [← HDv.out, HBel.out] at x3
                    exact x2 (p5 x3 x (by rw [hje, HKl.out]; exact x1)))
                  rw [← HDv.out, HBel.out, HIl.out] at this
                  rw [hje, HKl.out, List.take_of_length_le (Nat.le_refl _)] at p1
                  rw [← p1] at this
                  exact this)
                have hwxl := (HI.out.len _ _ _ _ HNx.out.1).2.2.1
                clear hje
                go_wp2_with fail
                go_roundw
                case rel => exact ⟨wx, i + 1, dA', eA', by go_num, by go_num, by omega, hwxl, HNx⟩
                case measure => simp [intOf]; omega
          · have HIl := hide (show inl (M.nd i) = false from by unfold inl; rw [← HKnd.out, ← HCde.out]; exact decide_eq_false kn2)
            obtain ⟨bb, hbb, hbbl, hbi⟩ : ∃ bb, bb = dv + 1 ∧ bb ≤ 9 ∧ (dv : Int) + 1 = (bb : Int) := ⟨dv + 1, rfl, by omega, by omega⟩
            have HBel := hide (show bel (M.nd i) dv = bb from by unfold bel; rw [HIl.out, if_neg (by decide), hbb])
            clear kn2 hbb HCs
            rcases hg with g1 | ⟨g1, g2⟩
            all_goals
              go_wp2_with fail
              obtain ⟨w5, hw5⟩ : ∃ w5, w5 = w4 := ⟨_, rfl⟩
              rw [← hw5] at HAr4 HM4 HB4 hw4D ⊢
              clear hw5
              go_loopw [74] (fun q wr => ∃ (j : Nat) (dA' : List Nat) (eA' : List Bool), j ≤ kl ∧ q = .int .i64 (j : Nat) ∧ Hid ((dA', eA') = putK bb false ((M.nd i).kids.take j) (dA, eA) ∧ Arrs wr D (D + 1) dA' eA' ∧ Below w.heap.size w wr ∧ HM false wr p h M ∧ (8 < bb → ∀ x, x < j → (M.nd i).kids.getD x 0 = -1))) (fun q _ => 65536 - (intOf q).toNat)
              case atStart => exact ⟨0, dA, eA, by omega, by simp, hide ⟨by simp [putK], HAr4.out, HB4.out, HM4.out, fun _ x hx => by omega⟩⟩
              case round =>
                obtain ⟨j, dA', eA', hj, rfl, H⟩ := hrel
                by_cases hgj : j < kl
                · have hjk : j < (M.nd i).kids.length := by rw [← HKl.out]; exact hgj
                  obtain ⟨b, bc, hbe, hc, _⟩ := H.out.2.2.2.1.kcell hiN hjk
                  rw [HKA.out] at hbe
                  have hbe1 : ka = some ⟨b, 0, none⟩ := by cases hbe; rfl
                  subst hbe1
                  clear hbe
                  have hkr := HShi.out.1 j hjk
                  obtain ⟨k, hk⟩ : ∃ k, k = (M.nd i).kids.getD j 0 := ⟨_, rfl⟩
                  rw [← hk] at hc hkr
                  have htk : (M.nd i).kids.take (j + 1) = (M.nd i).kids.take j ++ [k] := by
                    rw [hk, List.take_add_one, List.getElem?_eq_getElem hjk, List.getD_eq_getElem?_getD, List.getElem?_eq_getElem hjk]; rfl
                  have HTk := hide htk
                  have HKk := hide hk
                  clear htk hk
                  by_cases hm1 : k = -1
                  · subst hm1
                    have HNx := hide (show (dA', eA') = putK bb false ((M.nd i).kids.take (j + 1)) (dA, eA) ∧ (8 < bb → ∀ x, x < j + 1 → (M.nd i).kids.getD x 0 = -1) from by
                      refine ⟨?_, fun h8 x hx => ?_⟩
                      · rw [HTk.out, putK_append, ← H.out.1]; rfl
                      · by_cases hxj : x = j
                        · subst hxj; exact HKk.out.symm
                        · exact H.out.2.2.2.2 h8 x (by omega))
                    clear hkr
                    go_wp2_with fail
                    go_roundw
                    case rel => exact ⟨j + 1, dA', eA', by omega, by go_num, hide ⟨HNx.out.1, H.out.2.1, H.out.2.2.1, H.out.2.2.2.1, HNx.out.2⟩⟩
                    case measure => simp [intOf]; omega
                  · obtain ⟨kn, hkn⟩ : ∃ kn : Nat, k = (kn : Int) := ⟨k.toNat, by omega⟩
                    subst hkn
                    rw [← HN.out] at hkr
                    have hkn5 : kn < 512 := by omega
                    have km1 : ((kn : Int) == -1) = false := by rw [beq_eq_false_iff_ne]; omega
                    by_cases h8 : 8 < bb
                    · have HF := hide (show r0 = false from (HGo.out wx hwx).1 ⟨⟨j, hjk, by rw [← HKk.out]; omega⟩, by rw [← HDv.out, HBel.out]; exact h8⟩)
                      clear hm1 hkr
                      go_wp2_with fail
                      all_goals
                        go_ret
                        exact ⟨by rw [HF.out]; rfl, H.out.2.2.1⟩
                    · have hec := H.out.2.1.ec hkn5
                      have hdc := H.out.2.1.dc hkn5
                      obtain ⟨ec1, ec2⟩ := hec
                      obtain ⟨dc1, dc2⟩ := hdc
                      have HNx := hide (show (dA'.set kn bb, eA'.set kn false) = putK bb false ((M.nd i).kids.take (j + 1)) (dA, eA) ∧ Arrs ((wr.setCell ⟨D + 1, kn, none⟩ (.bool false)).setCell ⟨D, kn, none⟩ (.int .u8 (bb : Int))) D (D + 1) (dA'.set kn bb) (eA'.set kn false) ∧ Below w.heap.size w ((wr.setCell ⟨D + 1, kn, none⟩ (.bool false)).setCell ⟨D, kn, none⟩ (.int .u8 (bb : Int))) ∧ HM false ((wr.setCell ⟨D + 1, kn, none⟩ (.bool false)).setCell ⟨D, kn, none⟩ (.int .u8 (bb : Int))) p h M ∧ (8 < bb → ∀ x, x < j + 1 → (M.nd i).kids.getD x 0 = -1) from by
                        refine ⟨?_, (H.out.2.1.putE (by omega) hkn5).putD (by omega) hkn5, ?_, ?_, fun h => absurd h h8⟩
                        · rw [HTk.out, putK_append, ← H.out.1]
                          show _ = (if (kn : Int) = -1 then (dA', eA') else (dA'.set (kn : Int).toNat bb, eA'.set (kn : Int).toNat false))
                          rw [if_neg hm1, Int.toNat_natCast]
                        · exact (H.out.2.2.1.trans ((keeps_set wr (D + 1) kn _).below H.out.2.2.1.size (fun y hy e => by have := HDw.out; omega))).trans ((keeps_set _ D kn _).below (Nat.le_trans H.out.2.2.1.size (keeps_set wr (D + 1) kn _).size) (fun y hy e => by have := HDw.out; omega))
                        · exact (H.out.2.2.2.1.keeps (keeps_set wr (D + 1) kn _) (fun y hy e => by have := HNb.out y hy; omega)).keeps (keeps_set _ D kn _) (fun y hy e => by have := HNb.out y hy; omega))
                      have hw5 : D + 1 < wr.heap.size := lt_of_cell ec1
                      have hlt8 : ¬ (8 : Int) < (bb : Int) := by omega
                      clear hm1 hkr
                      go_wp2_with fail
                      go_roundw
                      case rel => exact ⟨j + 1, dA'.set kn bb, eA'.set kn false, by omega, by go_num, HNx⟩
                      case measure => simp [intOf]; omega
                · have hje : j = kl := by omega
                  have HNx := hide (show I (i + 1) wx dA' eA' ∧ Arrs wr D (D + 1) dA' eA' ∧ Below w.heap.size w wr ∧ HM false wr p h M from by
                    obtain ⟨p1, p2, p3, p4, p5⟩ := H.out
                    refine ⟨?_, p2, p3, p4⟩
                    have := (HGo.out wx hwx).2 (fun hh => by
                      obtain ⟨⟨x, x1, x2⟩, x3⟩ := hh
                      rw [← HDv.out, HBel.out] at x3
                      exact x2 (p5 x3 x (by rw [hje, HKl.out]; exact x1)))
                    rw [← HDv.out, HBel.out, HIl.out] at this
                    rw [hje, HKl.out, List.take_of_length_le (Nat.le_refl _)] at p1
                    rw [← p1] at this
                    exact this)
                  have hwxl := (HI.out.len _ _ _ _ HNx.out.1).2.2.1
                  clear hje
                  go_wp2_with fail
                  go_roundw
                  case rel => exact ⟨wx, i + 1, dA', eA', by go_num, by go_num, by omega, hwxl, HNx⟩
                  case measure => simp [intOf]; omega
        · have HAr4 := HAr
          have HM4 := HM2
          have HB4 := HB2
          have hw4D := hwrD
          obtain ⟨wx, hwxe⟩ : ∃ wx, wx = wd := ⟨_, rfl⟩
          have hwx : wx ≤ wd + (if true = true then 0 else tw i) := by rw [if_pos rfl]; omega
          clear HAr HM2 HB2
          subst hwxe
          have hcs : ((M.nd i).kind = 2 ∧ (M.nd i).code = 7 ∧ (((M.nd i).kind : Int) == 2) = true ∧ (((M.nd i).code : Int) == 7) = true) ∨ (¬ ((M.nd i).kind = 2 ∧ (M.nd i).code = 7) ∧ (((((M.nd i).kind : Int) == 2) = false) ∨ (((((M.nd i).kind : Int) == 2) = true) ∧ ((((M.nd i).code : Int) == 7) = false)))) := by
            by_cases hk2 : (M.nd i).kind = 2
            · by_cases hc7 : (M.nd i).code = 7
              · exact .inl ⟨hk2, hc7, by simp; omega, by simp; omega⟩
              · exact .inr ⟨fun h => hc7 h.2, .inr ⟨by simp; omega, by simp; omega⟩⟩
            · exact .inr ⟨fun h => hk2 h.1, .inl (by simp; omega)⟩
          have HCs := hide hcs
          clear hcs
          obtain ⟨da, ka0, dc, kc0, nd⟩ := HM4.out.ndAt hiN HGG.out
          have c0 := nd.c0
          have c1 := nd.c1
          obtain ⟨gg', gc', hgg', hcells⟩ := HM4.out.node hiN
          rw [HGG.out] at hgg'
          cases hgg'
          obtain ⟨ka, kc, hka⟩ := HM4.out.nk_ hiN
          have c3 := (hcells 3 _ rfl).1
          rw [hka] at c3
          have HKA := hide hka
          have hkl := (nd_dl HM4.out i).2
          obtain ⟨kl, hkl2⟩ : ∃ kl, kl = (M.nd i).kids.length := ⟨_, rfl⟩
          rw [← hkl2] at c3 hkl
          have HKl := hide hkl2
          have hd4 := (HAr4.out.dc hi5).1
          rw [← HDv.out] at hd4
          have hko := (HM4.out.ok i).kind
          have hco := (HM4.out.ok i).code
          obtain ⟨knd, hknd⟩ : ∃ knd, knd = (M.nd i).kind := ⟨_, rfl⟩
          obtain ⟨cde, hcde⟩ : ∃ cde, cde = (M.nd i).code := ⟨_, rfl⟩
          rw [← hknd] at c0 hko HCs
          rw [← hcde] at c1 hco HCs
          have HKnd := hide hknd
          have HCde := hide hcde
          clear hknd hcde hcells hka hkl2 nd
          rcases HCs.out with ⟨k2, c7, g1, g2⟩ | ⟨kn2, hg⟩
          · have HIl := hide (show inl (M.nd i) = true from by unfold inl; rw [← HKnd.out, ← HCde.out]; exact decide_eq_true ⟨k2, c7⟩)
            obtain ⟨bb, hbb, hbbl⟩ : ∃ bb, bb = dv ∧ bb ≤ 9 := ⟨dv, rfl, by omega⟩
            have HBel := hide (show bel (M.nd i) dv = bb from by unfold bel; rw [HIl.out, if_pos rfl, hbb])
            subst hbb
            clear k2 c7
            clear HCs
            go_wp2_with fail
            obtain ⟨w5, hw5⟩ : ∃ w5, w5 = wr := ⟨_, rfl⟩
            rw [← hw5] at HAr4 HM4 HB4 hw4D ⊢
            clear hw5
            go_loopw [74] (fun q wr => ∃ (j : Nat) (dA' : List Nat) (eA' : List Bool), j ≤ kl ∧ q = .int .i64 (j : Nat) ∧ Hid ((dA', eA') = putK bb true ((M.nd i).kids.take j) (dA, eA) ∧ Arrs wr D (D + 1) dA' eA' ∧ Below w.heap.size w wr ∧ HM false wr p h M ∧ (8 < bb → ∀ x, x < j → (M.nd i).kids.getD x 0 = -1))) (fun q _ => 65536 - (intOf q).toNat)
            case atStart => exact ⟨0, dA, eA, by omega, by simp, hide ⟨by simp [putK], HAr4.out, HB4.out, HM4.out, fun _ x hx => by omega⟩⟩
            case round =>
              obtain ⟨j, dA', eA', hj, rfl, H⟩ := hrel
              by_cases hgj : j < kl
              · have hjk : j < (M.nd i).kids.length := by rw [← HKl.out]; exact hgj
                obtain ⟨b, bc, hbe, hc, _⟩ := H.out.2.2.2.1.kcell hiN hjk
                rw [HKA.out] at hbe
                have hbe1 : ka = some ⟨b, 0, none⟩ := by cases hbe; rfl
                subst hbe1
                clear hbe
                have hkr := HShi.out.1 j hjk
                obtain ⟨k, hk⟩ : ∃ k, k = (M.nd i).kids.getD j 0 := ⟨_, rfl⟩
                rw [← hk] at hc hkr
                have htk : (M.nd i).kids.take (j + 1) = (M.nd i).kids.take j ++ [k] := by
                  rw [hk, List.take_add_one, List.getElem?_eq_getElem hjk, List.getD_eq_getElem?_getD, List.getElem?_eq_getElem hjk]; rfl
                have HTk := hide htk
                have HKk := hide hk
                clear htk hk
                by_cases hm1 : k = -1
                · subst hm1
                  have HNx := hide (show (dA', eA') = putK bb true ((M.nd i).kids.take (j + 1)) (dA, eA) ∧ (8 < bb → ∀ x, x < j + 1 → (M.nd i).kids.getD x 0 = -1) from by
                    refine ⟨?_, fun h8 x hx => ?_⟩
                    · rw [HTk.out, putK_append, ← H.out.1]; rfl
                    · by_cases hxj : x = j
                      · subst hxj; exact HKk.out.symm
                      · exact H.out.2.2.2.2 h8 x (by omega))
                  clear hkr
                  go_wp2_with fail
                  go_roundw
                  case rel => exact ⟨j + 1, dA', eA', by omega, by go_num, hide ⟨HNx.out.1, H.out.2.1, H.out.2.2.1, H.out.2.2.2.1, HNx.out.2⟩⟩
                  case measure => simp [intOf]; omega
                · obtain ⟨kn, hkn⟩ : ∃ kn : Nat, k = (kn : Int) := ⟨k.toNat, by omega⟩
                  subst hkn
                  rw [← HN.out] at hkr
                  have hkn5 : kn < 512 := by omega
                  have km1 : ((kn : Int) == -1) = false := by rw [beq_eq_false_iff_ne]; omega
                  by_cases h8 : 8 < bb
                  · have HF := hide (show r0 = false from (HGo.out wx hwx).1 ⟨⟨j, hjk, by rw [← HKk.out]; omega⟩, by rw [← HDv.out, HBel.out]; exact h8⟩)
                    clear hm1 hkr
                    go_wp2_with fail
                    all_goals
                      go_ret
                      exact ⟨by rw [HF.out]; rfl, H.out.2.2.1⟩
                  · have hec := H.out.2.1.ec hkn5
                    have hdc := H.out.2.1.dc hkn5
                    obtain ⟨ec1, ec2⟩ := hec
                    obtain ⟨dc1, dc2⟩ := hdc
                    have HNx := hide (show (dA'.set kn bb, eA'.set kn true) = putK bb true ((M.nd i).kids.take (j + 1)) (dA, eA) ∧ Arrs ((wr.setCell ⟨D + 1, kn, none⟩ (.bool true)).setCell ⟨D, kn, none⟩ (.int .u8 (bb : Int))) D (D + 1) (dA'.set kn bb) (eA'.set kn true) ∧ Below w.heap.size w ((wr.setCell ⟨D + 1, kn, none⟩ (.bool true)).setCell ⟨D, kn, none⟩ (.int .u8 (bb : Int))) ∧ HM false ((wr.setCell ⟨D + 1, kn, none⟩ (.bool true)).setCell ⟨D, kn, none⟩ (.int .u8 (bb : Int))) p h M ∧ (8 < bb → ∀ x, x < j + 1 → (M.nd i).kids.getD x 0 = -1) from by
                      refine ⟨?_, (H.out.2.1.putE (by omega) hkn5).putD (by omega) hkn5, ?_, ?_, fun h => absurd h h8⟩
                      · rw [HTk.out, putK_append, ← H.out.1]
                        show _ = (if (kn : Int) = -1 then (dA', eA') else (dA'.set (kn : Int).toNat bb, eA'.set (kn : Int).toNat true))
                        rw [if_neg hm1, Int.toNat_natCast]
                      · exact (H.out.2.2.1.trans ((keeps_set wr (D + 1) kn _).below H.out.2.2.1.size (fun y hy e => by have := HDw.out; omega))).trans ((keeps_set _ D kn _).below (Nat.le_trans H.out.2.2.1.size (keeps_set wr (D + 1) kn _).size) (fun y hy e => by have := HDw.out; omega))
                      · exact (H.out.2.2.2.1.keeps (keeps_set wr (D + 1) kn _) (fun y hy e => by have := HNb.out y hy; omega)).keeps (keeps_set _ D kn _) (fun y hy e => by have := HNb.out y hy; omega))
                    have hw5 : D + 1 < wr.heap.size := lt_of_cell ec1
                    have hlt8 : ¬ (8 : Int) < (bb : Int) := by omega
                    clear hm1 hkr
                    go_wp2_with fail
                    go_roundw
                    case rel => exact ⟨j + 1, dA'.set kn bb, eA'.set kn true, by omega, by go_num, HNx⟩
                    case measure => simp [intOf]; omega
              · have hje : j = kl := by omega
                have HNx := hide (show I (i + 1) wx dA' eA' ∧ Arrs wr D (D + 1) dA' eA' ∧ Below w.heap.size w wr ∧ HM false wr p h M from by
                  obtain ⟨p1, p2, p3, p4, p5⟩ := H.out
                  refine ⟨?_, p2, p3, p4⟩
                  have := (HGo.out wx hwx).2 (fun hh => by
                    obtain ⟨⟨x, x1, x2⟩, x3⟩ := hh
                    rw [← HDv.out, HBel.out] at x3
                    exact x2 (p5 x3 x (by rw [hje, HKl.out]; exact x1)))
                  rw [← HDv.out, HBel.out, HIl.out] at this
                  rw [hje, HKl.out, List.take_of_length_le (Nat.le_refl _)] at p1
                  rw [← p1] at this
                  exact this)
                have hwxl := (HI.out.len _ _ _ _ HNx.out.1).2.2.1
                clear hje
                go_wp2_with fail
                go_roundw
                case rel => exact ⟨wx, i + 1, dA', eA', by go_num, by go_num, by omega, hwxl, HNx⟩
                case measure => simp [intOf]; omega
          · have HIl := hide (show inl (M.nd i) = false from by unfold inl; rw [← HKnd.out, ← HCde.out]; exact decide_eq_false kn2)
            obtain ⟨bb, hbb, hbbl, hbi⟩ : ∃ bb, bb = dv + 1 ∧ bb ≤ 9 ∧ (dv : Int) + 1 = (bb : Int) := ⟨dv + 1, rfl, by omega, by omega⟩
            have HBel := hide (show bel (M.nd i) dv = bb from by unfold bel; rw [HIl.out, if_neg (by decide), hbb])
            clear kn2 hbb HCs
            rcases hg with g1 | ⟨g1, g2⟩
            all_goals
              go_wp2_with fail
              obtain ⟨w5, hw5⟩ : ∃ w5, w5 = wr := ⟨_, rfl⟩
              rw [← hw5] at HAr4 HM4 HB4 hw4D ⊢
              clear hw5
              go_loopw [74] (fun q wr => ∃ (j : Nat) (dA' : List Nat) (eA' : List Bool), j ≤ kl ∧ q = .int .i64 (j : Nat) ∧ Hid ((dA', eA') = putK bb false ((M.nd i).kids.take j) (dA, eA) ∧ Arrs wr D (D + 1) dA' eA' ∧ Below w.heap.size w wr ∧ HM false wr p h M ∧ (8 < bb → ∀ x, x < j → (M.nd i).kids.getD x 0 = -1))) (fun q _ => 65536 - (intOf q).toNat)
              case atStart => exact ⟨0, dA, eA, by omega, by simp, hide ⟨by simp [putK], HAr4.out, HB4.out, HM4.out, fun _ x hx => by omega⟩⟩
              case round =>
                obtain ⟨j, dA', eA', hj, rfl, H⟩ := hrel
                by_cases hgj : j < kl
                · have hjk : j < (M.nd i).kids.length := by rw [← HKl.out]; exact hgj
                  obtain ⟨b, bc, hbe, hc, _⟩ := H.out.2.2.2.1.kcell hiN hjk
                  rw [HKA.out] at hbe
                  have hbe1 : ka = some ⟨b, 0, none⟩ := by cases hbe; rfl
                  subst hbe1
                  clear hbe
                  have hkr := HShi.out.1 j hjk
                  obtain ⟨k, hk⟩ : ∃ k, k = (M.nd i).kids.getD j 0 := ⟨_, rfl⟩
                  rw [← hk] at hc hkr
                  have htk : (M.nd i).kids.take (j + 1) = (M.nd i).kids.take j ++ [k] := by
                    rw [hk, List.take_add_one, List.getElem?_eq_getElem hjk, List.getD_eq_getElem?_getD, List.getElem?_eq_getElem hjk]; rfl
                  have HTk := hide htk
                  have HKk := hide hk
                  clear htk hk
                  by_cases hm1 : k = -1
                  · subst hm1
                    have HNx := hide (show (dA', eA') = putK bb false ((M.nd i).kids.take (j + 1)) (dA, eA) ∧ (8 < bb → ∀ x, x < j + 1 → (M.nd i).kids.getD x 0 = -1) from by
                      refine ⟨?_, fun h8 x hx => ?_⟩
                      · rw [HTk.out, putK_append, ← H.out.1]; rfl
                      · by_cases hxj : x = j
                        · subst hxj; exact HKk.out.symm
                        · exact H.out.2.2.2.2 h8 x (by omega))
                    clear hkr
                    go_wp2_with fail
                    go_roundw
                    case rel => exact ⟨j + 1, dA', eA', by omega, by go_num, hide ⟨HNx.out.1, H.out.2.1, H.out.2.2.1, H.out.2.2.2.1, HNx.out.2⟩⟩
                    case measure => simp [intOf]; omega
                  · obtain ⟨kn, hkn⟩ : ∃ kn : Nat, k = (kn : Int) := ⟨k.toNat, by omega⟩
                    subst hkn
                    rw [← HN.out] at hkr
                    have hkn5 : kn < 512 := by omega
                    have km1 : ((kn : Int) == -1) = false := by rw [beq_eq_false_iff_ne]; omega
                    by_cases h8 : 8 < bb
                    · have HF := hide (show r0 = false from (HGo.out wx hwx).1 ⟨⟨j, hjk, by rw [← HKk.out]; omega⟩, by rw [← HDv.out, HBel.out]; exact h8⟩)
                      clear hm1 hkr
                      go_wp2_with fail
                      all_goals
                        go_ret
                        exact ⟨by rw [HF.out]; rfl, H.out.2.2.1⟩
                    · have hec := H.out.2.1.ec hkn5
                      have hdc := H.out.2.1.dc hkn5
                      obtain ⟨ec1, ec2⟩ := hec
                      obtain ⟨dc1, dc2⟩ := hdc
                      have HNx := hide (show (dA'.set kn bb, eA'.set kn false) = putK bb false ((M.nd i).kids.take (j + 1)) (dA, eA) ∧ Arrs ((wr.setCell ⟨D + 1, kn, none⟩ (.bool false)).setCell ⟨D, kn, none⟩ (.int .u8 (bb : Int))) D (D + 1) (dA'.set kn bb) (eA'.set kn false) ∧ Below w.heap.size w ((wr.setCell ⟨D + 1, kn, none⟩ (.bool false)).setCell ⟨D, kn, none⟩ (.int .u8 (bb : Int))) ∧ HM false ((wr.setCell ⟨D + 1, kn, none⟩ (.bool false)).setCell ⟨D, kn, none⟩ (.int .u8 (bb : Int))) p h M ∧ (8 < bb → ∀ x, x < j + 1 → (M.nd i).kids.getD x 0 = -1) from by
                        refine ⟨?_, (H.out.2.1.putE (by omega) hkn5).putD (by omega) hkn5, ?_, ?_, fun h => absurd h h8⟩
                        · rw [HTk.out, putK_append, ← H.out.1]
                          show _ = (if (kn : Int) = -1 then (dA', eA') else (dA'.set (kn : Int).toNat bb, eA'.set (kn : Int).toNat false))
                          rw [if_neg hm1, Int.toNat_natCast]
                        · exact (H.out.2.2.1.trans ((keeps_set wr (D + 1) kn _).below H.out.2.2.1.size (fun y hy e => by have := HDw.out; omega))).trans ((keeps_set _ D kn _).below (Nat.le_trans H.out.2.2.1.size (keeps_set wr (D + 1) kn _).size) (fun y hy e => by have := HDw.out; omega))
                        · exact (H.out.2.2.2.1.keeps (keeps_set wr (D + 1) kn _) (fun y hy e => by have := HNb.out y hy; omega)).keeps (keeps_set _ D kn _) (fun y hy e => by have := HNb.out y hy; omega))
                      have hw5 : D + 1 < wr.heap.size := lt_of_cell ec1
                      have hlt8 : ¬ (8 : Int) < (bb : Int) := by omega
                      clear hm1 hkr
                      go_wp2_with fail
                      go_roundw
                      case rel => exact ⟨j + 1, dA'.set kn bb, eA'.set kn false, by omega, by go_num, HNx⟩
                      case measure => simp [intOf]; omega
                · have hje : j = kl := by omega
                  have HNx := hide (show I (i + 1) wx dA' eA' ∧ Arrs wr D (D + 1) dA' eA' ∧ Below w.heap.size w wr ∧ HM false wr p h M from by
                    obtain ⟨p1, p2, p3, p4, p5⟩ := H.out
                    refine ⟨?_, p2, p3, p4⟩
                    have := (HGo.out wx hwx).2 (fun hh => by
                      obtain ⟨⟨x, x1, x2⟩, x3⟩ := hh
                      rw [← HDv.out, HBel.out] at x3
                      exact x2 (p5 x3 x (by rw [hje, HKl.out]; exact x1)))
                    rw [← HDv.out, HBel.out, HIl.out] at this
                    rw [hje, HKl.out, List.take_of_length_le (Nat.le_refl _)] at p1
                    rw [← p1] at this
                    exact this)
                  have hwxl := (HI.out.len _ _ _ _ HNx.out.1).2.2.1
                  clear hje
                  go_wp2_with fail
                  go_roundw
                  case rel => exact ⟨wx, i + 1, dA', eA', by go_num, by go_num, by omega, hwxl, HNx⟩
                  case measure => simp [intOf]; omega
    · have HF := hide (HI.out.fin _ _ _ _ H.out.1 (by rw [← HN.out]; omega))
      have HB3 := hide H.out.2.2.1
      clear H
      go_wp2_with fail
      go_ret
      have e : decide ((wd : Int) ≤ 256) = decide (wd ≤ 256) := by rw [decide_eq_decide]; omega
      refine ⟨?_, HB3.out⟩
      show Ending.returned (.bool (decide ((wd : Int) ≤ 256))) = _
      rw [e, HF.out]
end Go.Proofs.YgcfaaGreat
