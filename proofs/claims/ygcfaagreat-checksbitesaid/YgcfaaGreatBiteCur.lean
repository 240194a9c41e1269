import Derived.Test.YgcfaaGreatCurB
namespace Go.Proofs.YgcfaaGreat
open Go.RowKit Bits Bd
set_option linter.unusedVariables false
set_option maxRecDepth 100000
set_option linter.unusedSimpArgs false
attribute [local go_sem] World.cell?_ext World.frozen?_ext

/-- The cells of a row, as copy reads them. -/
theorem Str.list {e : TypeId} {k : IntKind} {lim B0 : Nat} {w : World} {sa : Option Addr} {n c : Nat} (h : Str e k lim B0 w (.slice sa n c) n) : ∃ cs : List Value, cs.length = n ∧ (∀ u ∈ cs, u.oneCell' = true) ∧ (0 < n → ∃ ad, sa = some ad ∧ ∀ j v, cs[j]? = some v → w.cell? (ad.add j) = some v) := by
  obtain ⟨⟨ys, h1, h2, h3⟩, hf⟩ := h
  refine ⟨cellsK k ys, by simp [cellsK, h1], cells_one k ys, fun h0 => ?_⟩
  obtain ⟨g, c', e1⟩ := own_form h3 h0
  cases e1
  exact ⟨_, rfl, fun j v hv => by rw [Addr.add_mid, Nat.zero_add]; exact (own_cell h3 hv).1⟩

/-- A cursor that fails its check. -/
theorem cur_bad {w : World} {b : Nat} {sa oa : Option Addr} {sn sc i on oc : Nat} (hr : RowAt w b 0 [.slice sa sn sc, .int .u16 (i : Int), .slice oa on oc]) (h1 : sn ≤ 10000) (h2 : on ≤ 10000) (h3 : i < 65536) (hbad : ¬ (sn ≤ 4096 ∧ i ≤ sn ∧ on ≤ 256)) :
    Calls Faag.prog 38 #[.pointer (some ⟨b, 0, none⟩)] w fun e w' => e = .returned (.bool false) ∧ Below w.heap.size w w' := by
  have c0 := hr.at_ (i := 0) rfl
  have c1 := hr.at_ (i := 1) rfl
  have c2 := hr.at_ (i := 2) rfl
  rw [Nat.zero_add] at c0 c1 c2
  refine (curCheck_calls b sa oa sn sc i on oc (by omega) (by omega) w c0 c1 c2 h3).mono ?_
  rintro e w' ⟨⟨r, rfl, hr⟩, hb⟩
  have : r = false := by
    cases r
    · rfl
    · exact absurd (hr.1 rfl) hbad
  subst this
  exact ⟨rfl, hb⟩

set_option maxHeartbeats 16000000 in
theorem biteCur_calls (sa : Option Addr) (n c : Nat) (hnc : n ≤ c) (w : World) (hraw : RawAt w sa n) (k : Nat) (hk : k < 3) :
    Calls Faag.prog 12 #[.slice sa n c, .int .i64 k] w fun e w' => e = .returned (.bool true) ∧ Below w.heap.size w w' := by
  have HP := hide (pack_calls sa n c hnc w hraw)
  have hn := hraw.le
  obtain ⟨B0, hB0⟩ : ∃ B0, B0 = w.heap.size := ⟨_, rfl⟩
  rw [← hB0] at HP ⊢
  have hBle : B0 ≤ w.heap.size := by omega
  clear hraw hB0
  go_enter Faag.func12, Faag.ntmps12
  go_wp2_with fail
  refine HP.out.mono ?_
  rintro e w1 ⟨⟨v, m, rfl, s1, hm⟩, b1⟩
  obtain ⟨va, vc, hv, hvc⟩ := s1.form
  subst hv
  have hB1 : B0 ≤ w1.heap.size := Nat.le_trans hBle b1.size
  have HC1 := hide (show CurAt B0 (w1.alloc (.cells #[.slice va m vc, .int .u16 0, .slice none 0 0] 86)) w1.heap.size (.slice va m vc) m 0 (.slice none 0 0) 0 ∧ Below B0 w (w1.alloc (.cells #[.slice va m vc, .int .u16 0, .slice none 0 0] 86)) from by
    refine ⟨⟨RowAt.of_alloc w1 [.slice va m vc, .int .u16 0, .slice none 0 0] 86, s1.alloc _, Str.nil, hB1, fun e => ?_, fun e => (by cases e), fun j hj e => (by cases e), by omega, by omega, by omega⟩, b1.alloc hB1 _⟩
    obtain ⟨ys, _, _, hw⟩ := s1.own
    have := (hw.lt _ e).2
    omega)
  obtain ⟨b, hb⟩ : ∃ b, b = w1.heap.size := ⟨_, rfl⟩
  rw [← hb] at HC1
  have HBB := hide hb
  clear s1 b1 HP hb
  go_wp2_with fail
  rw [← HBB.out]
  obtain ⟨n2, hn2, hn2l⟩ : ∃ n2 : Nat, (n : Int) / 2 = (n2 : Int) ∧ n2 ≤ 128 := ⟨n / 2, by omega, by omega⟩
  rw [hn2]
  generalize w1.alloc (Obj.cells #[Value.slice va m vc, Value.int IntKind.u16 0, Value.slice none 0 0] 86) = w2 at *
  go_loopw [6] (fun q wr => ∃ (j i : Nat) (ov : Value) (on : Nat), q = .int .i64 (j : Nat) ∧ j ≤ 128 ∧ Hid (CurAt B0 wr b (.slice va m vc) m i ov on ∧ Below B0 w wr)) (fun q _ => (intOf q).toNat)
  case atStart => exact ⟨n2, 0, _, 0, rfl, hn2l, HC1⟩
  case round =>
    obtain ⟨j, i, ov, on, rfl, hj, H⟩ := hrel
    clear HC1
    have hwrB : B0 ≤ wr.heap.size := Nat.le_trans hBle H.out.2.size
    have HEnd : Hid (∀ w3, (∃ i ov on, CurAt B0 w3 b (.slice va m vc) m i ov on) → Below B0 w w3 → ∃ i oa on oc, CurAt B0 w3 b (.slice va m vc) m i (.slice oa on oc) on) := hide (by
      rintro w3 ⟨i, ov, on, hc⟩ _
      obtain ⟨oa, oc, e, _⟩ := hc.o.form
      subst e
      exact ⟨i, oa, on, oc, hc⟩)
    by_cases hj0 : 0 < j
    · have HSp := hide (curStep_calls H.out.1 hwrB)
      go_wp2_with fail
      refine HSp.out.mono ?_
      rintro e w3 ⟨⟨r, rfl⟩, hc3, b3⟩
      have H3 := hide (show (∃ i ov on, CurAt B0 w3 b (.slice va m vc) m i ov on) ∧ Below B0 w w3 from ⟨hc3, H.out.2.trans b3⟩)
      clear hc3 b3 HSp
      cases r
      · obtain ⟨i2, oa, on2, oc, hc⟩ := HEnd.out w3 H3.out.1 H3.out.2
        have HC := hide hc
        have hB3 : B0 ≤ w3.heap.size := Nat.le_trans hBle H3.out.2.size
        have HBL := hide H3.out.2
        clear hc HEnd H3 H
        have HCk := hide HC.out.check
        go_wp2_with fail
        refine HCk.out.mono ?_
        rintro e w4 ⟨rfl, b4⟩
        have HC4 := hide (HC.out.below b4)
        have HB4 := hide (HBL.out.trans (b4.mono hB3))
        have hB4 : B0 ≤ w4.heap.size := Nat.le_trans hB3 b4.size
        clear b4 HCk HC HBL
        obtain ⟨k1, k2, k3⟩ := HC4.out.chk
        have hblt := HC4.out.lt
        have hbB := HC4.out.b0
        have c0 := HC4.out.row.at_ (i := 0) rfl
        have c2 := HC4.out.row.at_ (i := 2) rfl
        have l0 := HC4.out.row.live 0 (by simp)
        have l1 := HC4.out.row.live 1 (by simp)
        have l2 := HC4.out.row.live 2 (by simp)
        have c1 := HC4.out.row.at_ (i := 1) rfl
        rw [Nat.zero_add] at c0 c1 c2 l0 l1 l2
        have hk3 : k = 0 ∨ k = 1 ∨ k = 2 := by omega
        rcases hk3 with rfl | rfl | rfl
        · obtain ⟨cs, q1, q2, q3⟩ := HC4.out.s.list
          go_wp2_with (first | (refine wpList_make ty_bytes rfl _ _ rfl .i64 .i64 4097 rfl rfl (by omega) (by omega) ?_; intro w5 o5 b5 s5; have c0' : w5.cell? ⟨b, 0, none⟩ = some (.slice va m vc) := keeps_cellS (Keeps.of_below b5) c0 (by show ¬ w4.heap.size ≤ b; omega)) | fail)
          have hcp := run_copyT (w := w5) ty_bytes 3 w4.heap.size 4097 4097 va m vc cs q1 (by omega) (fun h0 => by
            obtain ⟨ad, e1, e2⟩ := q3 h0
            exact ⟨ad, e1, fun j v hv => keeps_cellS (Keeps.of_below b5) (e2 j v hv) (by have := lt_of_cell (e2 j v hv); show ¬ w4.heap.size ≤ _; omega)⟩) q2 (own_there o5)
          have kc := keeps_setCells w5 w4.heap.size 0 cs
          rw [hcp]
          clear hcp o5
          have r6 := (HC4.out.row.keeps (Keeps.of_below b5) (fun _ h => by have h' : w4.heap.size ≤ b := h; omega)).keeps kc (fun _ h => by omega)
          have b6 : Below B0 w (w5.setCells w4.heap.size 0 cs) := (HB4.out.trans (b5.mono hB4)).trans (kc.below (Nat.le_trans hB4 b5.size) (fun k hk h => by omega))
          clear kc b5
          generalize w5.setCells w4.heap.size 0 cs = w6 at *
          have y0 := r6.at_ (i := 0) rfl
          have y1 := r6.live 0 (by simp)
          rw [Nat.zero_add] at y0 y1
          have HK := hide (show Calls Faag.prog 38 #[.pointer (some ⟨b, 0, none⟩)] (w6.setCell ⟨b, 0, none⟩ (.slice (some ⟨w4.heap.size, 0, none⟩) 4097 4097)) fun e w' => e = .returned (.bool false) ∧ Below B0 w w' from by
            have r7 := r6.set (i := 0) (by simp) (.slice (some ⟨w4.heap.size, 0, none⟩) 4097 4097)
            have b7 := b6.trans ((keeps_set w6 b 0 (.slice (some ⟨w4.heap.size, 0, none⟩) 4097 4097)).below (B := B0) (Nat.le_trans hBle b6.size) (fun k hk h => by omega))
            refine (cur_bad r7 (by omega) (by omega) (by omega) (fun h => by omega)).mono ?_
            rintro e w' ⟨rfl, hb⟩
            exact ⟨rfl, b7.trans (hb.mono (Nat.le_trans hBle b7.size))⟩)
          have hb6 : b < w6.heap.size := lt_of_cell y0
          clear r6 b6 c0 c0' c1 c2 l0 l1 l2
          go_wp2_with fail
          refine HK.out.mono ?_
          rintro e w8 ⟨rfl, b8⟩
          have HB8 := hide b8
          clear b8 HK
          go_wp2_with fail
          go_ret
          exact ⟨rfl, HB8.out⟩
        · have hm1 : (m : Int) + 1 = ((m + 1 : Nat) : Int) := by omega
          obtain ⟨m1, hm1e⟩ : ∃ m1, m1 = m + 1 := ⟨_, rfl⟩
          rw [← hm1e] at hm1
          have HK := hide (show Calls Faag.prog 38 #[.pointer (some ⟨b, 0, none⟩)] (w4.setCell ⟨b, 1, none⟩ (.int .u16 (m1 : Int))) fun e w' => e = .returned (.bool false) ∧ Below B0 w w' from by
            have r7 := HC4.out.row.set (i := 1) (by simp) (.int .u16 (m1 : Int))
            have b7 := HB4.out.trans ((keeps_set w4 b 1 (.int .u16 (m1 : Int))).below (B := B0) hB4 (fun k hk h => by omega))
            refine (cur_bad r7 (by omega) (by omega) (by omega) (fun h => by omega)).mono ?_
            rintro e w' ⟨rfl, hb⟩
            exact ⟨rfl, b7.trans (hb.mono (Nat.le_trans hBle b7.size))⟩)
          have HM1 := hide hm1e
          clear hm1e
          go_wp2_with fail
          refine HK.out.mono ?_
          rintro e w8 ⟨rfl, b8⟩
          have HB8 := hide b8
          clear b8 HK
          go_wp2_with fail
          go_ret
          exact ⟨rfl, HB8.out⟩
        · obtain ⟨cs, q1, q2, q3⟩ := HC4.out.o.list
          go_wp2_with (first | (refine wpList_make ty_words rfl _ _ rfl .i64 .i64 257 rfl rfl (by omega) (by omega) ?_; intro w5 o5 b5 s5; have c2' : w5.cell? ⟨b, 2, none⟩ = some (.slice oa on2 oc) := keeps_cellS (Keeps.of_below b5) c2 (by show ¬ w4.heap.size ≤ b; omega)) | fail)
          have hcp := run_copyT (w := w5) ty_words 3 w4.heap.size 257 257 oa on2 oc cs q1 (by omega) (fun h0 => by
            obtain ⟨ad, e1, e2⟩ := q3 h0
            exact ⟨ad, e1, fun j v hv => keeps_cellS (Keeps.of_below b5) (e2 j v hv) (by have := lt_of_cell (e2 j v hv); show ¬ w4.heap.size ≤ _; omega)⟩) q2 (own_there o5)
          have kc := keeps_setCells w5 w4.heap.size 0 cs
          rw [hcp]
          clear hcp o5
          have r6 := (HC4.out.row.keeps (Keeps.of_below b5) (fun _ h => by have h' : w4.heap.size ≤ b := h; omega)).keeps kc (fun _ h => by omega)
          have b6 : Below B0 w (w5.setCells w4.heap.size 0 cs) := (HB4.out.trans (b5.mono hB4)).trans (kc.below (Nat.le_trans hB4 b5.size) (fun k hk h => by omega))
          clear kc b5
          generalize w5.setCells w4.heap.size 0 cs = w6 at *
          have y0 := r6.at_ (i := 2) rfl
          have y1 := r6.live 2 (by simp)
          rw [Nat.zero_add] at y0 y1
          have HK := hide (show Calls Faag.prog 38 #[.pointer (some ⟨b, 0, none⟩)] (w6.setCell ⟨b, 2, none⟩ (.slice (some ⟨w4.heap.size, 0, none⟩) 257 257)) fun e w' => e = .returned (.bool false) ∧ Below B0 w w' from by
            have r7 := r6.set (i := 2) (by simp) (.slice (some ⟨w4.heap.size, 0, none⟩) 257 257)
            have b7 := b6.trans ((keeps_set w6 b 2 (.slice (some ⟨w4.heap.size, 0, none⟩) 257 257)).below (B := B0) (Nat.le_trans hBle b6.size) (fun k hk h => by omega))
            refine (cur_bad r7 (by omega) (by omega) (by omega) (fun h => by omega)).mono ?_
            rintro e w' ⟨rfl, hb⟩
            exact ⟨rfl, b7.trans (hb.mono (Nat.le_trans hBle b7.size))⟩)
          have hb6 : b < w6.heap.size := lt_of_cell y0
          clear r6 b6 c0 c1 c2 c2' l0 l1 l2
          go_wp2_with fail
          refine HK.out.mono ?_
          rintro e w8 ⟨rfl, b8⟩
          have HB8 := hide b8
          clear b8 HK
          go_wp2_with fail
          go_ret
          exact ⟨rfl, HB8.out⟩
      · obtain ⟨i2, ov2, on2, hc⟩ := H3.out.1
        have HC := hide hc
        clear hc
        go_wp2_with fail
        go_roundw
        case rel => exact ⟨j - 1, i2, ov2, on2, by go_num, by omega, hide ⟨HC.out, H3.out.2⟩⟩
        case measure => simp [intOf]; omega
    · obtain ⟨i2, oa, on2, oc, hc⟩ := HEnd.out wr ⟨i, ov, on, H.out.1⟩ H.out.2
      obtain ⟨w3, hw3⟩ : ∃ w3, w3 = wr := ⟨_, rfl⟩
      rw [← hw3] at hc H hwrB ⊢
      have HC := hide hc
      have hB3 : B0 ≤ w3.heap.size := hwrB
      have HBL := hide H.out.2
      clear hc HEnd H hw3 hwrB
      have HCk := hide HC.out.check
      go_wp2_with fail
      refine HCk.out.mono ?_
      rintro e w4 ⟨rfl, b4⟩
      have HC4 := hide (HC.out.below b4)
      have HB4 := hide (HBL.out.trans (b4.mono hB3))
      have hB4 : B0 ≤ w4.heap.size := Nat.le_trans hB3 b4.size
      clear b4 HCk HC HBL
      obtain ⟨k1, k2, k3⟩ := HC4.out.chk
      have hblt := HC4.out.lt
      have hbB := HC4.out.b0
      have c0 := HC4.out.row.at_ (i := 0) rfl
      have c2 := HC4.out.row.at_ (i := 2) rfl
      have l0 := HC4.out.row.live 0 (by simp)
      have l1 := HC4.out.row.live 1 (by simp)
      have l2 := HC4.out.row.live 2 (by simp)
      have c1 := HC4.out.row.at_ (i := 1) rfl
      rw [Nat.zero_add] at c0 c1 c2 l0 l1 l2
      have hk3 : k = 0 ∨ k = 1 ∨ k = 2 := by omega
      rcases hk3 with rfl | rfl | rfl
      · obtain ⟨cs, q1, q2, q3⟩ := HC4.out.s.list
        go_wp2_with (first | (refine wpList_make ty_bytes rfl _ _ rfl .i64 .i64 4097 rfl rfl (by omega) (by omega) ?_; intro w5 o5 b5 s5; have c0' : w5.cell? ⟨b, 0, none⟩ = some (.slice va m vc) := keeps_cellS (Keeps.of_below b5) c0 (by show ¬ w4.heap.size ≤ b; omega)) | fail)
        have hcp := run_copyT (w := w5) ty_bytes 3 w4.heap.size 4097 4097 va m vc cs q1 (by omega) (fun h0 => by
          obtain ⟨ad, e1, e2⟩ := q3 h0
          exact ⟨ad, e1, fun j v hv => keeps_cellS (Keeps.of_below b5) (e2 j v hv) (by have := lt_of_cell (e2 j v hv); show ¬ w4.heap.size ≤ _; omega)⟩) q2 (own_there o5)
        have kc := keeps_setCells w5 w4.heap.size 0 cs
        rw [hcp]
        clear hcp o5
        have r6 := (HC4.out.row.keeps (Keeps.of_below b5) (fun _ h => by have h' : w4.heap.size ≤ b := h; omega)).keeps kc (fun _ h => by omega)
        have b6 : Below B0 w (w5.setCells w4.heap.size 0 cs) := (HB4.out.trans (b5.mono hB4)).trans (kc.below (Nat.le_trans hB4 b5.size) (fun k hk h => by omega))
        clear kc b5
        generalize w5.setCells w4.heap.size 0 cs = w6 at *
        have y0 := r6.at_ (i := 0) rfl
        have y1 := r6.live 0 (by simp)
        rw [Nat.zero_add] at y0 y1
        have HK := hide (show Calls Faag.prog 38 #[.pointer (some ⟨b, 0, none⟩)] (w6.setCell ⟨b, 0, none⟩ (.slice (some ⟨w4.heap.size, 0, none⟩) 4097 4097)) fun e w' => e = .returned (.bool false) ∧ Below B0 w w' from by
          have r7 := r6.set (i := 0) (by simp) (.slice (some ⟨w4.heap.size, 0, none⟩) 4097 4097)
          have b7 := b6.trans ((keeps_set w6 b 0 (.slice (some ⟨w4.heap.size, 0, none⟩) 4097 4097)).below (B := B0) (Nat.le_trans hBle b6.size) (fun k hk h => by omega))
          refine (cur_bad r7 (by omega) (by omega) (by omega) (fun h => by omega)).mono ?_
          rintro e w' ⟨rfl, hb⟩
          exact ⟨rfl, b7.trans (hb.mono (Nat.le_trans hBle b7.size))⟩)
        have hb6 : b < w6.heap.size := lt_of_cell y0
        clear r6 b6 c0 c0' c1 c2 l0 l1 l2
        go_wp2_with fail
        refine HK.out.mono ?_
        rintro e w8 ⟨rfl, b8⟩
        have HB8 := hide b8
        clear b8 HK
        go_wp2_with fail
        go_ret
        exact ⟨rfl, HB8.out⟩
      · have hm1 : (m : Int) + 1 = ((m + 1 : Nat) : Int) := by omega
        obtain ⟨m1, hm1e⟩ : ∃ m1, m1 = m + 1 := ⟨_, rfl⟩
        rw [← hm1e] at hm1
        have HK := hide (show Calls Faag.prog 38 #[.pointer (some ⟨b, 0, none⟩)] (w4.setCell ⟨b, 1, none⟩ (.int .u16 (m1 : Int))) fun e w' => e = .returned (.bool false) ∧ Below B0 w w' from by
          have r7 := HC4.out.row.set (i := 1) (by simp) (.int .u16 (m1 : Int))
          have b7 := HB4.out.trans ((keeps_set w4 b 1 (.int .u16 (m1 : Int))).below (B := B0) hB4 (fun k hk h => by omega))
          refine (cur_bad r7 (by omega) (by omega) (by omega) (fun h => by omega)).mono ?_
          rintro e w' ⟨rfl, hb⟩
          exact ⟨rfl, b7.trans (hb.mono (Nat.le_trans hBle b7.size))⟩)
        have HM1 := hide hm1e
        clear hm1e
        go_wp2_with fail
        refine HK.out.mono ?_
        rintro e w8 ⟨rfl, b8⟩
        have HB8 := hide b8
        clear b8 HK
        go_wp2_with fail
        go_ret
        exact ⟨rfl, HB8.out⟩
      · obtain ⟨cs, q1, q2, q3⟩ := HC4.out.o.list
        go_wp2_with (first | (refine wpList_make ty_words rfl _ _ rfl .i64 .i64 257 rfl rfl (by omega) (by omega) ?_; intro w5 o5 b5 s5; have c2' : w5.cell? ⟨b, 2, none⟩ = some (.slice oa on2 oc) := keeps_cellS (Keeps.of_below b5) c2 (by show ¬ w4.heap.size ≤ b; omega)) | fail)
        have hcp := run_copyT (w := w5) ty_words 3 w4.heap.size 257 257 oa on2 oc cs q1 (by omega) (fun h0 => by
          obtain ⟨ad, e1, e2⟩ := q3 h0
          exact ⟨ad, e1, fun j v hv => keeps_cellS (Keeps.of_below b5) (e2 j v hv) (by have := lt_of_cell (e2 j v hv); show ¬ w4.heap.size ≤ _; omega)⟩) q2 (own_there o5)
        have kc := keeps_setCells w5 w4.heap.size 0 cs
        rw [hcp]
        clear hcp o5
        have r6 := (HC4.out.row.keeps (Keeps.of_below b5) (fun _ h => by have h' : w4.heap.size ≤ b := h; omega)).keeps kc (fun _ h => by omega)
        have b6 : Below B0 w (w5.setCells w4.heap.size 0 cs) := (HB4.out.trans (b5.mono hB4)).trans (kc.below (Nat.le_trans hB4 b5.size) (fun k hk h => by omega))
        clear kc b5
        generalize w5.setCells w4.heap.size 0 cs = w6 at *
        have y0 := r6.at_ (i := 2) rfl
        have y1 := r6.live 2 (by simp)
        rw [Nat.zero_add] at y0 y1
        have HK := hide (show Calls Faag.prog 38 #[.pointer (some ⟨b, 0, none⟩)] (w6.setCell ⟨b, 2, none⟩ (.slice (some ⟨w4.heap.size, 0, none⟩) 257 257)) fun e w' => e = .returned (.bool false) ∧ Below B0 w w' from by
          have r7 := r6.set (i := 2) (by simp) (.slice (some ⟨w4.heap.size, 0, none⟩) 257 257)
          have b7 := b6.trans ((keeps_set w6 b 2 (.slice (some ⟨w4.heap.size, 0, none⟩) 257 257)).below (B := B0) (Nat.le_trans hBle b6.size) (fun k hk h => by omega))
          refine (cur_bad r7 (by omega) (by omega) (by omega) (fun h => by omega)).mono ?_
          rintro e w' ⟨rfl, hb⟩
          exact ⟨rfl, b7.trans (hb.mono (Nat.le_trans hBle b7.size))⟩)
        have hb6 : b < w6.heap.size := lt_of_cell y0
        clear r6 b6 c0 c1 c2 c2' l0 l1 l2
        go_wp2_with fail
        refine HK.out.mono ?_
        rintro e w8 ⟨rfl, b8⟩
        have HB8 := hide b8
        clear b8 HK
        go_wp2_with fail
        go_ret
        exact ⟨rfl, HB8.out⟩
end Go.Proofs.YgcfaaGreat
