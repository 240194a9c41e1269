import Derived.Test.YgcfaaGreatMoPush
namespace Go.Proofs.YgcfaaGreat
open Go.RowKit Bits Bd
set_option linter.unusedVariables false
set_option maxRecDepth 100000
set_option linter.unusedSimpArgs false
attribute [local go_sem] World.cell?_ext World.frozen?_ext

theorem chN_ok (n i : Nat) (hn : n + i < 1000) : (chN n i).Ok := by
  refine ⟨by show (1:Nat) < 256; decide, by show (0:Nat) < 256; decide, fun d hd => (by cases hd), fun k hk => ?_, by show (0:Nat) ≤ 1000; decide, by show (1:Nat) ≤ 1000; decide⟩
  have : k = if i = 9 then -1 else ((n + i + 1 : Nat) : Int) := by
    rcases List.mem_cons.1 hk with e | e
    · exact e
    · cases e
  rw [this]
  split <;> omega

set_option maxHeartbeats 16000000 in
theorem orphan_calls {w : World} {p : Nat} {h : Nat → Value} {M : Mo} (m : HM false w p h M) {n0 : Nat} {own : Nat → Nat × Nat} {dp wd : Nat → Nat} {nm : Nat → Bool} (t : InvT M n0 own dp wd nm) (hn0 : n0 = M.N.length) :
    Calls Faag.prog 33 #[.pointer (some ⟨p, 0, none⟩)] w fun e w' => e = .returned (.bool true) ∧ Keeps (mblk p h M.N.length) w w' := by
  obtain ⟨na, nc, hg⟩ := m.n0
  have f0 := m.f0.1
  rw [hg] at f0
  have hnn := t.n5.1
  obtain ⟨n, hn⟩ : ∃ n, n = M.N.length := ⟨_, rfl⟩
  rw [← hn] at f0 hnn
  have HM0 := hide m
  have HT := hide t
  have HN := hide hn
  clear m t hn hg
  by_cases hbig : n + 10 ≤ 512
  · go_enter Faag.func33, Faag.ntmps33
    go_wp2_with fail
    go_loopw [17] (fun q wr => ∃ a : Nat, a ≤ 10 ∧ q = .int .i16 (a : Nat) ∧ Hid (∃ h', HM false wr p h' (M.ch a) ∧ Stp p w h M.N.length wr h' (M.N.length + a))) (fun q _ => 65536 - (intOf q).toNat)
    case atStart => exact ⟨0, by omega, by simp, hide ⟨h, by rw [show M.ch 0 = M by unfold Mo.ch chL; rw [List.append_nil]]; exact HM0.out, Stp.refl _ _ _ _⟩⟩
    case round =>
      obtain ⟨a, ha, rfl, H⟩ := hrel
      clear f0
      by_cases hga : a < 10
      · obtain ⟨h', m', s'⟩ := H.out
        obtain ⟨na', nc', hg'⟩ := m'.n0
        have f0' := m'.f0
        rw [hg', ch_len, ← HN.out] at f0'
        obtain ⟨f0', f0f⟩ := f0'
        have hpl : p < wr.heap.size := lt_of_cell f0'
        obtain ⟨kd, hkd⟩ : ∃ kd : Int, kd = if a = 9 then -1 else ((n + a + 1 : Nat) : Int) := ⟨_, rfl⟩
        have HMr := hide m'
        have HS := hide s'
        have HG := hide hg'
        have HKD := hide hkd
        clear m' s' hg' H hkd
        by_cases h9 : a = 9
        · subst h9
          have HCC := hide (show ∀ j u, [Value.int .u8 ((1 : Nat) : Int), .int .u8 ((0 : Nat) : Int), .slice none 0 0, .slice (some ⟨wr.heap.size, 0, none⟩) 1 1][j]? = some u → ((wr.alloc (.cells #[Value.int .i16 (-1)] 40)).alloc (.cells #[Value.int .u8 1, .int .u8 0, .slice none 0 0, .slice (some ⟨wr.heap.size, 0, none⟩) 1 1] 76)).cell? (Addr.add ⟨wr.heap.size + 1, 0, none⟩ j) = some u from fun j u hu => by
            have := lit_cells (wr.alloc (.cells #[Value.int .i16 (-1)] 40)) 76 _ j u hu
            rw [World.size_alloc] at this
            exact this)
          go_wp2_with (refine wpList_appN (M := M.ch 9) (h := h') (w := wr) (p := p) (full := false) ?_ ?_ ⟨1, 0, [], [(-1)]⟩ (.slice none 0 0) (.slice (some ⟨wr.heap.size, 0, none⟩) 1 1) ?_ ?_ ?_ ?_ ?_ ?_ ?_ rfl _ _ rfl (.slice na' (n + 9) nc') ?_ rfl ⟨wr.heap.size + 1, 0, none⟩ rfl (fun j u hu => HCC.out j u hu) ?_)
          · exact HMr.out
          · exact (Below.alloc (Below.alloc (Below.refl _ _) (Nat.le_refl _) _) (by rw [World.size_alloc]; omega) _)
          · exact World.ownsRow_nil _ _ _ _
          · refine World.ownsRow.alloc ?_ _
            exact own_lit wr 40 _
          · intro j hj; cases hj
          · intro j hj
            have hj' : wr.heap.size = j := by simpa [Value.ownBlock] using hj
            omega
          · intro j hj; cases hj
          · exact (by have := chN_ok n 9 (by omega); exact this)
          · rw [ch_len, ← HN.out]; omega
          · exact (show h' 0 = _ from HG.out).trans (by rw [ch_len, ← HN.out])
          · intro va vc W1 m1 s1 c1 f1 k1
            rw [ch_len, ← HN.out] at m1 s1
            have HE := hide (show ∃ h'', HM false (W1.setCell ⟨p, 0, none⟩ (.slice va (n + 9 + 1) vc)) p h'' (M.ch (9 + 1)) ∧ Stp p w h M.N.length (W1.setCell ⟨p, 0, none⟩ (.slice va (n + 9 + 1) vc)) h'' (M.N.length + (9 + 1)) from by
              refine ⟨hPush h' (n + 9) (.slice va (n + 9 + 1) vc) (.slice none 0 0) (.slice (some ⟨wr.heap.size, 0, none⟩) 1 1), ?_, HS.out.trans ?_⟩
              · rw [ch_succ, show chN M.N.length 9 = ⟨1, 0, [], [(-1)]⟩ by rfl]; exact m1
              · rw [show M.N.length + 9 = n + 9 by rw [HN.out], show M.N.length + (9 + 1) = n + 9 + 1 by have := HN.out; omega]; exact s1)
            clear m1 s1 k1
            rw [ch_len, ← HN.out]
            go_wp2_with fail
            go_roundw
            case rel => exact ⟨9 + 1, by omega, by go_num, HE⟩
            case measure => all_goals (simp [intOf]; try omega)
        · have h9' : ((a : Int) == 9) = false := by simp; omega
          have HCC := hide (show ∀ j u, [Value.int .u8 ((1 : Nat) : Int), .int .u8 ((0 : Nat) : Int), .slice none 0 0, .slice (some ⟨wr.heap.size, 0, none⟩) 1 1][j]? = some u → ((wr.alloc (.cells #[Value.int .i16 (n + a + 1 : Int)] 40)).alloc (.cells #[Value.int .u8 1, .int .u8 0, .slice none 0 0, .slice (some ⟨wr.heap.size, 0, none⟩) 1 1] 76)).cell? (Addr.add ⟨wr.heap.size + 1, 0, none⟩ j) = some u from fun j u hu => by
            have := lit_cells (wr.alloc (.cells #[Value.int .i16 (n + a + 1 : Int)] 40)) 76 _ j u hu
            rw [World.size_alloc] at this
            exact this)
          go_wp2_with (refine wpList_appN (M := M.ch a) (h := h') (w := wr) (p := p) (full := false) ?_ ?_ ⟨1, 0, [], [(n + a + 1 : Int)]⟩ (.slice none 0 0) (.slice (some ⟨wr.heap.size, 0, none⟩) 1 1) ?_ ?_ ?_ ?_ ?_ ?_ ?_ rfl _ _ rfl (.slice na' (n + a) nc') ?_ rfl ⟨wr.heap.size + 1, 0, none⟩ rfl (fun j u hu => HCC.out j u hu) ?_)
          · exact HMr.out
          · exact (Below.alloc (Below.alloc (Below.refl _ _) (Nat.le_refl _) _) (by rw [World.size_alloc]; omega) _)
          · exact World.ownsRow_nil _ _ _ _
          · refine World.ownsRow.alloc ?_ _
            exact own_lit wr 40 _
          · intro j hj; cases hj
          · intro j hj
            have hj' : wr.heap.size = j := by simpa [Value.ownBlock] using hj
            omega
          · intro j hj; cases hj
          · exact (by have := chN_ok n a (by omega); rw [chN, if_neg h9, show ((n + a + 1 : Nat) : Int) = (n + a + 1 : Int) by omega] at this; exact this)
          · rw [ch_len, ← HN.out]; omega
          · exact (show h' 0 = _ from HG.out).trans (by rw [ch_len, ← HN.out])
          · intro va vc W1 m1 s1 c1 f1 k1
            rw [ch_len, ← HN.out] at m1 s1
            have HE := hide (show ∃ h'', HM false (W1.setCell ⟨p, 0, none⟩ (.slice va (n + a + 1) vc)) p h'' (M.ch (a + 1)) ∧ Stp p w h M.N.length (W1.setCell ⟨p, 0, none⟩ (.slice va (n + a + 1) vc)) h'' (M.N.length + (a + 1)) from by
              refine ⟨hPush h' (n + a) (.slice va (n + a + 1) vc) (.slice none 0 0) (.slice (some ⟨wr.heap.size, 0, none⟩) 1 1), ?_, HS.out.trans ?_⟩
              · rw [ch_succ, show chN M.N.length a = ⟨1, 0, [], [(n + a + 1 : Int)]⟩ by rw [chN, if_neg h9, ← HN.out]; congr 2]; exact m1
              · rw [show M.N.length + a = n + a by rw [HN.out], show M.N.length + (a + 1) = n + a + 1 by have := HN.out; omega]; exact s1)
            clear m1 s1 k1
            rw [ch_len, ← HN.out]
            go_wp2_with fail
            go_roundw
            case rel => exact ⟨a + 1, by omega, by go_num, HE⟩
            case measure => all_goals (simp [intOf]; try omega)
      · have ha10 : a = 10 := by omega
        subst ha10
        obtain ⟨h', m', s'⟩ := H.out
        have hlen : M.N.length + 10 ≤ 512 := by rw [← HN.out]; exact hbig
        have HC1 := hide (tcheck_yes m' (inv_chain HT.out hlen hn0 (.inl rfl)))
        have HMr := hide m'
        have HS := hide s'
        clear m' s' H hga
        go_wp2_with fail
        refine HC1.out.mono ?_
        rintro e w2 ⟨rfl, b2⟩
        have hnl : M.N.length < (M.ch 10).N.length := by rw [ch_len]; omega
        have hk1 : ((M.ch 10).nd M.N.length).kids.length = 1 := by
          have := ch_new (M := M) (t := 10) (i := 0) (by omega); rw [Nat.add_zero] at this; rw [this]; rfl
        have hm2 := HMr.out.below b2
        obtain ⟨g, gc, hg, hcells⟩ := hm2.node hnl
        obtain ⟨kb, kc, hkb, hkc, hkf⟩ := hm2.kcell hnl (j := 0) (by omega)
        have c3 := (hcells 3 _ rfl).1
        rw [hkb, hk1] at c3
        have f0' := hm2.f0.1
        rw [hg, ch_len] at f0'
        have hm3 := hm2.setKid hnl (j := 0) (by omega) hkb (v := -1) (by omega)
        have HM3 := hide (show HM false (w2.setCell ⟨kb, 0, none⟩ (.int .i16 (-1))) p h' ((M.ch 10).setK M.N.length 0 (-1)) from hm3)
        have hmb : mblk p h' (M.N.length + 10) kb := .inr ⟨2 * M.N.length + 3, by omega, by rw [hkb]; rfl⟩
        have HS2 := hide (HS.out.trans (Stp.below b2))
        have HS3 := hide (HS2.out.trans (Stp.keep ((Keeps.refl _ w2).setCell (p := ⟨kb, 0, none⟩) (fun _ => hmb) (.int .i16 (-1)))))
        rw [← HN.out] at c3 f0'
        have hkl : kb < w2.heap.size := lt_of_cell hkc
        clear hm3 hm2 hcells hg hkb hmb b2 HC1 HMr HS hk1 hnl
        have HC3 := hide (tcheck_yes HM3.out (inv_chain HT.out hlen hn0 (.inr rfl)))
        go_wp2_with fail
        refine HC3.out.mono ?_
        rintro e w4 ⟨rfl, b4⟩
        have hm4 := HM3.out.below b4
        have f1 := hm4.f1
        have hm5 := hm4.setRoot (r := ((M.N.length + 1 : Nat) : Int)) (by omega)
        have HM5 := hide (show HM false (w4.setCell ⟨p, 1, none⟩ (.int .i16 ((M.N.length + 1 : Nat) : Int))) p h' M.cut from hm5)
        have HS4 := hide (HS3.out.trans (Stp.below b4))
        have HS5 := hide (HS4.out.trans (Stp.keep ((Keeps.refl _ w4).setCell (p := ⟨p, 1, none⟩) (fun _ => .inl rfl) (.int .i16 ((M.N.length + 1 : Nat) : Int)))))
        have HC5 := hide (cut_no HM5.out HT.out hlen hn0)
        rw [← HN.out, Int.natCast_add, Int.natCast_one] at HC5
        rw [← HN.out, Int.natCast_add, Int.natCast_one] at HS5
        have hpl : p < w4.heap.size := lt_of_cell f1.1
        obtain ⟨f1a, f1b⟩ := f1
        clear hm4 hm5 b4 HC3 HM3 HM5 HS4 hkc hkf c3 f0'
        go_wp2_with fail
        refine HC5.out.mono ?_
        rintro e w6 ⟨rfl, b6⟩
        have HB6 := hide b6
        clear b6 HC5
        go_wp2_with fail
        go_ret
        exact ⟨rfl, by rw [← HN.out]; exact (HS5.out.trans (Stp.below HB6.out)).kp⟩
  · go_enter Faag.func33, Faag.ntmps33
    go_wp2_with fail
    go_ret
    exact ⟨rfl, Keeps.refl _ _⟩
end Go.Proofs.YgcfaaGreat
