import Derived.Test.YgcfaaGreatHang
namespace Go.Proofs.YgcfaaGreat
open Go.RowKit Bits Bd
set_option linter.unusedVariables false
set_option maxRecDepth 100000
set_option linter.unusedSimpArgs false
attribute [local go_sem] World.cell?_ext World.frozen?_ext

theorem markGo_add (on : Bool) : ∀ (k m i : Nat) (s : List Nat), i + k ≤ 256 → markGo on (k + m) i s = markGo on m (i + k) (markGo on k i s)
  | 0, m, i, s, h => by rw [Nat.zero_add]; rfl
  | k + 1, m, i, s, h => by
    rw [show k + 1 + m = (k + m) + 1 by omega]
    simp only [markGo]
    rw [if_pos (by omega : i < 256), if_pos (by omega : i < 256), markGo_add on k m (i + 1) _ (by omega), show i + 1 + k = i + (k + 1) by omega]
theorem markGo_end (on : Bool) (k i : Nat) (s : List Nat) (h : 256 ≤ i) : markGo on k i s = s := by
  cases k with
  | zero => rfl
  | succ k => simp only [markGo]; rw [if_neg (by omega)]

set_option maxHeartbeats 8000000 in
theorem markSlots_calls (a n : Nat) (ha : a < 65536) (hn : n < 65536) (on : Bool) {w : World} {p : Nat} {h : Nat → Value} {B : Bld} (hb : HB w p h B) :
    Calls Faag.prog 61 #[.pointer (some ⟨p, 1, none⟩), .int .u16 a, .int .u16 n, .bool on] w fun e w' => RetN e ∧ HB w' p h (markB B a n on) ∧ Mv p h h w w' := by
  obtain ⟨E, hE⟩ : ∃ E, E = (a + n) % 65536 := ⟨_, rfl⟩
  have hwr : IntKind.u16.wrap ((a : Int) + n) = (E : Nat) := by rw [IntKind.wrap_u16]; omega
  have hEl : E < 65536 := by omega
  have HB0 := hide hb
  have hmk : markB B a n on = { B with slot := markGo on (E - a) a B.slot } := by unfold markB; rw [← hE]
  rw [hmk]
  clear hb hE hmk
  go_enter Faag.func61, Faag.ntmps61
  go_wp2_with fail
  go_loopw [8] (fun q wr => ∃ k : Nat, (k = 0 ∨ (a + k ≤ E ∧ a + k ≤ 256)) ∧ q = .int .u16 (a + k : Nat) ∧ Hid (HB wr p h { B with slot := markGo on k a B.slot } ∧ Mv p h h w wr)) (fun q _ => 65536 - (intOf q).toNat)
  case atStart => exact ⟨0, .inl rfl, by simp, hide ⟨HB0.out, Mv.refl _ _ _⟩⟩
  case round =>
    obtain ⟨k, hk, rfl, H1⟩ := hrel
    by_cases hgo : a + k < E ∧ a + k < 256
    · obtain ⟨g1, g2⟩ := hgo
      obtain ⟨hb1, mv1⟩ := H1.out
      obtain ⟨j, hj⟩ : ∃ j, j = (a + k) / 64 := ⟨_, rfl⟩
      have hj4 : j < 4 := by omega
      obtain ⟨c1, c2⟩ := hb1.slotCell hj4
      have q1 := u16_quo ((a : Int) + k) 64 (by omega) (by omega) (by omega)
      obtain ⟨s, hs⟩ : ∃ s, s = (markGo on k a B.slot).getD j 0 := ⟨_, rfl⟩
      have hsl : s < 18446744073709551616 := by rw [hs]; exact hb1.ok.slot j
      dsimp only at c1
      rw [← hs] at c1
      have hjI : ((a : Int) + k) / 64 = (j : Int) := by omega
      rw [hjI] at q1
      have hmI : ((a : Int) + k) % 64 = (((a + k) % 64 : Nat) : Int) := by omega
      obtain ⟨m, hm⟩ : ∃ m, m = (a + k) % 64 := ⟨_, rfl⟩
      rw [← hm] at hmI
      have hm64 : m < 64 := by omega
      obtain ⟨V, hV⟩ : ∃ V : Nat, V = (if on then 1 else 0) := ⟨_, rfl⟩
      have hVl : V < 2 := by rw [hV]; split <;> omega
      obtain ⟨r, hr⟩ : ∃ r, r = putN s V m 1 := ⟨_, rfl⟩
      have hput : Hid (∀ W, Calls Faag.prog 87 #[.int .u64 s, .int .u64 V, .int .u8 m, .int .u8 1] W fun e w' => e = .returned (.int .u64 (r : Nat)) ∧ w' = W) := hide (by rw [hr]; exact put_calls s V m 1 hsl (by omega) (by omega) (by omega))
      have hrl : r < 18446744073709551616 := by rw [hr]; exact putN_lt hsl _ _
      have HF := hide (show ∀ x, HB ((wr.ext x).setCell ⟨p, 1 + j, none⟩ (.int .u64 (r : Int))) p h { B with slot := markGo on (k + 1) a B.slot } ∧ Mv p h h w ((wr.ext x).setCell ⟨p, 1 + j, none⟩ (.int .u64 (r : Int))) from by
        intro x
        refine ⟨?_, (mv1.trans (Mv.of_below (World.below_ext _ x))).trans (HB.putSlot_mv p h)⟩
        have := (hb1.ext x).putSlot hj4 hrl
        rw [markGo_add on k 1 a B.slot (by omega)]
        simp only [markGo]
        rw [if_pos (by omega : a + k < 256), ← hj, ← hm, ← hs, ← hV, ← hr]
        exact this)
      clear hb1 mv1 H1 HB0 hr hs hj hm
      cases on
      all_goals
        simp only [if_true, if_false, Bool.false_eq_true] at hV
        subst hV
        go_wp2_with fail
        refine wp_region_qx 15 (by kernel_rfl) (by kernel_rfl) ?_
        simp only [List.take_succ_cons, List.take_zero, List.drop_succ_cons, List.drop_zero]
        repeat (go_big_quiet_step ((go_at_call 87; exact Calls.ext_of_same (hput.out _))))
        refine wpQuiet_nil ?_
        rintro _ ⟨x, rfl⟩
        go_wp2_with fail
        go_roundw
        case rel => exact ⟨k + 1, by omega, by go_num, hide (HF.out x)⟩
        case measure => simp [intOf]; omega
    · go_wp2_with fail
      all_goals
        refine bodyPost_fall (v := .tuple #[]) (by simp [results, Faag.results61, go_sem]) rfl ⟨rfl, ?_⟩
        obtain ⟨hb1, mv1⟩ := H1.out
        refine ⟨?_, mv1⟩
        have e : markGo on (E - a) a B.slot = markGo on k a B.slot := by
          rcases hk with rfl | ⟨hk1, hk2⟩
          · by_cases h1 : E - a = 0
            · rw [h1]
            · rw [markGo_end on _ _ _ (by omega)]; rfl
          · by_cases h1 : E - a = k
            · rw [h1]
            · rw [show E - a = k + (E - a - k) by omega, markGo_add on k _ a _ hk2, markGo_end on _ _ _ (by omega)]
        rw [e]
        exact hb1

set_option maxHeartbeats 1000000 in
theorem mark_calls (a n : Nat) (ha : a < 65536) (hn : n < 65536) (on : Bool) {w : World} {p : Nat} {h : Nat → Value} {B : Bld} (hb : HB w p h B) :
    Calls Faag.prog 83 #[.pointer (some ⟨p, 0, none⟩), .int .u16 a, .int .u16 n, .bool on] w fun e w' => RetN e ∧ HB w' p h (markB B a n on) ∧ Mv p h h w w' := by
  have hc := hide (markSlots_calls a n ha hn on hb)
  clear hb
  go_enter Faag.func83, Faag.ntmps83
  go_wp2_with fail
  refine hc.out.mono ?_
  rintro e w' ⟨rfl, H⟩
  have HH := hide H
  clear H
  go_wp2_with fail
  refine bodyPost_fall (v := .tuple #[]) (by simp [results, Faag.results83, go_sem]) rfl ⟨rfl, ?_⟩
  exact HH.out
end Go.Proofs.YgcfaaGreat
