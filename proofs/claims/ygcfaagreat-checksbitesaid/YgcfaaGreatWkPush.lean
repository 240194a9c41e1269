import Derived.Test.YgcfaaGreatWk
namespace Go.Proofs.YgcfaaGreat
open Go.RowKit Bits Bd
set_option linter.unusedVariables false
set_option maxRecDepth 100000
set_option linter.unusedSimpArgs false
attribute [local go_sem] World.cell?_ext World.frozen?_ext

theorem pushGo_add (at_ d : Nat) : ∀ (k m i : Nat) (W : Wk), pushGo at_ d (k + m) i W = pushGo at_ d m (i + k) (pushGo at_ d k i W)
  | 0, m, i, W => by rw [Nat.zero_add]; rfl
  | k + 1, m, i, W => by
    rw [show k + 1 + m = (k + m) + 1 by omega]
    simp only [pushGo]
    by_cases h : W.sp < 256
    · rw [if_pos h, if_pos h, pushGo_add at_ d k m (i + 1), show i + 1 + k = i + (k + 1) by omega]
    · rw [if_neg h, if_neg h, pushGo_end _ _ _ _ _ h]

set_option maxHeartbeats 8000000 in
theorem push_calls (a n d : Nat) (ha : a < 65536) (hn : n < 65536) (hd : d < 256) {w : World} {b : Nat} {W : Wk} (hb : WkAt w b W) :
    Calls Faag.prog 69 #[.pointer (some ⟨b, 0, none⟩), .int .u16 a, .int .u16 n, .int .u8 d] w fun e w' => RetN e ∧ WkAt w' b (pushGo a d n 0 W) ∧ Keeps (fun k => k = b) w w' := by
  have HB0 := hide hb
  clear hb
  go_enter Faag.func69, Faag.ntmps69
  go_wp2_with fail
  go_loopw [8] (fun q wr => ∃ k : Nat, k ≤ n ∧ q = .int .u16 (k : Nat) ∧ Hid (WkAt wr b (pushGo a d k 0 W) ∧ Keeps (fun k => k = b) w wr)) (fun q _ => 65536 - (intOf q).toNat)
  case atStart => exact ⟨0, by omega, by simp, hide ⟨HB0.out, Keeps.refl _ _⟩⟩
  case round =>
    obtain ⟨k, hk, rfl, H1⟩ := hrel
    obtain ⟨hb1, mv1⟩ := H1.out
    obtain ⟨V, hV⟩ : ∃ V, V = pushGo a d k 0 W := ⟨_, rfl⟩
    rw [← hV] at hb1
    obtain ⟨c1, c2⟩ := hb1.spC
    have hspl := hb1.ok.sp
    obtain ⟨sp, hsp⟩ : ∃ sp, sp = V.sp := ⟨_, rfl⟩
    rw [← hsp] at c1 hspl
    have HSP := hide hsp
    clear hsp
    have hwr : IntKind.u16.wrap ((a : Int) + k) = (((a + k) % 65536 : Nat) : Int) := by rw [IntKind.wrap_u16]; omega
    by_cases hgo : k < n
    · by_cases hg2 : sp < 256
      · obtain ⟨e1, e2⟩ := hb1.e0 hg2
        obtain ⟨e3, e4⟩ := hb1.e1 hg2
        have HF := hide (show ∀ nq, WkAt ((((wr.drewN nq).setCell ⟨b, 4 + sp * 2, none⟩ (.int .u16 (((a + k) % 65536 : Nat) : Int))).setCell ⟨b, 4 + sp * 2 + 1, none⟩ (.int .u8 (d : Int))).setCell ⟨b, 516, none⟩ (.int .u16 ((sp + 1 : Nat) : Int))) b (pushGo a d (k + 1) 0 W) ∧ Keeps (fun k => k = b) w ((((wr.drewN nq).setCell ⟨b, 4 + sp * 2, none⟩ (.int .u16 (((a + k) % 65536 : Nat) : Int))).setCell ⟨b, 4 + sp * 2 + 1, none⟩ (.int .u8 (d : Int))).setCell ⟨b, 516, none⟩ (.int .u16 ((sp + 1 : Nat) : Int))) from by
          intro nq
          refine ⟨?_, (((mv1.drewN nq).setCell (p := ⟨b, _, none⟩) (fun _ => rfl) _).setCell (p := ⟨b, _, none⟩) (fun _ => rfl) _).setCell (p := ⟨b, _, none⟩) (fun _ => rfl) _⟩
          rw [pushGo_add, ← hV, Nat.zero_add, pushGo, if_pos (by rw [← HSP.out]; exact hg2), ← HSP.out]
          have hbd : WkAt (wr.drewN nq) b V := ⟨hb1.row.drewN nq, hb1.ok⟩
          exact (hbd.put2 hg2 (by omega) hd).putSp (by omega))
        clear hb1 mv1 H1 HB0 hV
        go_wp2_with fail
        refine wp_region_qd 12 (by kernel_rfl) (by kernel_rfl) ?_
        simp only [List.take_succ_cons, List.take_zero, List.drop_succ_cons, List.drop_zero]
        repeat (go_big_quiet_step (fail))
        refine wpQuiet_nil ?_
        rintro _ ⟨nq, rfl⟩
        go_wp2_with fail
        go_roundw
        case rel => exact ⟨k + 1, by omega, by go_num, hide (HF.out nq)⟩
        case measure => simp [intOf]; omega
      · have HV := hide hV
        clear hV
        go_wp2_with fail
        refine bodyPost_fall (v := .tuple #[]) (by simp [results, Faag.results69, go_sem]) rfl ⟨rfl, ?_, H1.out.2⟩
        rw [show n = k + (n - k) by omega, pushGo_add, ← HV.out, pushGo_end _ _ _ _ _ (by rw [← HSP.out]; exact hg2)]
        exact hb1
    · have : k = n := by omega
      subst this
      go_wp2_with fail
      refine bodyPost_fall (v := .tuple #[]) (by simp [results, Faag.results69, go_sem]) rfl ⟨rfl, ?_, H1.out.2⟩
      exact H1.out.1
end Go.Proofs.YgcfaaGreat
