import Derived.Test.YgcfaaGreatPlayed
import Derived.Test.YgcfaaGreatHurts
namespace Go.Proofs.YgcfaaGreat
open Go.RowKit Bits Bd
set_option linter.unusedVariables false
set_option maxRecDepth 100000
set_option linter.unusedSimpArgs false
attribute [local go_sem] World.cell?_ext World.frozen?_ext

set_option maxHeartbeats 16000000 in
theorem checksBite_calls (a : Option Addr) (len cap : Nat) (hl : len ≤ cap) (hcap : cap ≤ 9223372036854775807) (ops : Nat → Opn) (W : World)
    (hops : ∀ i, i < len → (ops i).Ok ∧ (ops i).s.size ≤ 9223372036854775807)
    (hcells : 0 < len → ∃ b off, a = some ⟨b, off, none⟩ ∧ b < W.heap.size ∧ ∀ i, i < len → ∀ j u, (opC (ops i))[j]? = some u → W.cell? ⟨b, off + i * 8 + j, none⟩ = some u)
    (ra : Option Addr) (rl rc : Nat) (hrl : rl ≤ rc) (hrc : rc ≤ 9223372036854775807) (hraw : 0 < rl → ∃ b off, ra = some ⟨b, off, none⟩ ∧ WordsAt W b off rl) (k : Nat) (hk : k < 256) :
    Calls Faag.prog 3 #[.slice a len cap, .slice ra rl rc, .int .u8 (k : Int)] W fun e w' => e = .returned (.bool true) ∧ Below W.heap.size W w' := by
  have HP := hide (played_calls a len cap hl hcap ops W hops hcells)
  clear hcells hops hl hcap
  obtain ⟨n, hn, hnc, hn256, hcase⟩ : ∃ n, n ≤ rl ∧ n ≤ rc ∧ n ≤ 256 ∧ ((rl = n ∧ (rl : Int) ≤ 256) ∨ (n = 256 ∧ ¬ (rl : Int) ≤ 256)) := by
    by_cases h : rl ≤ 256
    · exact ⟨rl, Nat.le_refl _, hrl, h, .inl ⟨rfl, by omega⟩⟩
    · exact ⟨256, by omega, by omega, by omega, .inr ⟨rfl, by omega⟩⟩
  have HR := hide (show RawAt W ra n from ⟨hn256, fun h0 => by obtain ⟨b, o, e, hw⟩ := hraw (by omega); exact ⟨b, o, e, fun i hi => hw i (by omega)⟩⟩)
  clear hraw
  obtain ⟨j, hj⟩ : ∃ j, j = k % 42 := ⟨_, rfl⟩
  have hj42 : j < 42 := by omega
  have HJ := hide (show (k : Int) % 42 = (j : Int) by omega)
  obtain ⟨s7, hs7⟩ : ∃ s, s = n % 7 := ⟨_, rfl⟩
  have hs77 : s7 < 7 := by omega
  have HS7 := hide (show (n : Int) % 7 = (s7 : Int) by omega)
  clear hj hs7
  rcases hcase with ⟨rfl, h256⟩ | ⟨rfl, h256⟩
  all_goals
    go_enter Faag.func3, Faag.ntmps3
    go_wp2_with fail
    refine HP.out.mono ?_
    rintro e w1 ⟨p, q, rfl, H1⟩
    have HT := hide H1
    clear H1 HP
    rw [HJ.out]
    have hcs : j < 15 ∨ (15 ≤ j ∧ j < 20) ∨ (20 ≤ j ∧ j < 27) ∨ (27 ≤ j ∧ j < 39) ∨ (39 ≤ j) := by omega
    rcases hcs with h1 | ⟨h1, h2⟩ | ⟨h1, h2⟩ | ⟨h1, h2⟩ | h1
    · have HC := hide (turn_biteB HT.out h1)
      go_wp2_with fail
      refine HC.out.mono ?_
      rintro e w2 ⟨rfl, C2⟩
      have HC2 := hide C2
      clear C2 HC
      go_wp2_with fail
      refine HC2.out.mono ?_
      rintro e w3 ⟨rfl, b3⟩
      have HB3 := hide b3
      clear b3 HC2
      go_wp2_with fail
      go_ret
      exact ⟨rfl, HB3.out⟩
    · obtain ⟨g, m, c, f0, C⟩ := turn_walk HT.out
      have HC := hide C
      clear C
      go_wp2_with fail
      rw [show (j : Int) - 15 = ((j - 15 : Nat) : Int) by omega]
      first
        | (rw [HS7.out]; refine (HC.out s7 (j - 15) hs77 (by omega)).mono ?_)
        | refine (HC.out 4 (j - 15) (by omega) (by omega)).mono ?_
      rintro e w3 ⟨rfl, b3⟩
      have HB3 := hide b3
      clear b3 HC
      go_wp2_with fail
      go_ret
      exact ⟨rfl, HB3.out⟩
    · go_wp2_with fail
      rw [show (j : Int) - 15 - 5 = ((j - 20 : Nat) : Int) by omega]
      refine (turn_ptr HT.out HR.out (k := j - 20) (by omega)).mono ?_
      rintro e w3 ⟨rfl, b3⟩
      have HB3 := hide b3
      clear b3
      go_wp2_with fail
      go_ret
      exact ⟨rfl, HB3.out⟩
    · have HC := hide (turn_tree HT.out (k := j - 27) (by omega))
      go_wp2_with fail
      refine HC.out.mono ?_
      rintro e w2 ⟨na, nn, nc, r, rfl, b2, C2⟩
      have HC2 := hide (C2 (w2.alloc (.cells #[.slice na nn nc, .int .i16 r] 42)) w2.heap.size (Nat.le_refl _) (RowAt.of_alloc w2 [.slice na nn nc, .int .i16 r] 42) ((Keeps.refl (fun j => j = w2.heap.size) w2).alloc _) (b2.alloc b2.size _))
      clear C2 b2 HC
      go_wp2_with fail
      refine HC2.out.mono ?_
      rintro e w4 ⟨rfl, C4⟩
      have HC4 := hide C4
      clear C4 HC2
      go_wp2_with fail
      rw [show (j : Int) - 15 - 5 - 7 = ((j - 27 : Nat) : Int) by omega]
      refine HC4.out.mono ?_
      rintro e w3 ⟨rfl, b3⟩
      have HB3 := hide b3
      clear b3 HC4
      go_wp2_with fail
      go_ret
      exact ⟨rfl, HB3.out⟩
    · go_wp2_with fail
      rw [show (j : Int) - 15 - 5 - 7 - 12 = ((j - 39 : Nat) : Int) by omega]
      refine (biteCur_calls _ _ _ hnc _ (HR.out.below HT.out.bl) (j - 39) (by omega)).mono ?_
      rintro e w3 ⟨rfl, b3⟩
      have HB3 := hide (HT.out.bl.trans (b3.mono HT.out.bl.size))
      clear b3
      go_wp2_with fail
      go_ret
      exact ⟨rfl, HB3.out⟩
end Go.Proofs.YgcfaaGreat
