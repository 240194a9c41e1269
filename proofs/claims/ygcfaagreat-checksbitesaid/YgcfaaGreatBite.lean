import Derived.Test.YgcfaaGreatBiteX
import Derived.Test.YgcfaaGreatBiteY
import Derived.Test.YgcfaaGreatBiteZ
namespace Go.Proofs.YgcfaaGreat
open Go.RowKit Bits Bd
set_option linter.unusedVariables false
set_option maxRecDepth 100000
set_option linter.unusedSimpArgs false
attribute [local go_sem] World.cell?_ext World.frozen?_ext

theorem biteW_all {w : World} {p : Nat} {hh : Nat → Value} {B : Bld} (hb : HB w p hh B) (hw : BitesW B) (k : Nat) (h1 : 10 ≤ k) (h2 : k < 15) :
    Calls Faag.prog 24 #[.pointer (some ⟨p, 0, none⟩), .int .i64 k] w fun e w' => e = .returned (.bool true) ∧ Keeps (blk p hh) w w' := by
  have hcs : k = 10 ∨ k = 11 ∨ k = 12 ∨ k = 13 ∨ k = 14 := by omega
  rcases hcs with rfl | rfl | rfl | rfl | rfl
  · exact biteW_10 hb hw
  · exact biteW_11 hb hw
  · exact biteW_12 hb hw
  · exact biteW_13 hb hw
  · exact biteW_14 hb hw

set_option maxHeartbeats 8000000 in
theorem biteB_high {w : World} {p : Nat} {hh : Nat → Value} {B : Bld} (hb : HB w p hh B) (hbt : Bites B) (hw : BitesW B) (k : Nat) (h1 : 10 ≤ k) (h2 : k < 15) :
    Calls Faag.prog 6 #[.pointer (some ⟨p, 0, none⟩), .int .i64 k] w fun e w' => e = .returned (.bool true) ∧ Keeps (blk p hh) w w' := by
  obtain ⟨a, c, see⟩ := hb.see hbt.even
  obtain ⟨⟨a1, a2⟩, ⟨a3, a4⟩, a5, a6, a7, a8⟩ := hbt.even
  have f1 := see.f1
  have hk := hide (biteW_all hb hw k h1 h2)
  have g0 : ((k : Int) == 0) = false := by simp; omega
  have g1 : ((k : Int) == 1) = false := by simp; omega
  have g2 : ((k : Int) == 2) = false := by simp; omega
  have g3 : ((k : Int) == 3) = false := by simp; omega
  have g4 : ((k : Int) == 4) = false := by simp; omega
  have g5 : ((k : Int) == 5) = false := by simp; omega
  have g6 : ((k : Int) == 6) = false := by simp; omega
  have g7 : ((k : Int) == 7) = false := by simp; omega
  have g8 : ((k : Int) == 8) = false := by simp; omega
  have g9 : ((k : Int) == 9) = false := by simp; omega
  clear see hb hbt hw a5 a6 a7 a8
  go_enter Faag.func6, Faag.ntmps6
  go_wp2_with fail
  refine (hk.out).mono ?_
  rintro e w1 ⟨rfl, hkp⟩
  have HKP := hide hkp
  clear hkp hk
  go_wp2_with fail
  go_ret
  exact ⟨rfl, HKP.out⟩

theorem biteB_all {w : World} {p : Nat} {hh : Nat → Value} {B : Bld} (hb : HB w p hh B) (hbt : Bites B) (hw : BitesW B) (k : Nat) (h2 : k < 15) :
    Calls Faag.prog 6 #[.pointer (some ⟨p, 0, none⟩), .int .i64 k] w fun e w' => e = .returned (.bool true) ∧ Keeps (blk p hh) w w' := by
  by_cases h10 : 10 ≤ k
  · exact biteB_high hb hbt hw k h10 h2
  · by_cases h6 : k ≤ 6
    · exact biteB_low hb hbt k h6
    · have hcs : k = 7 ∨ k = 8 ∨ k = 9 := by omega
      rcases hcs with rfl | rfl | rfl
      · exact biteB_7 hb hbt
      · exact biteB_8 hb hbt
      · exact biteB_9 hb hbt
end Go.Proofs.YgcfaaGreat
