import Derived.Test.YgcfaaGreatMoOut
namespace Go.Proofs.YgcfaaGreat
open Go.RowKit Bits Bd
set_option linter.unusedVariables false
set_option maxRecDepth 100000
set_option linter.unnecessarySimpa false
set_option linter.unusedSimpArgs false

namespace Bd
def newM : Mo := ⟨[], -1, [⟨-1, 0, 0, 0, false, false, 0⟩]⟩
end Bd
theorem inv_newM : InvM newM := by
  refine ⟨rfl, by decide, fun i hi => absurd hi (Nat.not_lt_zero _), rfl, fun i hi => absurd hi (Nat.not_lt_zero _), fun i hi => absurd hi (Nat.not_lt_zero _), fun i hi => absurd hi (Nat.not_lt_zero _), fun i j k h => absurd h.1 (Nat.not_lt_zero _), .inl rfl, fun i j k h => absurd h.1 (Nat.not_lt_zero _), fun k hk => absurd hk (Nat.not_lt_zero _), by decide⟩
theorem nd_newM (i : Nat) : newM.nd i = zNd := by unfold Mo.nd; rw [show newM.N = [] from rfl]; rfl

set_option maxHeartbeats 4000000 in
theorem mnew_calls {w : World} : Calls Faag.prog 14 #[] w fun e w' => ∃ p h, e = .returned (.pointer (some ⟨p, 0, none⟩)) ∧ HM true w' p h newM ∧ Below w.heap.size w w' ∧ (∀ k, mblk p h 0 k → w.heap.size ≤ k) := by
  go_enter Faag.func14, Faag.ntmps14
  go_wp2_with fail
  go_ret
  obtain ⟨hv, hhv⟩ : ∃ hv : Value, hv = .slice (some ⟨w.heap.size, 0, none⟩) 1 1 := ⟨_, rfl⟩
  refine ⟨w.heap.size + 1, fun x => if x = 1 then .slice (some ⟨w.heap.size, 0, none⟩) 1 1 else .slice none 0 0, rfl, ?_, ?_, ?_⟩
  · have ho : (w.alloc (.cells #[.int .i16 (-1), .int .u8 0, .int .u8 0, .int .u8 0, .bool false, .bool false, .int .u16 0] 89)).ownsRow 0 89 7 (.slice (some ⟨w.heap.size, 0, none⟩) 1 1) 1 (handsC newM.H) :=
      World.ownsRow_lit (size := 7) w #[.int .i16 (-1), .int .u8 0, .int .u8 0, .int .u8 0, .bool false, .bool false, .int .u16 0] 1 (Nat.zero_le _) (by unfold maxLen; omega) rfl
    have hr := RowAt.of_alloc (w.alloc (.cells #[.int .i16 (-1), .int .u8 0, .int .u8 0, .int .u8 0, .bool false, .bool false, .int .u16 0] 89)) [.slice none 0 0, .int .i16 (-1), .slice (some ⟨w.heap.size, 0, none⟩) 1 1] 47
    rw [World.size_alloc] at hr
    refine ⟨hr, World.ownsRow_nil _ _ _ _, own_below ho ((Below.refl _ _).alloc (Nat.le_refl _) _), fun i hi => absurd hi (Nat.not_lt_zero _), fun i hi => absurd hi (Nat.not_lt_zero _), fun i j k hi hj h1 h2 => ?_, fun i hi h1 => ?_, fun i => ?_, fun i => ?_, by decide, by decide, by decide⟩
    · by_cases e1 : i = 1
      · by_cases e2 : j = 1
        · omega
        · rw [if_neg e2] at h2; cases h2
      · rw [if_neg e1] at h1; cases h1
    · by_cases e1 : i = 1
      · rw [if_pos e1] at h1
        have : w.heap.size = w.heap.size + 1 := by simpa [Value.ownBlock] using h1
        omega
      · rw [if_neg e1] at h1; cases h1
    · rw [nd_newM]
      exact ⟨by decide, by decide, fun _ h => (by cases h), fun _ h => (by cases h), by decide, by decide⟩
    · match i with
      | 0 => exact ⟨by decide, by decide, by decide, by decide, by decide⟩
      | i + 1 =>
        have e : newM.hd (i + 1) = zHd := rfl
        rw [e]
        exact ⟨by decide, by decide, by decide, by decide, by decide⟩
  · exact Below.alloc (Below.alloc (Below.refl _ _) (Nat.le_refl _) _) (by rw [World.size_alloc]; omega) _
  · intro k hk
    rcases hk with rfl | ⟨i, hi, e⟩
    · omega
    · try dsimp only at e
      by_cases e1 : i = 1
      · rw [if_pos e1] at e
        have : w.heap.size = k := by simpa [Value.ownBlock] using e
        omega
      · rw [if_neg e1] at e; cases e
end Go.Proofs.YgcfaaGreat
