import Derived.Test.YgcfaaGreatWide
namespace Go.Proofs.YgcfaaGreat
open Go.RowKit Bits Bd
set_option linter.unusedVariables false
set_option maxRecDepth 100000
set_option linter.unusedSimpArgs false
attribute [local go_sem] World.cell?_ext World.frozen?_ext

def wk0 : Wk := ⟨[0, 0, 0, 0], List.replicate 256 (0, 0), 0⟩
def wk1 : Wk := pushGo 0 0 1 0 { wk0 with set := wk0.set.set 0 1 }

set_option maxHeartbeats 4000000 in
theorem start_calls (a : Option Addr) (n c : Nat) (h1 : 1 ≤ n) (h2 : n ≤ 256) (w : World) :
    Calls Faag.prog 25 #[.slice a n c] w fun e w' => e = .returned (.tuple #[.agg wk1.cells.toArray, .bool true]) ∧ wk1.Ok ∧ Below w.heap.size w w' := by
  have g1 : decide ((n : Int) < 1) = false := by simp; omega
  have g2 : decide ((256 : Int) < n) = false := by simp; omega
  have hz0 : Z67[0]? = some (.int .u64 0) := rfl
  have hset : Z67.set 0 (.int .u64 1) = Wk.cells { wk0 with set := wk0.set.set 0 1 } := rfl
  have ok1 : Wk.Ok { wk0 with set := wk0.set.set 0 1 } := by
    have h := wk0_ok
    exact ⟨rfl, fun i => by
      match i with
      | 0 => decide
      | 1 => decide
      | 2 => decide
      | 3 => decide
      | i + 4 => exact Nat.zero_lt_succ _, h.n, h.at_, h.dep, h.sp⟩
  obtain ⟨WS, hWS⟩ : ∃ WS, WS = (w.alloc (Obj.cells Z67.toArray 67)).alloc (Obj.cells (Z67.set 0 (Value.int IntKind.u64 1)).toArray 67) := ⟨_, rfl⟩
  have HS := hide (show WkAt WS (w.heap.size + 1) { wk0 with set := wk0.set.set 0 1 } ∧ WkAt WS w.heap.size wk0 ∧ Below w.heap.size w WS ∧ WS.heap.size = w.heap.size + 2 from by
    rw [hWS, hset]
    refine ⟨⟨?_, ok1⟩, ⟨(wk0_at w).row.alloc _, wk0_ok⟩, below_two _ _ _, ?_⟩
    · have := RowAt.of_alloc (w.alloc (Obj.cells Z67.toArray 67)) (Wk.cells { wk0 with set := wk0.set.set 0 1 }) 67
      rw [World.size_alloc] at this
      exact this
    · rw [World.size_alloc, World.size_alloc])
  have HWS := hide hWS
  clear hWS hset ok1
  go_enter Faag.func25, Faag.ntmps25
  go_wp2_with (refine wpList_alloc67 rfl rfl ?_)
  rw [← HWS.out]
  have HP := hide (push_calls 0 1 0 (by omega) (by omega) (by omega) HS.out.1)
  clear HWS
  refine HP.out.mono ?_
  rintro e w3 ⟨rfl, q1, q2⟩
  have HQ := hide (show WkAt w3 (w.heap.size + 1) wk1 ∧ WkAt w3 w.heap.size wk0 ∧ Below w.heap.size w w3 from
    ⟨q1, HS.out.2.1.keeps q2 (by omega), HS.out.2.2.1.trans (q2.below (by rw [HS.out.2.2.2]; omega) (fun k hk h => by omega))⟩)
  clear q1 q2 HP HS
  obtain ⟨N, hN⟩ : ∃ N, N = w.heap.size := ⟨_, rfl⟩
  rw [← hN] at HQ ⊢
  have HN := hide hN
  clear hN
  go_wp2_with (first | refine wpList_load67 rfl _ rfl _ wk1 rfl HQ.out.1 ?_ | (refine wpList_store67 rfl _ _ rfl _ wk0 wk1 rfl rfl HQ.out.2.1 HQ.out.1.ok ?_; intro w4 h4 k4))
  have hlv : (loadVar 67 ⟨N, 0, none⟩).run Faag.prog w4 = .ok (.agg wk1.cells.toArray) w4 := by
    obtain ⟨d, h1, h2⟩ := under67
    exact run_loadVar_mid w4 N 0 67 wk1.cells d (rowAt_range h4.row) h1 h2 (info67 wk1 h4.ok)
  refine bodyPost_ret (v := .tuple #[.agg wk1.cells.toArray, .bool true]) ?_ rfl ⟨rfl, h4.ok, ?_⟩
  · simp [results, Faag.results25, hlv, asAddr]
  · rw [← HN.out]
    exact HQ.out.2.2.trans (k4.below (B := N) (by have := HQ.out.2.1.lt; omega) (fun k hk h => by omega))
end Go.Proofs.YgcfaaGreat
