import Derived.Test.YgcfaaGreatOnes
import Derived.Test.YgcfaaGreatLoud
namespace Go.Proofs.YgcfaaGreat
open Go.RowKit Bits Bd
set_option linter.unusedVariables false
set_option maxRecDepth 100000
set_option linter.unusedSimpArgs false
attribute [local go_sem] World.cell?_ext World.frozen?_ext

/-- Some words in memory. -/
def WordsAt (w : World) (b o n : Nat) : Prop := ∀ i, i < n → ∃ v : Nat, w.cell? ⟨b, o + i, none⟩ = some (.int .u64 (v : Int)) ∧ v < 18446744073709551616
theorem WordsAt.below {w w' : World} {b o n : Nat} (h : WordsAt w b o n) (hb : Below w.heap.size w w') : WordsAt w' b o n := by
  intro i hi
  obtain ⟨v, h1, h2⟩ := h i hi
  have hlt := lt_of_cell h1
  dsimp only at hlt
  exact ⟨v, by rw [World.cell?_of_block (w := w) (hb.block b hlt), h1], h2⟩
/-- It hands back a number up to n. -/
def RetLe (e : Ending) (n : Nat) : Prop := ∃ k : Nat, e = .returned (.int .i64 (k : Int)) ∧ k ≤ n

set_option maxHeartbeats 4000000 in
theorem zeros2_calls (b o n c : Nat) (hn : n ≤ 100000) (w : World) (h : WordsAt w b o n) :
    Calls Faag.prog 74 #[.slice (some ⟨b, o, none⟩) n c, .int .i64 255] w fun e w' => RetLe e n ∧ w' = w := by
  have H := hide h
  clear h
  go_enter Faag.func74, Faag.ntmps74
  go_wp2_with fail
  go_loopw [5] (fun q wr => ∃ k : Nat, k ≤ n ∧ q = .int .i64 k ∧ Hid (wr = w)) (fun q _ => n - (intOf q).toNat)
  case atStart => exact ⟨0, by omega, rfl, hide rfl⟩
  case round =>
    obtain ⟨k, hk, rfl, hww⟩ := hrel
    obtain rfl := hww.out
    clear hww
    by_cases hkn : k < n
    · obtain ⟨v, cv, lv⟩ := H.out k hkn
      by_cases hk2 : k < 255
      · by_cases hv : v = 0
        · subst hv
          go_wp2_with fail
          go_roundw
          case rel => exact ⟨k + 1, by omega, by go_num, hide (by simp)⟩
          case measure => simp [intOf]; omega
        · have g0 : ((v : Int) == 0) = false := by simp; omega
          clear hv
          go_wp2_with fail
          go_ret
          exact ⟨⟨k, rfl, by omega⟩, rfl⟩
      · go_wp2_with fail
        go_ret
        exact ⟨⟨k, rfl, by omega⟩, rfl⟩
    · go_wp2_with fail
      go_ret
      exact ⟨⟨k, rfl, by omega⟩, rfl⟩

set_option maxHeartbeats 4000000 in
theorem dense_calls (b o n c : Nat) (hn : n ≤ 100000) (w : World) (h : WordsAt w b o n) :
    Calls Faag.prog 75 #[.slice (some ⟨b, o, none⟩) n c, .int .i64 255] w fun e w' => RetLe e n ∧ w' = w := by
  have H := hide h
  clear h
  go_enter Faag.func75, Faag.ntmps75
  go_wp2_with fail
  go_loopw [5] (fun q wr => ∃ k : Nat, k ≤ n ∧ q = .int .i64 k ∧ Hid (wr = w)) (fun q _ => n - (intOf q).toNat)
  case atStart => exact ⟨0, by omega, rfl, hide rfl⟩
  case round =>
    obtain ⟨k, hk, rfl, hww⟩ := hrel
    obtain rfl := hww.out
    clear hww
    by_cases hkn : k < n
    · obtain ⟨v, cv, lv⟩ := H.out k hkn
      by_cases hk2 : k < 255
      · have ht := hide (tagOf_calls v lv wr)
        go_wp2_with fail
        refine (ht.out).mono ?_
        rintro e w1 ⟨⟨t, rfl, htl⟩, e1⟩
        rw [e1]
        clear e1 ht
        have hd := hide (isDense_calls t htl wr)
        go_wp2_with fail
        refine (hd.out).mono ?_
        rintro e w1 ⟨⟨r, rfl⟩, e1⟩
        rw [e1]
        clear e1 hd
        cases r with
        | true =>
          go_wp2_with fail
          go_roundw
          case rel => exact ⟨k + 1, by omega, by go_num, hide (by simp)⟩
          case measure => simp [intOf]; omega
        | false =>
          go_wp2_with fail
          go_ret
          exact ⟨⟨k, rfl, by omega⟩, rfl⟩
      · go_wp2_with fail
        go_ret
        exact ⟨⟨k, rfl, by omega⟩, rfl⟩
    · go_wp2_with fail
      go_ret
      exact ⟨⟨k, rfl, by omega⟩, rfl⟩

set_option maxHeartbeats 4000000 in
/-- pack.Cur.Check: of the lengths of S and Out, and I. -/
theorem curCheck_calls (b : Nat) (sa oa : Option Addr) (sn sc i on oc : Nat) (hsn : sn ≤ 140737488355328) (hon : on ≤ 140737488355328) (w : World)
    (c0 : w.cell? ⟨b, 0, none⟩ = some (.slice sa sn sc)) (c1 : w.cell? ⟨b, 1, none⟩ = some (.int .u16 (i : Int))) (c2 : w.cell? ⟨b, 2, none⟩ = some (.slice oa on oc)) (hi : i < 65536) :
    Calls Faag.prog 38 #[.pointer (some ⟨b, 0, none⟩)] w fun e w' => RetB e (sn ≤ 4096 ∧ i ≤ sn ∧ on ≤ 256) ∧ Below w.heap.size w w' := by
  have hcs : 4096 < sn ∨ (sn ≤ 4096 ∧ sn < i) ∨ (sn ≤ 4096 ∧ i ≤ sn ∧ 256 < on) ∨ (sn ≤ 4096 ∧ i ≤ sn ∧ on ≤ 256) := by omega
  rcases hcs with k1 | ⟨k1, k2⟩ | ⟨k1, k2, k3⟩ | ⟨k1, k2, k3⟩
  · have g1 : decide ((sn : Int) ≤ 4096) = false := by simp; omega
    go_enter Faag.func38, Faag.ntmps38
    go_wp2_with fail
    refine wp_region_qd 21 (by kernel_rfl) (by kernel_rfl) ?_
    simp only [List.take_succ_cons, List.take_zero, List.drop_succ_cons, List.drop_zero]
    repeat (go_big_quiet_step (fail))
    refine wpQuiet_nil ?_
    rintro _ ⟨nq, rfl⟩
    go_wp2_with fail
    go_ret
    refine ⟨RetB.of ?_, ⟨rfl, rfl, rfl, Nat.le_refl _, fun _ _ => rfl⟩⟩
    exact ⟨fun h => Bool.noConfusion h, fun h => by omega⟩
  · have g1 : decide ((sn : Int) ≤ 4096) = true := by simp; omega
    have g2 : decide (i ≤ sn) = false := by simp; omega
    go_enter Faag.func38, Faag.ntmps38
    go_wp2_with fail
    refine wp_region_qd 21 (by kernel_rfl) (by kernel_rfl) ?_
    simp only [List.take_succ_cons, List.take_zero, List.drop_succ_cons, List.drop_zero]
    repeat (go_big_quiet_step (fail))
    refine wpQuiet_nil ?_
    rintro _ ⟨nq, rfl⟩
    go_wp2_with fail
    go_ret
    refine ⟨RetB.of ?_, ⟨rfl, rfl, rfl, Nat.le_refl _, fun _ _ => rfl⟩⟩
    exact ⟨fun h => Bool.noConfusion h, fun h => by omega⟩
  · have g1 : decide ((sn : Int) ≤ 4096) = true := by simp; omega
    have g2 : decide (i ≤ sn) = true := by simp; omega
    have g3 : decide ((on : Int) ≤ 256) = false := by simp; omega
    go_enter Faag.func38, Faag.ntmps38
    go_wp2_with fail
    refine wp_region_qd 21 (by kernel_rfl) (by kernel_rfl) ?_
    simp only [List.take_succ_cons, List.take_zero, List.drop_succ_cons, List.drop_zero]
    repeat (go_big_quiet_step (fail))
    refine wpQuiet_nil ?_
    rintro _ ⟨nq, rfl⟩
    go_wp2_with fail
    go_ret
    refine ⟨RetB.of ?_, ⟨rfl, rfl, rfl, Nat.le_refl _, fun _ _ => rfl⟩⟩
    exact ⟨fun h => Bool.noConfusion h, fun h => by omega⟩
  · have g1 : decide ((sn : Int) ≤ 4096) = true := by simp; omega
    have g2 : decide (i ≤ sn) = true := by simp; omega
    have g3 : decide ((on : Int) ≤ 256) = true := by simp; omega
    go_enter Faag.func38, Faag.ntmps38
    go_wp2_with fail
    refine wp_region_qd 21 (by kernel_rfl) (by kernel_rfl) ?_
    simp only [List.take_succ_cons, List.take_zero, List.drop_succ_cons, List.drop_zero]
    repeat (go_big_quiet_step (fail))
    refine wpQuiet_nil ?_
    rintro _ ⟨nq, rfl⟩
    go_wp2_with fail
    go_ret
    refine ⟨RetB.of ?_, ⟨rfl, rfl, rfl, Nat.le_refl _, fun _ _ => rfl⟩⟩
    exact ⟨fun _ => ⟨k1, k2, k3⟩, fun _ => rfl⟩
end Go.Proofs.YgcfaaGreat
