import Derived.Test.YgcfaaGreatResB
import Derived.Test.YgcfaaGreatSlot
namespace Go.Proofs.YgcfaaGreat
open Go.RowKit Bits Bd
set_option linter.unusedVariables false
set_option maxRecDepth 100000
set_option linter.unusedSimpArgs false
attribute [local go_sem] World.cell?_ext World.frozen?_ext

theorem ret_bool {a b : Bool} (h : a = b) : Ending.returned (.bool a) = .returned (.bool b) := by rw [h]
theorem structsQ_calls (p : Ptr) (hp : p.Ok) (w : World) : Calls Faag.prog 55 #[.agg (ptrC p).toArray] w fun e w' => e = .returned (.bool (decide (p.kind = 2 ∧ p.code = 7))) ∧ Below w.heap.size w w' := by
  obtain ⟨kind, at_, data, ptrs, code, count⟩ := p
  obtain ⟨h1, h2, h3, h4, h5, h6⟩ := hp
  dsimp only at h1 h2 h3 h4 h5 h6
  unfold ptrC
  dsimp only
  obtain ⟨R, hR⟩ : ∃ R, R = decide (kind = 2 ∧ code = 7) := ⟨_, rfl⟩
  rw [← hR]
  have HR := hide hR
  clear hR
  go_enter Faag.func55, Faag.ntmps55
  go_wp2_with fail
  all_goals
    go_ret
    refine ⟨?_, (Below.refl _ _).alloc (Nat.le_refl _) _⟩
    rw [HR.out]
    refine ret_bool ?_
    first
    | (symm; rw [decide_eq_false_iff_not]; omega)
    | (rw [Bool.eq_iff_iff, decide_eq_true_eq, beq_iff_eq]; omega)

theorem and_one_bit (v j : Nat) (hv : v < 18446744073709551616) : bits .and .u64 ((v : Int) / 2 ^ j) 1 = (((v.testBit j).toNat : Nat) : Int) := by
  have h1 : v / 2 ^ j < 18446744073709551616 := Nat.lt_of_le_of_lt (Nat.div_le_self _ _) hv
  have h2 := u64_and_nat (v / 2 ^ j) 1 h1 (by omega)
  rw [show ((v / 2 ^ j : Nat) : Int) = (v : Int) / 2 ^ j by rw [Int.natCast_ediv, Int.natCast_pow]; rfl] at h2
  rw [show ((1 : Nat) : Int) = 1 by rfl] at h2
  rw [h2, Nat.and_one_is_mod, Nat.testBit_eq_decide_div_mod_eq]
  have : v / 2 ^ j % 2 < 2 := Nat.mod_lt _ (by omega)
  generalize v / 2 ^ j % 2 = q at this
  match q, this with
  | 0, _ => rfl
  | 1, _ => rfl

/-- A set of places below 256, in memory. -/
structure SetAt (w : World) (b : Nat) (s : List Nat) : Prop where
  row : RowAt w b 0 (U s)
  four : s.length = 4
  lt : ∀ i, s.getD i 0 < 18446744073709551616

theorem has_calls (b i : Nat) (s : List Nat) (hi : i < 256) (w : World) (h : SetAt w b s) :
    Calls Faag.prog 58 #[.pointer (some ⟨b, 0, none⟩), .int .i64 i] w fun e w' => e = .returned (.bool (tb s i)) ∧ w' = w := by
  have hj : i / 64 < 4 := by omega
  have c := (h.row.at_ (i := i / 64) (U_get (by rw [h.four]; exact hj)))
  rw [Nat.zero_add] at c
  have hl := h.lt (i / 64)
  obtain ⟨R, hR⟩ : ∃ R, R = tb s i := ⟨_, rfl⟩
  rw [← hR]
  unfold tb at hR
  generalize s.getD (i / 64) 0 = v at *
  have HR := hide hR
  clear hR
  go_enter Faag.func58, Faag.ntmps58
  go_wp2_with fail
  go_ret
  refine ⟨ret_bool ?_, rfl⟩
  rw [HR.out, and_one_bit v (i % 64) hl]
  cases v.testBit (i % 64) <;> rfl

/-- A place put into a set. -/
def putS (s : List Nat) (i : Nat) : List Nat := orAt s (i / 64) (2 ^ (i % 64))

theorem put_or (v j : Nat) (hv : v < 18446744073709551616) (hj : j < 64) : bits .or .u64 (v : Int) (IntKind.u64.wrap (2 ^ j)) = ((v ||| 2 ^ j : Nat) : Int) := by
  have h1 : (2 : Nat) ^ j < 18446744073709551616 := Nat.pow_lt_pow_right (a := 2) (by omega) (show j < 64 from hj)
  rw [two_pow_int, wrap_nat, Nat.mod_eq_of_lt h1, u64_or_nat v (2 ^ j) hv h1]

theorem putS_at {w : World} {b i : Nat} {s : List Nat} (h : SetAt w b s) (hi : i < 256) : SetAt (w.setCell ⟨b, i / 64, none⟩ (.int .u64 ((s.getD (i / 64) 0 ||| 2 ^ (i % 64) : Nat) : Int))) b (putS s i) := by
  have h1 : (2 : Nat) ^ (i % 64) < 18446744073709551616 := Nat.pow_lt_pow_right (a := 2) (by omega) (show i % 64 < 64 by omega)
  refine ⟨?_, by unfold putS; rw [orAt_length]; exact h.four, fun j => ?_⟩
  · have := h.row.set (i := i / 64) (by rw [U_length, h.four]; omega) (.int .u64 ((s.getD (i / 64) 0 ||| 2 ^ (i % 64) : Nat) : Int))
    rw [Nat.zero_add, U_set] at this
    exact this
  · unfold putS orAt
    rw [getD_set _ _ _ _ (by rw [h.four]; omega)]
    split
    · exact or_lt (h.lt _) h1
    · exact h.lt _

theorem putS_calls (b i : Nat) (s : List Nat) (hi : i < 256) (w : World) (h : SetAt w b s) :
    Calls Faag.prog 57 #[.pointer (some ⟨b, 0, none⟩), .int .i64 i] w fun e w' => RetN e ∧ ∃ n, w' = (w.drewN n).setCell ⟨b, i / 64, none⟩ (.int .u64 ((s.getD (i / 64) 0 ||| 2 ^ (i % 64) : Nat) : Int)) := by
  have hj : i / 64 < 4 := by omega
  have c := (h.row.at_ (i := i / 64) (U_get (by rw [h.four]; exact hj)))
  have f := h.row.live (i / 64) (by rw [U_length, h.four]; exact hj)
  rw [Nat.zero_add] at c f
  have hl := h.lt (i / 64)
  generalize s.getD (i / 64) 0 = v at *
  have ho := put_or v (i % 64) hl (by omega)
  have HO := hide ho
  clear ho
  go_enter Faag.func57, Faag.ntmps57
  go_wp2_with fail
  refine wp_region_qd 11 (by kernel_rfl) (by kernel_rfl) ?_
  simp only [List.take_succ_cons, List.take_zero, List.drop_succ_cons, List.drop_zero]
  repeat (go_big_quiet_step (fail))
  refine wpQuiet_nil ?_
  rintro _ ⟨nq, rfl⟩
  go_wp2_with fail
  rw [HO.out]
  exact bodyPost_fall (v := .tuple #[]) (by simp [results, Faag.results57, go_sem]) rfl ⟨rfl, nq, rfl⟩

namespace Bd
/-- wire.Padded -/
def paddedP (A : List Nat) (p : Ptr) : Prop :=
  ¬ p.kind = 2 ∨ p.count * width p.code % 8 = 0 ∨ (p.at_ + p.count * width p.code / 8 < A.length ∧ A.getD (p.at_ + p.count * width p.code / 8) 0 / 2 ^ (p.count * width p.code % 8 * 8) = 0)
end Bd

set_option maxHeartbeats 4000000 in
theorem padded_calls (g : Nat) (A : List Nat) (c : Nat) (hn : A.length ≤ 256) (p : Ptr) (hp : p.Ok) (w : World) (hA : ArAt w g A) :
    Calls Faag.prog 65 #[.slice (some ⟨g, 0, none⟩) A.length c, .agg (ptrC p).toArray] w fun e w' => RetB e (paddedP A p) ∧ Below w.heap.size w w' := by
  obtain ⟨R, hR⟩ : ∃ R, R = paddedP A p := ⟨_, rfl⟩
  rw [← hR]
  unfold paddedP at hR
  obtain ⟨kind, at_, data, ptrs, code, count⟩ := p
  obtain ⟨h1, h2, h3, h4, h5, h6⟩ := hp
  dsimp only at h1 h2 h3 h4 h5 h6 hR
  unfold ptrC
  dsimp only
  have hwd := width_le code
  have hcw := hide (width_calls code h5)
  generalize width code = wd at *
  have hm : count * wd ≤ 524280 := by have := Nat.mul_le_mul (show count ≤ 65535 by omega) hwd; omega
  have hmi : ((count : Int) * (wd : Int)) ≤ 524280 := by rw [← Int.natCast_mul]; omega
  have hm0 : 0 ≤ ((count : Int) * (wd : Int)) := by rw [← Int.natCast_mul]; omega
  by_cases hk : kind = 2
  · subst hk
    obtain ⟨N, hN⟩ : ∃ N, N = count * wd := ⟨_, rfl⟩
    have hNi : (count : Int) * (wd : Int) = (N : Int) := by rw [hN, Int.natCast_mul]
    rw [← hN] at hR hm
    by_cases h8 : N % 8 = 0
    · have HR := hide (show R = True from by rw [hR]; simp [h8])
      have g8 : ((N : Int) % 8 == 0) = true := by simp; omega
      clear hR hN h8
      go_enter Faag.func65, Faag.ntmps65
      go_wp2_with fail
      refine wp_region_qd 7 (by kernel_rfl) (by kernel_rfl) ?_
      simp only [List.take_succ_cons, List.take_zero, List.drop_succ_cons, List.drop_zero]
      repeat (go_big_quiet_step ((go_at_call 88; exact Calls.quiet_of_same (hcw.out _))))
      refine wpQuiet_nil ?_
      rintro _ ⟨nq, rfl⟩
      go_wp2_with fail
      go_ret
      exact ⟨RetB.of (by rw [HR.out]; exact ⟨fun _ => trivial, fun _ => rfl⟩), ((Below.refl _ _).alloc (Nat.le_refl _) _).step (below_drewN _ _)⟩
    · have g8 : ((N : Int) % 8 == 0) = false := by simp; omega
      obtain ⟨N8, hN8⟩ : ∃ x, x = N / 8 := ⟨_, rfl⟩
      obtain ⟨r8, hr8⟩ : ∃ x, x = N % 8 := ⟨_, rfl⟩
      have i8 : (N : Int) / 8 = (N8 : Int) := by omega
      have j8 : (N : Int) % 8 = (r8 : Int) := by omega
      have r8l : r8 < 8 := by omega
      rw [← hN8, ← hr8] at hR
      by_cases hlt : at_ + N8 < A.length
      · have cA := hA.1 _ hlt
        have lA := hA.2 (at_ + N8)
        have hg : g < w.heap.size := lt_of_cell cA
        generalize A.getD (at_ + N8) 0 = v at *
        have HR := hide (show R = (v / 2 ^ (r8 * 8) = 0) from by rw [hR]; simp only [eq_self, not_true, false_or, hlt, true_and]; rw [eq_iff_iff]; constructor; intro h; rcases h with h | h; omega; exact h; intro h; exact .inr h)
        clear hR hN h8 hN8 hr8
        rw [j8] at g8
        go_enter Faag.func65, Faag.ntmps65
        go_wp2_with fail
        refine wp_region_qd 7 (by kernel_rfl) (by kernel_rfl) ?_
        simp only [List.take_succ_cons, List.take_zero, List.drop_succ_cons, List.drop_zero]
        repeat (go_big_quiet_step ((go_at_call 88; exact Calls.quiet_of_same (hcw.out _))))
        refine wpQuiet_nil ?_
        rintro _ ⟨nq, rfl⟩
        go_wp2_with fail
        go_ret
        refine ⟨RetB.of ?_, ((Below.refl _ _).alloc (Nat.le_refl _) _).step (below_drewN _ _)⟩
        rw [HR.out]
        show ((v : Int) / 2 ^ (r8 * 8) == 0) = true ↔ _
        rw [beq_iff_eq, two_pow_int, ← Int.natCast_ediv]
        omega
      · have HR := hide (show R = False from by rw [hR]; simp only [eq_self, not_true, false_or, hlt, false_and, or_false]; rw [eq_iff_iff]; constructor; intro h; omega; intro h; cases h)
        have hle : A.length ≤ at_ + N8 := by omega
        clear hR hN h8 hN8 hr8 hlt
        rw [j8] at g8
        go_enter Faag.func65, Faag.ntmps65
        go_wp2_with fail
        refine wp_region_qd 7 (by kernel_rfl) (by kernel_rfl) ?_
        simp only [List.take_succ_cons, List.take_zero, List.drop_succ_cons, List.drop_zero]
        repeat (go_big_quiet_step ((go_at_call 88; exact Calls.quiet_of_same (hcw.out _))))
        refine wpQuiet_nil ?_
        rintro _ ⟨nq, rfl⟩
        go_wp2_with fail
        go_ret
        exact ⟨RetB.of (by rw [HR.out]; exact ⟨fun h => (Bool.noConfusion h), fun h => h.elim⟩), ((Below.refl _ _).alloc (Nat.le_refl _) _).step (below_drewN _ _)⟩
  · have HR := hide (show R = True from by rw [hR]; simp [hk])
    have g8 : ((kind : Int) != 2) = true := by simp; omega
    clear hR hk
    go_enter Faag.func65, Faag.ntmps65
    go_wp2_with fail
    go_ret
    exact ⟨RetB.of (by rw [HR.out]; exact ⟨fun _ => trivial, fun _ => rfl⟩), (Below.refl _ _).alloc (Nat.le_refl _) _⟩
end Go.Proofs.YgcfaaGreat
