import Derived.Test.YgcfaaClaim
import Derived.LoopN
import Derived.ChangeKeysEq
import Derived.Laws.StructEq
namespace Go.Proofs.Ygcfaa
open Go.RowKit Bits

theorem and_one_bit (v j : Nat) (hv : v < 18446744073709551616) : bits .and .u64 ((v : Int) / 2 ^ j) 1 = (((v.testBit j).toNat : Nat) : Int) := by
  have h1 : v / 2 ^ j < 18446744073709551616 := Nat.lt_of_le_of_lt (Nat.div_le_self _ _) hv
  have h2 := u64_and_nat (v / 2 ^ j) 1 h1 (by omega)
  rw [show ((v / 2 ^ j : Nat) : Int) = (v : Int) / 2 ^ j by rw [Int.natCast_ediv, Int.natCast_pow]; rfl] at h2
  rw [show ((1 : Nat) : Int) = 1 by rfl] at h2
  rw [h2, Nat.and_one_is_mod, Nat.testBit_eq_decide_div_mod_eq]
  have : v / 2 ^ j % 2 < 2 := Nat.mod_lt _ (by omega)
  generalize v / 2 ^ j % 2 = q at this
  match q, this with
  | 0, _ => rfl
  | 1, _ => rfl

theorem shl_one (j : Nat) (hj : j < 64) : IntKind.u64.wrap (2 ^ j) = ((ones 1 j : Nat) : Int) := by
  have h := ones_lt (r := 1) (a := j) (by omega)
  rw [IntKind.wrap_u64]
  have e : (2 ^ j : Int) = ((ones 1 j : Nat) : Int) := by
    unfold ones
    rw [show (2 ^ 1 - 1) * 2 ^ j = 2 ^ j by omega, Int.natCast_pow]
    rfl
  rw [e]
  omega

/-- Two arrays of four words that are the same are equal. -/
theorem eql_array4 (a b c d : Int) (w : World) :
    (binOp .eql 35 (.agg #[.int .u64 a, .int .u64 b, .int .u64 c, .int .u64 d]) (.agg #[.int .u64 a, .int .u64 b, .int .u64 c, .int .u64 d])).run Faag.prog w = .ok (.bool true) w := by
  have p0 : (part 22 #[.int .u64 a, .int .u64 b, .int .u64 c, .int .u64 d] (0 * Faag.prog.cellsOf 22)).run Faag.prog w = .ok (.int .u64 a) w := by kernel_rfl
  have p1 : (part 22 #[.int .u64 a, .int .u64 b, .int .u64 c, .int .u64 d] (1 * Faag.prog.cellsOf 22)).run Faag.prog w = .ok (.int .u64 b) w := by kernel_rfl
  have p2 : (part 22 #[.int .u64 a, .int .u64 b, .int .u64 c, .int .u64 d] (2 * Faag.prog.cellsOf 22)).run Faag.prog w = .ok (.int .u64 c) w := by kernel_rfl
  have p3 : (part 22 #[.int .u64 a, .int .u64 b, .int .u64 c, .int .u64 d] (3 * Faag.prog.cellsOf 22)).run Faag.prog w = .ok (.int .u64 d) w := by kernel_rfl
  have hr : List.range 4 = [0, 1, 2, 3] := rfl
  obtain ⟨i, hi⟩ : ∃ i, Faag.prog.info? 22 = some i := Option.isSome_iff_exists.1 (by kernel_rfl)
  rw [run_eql_struct, run_equalIn_array w 9999 _ _ Faag.underlying35 hi, hr]
  have q : ∀ n : Int, (Op.equalIn 9999 22 (.int .u64 n) (.int .u64 n)).run Faag.prog w = .ok true w := fun n => by
    rw [run_equalIn_int w 9998 22 .u64 .u64 n n Faag.underlying22]; simp
  simp only [Op.eqItems, Sem.run_bind, p0, p1, p2, p3, q, Result.andThen_ok, Bool.not_true, Bool.false_eq_true, if_false, Sem.run_pure]

set_option maxRecDepth 100000 in
set_option maxHeartbeats 1000000 in
theorem claimRight_calls (x n : Nat) (hx : x ≤ 65535) (hn : n ≤ 65535) (s0 s1 s2 s3 : Nat) (hb : ∀ y ∈ [s0, s1, s2, s3], y < 18446744073709551616) (w : World) :
    Calls Faag.prog 6 #[.agg #[.int .u64 s0, .int .u64 s1, .int .u64 s2, .int .u64 s3], .int .u16 x, .int .u16 n] w fun e w' =>
      e = .returned (.bool true) ∧ Below w.heap.size w w' := by
  have ix0 : ∀ w, (Instr.index 35 (.agg #[.int .u64 s0, .int .u64 s1, .int .u64 s2, .int .u64 s3]) (.int .i64 0)).run Faag.prog w = .ok (.int .u64 s0) w := fun _ => by kernel_rfl
  have ix1 : ∀ w, (Instr.index 35 (.agg #[.int .u64 s0, .int .u64 s1, .int .u64 s2, .int .u64 s3]) (.int .i64 1)).run Faag.prog w = .ok (.int .u64 s1) w := fun _ => by kernel_rfl
  have ix2 : ∀ w, (Instr.index 35 (.agg #[.int .u64 s0, .int .u64 s1, .int .u64 s2, .int .u64 s3]) (.int .i64 2)).run Faag.prog w = .ok (.int .u64 s2) w := fun _ => by kernel_rfl
  have ix3 : ∀ w, (Instr.index 35 (.agg #[.int .u64 s0, .int .u64 s1, .int .u64 s2, .int .u64 s3]) (.int .i64 3)).run Faag.prog w = .ok (.int .u64 s3) w := fun _ => by kernel_rfl
  go_enter Faag.func6, Faag.ntmps6
  go_wp2
  refine wp_loop_rounds 5 ?_
  iterate 4 (rw [rounds_succ]; go_wp2)
  rw [rounds_succ]
  go_wp2_with fail
  have R0 : RowAt ((w.alloc (.cells #[.int .u64 s0, .int .u64 s1, .int .u64 s2, .int .u64 s3] 35)).alloc (.cells #[.int .u64 s0, .int .u64 s1, .int .u64 s2, .int .u64 s3] 35)) w.heap.size 0 (U [s0, s1, s2, s3]) :=
    (RowAt.of_alloc w (U [s0, s1, s2, s3]) 35).alloc _
  have R1 : RowAt ((w.alloc (.cells #[.int .u64 s0, .int .u64 s1, .int .u64 s2, .int .u64 s3] 35)).alloc (.cells #[.int .u64 s0, .int .u64 s1, .int .u64 s2, .int .u64 s3] 35)) (w.heap.size + 1) 0 (U [s0, s1, s2, s3]) := by
    have := RowAt.of_alloc (w.alloc (.cells #[.int .u64 s0, .int .u64 s1, .int .u64 s2, .int .u64 s3] 35)) (U [s0, s1, s2, s3]) 35
    rw [World.size_alloc] at this
    exact this
  have hK0 : Keeps (fun k => w.heap.size ≤ k) w ((w.alloc (.cells #[.int .u64 s0, .int .u64 s1, .int .u64 s2, .int .u64 s3] 35)).alloc (.cells #[.int .u64 s0, .int .u64 s1, .int .u64 s2, .int .u64 s3] 35)) :=
    ((Keeps.refl _ _).alloc _).alloc _
  refine (claim_calls w.heap.size x n hx hn [s0, s1, s2, s3] rfl hb _ R0).mono ?_
  rintro e w1 ⟨s', hT, rfl, hr1, hk1⟩
  have hr2 := R1.keeps hk1 (fun _ h => by omega)
  have hK1 : Keeps (fun k => w.heap.size ≤ k) w w1 := hK0.trans (hk1.mono (fun k _ h => by omega))
  clear R0 R1 hK0 hk1 ix0 ix1 ix2 ix3
  have hT' := hide hT
  have hR1 := hide hr1
  have hR2 := hide hr2
  have HK1 := hide hK1
  clear hT hr1 hr2 hK1
  obtain ⟨res, hres⟩ : ∃ res, (decide (n = 0) || decide (x + n ≤ 256) && freeB [s0, s1, s2, s3] x n) = res := ⟨_, rfl⟩
  rw [hres]
  have Hres := hide hres
  clear hres
  go_wp2_with fail
  go_loopw [11, 12] (fun p i wr => ∃ k : Nat, k ≤ n ∧ i = .int .i64 (x + k : Nat) ∧ p = .bool (decide (k = 0 ∨ x + k ≤ 256) && freeB [s0, s1, s2, s3] x k) ∧
      ∃ t, Taken [s0, s1, s2, s3] x k t ∧ RowAt wr (w.heap.size + 1) 0 (U t) ∧ RowAt wr w.heap.size 0 (U s') ∧ Keeps (fun k => w.heap.size ≤ k) w wr) (fun _ i _ => x + n - (intOf i).toNat)
  case atStart => exact ⟨0, by omega, rfl, rfl, _, .zero x rfl hb, hR2.out, hR1.out, HK1.out⟩
  case round =>
    obtain ⟨k, hk, rfl, rfl, t, hT, hr2, hr1, hK⟩ := hrel
    have Ht := hide hT
    have Hr2 := hide hr2
    have Hr1 := hide hr1
    have HK := hide hK
    clear hT hr2 hr1 hK
    obtain ⟨pb, hpb⟩ : ∃ pb, (decide (k = 0 ∨ x + k ≤ 256) && freeB [s0, s1, s2, s3] x k) = pb := ⟨_, rfl⟩
    rw [hpb]
    by_cases hlt : k < n
    · -- what the next bool is
      have hnb := freeB_add [s0, s1, s2, s3] x k 1
      by_cases hin : x + k < 256
      · have hd : (x + k) / 64 < 4 := by omega
        have hdi : ((x : Int) + k) / 64 < 4 := by omega
        have hlen : (x + k) / 64 < t.length := by rw [Ht.out.1]; exact hd
        obtain ⟨v, hv⟩ : ∃ v, v = t.getD ((x + k) / 64) 0 := ⟨_, rfl⟩
        have hcx := Hr2.out.at_ (U_get hlen)
        have hfx := Hr2.out.live ((x + k) / 64) (by rw [U_length]; exact hlen)
        rw [← hv, Nat.zero_add] at hcx
        rw [Nat.zero_add] at hfx
        have hvl : v < 18446744073709551616 := by rw [hv]; exact getD_lt Ht.out.2.1 _
        obtain ⟨z, hz⟩ : ∃ z, z = ones 1 ((x + k) % 64) := ⟨_, rfl⟩
        have hzl : z < 18446744073709551616 := by rw [hz]; exact ones_lt (by omega)
        have hor := u64_or_nat v z hvl hzl
        have hsh := shl_one ((x + k) % 64) (by omega)
        rw [← hz] at hsh
        obtain ⟨bt, hbt⟩ : ∃ bt, v.testBit ((x + k) % 64) = bt := ⟨_, rfl⟩
        have hand := and_one_bit v ((x + k) % 64) hvl
        rw [hbt] at hand
        have hfr := Ht.out.free (r := 1) (by omega) (by omega)
        have CS := hide (fun nq => claim_step (nq := nq) Ht.out hd (r := 1) (by omega) Hr2.out (Keeps.refl _ _) hv hz)
        have hbb : freeB [s0, s1, s2, s3] (x + k) 1 = !bt := by
          rw [Bool.eq_iff_iff, ← hfr, run_free _ _ _ (by omega)]
          have e1 : tb t (x + k) = bt := by unfold tb; rw [← hv]; exact hbt
          constructor
          · intro h; rw [← e1, h (x + k) (by omega) (by omega)]; rfl
          · intro h i h1 h2; rw [show i = x + k by omega, e1]; simpa using h
        rw [hbb] at hnb
        have hnext : (decide (k + 1 = 0 ∨ x + (k + 1) ≤ 256) && freeB [s0, s1, s2, s3] x (k + 1)) = (pb && !bt) := by
          rw [hnb, ← hpb, decide_eq_true (show k + 1 = 0 ∨ x + (k + 1) ≤ 256 by omega), decide_eq_true (show k = 0 ∨ x + k ≤ 256 by omega), Bool.true_and, Bool.true_and]
        have Hnext := hide hnext
        have Hz := hide hz
        have Hv := hide hv
        clear hnext hbb hfr hnb hz hv hpb hbt
        cases pb
        all_goals cases bt
        all_goals
          simp only [Bool.toNat_true, Bool.toNat_false, Int.natCast_zero, Int.natCast_one] at hand
          go_wp2_with fail
          refine wp_region_qd 8 (by kernel_rfl) (by kernel_rfl) ?_
          simp only [List.take_succ_cons, List.take_zero, List.drop_succ_cons, List.drop_zero]
          repeat (go_big_quiet_step (fail))
          refine wpQuiet_nil ?_
          rintro _ ⟨nq, rfl⟩
          go_wp2
          go_roundw
          case rel =>
            obtain ⟨s'', c1, c2, c3⟩ := CS.out nq
            exact ⟨k + 1, by omega, by go_num, by rw [Hnext.out]; rfl, s'', c1, c2, Hr1.out.keeps c3 (fun _ h => by omega), HK.out.trans (c3.mono (fun _ _ h => by omega))⟩
          case measure => simp [intOf]; omega
      · have hnext : (decide (k + 1 = 0 ∨ x + (k + 1) ≤ 256) && freeB [s0, s1, s2, s3] x (k + 1)) = false := by
          rw [decide_eq_false (show ¬ (k + 1 = 0 ∨ x + (k + 1) ≤ 256) by omega), Bool.false_and]
        have Hnext := hide hnext
        have ht2 : Taken [s0, s1, s2, s3] x (k + 1) t := ⟨Ht.out.1, Ht.out.2.1, fun i hi => by
          rw [Ht.out.2.2 i hi]
          congr 1
          rw [decide_eq_decide]
          omega⟩
        have Ht2 := hide ht2
        clear hnext hnb hpb ht2
        cases pb
        all_goals
          go_wp2_with fail
          go_roundw
          case rel => exact ⟨k + 1, by omega, by go_num, by rw [Hnext.out], t, Ht2.out, Hr2.out, Hr1.out, HK.out⟩
          case measure => simp [intOf]; omega
    · have hkn : k = n := by omega
      subst hkn
      have hres : pb = res := by
        rw [← hpb, ← Hres.out]
        by_cases h0 : k = 0
        · subst h0; simp [freeB]
        · simp [h0]
      subst hres
      have hst : t = s' := ext4 Ht.out.1 hT'.out.1 Ht.out.2.1 hT'.out.2.1 (fun i hi => by rw [Ht.out.2.2 i hi, hT'.out.2.2 i hi])
      subst hst
      match t, Ht, Hr1, Hr2 with
      | [t0, t1, t2, t3], Ht, Hr1, Hr2 =>
        have c0 : wr.cell? ⟨w.heap.size, 0, none⟩ = some (.int .u64 t0) := Hr1.out.cell 0 (by simp [U])
        have c1 : wr.cell? ⟨w.heap.size, 1, none⟩ = some (.int .u64 t1) := Hr1.out.cell 1 (by simp [U])
        have c2 : wr.cell? ⟨w.heap.size, 2, none⟩ = some (.int .u64 t2) := Hr1.out.cell 2 (by simp [U])
        have c3 : wr.cell? ⟨w.heap.size, 3, none⟩ = some (.int .u64 t3) := Hr1.out.cell 3 (by simp [U])
        have d0 : wr.cell? ⟨w.heap.size + 1, 0, none⟩ = some (.int .u64 t0) := Hr2.out.cell 0 (by simp [U])
        have d1 : wr.cell? ⟨w.heap.size + 1, 1, none⟩ = some (.int .u64 t1) := Hr2.out.cell 1 (by simp [U])
        have d2 : wr.cell? ⟨w.heap.size + 1, 2, none⟩ = some (.int .u64 t2) := Hr2.out.cell 2 (by simp [U])
        have d3 : wr.cell? ⟨w.heap.size + 1, 3, none⟩ = some (.int .u64 t3) := Hr2.out.cell 3 (by simp [U])
        clear hpb
        have heq := eql_array4 t0 t1 t2 t3
        go_wp2_with fail
        go_ret
        exact ⟨rfl, HK.out.below (Nat.le_refl _) (fun _ h => by omega)⟩
end Go.Proofs.Ygcfaa
