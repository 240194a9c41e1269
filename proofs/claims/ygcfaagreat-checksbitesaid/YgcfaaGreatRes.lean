import Derived.Test.YgcfaaGreatWire
import Derived.OwnWalk
namespace Go.Proofs.YgcfaaGreat
open Go.RowKit Bits Bd
set_option linter.unusedVariables false
set_option maxRecDepth 100000
set_option linter.unusedSimpArgs false
attribute [local go_sem] World.cell?_ext World.frozen?_ext

namespace Bd
/-- wire.sections -/
def sectN (w : Nat) : Option (Nat × Nat) := if 8 < takeN w 32 16 ∨ 8 < takeN w 48 16 then none else some (takeN w 32 16, takeN w 48 16)
/-- wire.room.spans -/
def spansP (len low : Nat) (to n : Int) : Prop := if n = 0 then 0 ≤ to ∧ to ≤ len else (low : Int) ≤ to ∧ to + n ≤ len
end Bd

def RetSect (e : Ending) (o : Option (Nat × Nat)) : Prop := ∃ d q : Nat, ∃ r : Bool, e = .returned (.tuple #[.int .u8 (d : Int), .int .u8 (q : Int), .bool r]) ∧ ((r = true ∧ o = some (d, q) ∧ d ≤ 8 ∧ q ≤ 8) ∨ (r = false ∧ o = none ∧ d = 0 ∧ q = 0))
theorem sect_calls (v : Nat) (hv : v < 18446744073709551616) (w : World) :
    Calls Faag.prog 102 #[.int .u64 v] w fun e w' => RetSect e (sectN v) ∧ w' = w := by
  have h1 := hide (take_calls v 32 16 hv (by omega) (by omega))
  have h2 := hide (take_calls v 48 16 hv (by omega) (by omega))
  have hS := hide (show sectN v = if 8 < takeN v 32 16 ∨ 8 < takeN v 48 16 then none else some (takeN v 32 16, takeN v 48 16) from rfl)
  have l1 := takeN_lt hv 32 16
  have l2 := takeN_lt hv 48 16
  generalize takeN v 32 16 = d at *
  generalize takeN v 48 16 = q at *
  generalize sectN v = S at *
  go_enter Faag.func102, Faag.ntmps102
  go_wp2_with fail
  refine (h1.out _).mono ?_
  rintro e w' ⟨rfl, rfl⟩
  go_wp2_with fail
  refine (h2.out _).mono ?_
  rintro e w' ⟨rfl, rfl⟩
  go_wp2_with fail
  all_goals
    have hS := hS.out
    clear h1 h2
    go_ret3
    first
    | exact ⟨⟨0, 0, false, rfl, .inr ⟨rfl, by rw [hS, if_pos (by omega)], rfl, rfl⟩⟩, rfl⟩
    | exact ⟨⟨d, q, true, rfl, .inl ⟨rfl, by rw [hS, if_neg (by omega)], by omega, by omega⟩⟩, rfl⟩

theorem spans_calls (a : Option Addr) (n c low : Nat) (hn : n ≤ 256) (hl : low < 65536) (to m : Int) (ht : -1000000000 ≤ to ∧ to ≤ 1000000000) (hm : 0 ≤ m ∧ m ≤ 1000000000) (w : World) :
    Calls Faag.prog 103 #[.agg #[.slice a n c, .int .u16 low], .int .i32 to, .int .i32 m] w fun e w' => RetB e (spansP n low to m) ∧ Below w.heap.size w w' := by
  have hS := hide (show spansP n low to m = if m = 0 then 0 ≤ to ∧ to ≤ n else (low : Int) ≤ to ∧ to + m ≤ n from rfl)
  generalize hSS : spansP n low to m = S at *
  clear hSS
  obtain ⟨t1, t2⟩ := ht
  obtain ⟨m1, m2⟩ := hm
  go_enter Faag.func103, Faag.ntmps103
  go_wp2_with fail
  all_goals
    have hS := hS.out
    go_ret
    refine ⟨RetB.of ?_, (Below.refl _ _).alloc (Nat.le_refl _) _⟩
    rw [hS]
    clear hS
    simp only [Bool.and_eq_true, beq_iff_eq, decide_eq_true_eq, beq_eq_false_iff_ne, ne_eq, Bool.false_eq_true, false_iff] at *
    by_cases hm0 : m = 0
    · rw [if_pos hm0]
      omega
    · rw [if_neg hm0]
      omega

def spansD (len low : Nat) (to n : Int) : Decidable (spansP len low to n) := by unfold spansP; infer_instance
namespace Bd
/-- wire.room.structs -/
def structsR (A : List Nat) (low : Nat) (to : Int) (n : Nat) : Option Ptr :=
  haveI := spansD A.length low to ((n : Int) + 1)
  if ¬ spansP A.length low to ((n : Int) + 1) then none
  else match sectN (A.getD to.toNat 0) with
    | none => none
    | some (d, q) =>
      if ¬ takeN (A.getD to.toNat 0) 0 2 = 0 ∨ 128 < takeN (A.getD to.toNat 0) 2 30 then none
      else if (d + q = 0 ∧ ¬ takeN (A.getD to.toNat 0) 2 30 = 0) ∨ ¬ takeN (A.getD to.toNat 0) 2 30 * (d + q) = n then none
      else some ⟨2, to.toNat + 1, d, q, 7, takeN (A.getD to.toNat 0) 2 30⟩
/-- wire.room.plain -/
def plainR (len low : Nat) (to : Int) (code n : Nat) : Option Ptr :=
  haveI := spansD len low to ((words ⟨2, 0, 0, 0, code, n⟩ : Nat) : Int)
  if code < 2 ∨ 6 < code ∨ 128 < n then none
  else if ¬ spansP len low to ((words ⟨2, 0, 0, 0, code, n⟩ : Nat) : Int) then none
  else some ⟨2, to.toNat, 0, 0, code, n⟩
end Bd
/-- An arena in memory. -/
def ArAt (w : World) (g : Nat) (A : List Nat) : Prop := (∀ i, i < A.length → w.cell? ⟨g, i, none⟩ = some (.int .u64 (A.getD i 0 : Nat))) ∧ ∀ i, A.getD i 0 < 18446744073709551616
theorem ArAt.below {w w' : World} {g : Nat} {A : List Nat} (h : ArAt w g A) (hb : Below w.heap.size w w') : ArAt w' g A := by
  refine ⟨fun i hi => ?_, h.2⟩
  have hlt := lt_of_cell (h.1 i hi)
  dsimp only at hlt
  rw [World.cell?_of_block (w := w) (hb.block g hlt), h.1 i hi]
/-- It hands back a Ptr and whether it is one. -/
def RetPtr (e : Ending) (o : Option Ptr) : Prop := ∃ (p : Ptr) (r : Bool), p.Ok ∧ e = .returned (.tuple #[.agg (ptrC p).toArray, .bool r]) ∧ ((r = true ∧ o = some p) ∨ (r = false ∧ o = none ∧ p = ⟨0, 0, 0, 0, 0, 0⟩))
theorem RetPtr.no {o : Option Ptr} (h : o = none) : RetPtr (.returned (.tuple #[.agg #[.int .u8 0, .int .u16 0, .int .u8 0, .int .u8 0, .int .u8 0, .int .u16 0], .bool false])) o := ⟨⟨0, 0, 0, 0, 0, 0⟩, false, by simp [Ptr.Ok], rfl, .inr ⟨rfl, h, rfl⟩⟩

theorem below_two (w : World) (a b : Obj) : Below w.heap.size w ((w.alloc a).alloc b) := ((Below.refl _ _).alloc (Nat.le_refl _) _).alloc (by rw [World.size_alloc]; omega) _
theorem take_small (v a n : Nat) (h : a + n ≤ 64) : takeN v a n < 2 ^ n := by
  unfold takeN; rw [if_pos h]; exact Nat.mod_lt _ (Nat.two_pow_pos _)

set_option maxHeartbeats 4000000 in
theorem structs_calls (g : Nat) (A : List Nat) (c low : Nat) (hn : A.length ≤ 256) (hl : low < 65536) (to : Int) (m : Nat) (ht : -1000000000 ≤ to ∧ to ≤ 1000000000) (hm : m < 536870912) (w : World) (hA : ArAt w g A) :
    Calls Faag.prog 104 #[.agg #[.slice (some ⟨g, 0, none⟩) A.length c, .int .u16 low], .int .i32 to, .int .i32 m] w fun e w' => RetPtr e (structsR A low to m) ∧ Below w.heap.size w w' := by
  have hsp := hide (spans_calls (some ⟨g, 0, none⟩) A.length c low hn hl to ((m : Int) + 1) ht (by omega))
  obtain ⟨R, hR⟩ : ∃ R, R = structsR A low to m := ⟨_, rfl⟩
  rw [← hR]
  unfold structsR at hR
  have hS := hide hR
  clear hR
  have hSP := hide (show spansP A.length low to ((m : Int) + 1) → 0 ≤ to ∧ to < A.length from by unfold spansP; rw [if_neg (by omega)]; intro h; omega)
  obtain ⟨t1, t2⟩ := ht
  go_enter Faag.func104, Faag.ntmps104
  go_wp2_with fail
  refine (hsp.out _).mono ?_
  rintro e w1 ⟨⟨r, rfl, hr⟩, hb1⟩
  obtain ⟨x1, rfl⟩ := World.ext_of_below hb1
  clear hb1
  cases r with
  | false =>
    replace hr : ¬ spansP A.length low to ((m : Int) + 1) := fun h => by have := hr.2 h; cases this
    have HN := hide (show R = none from by rw [hS.out, if_pos hr])
    clear hr hS hsp
    go_wp2_with fail
    refine bodyPost_ret (v := .tuple #[.agg #[.int .u8 0, .int .u16 0, .int .u8 0, .int .u8 0, .int .u8 0, .int .u16 0], .bool false]) (by simp [results, Faag.results104, go_sem]) rfl ⟨RetPtr.no HN.out, ?_⟩
    repeat (refine Below.setCell ?_ (by dsimp only; omega) _)
    exact (below_two w _ _).step (World.below_ext _ _)
  | true =>
    replace hr : spansP A.length low to ((m : Int) + 1) := hr.1 rfl
    obtain ⟨q1, q2⟩ := hSP.out hr
    obtain ⟨T, rfl⟩ : ∃ T : Nat, to = T := ⟨to.toNat, by omega⟩
    have hT : T < A.length := by omega
    have cT := hA.1 T hT
    have lT := hA.2 T
    have hg : g < w.heap.size := lt_of_cell cT
    have hg' : g < w.heap.size + 1 := by omega
    have hS2 := hS.out
    rw [if_neg (by simpa using hr), Int.toNat_natCast] at hS2
    generalize A.getD T 0 = tag at *
    have HS := hide hS2
    have h1 := hide (take_calls tag 2 30 lT (by omega) (by omega))
    have h2 := hide (take_calls tag 0 2 lT (by omega) (by omega))
    have h3 := hide (sect_calls tag lT)
    have k1 := take_small tag 2 30 (by omega)
    have k2 := takeN_lt lT 0 2
    generalize takeN tag 2 30 = cnt at *
    generalize takeN tag 0 2 = kd at *
    generalize sectN tag = sc at *
    clear hS hS2 hsp hSP hr q1 q2
    go_wp2_with fail
    refine (h1.out _).mono ?_
    rintro e w' ⟨rfl, rfl⟩
    go_wp2_with fail
    refine (h3.out _).mono ?_
    rintro e w' ⟨⟨d, q, r, rfl, hdq⟩, rfl⟩
    rcases hdq with ⟨rfl, hsc, hd, hq⟩ | ⟨rfl, hsc, rfl, rfl⟩
    · rw [hsc] at HS
      clear hsc h1 h3
      go_wp2_with fail
      refine (h2.out _).mono ?_
      rintro e w' ⟨rfl, rfl⟩
      by_cases c1 : kd = 0
      · have g1 : ((kd : Int) != 0) = false := by simp; omega
        by_cases c2 : 128 < cnt
        · have HN := hide (show R = none from by rw [HS.out]; rw [if_pos (by omega)])
          clear h2 HS
          go_wp2_with fail
          refine bodyPost_ret (v := .tuple #[.agg #[.int .u8 0, .int .u16 0, .int .u8 0, .int .u8 0, .int .u8 0, .int .u16 0], .bool false]) (by simp [results, Faag.results104, go_sem]) rfl ⟨RetPtr.no HN.out, ?_⟩
          repeat (refine Below.setCell ?_ (by dsimp only; omega) _)
          exact (below_two w _ _).step (World.below_ext _ _)
        · have c2' : cnt ≤ 128 := by omega
          have hmul : cnt * (d + q) ≤ 2048 := by have := Nat.mul_le_mul c2' (show d + q ≤ 16 by omega); omega
          have hmi : ((cnt : Int) * ((d : Int) + q)) ≤ 2048 := by rw [← Int.natCast_add, ← Int.natCast_mul]; omega
          have hm0 : 0 ≤ ((cnt : Int) * ((d : Int) + q)) := by rw [← Int.natCast_add, ← Int.natCast_mul]; omega
          have hmc := hide (show ((cnt : Int) * ((d : Int) + q)) = ((cnt * (d + q) : Nat) : Int) from by rw [Int.natCast_mul, Int.natCast_add])
          have HS2 := HS.out
          rw [if_neg (by omega)] at HS2
          have HS3 := hide HS2
          clear h2 HS HS2 c1 c2
          by_cases c3 : d + q = 0 ∧ ¬ cnt = 0
          · have g2 : ((d : Int) + q == 0) = true := by simp; omega
            have g3 : ((cnt : Int) != 0) = true := by simp; omega
            have HN := hide (show R = none from by rw [HS3.out, if_pos (.inl c3)])
            clear HS3 hmc c3 hmul hmi hm0
            go_wp2_with fail
            refine bodyPost_ret (v := .tuple #[.agg #[.int .u8 0, .int .u16 0, .int .u8 0, .int .u8 0, .int .u8 0, .int .u16 0], .bool false]) (by simp [results, Faag.results104, go_sem]) rfl ⟨RetPtr.no HN.out, ?_⟩
            repeat (refine Below.setCell ?_ (by dsimp only; omega) _)
            exact (below_two w _ _).step (World.below_ext _ _)
          by_cases c4 : cnt * (d + q) = m
          · have g5 : ((cnt : Int) * ((d : Int) + q) != (m : Int)) = false := by rw [hmc.out, c4]; simp
            have HN := hide (show R = some ⟨2, T + 1, d, q, 7, cnt⟩ from by rw [HS3.out, if_neg (fun hh => hh.elim c3 (fun h => h c4))])
            have hc34 : (((d : Int) + q == 0) = false) ∨ ((((d : Int) + q == 0) = true) ∧ (((cnt : Int) != 0) = false)) := by
              by_cases h0 : d + q = 0
              · exact .inr ⟨by simp; omega, by simp; omega⟩
              · exact .inl (by simp; omega)
            clear HS3 hmc c3 c4 hmul
            rcases hc34 with g2 | ⟨g2, g3⟩
            all_goals
              go_wp2_with fail
              refine bodyPost_ret (v := .tuple #[.agg #[.int .u8 2, .int .u16 ((T : Int) + 1), .int .u8 d, .int .u8 q, .int .u8 7, .int .u16 cnt], .bool true]) (by simp [results, Faag.results104, go_sem]) rfl ⟨⟨⟨2, T + 1, d, q, 7, cnt⟩, true, ⟨by dsimp only; omega, by dsimp only; omega, by dsimp only; omega, by dsimp only; omega, by dsimp only; omega, by dsimp only; omega⟩, rfl, .inl ⟨rfl, HN.out⟩⟩, ?_⟩
              repeat (refine Below.setCell ?_ (by dsimp only; omega) _)
              exact (below_two w _ _).step (World.below_ext _ _)
          · have g5 : ((cnt : Int) * ((d : Int) + q) != (m : Int)) = true := by rw [hmc.out]; exact bne_iff_ne.2 (fun h => c4 (Int.ofNat_inj.1 h))
            have HN := hide (show R = none from by rw [HS3.out, if_pos (.inr c4)])
            have hc34 : (((d : Int) + q == 0) = false) ∨ ((((d : Int) + q == 0) = true) ∧ (((cnt : Int) != 0) = false)) := by
              by_cases h0 : d + q = 0
              · exact .inr ⟨by simp; omega, by simp; omega⟩
              · exact .inl (by simp; omega)
            clear HS3 hmc c3 c4 hmul
            rcases hc34 with g2 | ⟨g2, g3⟩
            all_goals
              go_wp2_with fail
              refine bodyPost_ret (v := .tuple #[.agg #[.int .u8 0, .int .u16 0, .int .u8 0, .int .u8 0, .int .u8 0, .int .u16 0], .bool false]) (by simp [results, Faag.results104, go_sem]) rfl ⟨RetPtr.no HN.out, ?_⟩
              repeat (refine Below.setCell ?_ (by dsimp only; omega) _)
              exact (below_two w _ _).step (World.below_ext _ _)
      · have g1 : ((kd : Int) != 0) = true := by simp; omega
        have HN := hide (show R = none from by rw [HS.out]; rw [if_pos (by omega)])
        clear h2 HS
        go_wp2_with fail
        refine bodyPost_ret (v := .tuple #[.agg #[.int .u8 0, .int .u16 0, .int .u8 0, .int .u8 0, .int .u8 0, .int .u16 0], .bool false]) (by simp [results, Faag.results104, go_sem]) rfl ⟨RetPtr.no HN.out, ?_⟩
        repeat (refine Below.setCell ?_ (by dsimp only; omega) _)
        exact (below_two w _ _).step (World.below_ext _ _)
    · have HN := hide (show R = none from by rw [HS.out, hsc])
      go_wp2_with fail
      refine bodyPost_ret (v := .tuple #[.agg #[.int .u8 0, .int .u16 0, .int .u8 0, .int .u8 0, .int .u8 0, .int .u16 0], .bool false]) (by simp [results, Faag.results104, go_sem]) rfl ⟨RetPtr.no HN.out, ?_⟩
      repeat (refine Below.setCell ?_ (by dsimp only; omega) _)
      exact (below_two w _ _).step (World.below_ext _ _)
end Go.Proofs.YgcfaaGreat
