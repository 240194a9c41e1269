import Derived.Test.YgcfaaGreatRes
import Derived.Test.YgcfaaGreatLoud
namespace Go.Proofs.YgcfaaGreat
open Go.RowKit Bits Bd
set_option linter.unusedVariables false
set_option maxRecDepth 100000
set_option linter.unusedSimpArgs false
attribute [local go_sem] World.cell?_ext World.frozen?_ext

theorem six {w : World} {b : Nat} {v0 v1 v2 v3 v4 v5 : Value} (h : RowAt w b 0 [v0, v1, v2, v3, v4, v5]) :
    (w.cell? ⟨b, 0, none⟩ = some v0 ∧ w.cell? ⟨b, 1, none⟩ = some v1 ∧ w.cell? ⟨b, 2, none⟩ = some v2 ∧ w.cell? ⟨b, 3, none⟩ = some v3 ∧ w.cell? ⟨b, 4, none⟩ = some v4 ∧ w.cell? ⟨b, 5, none⟩ = some v5) ∧
    (w.frozen? ⟨b, 0, none⟩ = false ∧ w.frozen? ⟨b, 1, none⟩ = false ∧ w.frozen? ⟨b, 2, none⟩ = false ∧ w.frozen? ⟨b, 3, none⟩ = false ∧ w.frozen? ⟨b, 4, none⟩ = false ∧ w.frozen? ⟨b, 5, none⟩ = false) := by
  have f := fun i (hi : i < 6) => h.live i hi
  have c := fun i (hi : i < 6) => h.cell i hi
  simp only [Nat.zero_add] at f c
  exact ⟨⟨c 0 (by omega), c 1 (by omega), c 2 (by omega), c 3 (by omega), c 4 (by omega), c 5 (by omega)⟩, ⟨f 0 (by omega), f 1 (by omega), f 2 (by omega), f 3 (by omega), f 4 (by omega), f 5 (by omega)⟩⟩
theorem rowAt_ext {w x : World} {b o : Nat} {vs : List Value} (h : RowAt w b o vs) : RowAt (w.ext x) b o vs :=
  h.keeps (Keeps.of_below (World.below_ext w x)) (fun hb hx => by omega)

set_option maxHeartbeats 4000000 in
theorem plain_calls (g : Nat) (n c low : Nat) (hn : n ≤ 256) (hl : low < 65536) (to : Int) (code m : Nat) (ht : -1000000000 ≤ to ∧ to ≤ 1000000000) (hc : code < 8) (hm : m < 536870912) (w : World) :
    Calls Faag.prog 105 #[.agg #[.slice (some ⟨g, 0, none⟩) n c, .int .u16 low], .int .i32 to, .int .u8 code, .int .i32 m] w fun e w' => RetPtr e (plainR n low to code m) ∧ Below w.heap.size w w' := by
  obtain ⟨R, hR⟩ : ∃ R, R = plainR n low to code m := ⟨_, rfl⟩
  rw [← hR]
  unfold plainR at hR
  by_cases hbad : code < 2 ∨ 6 < code ∨ 128 < m
  · have HN := hide (show R = none from by rw [hR, if_pos hbad])
    clear hR
    have hcs : code < 2 ∨ (2 ≤ code ∧ 6 < code) ∨ (2 ≤ code ∧ code ≤ 6 ∧ 128 < m) := by omega
    clear hbad
    rcases hcs with h1 | ⟨h1, h2⟩ | ⟨h1, h2, h3⟩
    all_goals
      go_enter Faag.func105, Faag.ntmps105
      go_wp2_with fail
      refine bodyPost_ret (v := .tuple #[.agg #[.int .u8 0, .int .u16 0, .int .u8 0, .int .u8 0, .int .u8 0, .int .u16 0], .bool false]) (by simp [results, Faag.results105, go_sem]) rfl ⟨RetPtr.no HN.out, ?_⟩
      repeat (refine Below.setCell ?_ (by dsimp only; omega) _)
      exact below_two w _ _
  · rw [if_neg hbad] at hR
    have h1 : 2 ≤ code := by omega
    have h2 : code ≤ 6 := by omega
    have h3 : m ≤ 128 := by omega
    have hw := hide (words_calls ⟨2, 0, 0, 0, code, m⟩ ⟨by dsimp only; omega, by dsimp only; omega, by dsimp only; omega, by dsimp only; omega, by dsimp only; omega, by dsimp only; omega⟩)
    have hwl := words_le ⟨2, 0, 0, 0, code, m⟩
    generalize words ⟨2, 0, 0, 0, code, m⟩ = k at *
    have hsp := hide (spans_calls (some ⟨g, 0, none⟩) n c low hn hl to (k : Int) ht (by omega))
    have hSP := hide (show spansP n low to (k : Int) → 0 ≤ to ∧ to ≤ n from by unfold spansP; split <;> intro h <;> omega)
    have HR := hide hR
    clear hR hbad
    unfold ptrC at hw
    dsimp only at hw
    obtain ⟨t1, t2⟩ := ht
    have z1 : w.heap.size < w.heap.size + 1 := by omega
    have z2 : w.heap.size < w.heap.size + 1 + 1 := by omega
    have z3 : w.heap.size + 1 < w.heap.size + 1 + 1 := by omega
    go_enter Faag.func105, Faag.ntmps105
    go_wp2_with fail
    refine wp_region_qx 5 (by kernel_rfl) (by kernel_rfl) ?_
    simp only [List.take_succ_cons, List.take_zero, List.drop_succ_cons, List.drop_zero]
    repeat (go_big_quiet_step ((go_at_call 54; exact Calls.ext_of (hw.out _))))
    refine wpQuiet_nil ?_
    rintro _ ⟨x, rfl⟩
    go_wp2_with fail
    refine (hsp.out _).mono ?_
    rintro e w1 ⟨⟨r, rfl, hr⟩, hb1⟩
    obtain ⟨x1, rfl⟩ := ext_below ⟨x, rfl⟩ hb1
    clear hb1
    have hbw := hide (((below_two w (Obj.cells #[Value.slice (some { block := g, off := 0 }) n c, Value.int IntKind.u16 ↑low] 153) (Obj.cells #[.int .u8 0, .int .u16 0, .int .u8 0, .int .u8 0, .int .u8 0, .int .u16 0] 62)).alloc (by rw [World.size_alloc, World.size_alloc]; omega) (Obj.cells #[.int .u8 2, .int .u16 0, .int .u8 0, .int .u8 0, .int .u8 (code : Int), .int .u16 (m : Int)] 62)).step (World.below_ext _ x1))
    have r1 : RowAt ((((w.alloc (Obj.cells #[Value.slice (some { block := g, off := 0 }) n c, Value.int IntKind.u16 ↑low] 153)).alloc (Obj.cells #[.int .u8 0, .int .u16 0, .int .u8 0, .int .u8 0, .int .u8 0, .int .u16 0] 62)).alloc (Obj.cells #[.int .u8 2, .int .u16 0, .int .u8 0, .int .u8 0, .int .u8 (code : Int), .int .u16 (m : Int)] 62)).ext x1) (w.heap.size + 1) 0 [.int .u8 0, .int .u16 0, .int .u8 0, .int .u8 0, .int .u8 0, .int .u16 0] := by
      have := RowAt.of_alloc (w.alloc (Obj.cells #[Value.slice (some { block := g, off := 0 }) n c, Value.int IntKind.u16 ↑low] 153)) [.int .u8 0, .int .u16 0, .int .u8 0, .int .u8 0, .int .u8 0, .int .u16 0] 62
      rw [World.size_alloc] at this
      exact rowAt_ext (this.alloc _)
    have r2 : RowAt ((((w.alloc (Obj.cells #[Value.slice (some { block := g, off := 0 }) n c, Value.int IntKind.u16 ↑low] 153)).alloc (Obj.cells #[.int .u8 0, .int .u16 0, .int .u8 0, .int .u8 0, .int .u8 0, .int .u16 0] 62)).alloc (Obj.cells #[.int .u8 2, .int .u16 0, .int .u8 0, .int .u8 0, .int .u8 (code : Int), .int .u16 (m : Int)] 62)).ext x1) (w.heap.size + 1 + 1) 0 [.int .u8 2, .int .u16 0, .int .u8 0, .int .u8 0, .int .u8 (code : Int), .int .u16 (m : Int)] := by
      have := RowAt.of_alloc ((w.alloc (Obj.cells #[Value.slice (some { block := g, off := 0 }) n c, Value.int IntKind.u16 ↑low] 153)).alloc (Obj.cells #[.int .u8 0, .int .u16 0, .int .u8 0, .int .u8 0, .int .u8 0, .int .u16 0] 62)) [.int .u8 2, .int .u16 0, .int .u8 0, .int .u8 0, .int .u8 (code : Int), .int .u16 (m : Int)] 62
      rw [World.size_alloc, World.size_alloc] at this
      exact rowAt_ext this
    obtain ⟨⟨a0, a1, a2, a3, a4, a5⟩, ⟨b0, b1, b2, b3, b4, b5⟩⟩ := six r1
    obtain ⟨⟨e0, e1, e2, e3, e4, e5⟩, ⟨f0, f1, f2, f3, f4, f5⟩⟩ := six r2
    clear r1 r2
    generalize World.ext _ x1 = W4 at *
    cases r with
    | false =>
      replace hr : ¬ spansP n low to (k : Int) := fun h => by have := hr.2 h; cases this
      have HN := hide (show R = none from by rw [HR.out, if_pos hr])
      clear hr HR hsp hw hSP
      go_wp2_with fail
      refine bodyPost_ret (v := .tuple #[.agg #[.int .u8 0, .int .u16 0, .int .u8 0, .int .u8 0, .int .u8 0, .int .u16 0], .bool false]) (by simp [results, Faag.results105, go_sem, a0, a1, a2, a3, a4, a5, e0, e1, e2, e3, e4, e5]) rfl ⟨RetPtr.no HN.out, ?_⟩
      repeat (refine Below.setCell ?_ (by dsimp only; omega) _)
      exact hbw.out
    | true =>
      replace hr : spansP n low to (k : Int) := hr.1 rfl
      obtain ⟨q1, q2⟩ := hSP.out hr
      have HN := hide (show R = some ⟨2, to.toNat, 0, 0, code, m⟩ from by rw [HR.out, if_neg (by simpa using hr)])
      obtain ⟨T, rfl⟩ : ∃ T : Nat, to = T := ⟨to.toNat, by omega⟩
      rw [Int.toNat_natCast] at HN
      clear hr HR hsp hw hSP
      go_wp2_with fail
      refine bodyPost_ret (v := .tuple #[.agg #[.int .u8 2, .int .u16 (T : Int), .int .u8 0, .int .u8 0, .int .u8 code, .int .u16 m], .bool true]) (by simp [results, Faag.results105, go_sem, a0, a1, a2, a3, a4, a5, e0, e1, e2, e3, e4, e5]) rfl ⟨⟨⟨2, T, 0, 0, code, m⟩, true, ⟨by dsimp only; omega, by dsimp only; omega, by dsimp only; omega, by dsimp only; omega, by dsimp only; omega, by dsimp only; omega⟩, rfl, .inl ⟨rfl, HN.out⟩⟩, ?_⟩
      repeat (refine Below.setCell ?_ (by dsimp only; omega) _)
      exact hbw.out

namespace Bd
/-- wire.ResolveWord -/
def resolveW (A : List Nat) (v base low : Nat) : Option Ptr :=
  if v = 0 then some ⟨0, 0, 0, 0, 0, 0⟩
  else if takeN v 0 2 = 0 then
    match sectN v with
    | none => none
    | some (d, q) => haveI := spansD A.length low ((base : Int) + signI (v / 4) 30) ((d : Int) + q); if ¬ spansP A.length low ((base : Int) + signI (v / 4) 30) ((d : Int) + q) then none else some ⟨1, ((base : Int) + signI (v / 4) 30).toNat, d, q, 0, 0⟩
  else if takeN v 0 2 = 1 then
    if takeN v 32 3 = 7 then structsR A low ((base : Int) + signI (v / 4) 30) (takeN v 35 29) else plainR A.length low ((base : Int) + signI (v / 4) 30) (takeN v 32 3) (takeN v 35 29)
  else none
/-- wire.Resolve -/
def resolveN (A : List Nat) (a : Nat) : Option Ptr := if A.length ≤ a then none else resolveW A (A.getD a 0) (a + 1) 1
end Bd
theorem sign30 (x : Nat) : -536870912 ≤ signI x 30 ∧ signI x 30 < 536870912 := by
  unfold signI
  rw [if_neg (by omega), if_neg (by omega)]
  have h1 : (2 : Nat) ^ 30 = 1073741824 := by decide
  have h2 : (2 : Nat) ^ (30 - 1) = 536870912 := by decide
  rw [h1, h2]
  split <;> omega

set_option maxHeartbeats 4000000 in
theorem resolveW_calls (g : Nat) (A : List Nat) (c v base low : Nat) (hn : A.length ≤ 256) (hl : low < 65536) (hb : base < 65536) (hv : v < 18446744073709551616) (w : World) (hA : ArAt w g A) :
    Calls Faag.prog 93 #[.slice (some ⟨g, 0, none⟩) A.length c, .int .u64 v, .int .u16 base, .int .u16 low] w fun e w' => RetPtr e (resolveW A v base low) ∧ Below w.heap.size w w' := by
  obtain ⟨R, hR⟩ : ∃ R, R = resolveW A v base low := ⟨_, rfl⟩
  rw [← hR]
  unfold resolveW at hR
  by_cases h0 : v = 0
  · subst h0
    have HN := hide (show R = some ⟨0, 0, 0, 0, 0, 0⟩ from by rw [hR, if_pos rfl])
    clear hR
    go_enter Faag.func93, Faag.ntmps93
    go_wp2_with fail
    refine bodyPost_ret (v := .tuple #[.agg #[.int .u8 0, .int .u16 0, .int .u8 0, .int .u8 0, .int .u8 0, .int .u16 0], .bool true]) (by simp [results, Faag.results93, go_sem]) rfl ⟨⟨⟨0, 0, 0, 0, 0, 0⟩, true, by simp [Ptr.Ok], rfl, .inl ⟨rfl, HN.out⟩⟩, ?_⟩
    repeat (refine Below.setCell ?_ (by dsimp only; omega) _)
    exact (Below.refl _ _).alloc (Nat.le_refl _) _
  · rw [if_neg h0] at hR
    have g0 : ((v : Int) == 0) = false := by simp; omega
    obtain ⟨v4, hv4⟩ : ∃ v4, v4 = v / 4 := ⟨_, rfl⟩
    have hv4l : v4 < 18446744073709551616 := by omega
    have hq4 : (v : Int) / 4 = (v4 : Int) := by omega
    rw [← hv4] at hR
    have hsg := hide (sign_calls v4 30 hv4l (by omega))
    obtain ⟨s1, s2⟩ := sign30 v4
    generalize signI v4 30 = S at *
    have hk := hide (take_calls v 0 2 hv (by omega) (by omega))
    have hkl := take_small v 0 2 (by omega)
    generalize takeN v 0 2 = kd at *
    clear hv4 h0
    have hcs : kd = 0 ∨ kd = 1 ∨ 2 ≤ kd := by omega
    rcases hcs with rfl | rfl | hk2
    · rw [if_pos rfl] at hR
      have hsc := hide (sect_calls v hv)
      generalize sectN v = sc at *
      have HR := hide hR
      clear hR hkl
      go_enter Faag.func93, Faag.ntmps93
      go_wp2_with fail
      refine (hsg.out _).mono ?_
      rintro e w' ⟨rfl, rfl⟩
      go_wp2_with fail
      refine (hk.out _).mono ?_
      rintro e w' ⟨rfl, rfl⟩
      go_wp2_with fail
      refine (hsc.out _).mono ?_
      rintro e w' ⟨⟨d, q, r, rfl, hdq⟩, rfl⟩
      rcases hdq with ⟨rfl, hsc2, hd, hq⟩ | ⟨rfl, hsc2, rfl, rfl⟩
      · rw [hsc2] at HR
        have hsp := hide (spans_calls (some ⟨g, 0, none⟩) A.length c low hn hl ((base : Int) + S) ((d : Int) + q) (by omega) (by omega))
        have hSP := hide (show spansP A.length low ((base : Int) + S) ((d : Int) + q) → 0 ≤ (base : Int) + S ∧ (base : Int) + S ≤ A.length from by unfold spansP; split <;> intro h <;> omega)
        clear hsc hsc2 hk hsg
        go_wp2_with fail
        refine (hsp.out _).mono ?_
        rintro e w1 ⟨⟨r, rfl, hr⟩, hb1⟩
        obtain ⟨x1, rfl⟩ := World.ext_of_below hb1
        clear hb1
        cases r with
        | false =>
          replace hr : ¬ spansP A.length low ((base : Int) + S) ((d : Int) + q) := fun h => by have := hr.2 h; cases this
          have HN := hide (show R = none from by rw [HR.out, if_pos hr])
          clear hr HR hsp hSP
          go_wp2_with fail
          refine bodyPost_ret (v := .tuple #[.agg #[.int .u8 0, .int .u16 0, .int .u8 0, .int .u8 0, .int .u8 0, .int .u16 0], .bool false]) (by simp [results, Faag.results93, go_sem]) rfl ⟨RetPtr.no HN.out, ?_⟩
          repeat (refine Below.setCell ?_ (by dsimp only; omega) _)
          exact ((below_two w _ _).step (World.below_ext _ _))
        | true =>
          replace hr : spansP A.length low ((base : Int) + S) ((d : Int) + q) := hr.1 rfl
          obtain ⟨q1, q2⟩ := hSP.out hr
          have HN := hide (show R = some ⟨1, ((base : Int) + S).toNat, d, q, 0, 0⟩ from by rw [HR.out, if_neg (by simpa using hr)])
          obtain ⟨T, hT⟩ : ∃ T : Nat, (base : Int) + S = T := ⟨((base : Int) + S).toNat, by omega⟩
          rw [hT, Int.toNat_natCast] at HN
          have hT' : T ≤ 256 := by omega
          clear hr HR hsp hSP
          go_wp2_with fail
          refine bodyPost_ret (v := .tuple #[.agg #[.int .u8 1, .int .u16 (T : Int), .int .u8 d, .int .u8 q, .int .u8 0, .int .u16 0], .bool true]) (by simp [results, Faag.results93, go_sem]) rfl ⟨⟨⟨1, T, d, q, 0, 0⟩, true, ⟨by dsimp only; omega, by dsimp only; omega, by dsimp only; omega, by dsimp only; omega, by dsimp only; omega, by dsimp only; omega⟩, rfl, .inl ⟨rfl, HN.out⟩⟩, ?_⟩
          repeat (refine Below.setCell ?_ (by dsimp only; omega) _)
          exact ((below_two w _ _).step (World.below_ext _ _))
      · have HN := hide (show R = none from by rw [HR.out, hsc2])
        clear HR hsc hsc2 hk hsg
        go_wp2_with fail
        refine bodyPost_ret (v := .tuple #[.agg #[.int .u8 0, .int .u16 0, .int .u8 0, .int .u8 0, .int .u8 0, .int .u16 0], .bool false]) (by simp [results, Faag.results93, go_sem]) rfl ⟨RetPtr.no HN.out, ?_⟩
        repeat (refine Below.setCell ?_ (by dsimp only; omega) _)
        exact below_two w _ _
    · rw [if_neg (by omega), if_pos rfl] at hR
      have hc1 := hide (take_calls v 32 3 hv (by omega) (by omega))
      have hc2 := take_small v 32 3 (by omega)
      generalize takeN v 32 3 = code at *
      have hn1 := hide (take_calls v 35 29 hv (by omega) (by omega))
      have hn2 := take_small v 35 29 (by omega)
      generalize takeN v 35 29 = m at *
      have hst := hide (fun W hW => structs_calls g A c low hn hl ((base : Int) + S) m (by omega) (by omega) W hW)
      have hpl := hide (plain_calls g A.length c low hn hl ((base : Int) + S) code m (by omega) (by omega) (by omega))
      generalize structsR A low ((base : Int) + S) m = R1 at *
      generalize plainR A.length low ((base : Int) + S) code m = R2 at *
      have HR := hide hR
      clear hR hkl
      go_enter Faag.func93, Faag.ntmps93
      go_wp2_with fail
      refine (hsg.out _).mono ?_
      rintro e w' ⟨rfl, rfl⟩
      go_wp2_with fail
      refine (hk.out _).mono ?_
      rintro e w' ⟨rfl, rfl⟩
      go_wp2_with fail
      refine (hc1.out _).mono ?_
      rintro e w' ⟨rfl, rfl⟩
      go_wp2_with fail
      refine (hn1.out _).mono ?_
      rintro e w' ⟨rfl, rfl⟩
      clear hsg hk hc1 hn1
      by_cases h7 : code = 7
      · subst h7
        have HR2 := HR.out
        rw [if_pos rfl] at HR2
        subst HR2
        clear HR hpl
        go_wp2_with fail
        refine (hst.out _ (hA.below (below_two w _ _))).mono ?_
        rintro e w1 ⟨⟨⟨k1, k2, k3, k4, k5, k6⟩, r, hok, rfl, hr⟩, hb1⟩
        obtain ⟨x1, rfl⟩ := World.ext_of_below hb1
        clear hb1 hst
        have Hr := hide hr
        have Ho := hide hok
        clear hr hok
        unfold ptrC
        dsimp only
        go_wp2_with fail
        refine bodyPost_ret (v := .tuple #[.agg #[.int .u8 k1, .int .u16 k2, .int .u8 k3, .int .u8 k4, .int .u8 k5, .int .u16 k6], .bool r]) (by simp [results, Faag.results93, go_sem]) rfl ⟨⟨⟨k1, k2, k3, k4, k5, k6⟩, r, Ho.out, rfl, Hr.out⟩, ?_⟩
        repeat (refine Below.setCell ?_ (by dsimp only; omega) _)
        exact ((below_two w _ _).step (World.below_ext _ _))
      · have g7 : ((code : Int) == 7) = false := by simp; omega
        have HR2 := HR.out
        rw [if_neg h7] at HR2
        subst HR2
        clear HR hst
        go_wp2_with fail
        refine (hpl.out _).mono ?_
        rintro e w1 ⟨⟨⟨k1, k2, k3, k4, k5, k6⟩, r, hok, rfl, hr⟩, hb1⟩
        obtain ⟨x1, rfl⟩ := World.ext_of_below hb1
        clear hb1 hpl
        have Hr := hide hr
        have Ho := hide hok
        clear hr hok
        unfold ptrC
        dsimp only
        go_wp2_with fail
        refine bodyPost_ret (v := .tuple #[.agg #[.int .u8 k1, .int .u16 k2, .int .u8 k3, .int .u8 k4, .int .u8 k5, .int .u16 k6], .bool r]) (by simp [results, Faag.results93, go_sem]) rfl ⟨⟨⟨k1, k2, k3, k4, k5, k6⟩, r, Ho.out, rfl, Hr.out⟩, ?_⟩
        repeat (refine Below.setCell ?_ (by dsimp only; omega) _)
        exact ((below_two w _ _).step (World.below_ext _ _))
    · have HN := hide (show R = none from by rw [hR, if_neg (by omega), if_neg (by omega)])
      have g1 : ((kd : Int) == 0) = false := by simp; omega
      have g2 : ((kd : Int) == 1) = false := by simp; omega
      clear hR hkl
      go_enter Faag.func93, Faag.ntmps93
      go_wp2_with fail
      refine (hsg.out _).mono ?_
      rintro e w' ⟨rfl, rfl⟩
      go_wp2_with fail
      refine (hk.out _).mono ?_
      rintro e w' ⟨rfl, rfl⟩
      go_wp2_with fail
      refine bodyPost_ret (v := .tuple #[.agg #[.int .u8 0, .int .u16 0, .int .u8 0, .int .u8 0, .int .u8 0, .int .u16 0], .bool false]) (by simp [results, Faag.results93, go_sem]) rfl ⟨RetPtr.no HN.out, ?_⟩
      repeat (refine Below.setCell ?_ (by dsimp only; omega) _)
      exact below_two w _ _

set_option maxHeartbeats 4000000 in
theorem resolve_calls (g : Nat) (A : List Nat) (c a : Nat) (hn : A.length ≤ 256) (ha : a < 65536) (w : World) (hA : ArAt w g A) :
    Calls Faag.prog 60 #[.slice (some ⟨g, 0, none⟩) A.length c, .int .u16 a] w fun e w' => RetPtr e (resolveN A a) ∧ Below w.heap.size w w' := by
  obtain ⟨R, hR⟩ : ∃ R, R = resolveN A a := ⟨_, rfl⟩
  rw [← hR]
  unfold resolveN at hR
  by_cases h0 : A.length ≤ a
  · have HN := hide (show R = none from by rw [hR, if_pos h0])
    clear hR
    go_enter Faag.func60, Faag.ntmps60
    go_wp2_with fail
    refine bodyPost_ret (v := .tuple #[.agg #[.int .u8 0, .int .u16 0, .int .u8 0, .int .u8 0, .int .u8 0, .int .u16 0], .bool false]) (by simp [results, Faag.results60, go_sem]) rfl ⟨RetPtr.no HN.out, ?_⟩
    repeat (refine Below.setCell ?_ (by dsimp only; omega) _)
    exact (Below.refl _ _).alloc (Nat.le_refl _) _
  · rw [if_neg h0] at hR
    have h1 : a < A.length := by omega
    have cA := hA.1 a h1
    have lA := hA.2 a
    have hg : g < w.heap.size := lt_of_cell cA
    generalize A.getD a 0 = v at *
    have hw := hide (fun W hW => resolveW_calls g A c v (a + 1) 1 hn (by omega) (by omega) lA W hW)
    rw [← hR] at hw
    clear hR h0
    go_enter Faag.func60, Faag.ntmps60
    go_wp2_with fail
    refine (hw.out _ (hA.below ((Below.refl _ _).alloc (Nat.le_refl _) _))).mono ?_
    rintro e w1 ⟨⟨⟨k1, k2, k3, k4, k5, k6⟩, r, hok, rfl, hr⟩, hb1⟩
    obtain ⟨x1, rfl⟩ := World.ext_of_below hb1
    clear hb1 hw
    have Hr := hide hr
    have Ho := hide hok
    clear hr hok
    unfold ptrC
    dsimp only
    go_wp2_with fail
    refine bodyPost_ret (v := .tuple #[.agg #[.int .u8 k1, .int .u16 k2, .int .u8 k3, .int .u8 k4, .int .u8 k5, .int .u16 k6], .bool r]) (by simp [results, Faag.results60, go_sem]) rfl ⟨⟨⟨k1, k2, k3, k4, k5, k6⟩, r, Ho.out, rfl, Hr.out⟩, ?_⟩
    repeat (refine Below.setCell ?_ (by dsimp only; omega) _)
    exact ((Below.refl _ _).alloc (Nat.le_refl _) _).step (World.below_ext _ _)
end Go.Proofs.YgcfaaGreat
