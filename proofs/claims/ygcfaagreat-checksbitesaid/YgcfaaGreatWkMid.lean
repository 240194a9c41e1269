import Derived.Test.YgcfaaGreatWkStep
import Derived.Test.YgcfaaGreatCheck
namespace Go.Proofs.YgcfaaGreat
open Go.RowKit Bits Bd
set_option linter.unusedVariables false
set_option maxRecDepth 100000
set_option linter.unusedSimpArgs false
attribute [local go_sem] World.cell?_ext World.frozen?_ext

namespace Bd
def entP (n : Nat) (W : Wk) (i : Nat) : Prop := (W.ent i).1 < n ∧ (W.ent i).2 ≤ 8 ∧ tb W.set (W.ent i).1 = true ∧ ∀ j, j < i → ¬ (W.ent j).1 = (W.ent i).1
/-- Walk.CheckMid -/
def midP (n : Nat) (W : Wk) : Prop :=
  (1 ≤ n ∧ n ≤ 256 ∧ tb W.set 0 = true) ∧ (∀ x, n ≤ x → x < 256 → tb W.set x = false) ∧ W.sp ≤ 256 ∧ ∀ i, i < W.sp → entP n W i
end Bd
theorem and_two_pow' (v m : Nat) : v &&& 2 ^ m = (v.testBit m).toNat * 2 ^ m := by
  refine Nat.eq_of_testBit_eq (fun i => ?_)
  rw [Nat.testBit_and, Nat.testBit_two_pow]
  by_cases h : m = i
  · subst h
    cases hv : v.testBit m
    · simp
    · simp [Nat.testBit_two_pow_self]
  · rw [decide_eq_false h, Bool.and_false]
    cases hv : v.testBit m
    · simp
    · rw [show true.toNat * 2 ^ m = 2 ^ m by simp, Nat.testBit_two_pow, decide_eq_false h]
theorem and_bit_nat (v m : Nat) (hv : v < 18446744073709551616) (hm : m < 64) : bits .and .u64 (v : Int) (IntKind.u64.wrap (2 ^ m)) = (((v.testBit m).toNat * 2 ^ m : Nat) : Int) := by
  have h1 : (2 : Nat) ^ m < 18446744073709551616 := Nat.pow_lt_pow_right (a := 2) (by omega) (show m < 64 from hm)
  rw [two_pow_int, wrap_nat, Nat.mod_eq_of_lt h1, u64_and_nat v (2 ^ m) hv h1, and_two_pow']
theorem bit_zero (x : Bool) (m : Nat) : (((x.toNat * 2 ^ m : Nat) : Int) == 0) = !x := by
  cases x
  · simp
  · have h : 0 < (2 : Nat) ^ m := Nat.two_pow_pos m
    rw [show true.toNat * 2 ^ m = 2 ^ m by simp]
    generalize 2 ^ m = q at h
    simp
    omega

theorem arrayLen65 : Faag.prog.arrayLen 65 = 256 := by kernel_rfl
theorem under65 : Faag.prog.underlying 65 = some (.array (Faag.prog.arrayLen 65) (Faag.prog.elem 65)) := by kernel_rfl
theorem slice65 (W : World) (b sp : Nat) (h : sp ≤ 256) : (Instr.sliceAt 65 (.pointer (some ⟨b, 4, none⟩)) none (some (.int .u16 (sp : Int))) none).run Faag.prog W = .ok (.slice (some ⟨b, 4, none⟩) sp 256) W := by
  rw [run_sliceAt_array_h W 65 ⟨b, 4, none⟩ under65 .u16 (sp : Int) (by omega) (by rw [arrayLen65]; omega), arrayLen65]
  have : (sizeOf (Faag.prog.elem 65)).run Faag.prog W = .ok 2 W := by kernel_rfl
  rw [this]
  simp [slicedAt, Addr.add]

set_option maxHeartbeats 8000000 in
theorem mid_calls (a : Option Addr) (n c : Nat) {w : World} {b : Nat} {W : Wk} (hb : WkAt w b W) :
    Calls Faag.prog 27 #[.pointer (some ⟨b, 0, none⟩), .slice a n c] w fun e w' => RetB e (midP n W) ∧ Below w.heap.size w w' := by
  have hblt := hb.lt
  obtain ⟨R, hR⟩ : ∃ R, R = midP n W := ⟨_, rfl⟩
  rw [← hR]
  unfold midP at hR
  have HB0 := hide hb
  obtain ⟨z1, z2⟩ := hb.setC (j := 0) (by omega)
  have zl := hb.ok.lt 0
  have hz1 : tb W.set 0 = (W.set.getD 0 0).testBit 0 := rfl
  rw [hz1] at hR
  have hsp := hb.spC.1
  have hspl := hb.ok.sp
  by_cases hn1 : n < 1
  · have HR := hide (show R = False from by rw [hR]; exact eq_false (fun h => by omega))
    clear hR hb
    go_enter Faag.func27, Faag.ntmps27
    go_wp2_with fail
    go_ret
    exact ⟨RetB.of (by rw [HR.out]; simp), Below.refl _ _⟩
  by_cases hn2 : 256 < n
  · have HR := hide (show R = False from by rw [hR]; exact eq_false (fun h => by omega))
    clear hR hb
    go_enter Faag.func27, Faag.ntmps27
    go_wp2_with fail
    go_ret
    exact ⟨RetB.of (by rw [HR.out]; simp), Below.refl _ _⟩
  have hn1' : 1 ≤ n := by omega
  have hn2' : n ≤ 256 := by omega
  have hi1 : decide ((n : Int) < 1) = false := by simp; omega
  have hi2 : decide ((256 : Int) < n) = false := by simp; omega
  obtain ⟨v0, hv0⟩ : ∃ v, v = W.set.getD 0 0 := ⟨_, rfl⟩
  rw [← hv0] at z1 zl hR
  have hand := u64_and_nat v0 1 zl (by omega)
  rw [Nat.and_one_is_mod, show ((1 : Nat) : Int) = 1 by rfl] at hand
  by_cases hz : v0.testBit 0 = false
  · have HR := hide (show R = False from by rw [hR, hz]; simp)
    have hm0 : v0 % 2 = 0 := by rw [Nat.testBit_zero] at hz; simpa using hz
    rw [hm0] at hand
    clear hR hb hv0 hz hm0 hn1 hn2
    go_enter Faag.func27, Faag.ntmps27
    go_wp2_with fail
    go_ret
    exact ⟨RetB.of (by rw [HR.out]; simp), Below.refl _ _⟩
  have hz' : v0.testBit 0 = true := by simpa using hz
  have hm0 : v0 % 2 = 1 := by rw [Nat.testBit_zero] at hz'; simpa using hz'
  rw [hm0] at hand
  rw [hz'] at hR
  have hR2 : R = ((∀ x, n ≤ x → x < 256 → tb W.set x = false) ∧ W.sp ≤ 256 ∧ ∀ i, i < W.sp → entP n W i) := by
    rw [hR]; simp [hn1', hn2']
  have HR := hide hR2
  clear hR hR2 hb hv0 hz hz' hm0 hn1 hn2
  go_enter Faag.func27, Faag.ntmps27
  go_wp2_with fail
  go_loopw [5] (fun q wr => ∃ k : Nat, n ≤ k ∧ k ≤ 256 ∧ q = .int .i64 (k : Nat) ∧ Hid (∀ x, n ≤ x → x < k → tb W.set x = false) ∧ Hid (wr = w)) (fun q _ => 65536 - (intOf q).toNat)
  case atStart => exact ⟨n, by omega, by omega, rfl, hide (fun x h1 h2 => by omega), hide rfl⟩
  case round =>
    obtain ⟨k, hk1, hk2, rfl, H1, HW⟩ := hrel
    by_cases hgo : k < 256
    · have hj : k / 64 < 4 := by omega
      have cx := (HB0.out.setC hj).1
      rw [← HW.out] at cx
      have vl := HB0.out.ok.lt (k / 64)
      have hand2 := and_one_bit (W.set.getD (k / 64) 0) (k % 64) vl
      obtain ⟨T, hT⟩ : ∃ T, T = tb W.set k := ⟨_, rfl⟩
      have hT2 : (W.set.getD (k / 64) 0).testBit (k % 64) = T := hT.symm
      rw [hT2] at hand2
      generalize W.set.getD (k / 64) 0 = v at *
      have HT := hide hT
      clear hT hT2 z1 z2 hsp
      cases T
      · simp only [Bool.toNat_false, Bool.toNat_true] at hand2
        go_wp2_with fail
        go_roundw
        case rel => exact ⟨k + 1, by omega, by omega, by go_num, hide (fun x h1 h2 => by
            by_cases hx : x = k
            · subst hx; exact HT.out.symm
            · exact H1.out x h1 (by omega)), HW⟩
        case measure => simp [intOf]; omega
      · simp only [Bool.toNat_false, Bool.toNat_true] at hand2
        go_wp2_with fail
        go_ret
        refine ⟨RetB.of ?_, by rw [HW.out]; exact Below.refl _ _⟩
        rw [HR.out]
        constructor
        · intro h; cases h
        · rintro ⟨h, _⟩
          have := h k hk1 hgo
          rw [← HT.out] at this; cases this
    · have hall : ∀ x, n ≤ x → x < 256 → tb W.set x = false := fun x h1 h2 => H1.out x h1 (by omega)
      have e1 := HW.out
      subst e1
      clear HW
      rename World => w0
      have hR3 : R = (W.sp ≤ 256 ∧ ∀ i, i < W.sp → entP n W i) := by
        rw [HR.out]; exact propext ⟨fun h => h.2, fun h => ⟨hall, h⟩⟩
      obtain ⟨sp, hspe⟩ : ∃ sp, sp = W.sp := ⟨_, rfl⟩
      rw [← hspe] at hsp hspl hR3
      by_cases hs : 256 < sp
      · have HR3 := hide (show R = False from by rw [hR3]; exact eq_false (fun h => by omega))
        clear hR3 hall hspe
        go_wp2_with fail
        go_ret
        exact ⟨RetB.of (by rw [HR3.out]; simp), Below.refl _ _⟩
      · have hs' : sp ≤ 256 := by omega
        have hsi : decide ((256 : Int) < sp) = false := by simp; omega
        have HR3 := hide (show R = (∀ i, i < sp → entP n W i) from by rw [hR3]; exact propext ⟨fun h => h.2, fun h => ⟨hs', h⟩⟩)
        clear hR3 hall hs HR H1
        go_wp2_with fail
        obtain ⟨wA, hwA⟩ : ∃ wA, wA = w0.alloc (Obj.cells #[Value.int IntKind.u64 0, Value.int IntKind.u64 0, Value.int IntKind.u64 0, Value.int IntKind.u64 0] 32) := ⟨_, rfl⟩
        have HA := hide (show WkAt wA b W ∧ RowAt wA w0.heap.size 0 (U zset) ∧ Below w0.heap.size w0 wA from by
          rw [hwA]
          exact ⟨⟨HB0.out.row.alloc _, HB0.out.ok⟩, RowAt.of_alloc _ (U zset) _, (Below.refl _ _).alloc (Nat.le_refl _) _⟩)
        rw [← hwA]
        clear hwA
        have hspA := HA.out.1.spC.1
        have HSP := hide (show sp = W.sp from hspe)
        rw [← hspe] at hspA
        clear hspe hsp z1 z2
        have hbA : b < wA.heap.size := HA.out.1.lt
        have hsl := fun (Wd : World) => slice65 Wd b sp hs'
        refine wp_region_quiet_lit (by kernel_rfl) (by kernel_rfl) ?_
        repeat (go_big_quiet_step (fail))
        refine wpQuiet_nil ?_
        rintro _ ⟨nq, rfl⟩
        have HZ := hide (show SetAt (wA.drewN nq) w0.heap.size zset ∧ WkAt (wA.drewN nq) b W ∧ Below w0.heap.size w0 (wA.drewN nq) from
          ⟨⟨HA.out.2.1.drewN nq, rfl, fun i => by
            by_cases hi : i < 4
            · match i, hi with
              | 0, _ => decide
              | 1, _ => decide
              | 2, _ => decide
              | 3, _ => decide
            · rw [List.getD_eq_getElem?_getD, List.getElem?_eq_none (by show 4 ≤ i; omega)]; exact Nat.zero_lt_succ _⟩, ⟨HA.out.1.row.drewN nq, HA.out.1.ok⟩, ⟨HA.out.2.2.os, HA.out.2.2.tape, HA.out.2.2.output, HA.out.2.2.size, HA.out.2.2.block⟩⟩)
        clear HA hspA hbA hsl
        generalize wA.drewN nq = wB at *
        obtain ⟨S, hS⟩ : ∃ S, S = w0.heap.size := ⟨_, rfl⟩
        rw [← hS] at HZ ⊢
        have hbS : b < S := by rw [hS]; exact hblt
        have HS := hide hS
        clear hS hblt
        go_wp2_with fail
        go_loopw [63] (fun q w2 => ∃ i : Nat, i ≤ sp ∧ q = .int .i64 (i : Nat) ∧ ∃ sN, Hid (SetAt w2 S sN ∧ WkAt w2 b W ∧ Below S w0 w2 ∧ (∀ j, j < i → entP n W j) ∧ ∀ x, (tb sN x = true ↔ ∃ j, j < i ∧ (W.ent j).1 = x))) (fun q _ => 65536 - (intOf q).toNat)
        case atStart => exact ⟨0, by omega, by simp, zset, hide ⟨HZ.out.1, HZ.out.2.1, HZ.out.2.2, fun j hj => by omega, fun x => by rw [tb_zset]; exact ⟨fun h => (by cases h), fun ⟨j, hj, _⟩ => (by omega)⟩⟩⟩
        case round =>
          obtain ⟨i, hi, rfl, sN, H1⟩ := hrel
          clear HZ
          by_cases hgo : i < sp
          · obtain ⟨q1, q2, q3, q4, q5⟩ := H1.out
            have hi256 : i < 256 := by omega
            have d1 := (q2.e0 hi256).1
            have d3 := (q2.e1 hi256).1
            have hal := q2.ok.at_ i
            have hdl := q2.ok.dep i
            obtain ⟨ea, hea⟩ : ∃ ea, ea = (W.ent i).1 := ⟨_, rfl⟩
            obtain ⟨ed, hed⟩ : ∃ ed, ed = (W.ent i).2 := ⟨_, rfl⟩
            rw [← hea] at d1 hal
            rw [← hed] at d3 hdl
            have hS2 : S < wr.heap.size := q1.row.lt (by rw [U_length, q1.four]; omega)
            have hb2 : b < wr.heap.size := q2.lt
            by_cases hbad : n ≤ ea ∨ 8 < ed
            · have HF := hide (show (R = False) from by
                rw [HR3.out]
                refine eq_false (fun h => ?_)
                obtain ⟨e1, e2, _⟩ := h i hgo
                rw [← hea] at e1
                rw [← hed] at e2
                omega)
              have HBl := hide q3
              clear q1 q2 q3 q4 q5 H1 hea hed HR3
              by_cases hb1 : n ≤ ea
              · clear hbad
                go_wp2_with fail
                go_ret
                refine ⟨RetB.of (by rw [HF.out]; simp), ?_⟩
                rw [← HS.out]
                exact HBl.out.alloc (by omega) _
              · have hb2 : 8 < ed := by omega
                clear hbad
                go_wp2_with fail
                go_ret
                refine ⟨RetB.of (by rw [HF.out]; simp), ?_⟩
                rw [← HS.out]
                exact HBl.out.alloc (by omega) _
            · have hen : ea < n := by omega
              have hed8 : ed ≤ 8 := by omega
              clear hbad
              have hJ4 : ea / 64 < 4 := by omega
              obtain ⟨x1, _⟩ := q2.setC hJ4
              have x2 := q1.row.at_ (i := ea / 64) (U_get (by rw [q1.four]; exact hJ4))
              have x3 := q1.row.live (ea / 64) (by rw [U_length, q1.four]; exact hJ4)
              rw [Nat.zero_add] at x2 x3
              have vl1 := q2.ok.lt (ea / 64)
              have vl2 := q1.lt (ea / 64)
              have hand1 := and_bit_nat _ (ea % 64) vl1 (by omega)
              have hand2 := and_bit_nat _ (ea % 64) vl2 (by omega)
              obtain ⟨T1, hT1⟩ : ∃ T, T = tb W.set ea := ⟨_, rfl⟩
              obtain ⟨T2, hT2⟩ : ∃ T, T = tb sN ea := ⟨_, rfl⟩
              have hT1' : (W.set.getD (ea / 64) 0).testBit (ea % 64) = T1 := hT1.symm
              have hT2' : (sN.getD (ea / 64) 0).testBit (ea % 64) = T2 := hT2.symm
              rw [hT1'] at hand1
              rw [hT2'] at hand2
              have hz1 := bit_zero T1 (ea % 64)
              have hz2 := bit_zero T2 (ea % 64)
              have hput := put_or _ (ea % 64) vl2 (by omega)
              obtain ⟨Y1, hY1⟩ : ∃ Y : Int, Y = ((T1.toNat * 2 ^ (ea % 64) : Nat) : Int) := ⟨_, rfl⟩
              obtain ⟨Y2, hY2⟩ : ∃ Y : Int, Y = ((T2.toNat * 2 ^ (ea % 64) : Nat) : Int) := ⟨_, rfl⟩
              rw [← hY1] at hand1 hz1
              rw [← hY2] at hand2 hz2
              obtain ⟨v1, hv1⟩ : ∃ v, v = W.set.getD (ea / 64) 0 := ⟨_, rfl⟩
              obtain ⟨v2, hv2⟩ : ∃ v, v = sN.getD (ea / 64) 0 := ⟨_, rfl⟩
              rw [← hv1] at x1 hand1
              rw [← hv2] at x2 hand2 hput
              have HX := hide (show ∀ nq x, SetAt (((wr.alloc x).drewN nq).setCell ⟨S, ea / 64, none⟩ (.int .u64 ((v2 ||| 2 ^ (ea % 64) : Nat) : Int))) S (putS sN ea) ∧ WkAt (((wr.alloc x).drewN nq).setCell ⟨S, ea / 64, none⟩ (.int .u64 ((v2 ||| 2 ^ (ea % 64) : Nat) : Int))) b W ∧ Below S w0 (((wr.alloc x).drewN nq).setCell ⟨S, ea / 64, none⟩ (.int .u64 ((v2 ||| 2 ^ (ea % 64) : Nat) : Int))) from by
                intro nq x
                have p1 : SetAt ((wr.alloc x).drewN nq) S sN := ⟨(q1.row.alloc x).drewN nq, q1.four, q1.lt⟩
                have p2 := putS_at p1 (show ea < 256 by omega)
                rw [← hv2] at p2
                refine ⟨p2, ?_, ?_⟩
                · have p3 : WkAt ((wr.alloc x).drewN nq) b W := ⟨(q2.row.alloc x).drewN nq, q2.ok⟩
                  exact p3.keeps (keeps_set _ S _ _) (by omega)
                · have p4 : Below S w0 (wr.alloc x) := q3.alloc (by omega) x
                  have p5 : Below S w0 ((wr.alloc x).drewN nq) := ⟨p4.os, p4.tape, p4.output, p4.size, p4.block⟩
                  exact p5.setCell (Nat.le_refl _) _)
              have HG := hide (show T1 = true → T2 = false → (∀ j, j < i + 1 → entP n W j) ∧ ∀ x, (tb (putS sN ea) x = true ↔ ∃ j, j < i + 1 ∧ (W.ent j).1 = x) from by
                intro e1 e2
                refine ⟨fun j hj => ?_, fun x => ?_⟩
                · by_cases hji : j = i
                  · subst hji
                    refine ⟨by rw [← hea]; exact hen, by rw [← hed]; exact hed8, by rw [← hea, ← hT1]; exact e1, fun k hk hE => ?_⟩
                    have := (q5 ea).2 ⟨k, hk, by rw [hE, ← hea]⟩
                    rw [← hT2, e2] at this; cases this
                  · exact q4 j (by omega)
                · rw [tb_putS _ _ _ q1.four (by omega), Bool.or_eq_true, decide_eq_true_iff, q5 x]
                  constructor
                  · rintro (⟨j, h1, h2⟩ | h)
                    · exact ⟨j, by omega, h2⟩
                    · exact ⟨i, by omega, by rw [← hea]; exact h.symm⟩
                  · rintro ⟨j, h1, h2⟩
                    by_cases hji : j = i
                    · subst hji; right; rw [← h2, ← hea]
                    · exact .inl ⟨j, by omega, h2⟩)
              have HN := hide (show (T1 = false ∨ T2 = true) → R = False from by
                intro h
                rw [HR3.out]
                refine eq_false (fun hall => ?_)
                obtain ⟨_, _, e3, e4⟩ := hall i hgo
                rw [← hea] at e3 e4
                rcases h with h | h
                · rw [← hT1, h] at e3; cases e3
                · obtain ⟨j, j1, j2⟩ := (q5 ea).1 (by rw [← hT2]; exact h)
                  exact e4 j j1 j2)
              have HBl := hide q3
              clear q1 q2 q3 q4 q5 H1 hea hed hT1 hT2 hT1' hT2' hY1 hY2 hv1 hv2
              cases T1
              · simp only [Bool.not_false] at hz1
                go_wp2_with fail
                refine wp_region_qd 18 (by kernel_rfl) (by kernel_rfl) ?_
                simp only [List.take_succ_cons, List.take_zero, List.drop_succ_cons, List.drop_zero]
                repeat (go_big_quiet_step (fail))
                refine wpQuiet_nil ?_
                rintro _ ⟨nq, rfl⟩
                go_wp2_with fail
                go_ret
                have p4 : Below S w0 (wr.alloc (Obj.cells #[Value.int IntKind.u16 (ea : Int), Value.int IntKind.u8 (ed : Int)] 64)) := HBl.out.alloc (by omega) _
                refine ⟨RetB.of (by rw [HN.out (.inl (by simp))]; simp), ?_⟩
                rw [← HS.out]
                exact ⟨p4.os, p4.tape, p4.output, p4.size, p4.block⟩
              · simp only [Bool.not_true] at hz1
                cases T2
                · simp only [Bool.not_false] at hz2
                  go_wp2_with fail
                  refine wp_region_qd 18 (by kernel_rfl) (by kernel_rfl) ?_
                  simp only [List.take_succ_cons, List.take_zero, List.drop_succ_cons, List.drop_zero]
                  repeat (go_big_quiet_step (fail))
                  refine wpQuiet_nil ?_
                  rintro _ ⟨nq, rfl⟩
                  go_wp2_with fail
                  go_roundw
                  case rel =>
                    obtain ⟨g1, g2⟩ := HG.out (by simp) (by simp)
                    obtain ⟨m1, m2, m3⟩ := HX.out nq (Obj.cells #[Value.int IntKind.u16 (ea : Int), Value.int IntKind.u8 (ed : Int)] 64)
                    exact ⟨i + 1, by omega, by go_num, putS sN ea, hide ⟨m1, m2, m3, g1, g2⟩⟩
                  case measure => simp [intOf]; omega
                · simp only [Bool.not_true] at hz2
                  go_wp2_with fail
                  refine wp_region_qd 18 (by kernel_rfl) (by kernel_rfl) ?_
                  simp only [List.take_succ_cons, List.take_zero, List.drop_succ_cons, List.drop_zero]
                  repeat (go_big_quiet_step (fail))
                  refine wpQuiet_nil ?_
                  rintro _ ⟨nq, rfl⟩
                  go_wp2_with fail
                  go_ret
                  have p4 : Below S w0 (wr.alloc (Obj.cells #[Value.int IntKind.u16 (ea : Int), Value.int IntKind.u8 (ed : Int)] 64)) := HBl.out.alloc (by omega) _
                  refine ⟨RetB.of (by rw [HN.out (.inr (by simp))]; simp), ?_⟩
                  rw [← HS.out]
                  exact ⟨p4.os, p4.tape, p4.output, p4.size, p4.block⟩
          · have : i = sp := by omega
            subst this
            have HF := hide (show R = True from by rw [HR3.out]; exact eq_true (H1.out.2.2.2.1))
            have HBl := hide (H1.out.2.2.1)
            clear H1 HR3
            go_wp2_with fail
            go_ret
            refine ⟨RetB.of (by rw [HF.out]; simp), ?_⟩
            rw [← HS.out]
            exact HBl.out
end Go.Proofs.YgcfaaGreat
