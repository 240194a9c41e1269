import Derived.Test.YgcfaaGreatBiteW
import Derived.Test.YgcfaaGreatLive2
namespace Go.Proofs.YgcfaaGreat
open Go.RowKit Bits Bd
set_option linter.unusedVariables false
set_option maxRecDepth 100000
set_option linter.unusedSimpArgs false
attribute [local go_sem] World.cell?_ext World.frozen?_ext

set_option maxHeartbeats 16000000 in
/-- Hurt 14. -/
theorem biteW_14 {w : World} {p : Nat} {hh : Nat → Value} {B : Bld} (hb : HB w p hh B) (hbt : BitesW B) :
    Calls Faag.prog 24 #[.pointer (some ⟨p, 0, none⟩), .int .i64 14] w fun e w' => e = .returned (.bool true) ∧ Keeps (blk p hh) w w' := by
  have HBT := hide hbt
  have HB0 := hide hb
  obtain ⟨a, c, see, hsl, hrow⟩ := hb.see3 hbt.even
  have HEV := hide hbt.even
  obtain ⟨⟨a1, a2⟩, ⟨a3, a4⟩, a5, a6, a7, a8⟩ := hbt.even
  have f1 := see.f1
  have hp : p < w.heap.size := lt_of_cell f1
  have HSL := hide hsl
  have HRW := hide hrow
  have HS := hide see
  have HL := hide (And.intro a5 (And.intro a6 (And.intro a7 a8)))
  clear hb hbt see hsl hrow a5 a6 a7 a8
  generalize hno : B.obj.length = no at *
  have HNO := hide hno
  clear hno
  have hlv := hide (live2_calls HS.out HB0.out.ok HEV.out HBT.out.up)
  go_enter Faag.func24, Faag.ntmps24
  go_wp2_with fail
  refine (hlv.out).mono ?_
  rintro r w1 ⟨⟨h, rfl, hL⟩, hb1⟩
  have HB1 := hide hb1
  clear hlv hb1 f1 hp
  by_cases h0 : h = 0
  · subst h0
    go_wp2_with fail
    go_ret
    exact ⟨rfl, (Keeps.of_below HB1.out).mono (fun j hj hx => by omega)⟩
  · rcases hL with hL | ⟨e1, e2, e3, e4, e5, e6⟩
    · exact absurd hL h0
    · have hS : isSt (B.o h) := ⟨e4.resolve_left (by omega), e5.resolve_left (by omega)⟩
      obtain ⟨q1, q2, q3⟩ := HBT.out.b14 h e1 e2 e3 hS
      rw [HNO.out] at e2
      have SE := hide (HS.out.below HB1.out)
      have f1 := SE.out.f1
      rw [HNO.out] at f1
      have f0 := SE.out.f0
      have bo := SE.out.objs h (by rw [HNO.out]; exact e2)
      have d1 := bo 1 _ rfl
      have lo := HB0.out.ok.obj h
      change (B.o h).Ok at lo
      have l2 := lo.2.1
      obtain ⟨at_, hat⟩ : ∃ x, x = (B.o h).at_ := ⟨_, rfl⟩
      rw [← hat] at d1 q1 q2 q3 l2
      have hbr := HB0.out.below HB1.out
      have ho0 := hbr.own 0 (by omega)
      rw [(HSL.out 0 (by omega)).1] at ho0
      obtain ⟨z0, y0⟩ := own_cell ho0 (U_get (l := B.A) (i := at_ - 1) q2)
      have lA := HB0.out.ok.A (at_ - 1)
      obtain ⟨v, hv⟩ : ∃ v, v = B.A.getD (at_ - 1) 0 := ⟨_, rfl⟩
      rw [← hv] at z0 lA q3
      obtain ⟨T, hT⟩ : ∃ T, T = at_ - 1 := ⟨_, rfl⟩
      have hTi : (at_ : Int) - 1 = (T : Int) := by omega
      rw [← hT] at z0 y0 q2 q3
      have hwr : IntKind.u64.wrap ((v : Int) + 4294967296) = (((v + 4294967296) % 18446744073709551616 : Nat) : Int) := by rw [IntKind.wrap_u64]; omega
      have HWR := hide hwr
      have HBAD := hide q3
      have HBR := hide hbr
      have q2l : T < 256 := by omega
      clear e3 e4 e5 e6 hS q3 bo lo hat hbr ho0 hv hT hwr
      go_wp2_with fail
      refine wp_region_qd 13 (by kernel_rfl) (by kernel_rfl) ?_
      simp only [List.take_succ_cons, List.take_zero, List.drop_succ_cons, List.drop_zero]
      repeat (go_big_quiet_step (fail))
      refine wpQuiet_nil ?_
      rintro _ ⟨nq, rfl⟩
      go_wp2_with fail
      rw [HWR.out]
      have hset := (HBR.out.below (below_drewN w1 nq)).setA (i := T) (v := (v + 4294967296) % 18446744073709551616) (HSL.out 0 (by omega)).1 (Nat.mod_lt _ (by omega))
      have KW : Keeps (blk p hh) w (World.setCell _ ⟨a 0, T, none⟩ (.int .u64 (((v + 4294967296) % 18446744073709551616 : Nat) : Int))) := (keeps_step ((Keeps.of_below HB1.out).mono (fun j hj hx => by omega)) (below_drewN w1 nq)).setCell (p := ⟨a 0, T, none⟩) (fun _ => blk_row p (i := 0) (by omega) (HSL.out 0 (by omega)).1) _
      refine (check_calls hset (by show (B.A.set _ _).length ≤ _; rw [List.length_set]; omega) (by show B.obj.length ≤ _; rw [HNO.out]; omega)).mono ?_
      rintro r w9 ⟨⟨r', rfl, hr⟩, hb9⟩
      have hr' : r' = false := by
        cases r' with
        | false => rfl
        | true => exact absurd (hr.1 rfl) HBAD.out
      subst hr'
      have KF := hide (keeps_step KW hb9)
      clear hr hb9 hset KW
      go_wp2_with fail
      go_ret
      exact ⟨rfl, KF.out⟩
end Go.Proofs.YgcfaaGreat
