import Derived.Test.YgcfaaGreatBiteC
namespace Go.Proofs.YgcfaaGreat
open Go.RowKit Bits Bd
set_option linter.unusedVariables false
set_option maxRecDepth 100000
set_option linter.unusedSimpArgs false
attribute [local go_sem] World.cell?_ext World.frozen?_ext

/-- The hurts of clauses 7 to 11 bite. -/
structure BitesW (B : Bld) : Prop where
  even : evenP B
  up : ∀ h, 1 ≤ h → h < B.obj.length → B.up.getD h 0 < h
  fit : ∀ h, h < B.obj.length → SlotFit B h
  b10 : ∀ h via at_, 1 ≤ h → h < B.obj.length → NullAt B (B.up.getD h 0) via at_ → B.dead.getD h false = false → ¬ checkP (B.setVia h via)
  b11 : ∀ h g, 1 ≤ g → g < h → h < B.obj.length → (B.o h).kind = 1 → (B.o g).kind = 1 → words (B.o h) = 0 → words (B.o g) = 0 → B.dead.getD h false = false → B.dead.getD g false = false → B.up.getD h 0 = B.up.getD g 0 → ¬ (B.o (B.up.getD h 0)).code = 7 →
    B.via.getD h 0 < (slotsQ (B.o (B.up.getD h 0))).2.1 ∧ ¬ isSt (B.o (B.up.getD h 0)) ∧ ¬ checkP ((setA B ((slotsQ (B.o (B.up.getD h 0))).1 + B.via.getD h 0) 0).setVia h (B.via.getD g 0))
  b12 : ∀ h via at_, h < B.obj.length → NullAt B h via at_ → ¬ checkP (setA B at_ 2)
  b13 : ∀ h, 1 ≤ h → h < B.obj.length → B.dead.getD h false = false → (B.o h).kind = 2 → 2 ≤ (B.o h).code → (B.o h).code ≤ 5 → ¬ (B.o h).count * 2 ^ ((B.o h).code - 2) % 8 = 0 →
    (B.o h).count ≤ 128 ∧ (B.o h).at_ + (B.o h).count * 2 ^ ((B.o h).code - 2) / 8 < B.A.length ∧ ¬ checkP (setA B ((B.o h).at_ + (B.o h).count * 2 ^ ((B.o h).code - 2) / 8) (B.A.getD ((B.o h).at_ + (B.o h).count * 2 ^ ((B.o h).code - 2) / 8) 0 ||| 2 ^ ((B.o h).count * 2 ^ ((B.o h).code - 2) % 8 * 8)))
  b14 : ∀ h, 1 ≤ h → h < B.obj.length → B.dead.getD h false = false → isSt (B.o h) → 1 ≤ (B.o h).at_ ∧ (B.o h).at_ - 1 < B.A.length ∧ ¬ checkP (setA B ((B.o h).at_ - 1) ((B.A.getD ((B.o h).at_ - 1) 0 + 4294967296) % 18446744073709551616))

set_option maxHeartbeats 16000000 in
/-- Hurt 10. -/
theorem biteW_10 {w : World} {p : Nat} {hh : Nat → Value} {B : Bld} (hb : HB w p hh B) (hbt : BitesW B) :
    Calls Faag.prog 24 #[.pointer (some ⟨p, 0, none⟩), .int .i64 10] w fun e w' => e = .returned (.bool true) ∧ Keeps (blk p hh) w w' := by
  have HBT := hide hbt
  have HB0 := hide hb
  obtain ⟨a, c, see, hsl, hrow⟩ := hb.see3 hbt.even
  have HEV := hide hbt.even
  obtain ⟨⟨a1, a2⟩, ⟨a3, a4⟩, a5, a6, a7, a8⟩ := hbt.even
  have f1 := see.f1
  have hp : p < w.heap.size := lt_of_cell f1
  have HSL := hide hsl
  have HRW := hide hrow
  have HS := hide see
  have HL := hide (And.intro a5 (And.intro a6 (And.intro a7 a8)))
  clear hb hbt see hsl hrow a5 a6 a7 a8
  generalize hno : B.obj.length = no at *
  have HNO := hide hno
  clear hno
  go_enter Faag.func24, Faag.ntmps24
  go_wp2_with fail
  go_loopw [5] (fun q wr => ∃ k : Nat, 1 ≤ k ∧ k ≤ no ∧ q = .int .i64 k ∧ Hid (Below w.heap.size w wr)) (fun q _ => no - (intOf q).toNat)
  case atStart => exact ⟨1, by omega, by omega, rfl, hide (Below.refl _ _)⟩
  case round =>
    obtain ⟨k, hk1, hk, rfl, H⟩ := hrel
    have SE := hide (HS.out.below H.out)
    have f1' := SE.out.f1
    rw [HNO.out] at f1'
    clear f1 hp
    by_cases hlt : k < no
    · have f2 := SE.out.f2
      rw [HL.out.1] at f2
      have u1 := SE.out.ups k (by have := HL.out.1; omega)
      have u2 := HBT.out.up k hk1 (by rw [HNO.out]; exact hlt)
      obtain ⟨u, hu⟩ : ∃ u, u = B.up.getD k 0 := ⟨_, rfl⟩
      rw [← hu] at u1 u2
      have HUU := hide hu
      clear hu
      have hnl := hide (null_calls SE.out HB0.out.ok HEV.out u (HBT.out.fit u (by rw [HNO.out]; omega)))
      go_wp2_with fail
      refine (hnl.out).mono ?_
      rintro r w1 ⟨⟨via, at_, okb, rfl, hnull, hvl, hal⟩, hb1⟩
      have HB1 := hide (H.out.step hb1)
      have HNULL := hide hnull
      clear hb1 hnl hnull f1' f2 u1 SE
      have SE1 := hide (HS.out.below HB1.out)
      have f5 := SE1.out.f5
      rw [HL.out.2.2.2] at f5
      have z5 := SE1.out.deads k (by have := HL.out.2.2.2; omega)
      obtain ⟨dk, hdk⟩ : ∃ d, d = B.dead.getD k false := ⟨_, rfl⟩
      rw [← hdk] at z5
      have HDK := hide hdk
      clear hdk
      cases okb with
      | false =>
        go_wp2_with fail
        go_roundw
        case rel => exact ⟨k + 1, by omega, by omega, by go_num, HB1⟩
        case measure => simp [intOf]; omega
      | true =>
        cases dk with
        | true =>
          go_wp2_with fail
          go_roundw
          case rel => exact ⟨k + 1, by omega, by omega, by go_num, HB1⟩
          case measure => simp [intOf]; omega
        | false =>
          have HBAD := hide (HBT.out.b10 k via at_ hk1 (by rw [HNO.out]; exact hlt) (by rw [← HUU.out]; exact HNULL.out rfl) HDK.out.symm)
          have hbr := HB0.out.below HB1.out
          have ho3 := hbr.own 3 (by omega)
          rw [(HSL.out 3 (by omega)).1] at ho3
          obtain ⟨z3, y3⟩ := own_cell ho3 (rowU8_get (l := B.via) (j := k) (by have := HL.out.2.1; omega))
          have f3 := SE1.out.f3
          rw [HL.out.2.1] at f3
          have hset := hbr.setVia (x := k) (v := via) (HSL.out 3 (by omega)).1 hvl
          have KW : Keeps (blk p hh) w (w1.setCell ⟨a 3, k, none⟩ (.int .u8 (via : Int))) := ((Keeps.of_below HB1.out).mono (fun j hj hx => by omega)).setCell (p := ⟨a 3, k, none⟩) (fun _ => blk_row p (i := 3) (by omega) (HSL.out 3 (by omega)).1) _
          have HSET := hide hset
          have HKW := hide KW
          clear hbr ho3 hset KW
          go_wp2_with fail
          have hset := HSET.out
          have KW := HKW.out
          refine (check_calls hset (by show B.A.length ≤ _; omega) (by show B.obj.length ≤ _; rw [HNO.out]; omega)).mono ?_
          rintro r w9 ⟨⟨r', rfl, hr⟩, hb9⟩
          have hr' : r' = false := by
            cases r' with
            | false => rfl
            | true => exact absurd (hr.1 rfl) HBAD.out
          subst hr'
          have KF := hide (keeps_step KW hb9)
          clear hr hb9 hset KW
          go_wp2_with fail
          go_ret
          exact ⟨rfl, KF.out⟩
    · go_wp2_with fail
      go_ret
      exact ⟨rfl, (Keeps.of_below H.out).mono (fun j hj hx => by omega)⟩

set_option maxHeartbeats 16000000 in
/-- Hurt 12. -/
theorem biteW_12 {w : World} {p : Nat} {hh : Nat → Value} {B : Bld} (hb : HB w p hh B) (hbt : BitesW B) :
    Calls Faag.prog 24 #[.pointer (some ⟨p, 0, none⟩), .int .i64 12] w fun e w' => e = .returned (.bool true) ∧ Keeps (blk p hh) w w' := by
  have HBT := hide hbt
  have HB0 := hide hb
  obtain ⟨a, c, see, hsl, hrow⟩ := hb.see3 hbt.even
  have HEV := hide hbt.even
  obtain ⟨⟨a1, a2⟩, ⟨a3, a4⟩, a5, a6, a7, a8⟩ := hbt.even
  have f1 := see.f1
  have hp : p < w.heap.size := lt_of_cell f1
  have HSL := hide hsl
  have HRW := hide hrow
  have HS := hide see
  have HL := hide (And.intro a5 (And.intro a6 (And.intro a7 a8)))
  clear hb hbt see hsl hrow a5 a6 a7 a8
  generalize hno : B.obj.length = no at *
  have HNO := hide hno
  clear hno
  go_enter Faag.func24, Faag.ntmps24
  go_wp2_with fail
  go_loopw [255] (fun q wr => ∃ k : Nat, k ≤ no ∧ q = .int .i64 k ∧ Hid (Below w.heap.size w wr)) (fun q _ => no - (intOf q).toNat)
  case atStart => exact ⟨0, by omega, rfl, hide (Below.refl _ _)⟩
  case round =>
    obtain ⟨k, hk, rfl, H⟩ := hrel
    clear f1 hp
    by_cases hlt : k < no
    · have SE := hide (HS.out.below H.out)
      have hnl := hide (null_calls SE.out HB0.out.ok HEV.out k (HBT.out.fit k (by rw [HNO.out]; omega)))
      go_wp2_with fail
      refine (hnl.out).mono ?_
      rintro r w1 ⟨⟨via, at_, okb, rfl, hnull, hvl, hal⟩, hb1⟩
      have HB1 := hide (H.out.step hb1)
      have HNULL := hide hnull
      clear hb1 hnl hnull SE
      cases okb with
      | false =>
        go_wp2_with fail
        go_roundw
        case rel => exact ⟨k + 1, by omega, by go_num, HB1⟩
        case measure => simp [intOf]; omega
      | true =>
        have hN := HNULL.out rfl
        have HBAD := hide (HBT.out.b12 k via at_ (by rw [HNO.out]; exact hlt) hN)
        have hat : at_ < B.A.length := hN.2.2.2.2.2.2
        have hbr := HB0.out.below HB1.out
        have f0 := (HS.out.below HB1.out).f0
        have ho0 := hbr.own 0 (by omega)
        rw [(HSL.out 0 (by omega)).1] at ho0
        obtain ⟨z0, y0⟩ := own_cell ho0 (U_get (l := B.A) (i := at_) hat)
        have hset := hbr.setA (i := at_) (v := 2) (HSL.out 0 (by omega)).1 (by omega)
        have KW : Keeps (blk p hh) w (w1.setCell ⟨a 0, at_, none⟩ (.int .u64 2)) := ((Keeps.of_below HB1.out).mono (fun j hj hx => by omega)).setCell (p := ⟨a 0, at_, none⟩) (fun _ => blk_row p (i := 0) (by omega) (HSL.out 0 (by omega)).1) _
        have HSET := hide hset
        have HKW := hide KW
        clear hbr ho0 hset KW hN HNULL
        go_wp2_with fail
        have hset := HSET.out
        have KW := HKW.out
        refine (check_calls hset (by show (B.A.set _ _).length ≤ _; rw [List.length_set]; omega) (by show B.obj.length ≤ _; rw [HNO.out]; omega)).mono ?_
        rintro r w9 ⟨⟨r', rfl, hr⟩, hb9⟩
        have hr' : r' = false := by
          cases r' with
          | false => rfl
          | true => exact absurd (hr.1 rfl) HBAD.out
        subst hr'
        have KF := hide (keeps_step KW hb9)
        clear hr hb9 hset KW
        go_wp2_with fail
        go_ret
        exact ⟨rfl, KF.out⟩
    · go_wp2_with fail
      go_ret
      exact ⟨rfl, (Keeps.of_below H.out).mono (fun j hj hx => by omega)⟩
end Go.Proofs.YgcfaaGreat
