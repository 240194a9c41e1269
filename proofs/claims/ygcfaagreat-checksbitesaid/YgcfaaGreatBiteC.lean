import Derived.Test.YgcfaaGreatBiteB
namespace Go.Proofs.YgcfaaGreat
open Go.RowKit Bits Bd
set_option linter.unusedVariables false
set_option maxRecDepth 100000
set_option linter.unusedSimpArgs false
attribute [local go_sem] World.cell?_ext World.frozen?_ext

theorem below_drew (w : World) : Below w.heap.size w w.drew := ⟨rfl, rfl, rfl, Nat.le_refl _, fun _ _ => rfl⟩

set_option maxHeartbeats 16000000 in
/-- Hurt 7. -/
theorem biteB_7 {w : World} {p : Nat} {hh : Nat → Value} {B : Bld} (hb : HB w p hh B) (hbt : Bites B) :
    Calls Faag.prog 6 #[.pointer (some ⟨p, 0, none⟩), .int .i64 7] w fun e w' => e = .returned (.bool true) ∧ Keeps (blk p hh) w w' := by
  have HBT := hide hbt
  have HB0 := hide hb
  obtain ⟨a, c, see, hsl, hrow⟩ := hb.see3 hbt.even
  obtain ⟨⟨a1, a2⟩, ⟨a3, a4⟩, a5, a6, a7, a8⟩ := hbt.even
  have f1 := see.f1
  have hp : p < w.heap.size := lt_of_cell f1
  have HSL := hide hsl
  have HRW := hide hrow
  have HS := hide see
  have HL := hide (And.intro a5 (And.intro a6 (And.intro a7 a8)))
  clear hb hbt see hsl hrow a5 a6 a7 a8
  generalize hno : B.obj.length = no at *
  have HNO := hide hno
  clear hno
  go_enter Faag.func6, Faag.ntmps6
  go_wp2_with fail
  go_loopw [65] (fun q wr => ∃ k : Nat, k ≤ no ∧ q = .int .i64 k ∧ Hid (wr = w)) (fun q _ => no - (intOf q).toNat)
  case atStart => exact ⟨0, by omega, rfl, hide rfl⟩
  case round =>
    obtain ⟨k, hk, rfl, hww⟩ := hrel
    obtain rfl := hww.out
    clear hww
    by_cases hlt : k < no
    · have f5 := HS.out.f5
      rw [HL.out.2.2.2] at f5
      have z5 := HS.out.deads k (by have := HL.out.2.2.2; omega)
      obtain ⟨dk, hdk⟩ : ∃ d, d = B.dead.getD k false := ⟨_, rfl⟩
      rw [← hdk] at z5
      have HDK := hide hdk
      clear hdk
      cases dk with
      | false =>
        go_wp2_with fail
        go_roundw
        case rel => exact ⟨k + 1, by omega, by go_num, hide (by simp)⟩
        case measure => simp [intOf]; omega
      | true =>
        have HBAD := hide (HBT.out.b7 k (by rw [HNO.out]; exact hlt) HDK.out.symm)
        have lo := HB0.out.ok.obj k
        change (B.o k).Ok at lo
        have hset := HB0.out.setObj (x := k) (j := 1) (u := .int .u16 300) (P := { B.o k with at_ := 300 }) (HSL.out 1 (by omega)).1 (by rw [HNO.out]; exact hlt) (by omega) rfl ⟨lo.1, by dsimp only; omega, lo.2.2.1, lo.2.2.2.1, lo.2.2.2.2.1, lo.2.2.2.2.2⟩
        have KW := hide (show Keeps (blk p hh) wr (wr.setCell ⟨a 1, k * 6 + 1, none⟩ (.int .u16 300)) from (Keeps.refl _ wr).setCell (p := ⟨a 1, k * 6 + 1, none⟩) (fun _ => blk_row p (i := 1) (by omega) (HSL.out 1 (by omega)).1) _)
        have hck := hide (check_calls hset (by show B.A.length ≤ _; omega) (by simp only [Bld.setObj, List.length_set]; rw [HNO.out]; omega))
        obtain ⟨dc, dl⟩ := HRW.out 1 (by omega) (k * 6 + 1) (.int .u16 ((B.o k).at_ : Nat)) (by
          show (rowP B.obj)[k * 6 + 1]? = _
          rw [rowP_get _ k 1 (by rw [HNO.out]; exact hlt) (by omega)]; rfl)
        have hg1 := (HSL.out 1 (by omega)).2
        clear hset lo
        go_wp2_with fail
        refine (hck.out).mono ?_
        rintro r w2 ⟨⟨r', rfl, hr⟩, hb2⟩
        have hr' : r' = false := by
          cases r' with
          | false => rfl
          | true => exact absurd (hr.1 rfl) HBAD.out
        subst hr'
        have KF := hide (keeps_step KW.out hb2)
        clear hr hb2 hck
        go_wp2_with fail
        go_ret
        exact ⟨rfl, KF.out⟩
    · go_wp2_with fail
      go_ret
      exact ⟨rfl, Keeps.refl _ _⟩

set_option maxHeartbeats 16000000 in
/-- Hurt 8. -/
theorem biteB_8 {w : World} {p : Nat} {hh : Nat → Value} {B : Bld} (hb : HB w p hh B) (hbt : Bites B) :
    Calls Faag.prog 6 #[.pointer (some ⟨p, 0, none⟩), .int .i64 8] w fun e w' => e = .returned (.bool true) ∧ Keeps (blk p hh) w w' := by
  have HBT := hide hbt
  have HB0 := hide hb
  obtain ⟨a, c, see, hsl, hrow⟩ := hb.see3 hbt.even
  obtain ⟨⟨a1, a2⟩, ⟨a3, a4⟩, a5, a6, a7, a8⟩ := hbt.even
  have f1 := see.f1
  have hp : p < w.heap.size := lt_of_cell f1
  have HSL := hide hsl
  have HRW := hide hrow
  have HS := hide see
  have HL := hide (And.intro a5 (And.intro a6 (And.intro a7 a8)))
  clear hb hbt see hsl hrow a5 a6 a7 a8
  generalize hno : B.obj.length = no at *
  have HNO := hide hno
  clear hno
  go_enter Faag.func6, Faag.ntmps6
  go_wp2_with fail
  go_loopw [7] (fun q wr => ∃ k : Nat, 1 ≤ k ∧ k ≤ no ∧ q = .int .i64 k ∧ Hid (Below w.heap.size w wr)) (fun q _ => no - (intOf q).toNat)
  case atStart => exact ⟨1, by omega, by omega, rfl, hide (Below.refl _ _)⟩
  case round =>
    obtain ⟨k, hk1, hk, rfl, H⟩ := hrel
    by_cases hlt : k < no
    · have SE := hide (HS.out.below H.out)
      have f1' := SE.out.f1
      rw [HNO.out] at f1'
      have f2 := SE.out.f2
      rw [HL.out.1] at f2
      have u1 := SE.out.ups k (by have := HL.out.1; omega)
      have u2 := HBT.out.up k hk1 (by rw [HNO.out]; exact hlt)
      obtain ⟨u, hu⟩ : ∃ u, u = B.up.getD k 0 := ⟨_, rfl⟩
      rw [← hu] at u1 u2
      have bo := SE.out.objs u (by rw [HNO.out]; omega)
      have HST := hide (show isSt (B.o u) → ¬ checkP (B.setDead k (!B.dead.getD k false)) from fun h => HBT.out.b8 k hk1 (by rw [HNO.out]; exact hlt) (by rw [← hu]; exact h))
      have HIS := hide (show isSt (B.o u) ↔ (B.o u).kind = 2 ∧ (B.o u).code = 7 from Iff.rfl)
      clear hu
      generalize isSt (B.o u) = IS at *
      generalize B.o u = P at *
      obtain ⟨kind, at_, data, ptrs, code, count⟩ := P
      have d0 := bo 0 _ rfl
      have d1 := bo 1 _ rfl
      have d2 := bo 2 _ rfl
      have d3 := bo 3 _ rfl
      have d4 := bo 4 _ rfl
      have d5 := bo 5 _ rfl
      dsimp only at d0 d1 d2 d3 d4 d5 HIS
      simp only [Nat.add_zero] at d0
      have hpw : p < wr.heap.size := lt_of_cell f1'
      have hg1 : a 1 < wr.heap.size := lt_of_cell d0
      have hg2 : a 2 < wr.heap.size := lt_of_cell u1
      clear bo f1 hp
      by_cases hS : kind = 2 ∧ code = 7
      · obtain ⟨rfl, rfl⟩ := hS
        have HBAD := hide (HST.out (HIS.out.2 ⟨rfl, rfl⟩))
        clear HST HIS
        have f5 := SE.out.f5
        rw [HL.out.2.2.2] at f5
        have hbr := HB0.out.below H.out
        have ho5 := hbr.own 5 (by omega)
        rw [(HSL.out 5 (by omega)).1] at ho5
        obtain ⟨z5, y5⟩ := own_cell ho5 (rowB_get (l := B.dead) (j := k) (by have := HL.out.2.2.2; omega))
        have hg5 : a 5 < wr.heap.size := lt_of_cell z5
        have HBR := hide hbr
        clear hbr ho5
        obtain ⟨dk, hdk⟩ : ∃ d, d = B.dead.getD k false := ⟨_, rfl⟩
        rw [← hdk] at z5 HBAD
        clear hdk
        go_wp2_with fail
        refine wp_region_ql (fun w' => ∃ x, w' = wr.ext x) 14 [0, 1, 2, 3, 4, 5, 6, 7, 8, 9, 10, 11, 12] [13] (by kernel_rfl) (by kernel_rfl) ?_ (ext_drew _) ?_
        · intro d v c a w hx
          cases d <;> exact hx
        simp only [pickOps, List.getElem?_cons_zero, List.getElem?_cons_succ, Option.toList_some, List.cons_append, List.nil_append, List.drop_succ_cons, List.drop_zero]
        repeat (go_big_quiet_step (fail))
        refine wpQuiet_nil ?_
        refine wpLd_cons ?_
        go_wp2_with fail
        refine ⟨ext_alloc _ _, ?_⟩
        unfold wpLd
        go_wp2_with fail
        refine wp_region_qx 13 (by kernel_rfl) (by kernel_rfl) ?_
        simp only [List.take_succ_cons, List.take_zero, List.drop_succ_cons, List.drop_zero]
        repeat (go_big_quiet_step (fail))
        refine wpQuiet_nil ?_
        rintro _ ⟨x, rfl⟩
        go_wp2_with fail
        have hbel := (((Below.refl wr.heap.size wr).alloc (Nat.le_refl _) (Obj.cells #[.int .u8 2, .int .u16 (at_ : Int), .int .u8 (data : Int), .int .u8 (ptrs : Int), .int .u8 7, .int .u16 (count : Int)] 62)).step (below_drew _)).step (World.below_ext _ x)
        have hset := (HBR.out.below hbel).setDead (x := k) (v := !dk) (HSL.out 5 (by omega)).1
        have KW : Keeps (blk p hh) w (World.setCell _ ⟨a 5, k, none⟩ (.bool (!dk))) := (keeps_step ((Keeps.of_below H.out).mono (fun j hj hx => by omega)) hbel).setCell (p := ⟨a 5, k, none⟩) (fun _ => blk_row p (i := 5) (by omega) (HSL.out 5 (by omega)).1) (.bool (!dk))
        refine (check_calls hset (by show B.A.length ≤ _; omega) (by show B.obj.length ≤ _; rw [HNO.out]; omega)).mono ?_
        rintro r w2 ⟨⟨r', rfl, hr⟩, hb2⟩
        have hr' : r' = false := by
          cases r' with
          | false => rfl
          | true => exact absurd (hr.1 rfl) HBAD.out
        subst hr'
        have KF := hide (keeps_step KW hb2)
        clear hr hb2 hset KW
        go_wp2_with fail
        go_ret
        exact ⟨rfl, KF.out⟩
      · have hcs : (((kind : Int) == 2) = false) ∨ ((((kind : Int) == 2) = true) ∧ (((code : Int) == 7) = false)) := by
          by_cases hk2 : kind = 2
          · exact .inr ⟨by simp; omega, by simp; omega⟩
          · exact .inl (by simp; omega)
        clear hS HST HIS
        rcases hcs with g1 | ⟨g1, g2⟩
        all_goals
          go_wp2_with fail
          refine wp_region_ql (fun w' => ∃ x, w' = wr.ext x) 14 [0, 1, 2, 3, 4, 5, 6, 7, 8, 9, 10, 11, 12] [13] (by kernel_rfl) (by kernel_rfl) ?_ (ext_drew _) ?_
          · intro d v c a w hx
            cases d <;> exact hx
          simp only [pickOps, List.getElem?_cons_zero, List.getElem?_cons_succ, Option.toList_some, List.cons_append, List.nil_append, List.drop_succ_cons, List.drop_zero]
          repeat (go_big_quiet_step (fail))
          refine wpQuiet_nil ?_
          refine wpLd_cons ?_
          go_wp2_with fail
          refine ⟨ext_alloc _ _, ?_⟩
          unfold wpLd
          go_wp2_with fail
          go_roundw
          case rel => exact ⟨k + 1, by omega, by omega, by go_num, hide (H.out.step (((Below.refl _ _).alloc (Nat.le_refl _) _).step (below_drew _)))⟩
          case measure => simp [intOf]; omega
    · go_wp2_with fail
      go_ret
      exact ⟨rfl, Keeps.of_below H.out |>.mono (fun j hj hx => by omega)⟩

set_option maxHeartbeats 16000000 in
/-- Hurt 9. -/
theorem biteB_9 {w : World} {p : Nat} {hh : Nat → Value} {B : Bld} (hb : HB w p hh B) (hbt : Bites B) :
    Calls Faag.prog 6 #[.pointer (some ⟨p, 0, none⟩), .int .i64 9] w fun e w' => e = .returned (.bool true) ∧ Keeps (blk p hh) w w' := by
  have HBT := hide hbt
  have HB0 := hide hb
  obtain ⟨a, c, see, hsl, hrow⟩ := hb.see3 hbt.even
  obtain ⟨⟨a1, a2⟩, ⟨a3, a4⟩, a5, a6, a7, a8⟩ := hbt.even
  have f1 := see.f1
  have hp : p < w.heap.size := lt_of_cell f1
  have HSL := hide hsl
  have HRW := hide hrow
  have HS := hide see
  have HL := hide (And.intro a5 (And.intro a6 (And.intro a7 a8)))
  clear hb hbt see hsl hrow a5 a6 a7 a8
  generalize hno : B.obj.length = no at *
  have HNO := hide hno
  clear hno
  have f4 := HS.out.f4
  rw [HL.out.2.2.1] at f4
  by_cases h1 : no = 1
  · have g1 : ((no : Int) - 1 == 0) = true := by simp; omega
    clear h1
    go_enter Faag.func6, Faag.ntmps6
    go_wp2_with fail
    go_ret
    exact ⟨rfl, Keeps.refl _ _⟩
  · have g1 : ((no : Int) - 1 == 0) = false := by simp; omega
    obtain ⟨l, hl⟩ : ∃ l, l = no - 1 := ⟨_, rfl⟩
    have hli : (no : Int) - 1 = (l : Int) := by omega
    have hln : l < no := by omega
    have hbad := HBT.out.b9 (by rw [HNO.out]; omega)
    rw [HNO.out, ← hl] at hbad
    have HBAD1 := hide hbad.1
    have HBAD2 := hide hbad.2
    have ho4 := HB0.out.own 4 (by omega)
    rw [(HSL.out 4 (by omega)).1] at ho4
    obtain ⟨z4, y4⟩ := own_cell ho4 (rowU8_get (l := B.depth) (j := l) (by have := HL.out.2.2.1; omega))
    have hset := HB0.out.setDepth (x := l) (v := 255) (HSL.out 4 (by omega)).1 (by omega)
    have hset2 := hset.setDepth (x := l) (v := 0) (HSL.out 4 (by omega)).1 (by omega)
    rw [show (B.setDepth l 255).setDepth l 0 = B.setDepth l 0 by simp [Bld.setDepth]] at hset2
    have hck := hide (check_calls hset (by show B.A.length ≤ _; omega) (by show B.obj.length ≤ _; rw [HNO.out]; omega))
    have KW := hide (show Keeps (blk p hh) w (w.setCell ⟨a 4, l, none⟩ (.int .u8 255)) from (Keeps.refl _ w).setCell (p := ⟨a 4, l, none⟩) (fun _ => blk_row p (i := 4) (by omega) (HSL.out 4 (by omega)).1) _)
    have HSET := hide hset
    rw [hli] at g1
    clear hbad hset hset2 ho4 h1
    have HHL := hide hl
    clear hl
    go_enter Faag.func6, Faag.ntmps6
    go_wp2_with fail
    refine (hck.out).mono ?_
    rintro r w2 ⟨⟨r', rfl, hr⟩, hb2⟩
    have hr' : r' = false := by
      cases r' with
      | false => rfl
      | true => exact absurd (hr.1 rfl) HBAD1.out
    subst hr'
    have hb2' := HSET.out.below hb2
    have hset2 := hb2'.setDepth (x := l) (v := 0) (HSL.out 4 (by omega)).1 (by omega)
    rw [show (B.setDepth l 255).setDepth l 0 = B.setDepth l 0 by simp [Bld.setDepth]] at hset2
    have hck2 := hide (check_calls hset2 (by show B.A.length ≤ _; omega) (by show B.obj.length ≤ _; rw [HNO.out]; omega))
    have ho4 := hb2'.own 4 (by omega)
    rw [(HSL.out 4 (by omega)).1] at ho4
    obtain ⟨z4', y4'⟩ := own_cell ho4 (rowU8_get (l := (B.setDepth l 255).depth) (j := l) (by have := HL.out.2.2.1; simp only [Bld.setDepth, List.length_set]; omega))
    have f4' := (hb2'.cell 4 (by omega)).1
    rw [(HSL.out 4 (by omega)).1] at f4'
    simp only [fOff, Nat.reduceAdd] at f4'
    rw [show B.len 4 = no from HL.out.2.2.1] at f4'
    have KF := hide (show Keeps (blk p hh) w (w2.setCell ⟨a 4, l, none⟩ (.int .u8 0)) from (keeps_step KW.out hb2).setCell (p := ⟨a 4, l, none⟩) (fun _ => blk_row p (i := 4) (by omega) (HSL.out 4 (by omega)).1) _)
    clear hr hb2 hck hset2 ho4 hb2'
    go_wp2_with fail
    refine (hck2.out).mono ?_
    rintro r w3 ⟨⟨r', rfl, hr⟩, hb3⟩
    have hr' : r' = false := by
      cases r' with
      | false => rfl
      | true => exact absurd (hr.1 rfl) HBAD2.out
    subst hr'
    have KF2 := hide (keeps_step KF.out hb3)
    clear hr hb3 hck2
    go_wp2_with fail
    go_ret
    exact ⟨rfl, KF2.out⟩
end Go.Proofs.YgcfaaGreat
