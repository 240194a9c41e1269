import Derived.Test.YgcfaaGreatBiteW
namespace Go.Proofs.YgcfaaGreat
open Go.RowKit Bits Bd
set_option linter.unusedVariables false
set_option maxRecDepth 100000
set_option linter.unusedSimpArgs false
attribute [local go_sem] World.cell?_ext World.frozen?_ext

set_option maxHeartbeats 16000000 in
/-- Hurt 13. -/
theorem biteW_13 {w : World} {p : Nat} {hh : Nat → Value} {B : Bld} (hb : HB w p hh B) (hbt : BitesW B) :
    Calls Faag.prog 24 #[.pointer (some ⟨p, 0, none⟩), .int .i64 13] w fun e w' => e = .returned (.bool true) ∧ Keeps (blk p hh) w w' := by
  have HBT := hide hbt
  have HB0 := hide hb
  obtain ⟨a, c, see, hsl, hrow⟩ := hb.see3 hbt.even
  have HEV := hide hbt.even
  obtain ⟨⟨a1, a2⟩, ⟨a3, a4⟩, a5, a6, a7, a8⟩ := hbt.even
  have f1 := see.f1
  have hp : p < w.heap.size := lt_of_cell f1
  have HSL := hide hsl
  have HRW := hide hrow
  have HS := hide see
  have HL := hide (And.intro a5 (And.intro a6 (And.intro a7 a8)))
  clear hb hbt see hsl hrow a5 a6 a7 a8
  generalize hno : B.obj.length = no at *
  have HNO := hide hno
  clear hno
  go_enter Faag.func24, Faag.ntmps24
  go_wp2_with fail
  go_loopw [17] (fun q wr => ∃ k : Nat, 1 ≤ k ∧ k ≤ no ∧ q = .int .i64 k ∧ Hid (Below w.heap.size w wr)) (fun q _ => no - (intOf q).toNat)
  case atStart => exact ⟨1, by omega, by omega, rfl, hide (Below.refl _ _)⟩
  case round =>
    obtain ⟨k, hk1, hk, rfl, H⟩ := hrel
    have SE := hide (HS.out.below H.out)
    have f1' := SE.out.f1
    rw [HNO.out] at f1'
    clear f1 hp
    by_cases hlt : k < no
    · have f5 := SE.out.f5
      rw [HL.out.2.2.2] at f5
      have z5 := SE.out.deads k (by have := HL.out.2.2.2; omega)
      obtain ⟨dk, hdk⟩ : ∃ d, d = B.dead.getD k false := ⟨_, rfl⟩
      rw [← hdk] at z5
      have bo := SE.out.objs k (by rw [HNO.out]; omega)
      have lo := HB0.out.ok.obj k
      change (B.o k).Ok at lo
      have HB13 := hide (HBT.out.b13 k hk1 (by rw [HNO.out]; exact hlt))
      rw [← hdk] at HB13
      clear hdk
      generalize B.o k = P at *
      obtain ⟨kind, at_, data, ptrs, code, count⟩ := P
      have d0 := bo 0 _ rfl
      have d1 := bo 1 _ rfl
      have d2 := bo 2 _ rfl
      have d3 := bo 3 _ rfl
      have d4 := bo 4 _ rfl
      have d5 := bo 5 _ rfl
      obtain ⟨l1, l2, l3, l4, l5, l6⟩ := lo
      dsimp only at d0 d1 d2 d3 d4 d5 l1 l2 l3 l4 l5 l6 HB13
      simp only [Nat.add_zero] at d0
      have hpw : p < wr.heap.size := lt_of_cell f1'
      have hg1 : a 1 < wr.heap.size := lt_of_cell d0
      have hg5 : a 5 < wr.heap.size := lt_of_cell z5
      clear bo
      cases dk with
      | true =>
        clear HB13
        go_wp2_with fail
        go_roundw
        case rel => exact ⟨k + 1, by omega, by omega, by go_num, hide (H.out.step ((Below.refl _ _).alloc (Nat.le_refl _) _))⟩
        case measure => simp [intOf]; omega
      | false =>
        by_cases hk2 : kind = 2
        · subst hk2
          have hcs : code < 2 ∨ code = 2 ∨ code = 3 ∨ code = 4 ∨ code = 5 ∨ 5 < code := by omega
          rcases hcs with hcd | rfl | rfl | rfl | rfl | hcd
          · clear HB13
            go_wp2_with fail
            go_roundw
            case rel => exact ⟨k + 1, by omega, by omega, by go_num, hide (H.out.step ((Below.refl _ _).alloc (Nat.le_refl _) _))⟩
            case measure => simp [intOf]; omega
          · replace HB13 := hide (HB13.out rfl rfl (by omega) (by omega))
            have hpw2 : (2 : Nat) ^ (2 - 2) = 1 := by decide
            rw [hpw2] at HB13
            obtain ⟨N, hN⟩ : ∃ N, N = count * 1 := ⟨_, rfl⟩
            rw [← hN] at HB13
            have hNi : (count : Int) * 1 = (N : Int) := by omega
            have HNN := hide hN
            clear hpw2 hN
            by_cases h8 : N % 8 = 0
            · have g8 : ((N : Int) % 8 != 0) = false := by simp; omega
              clear h8 HB13
              go_wp2_with fail
              go_roundw
              case rel => exact ⟨k + 1, by omega, by omega, by go_num, hide (H.out.step ((Below.refl _ _).alloc (Nat.le_refl _) _))⟩
              case measure => simp [intOf]; omega
            · have g8 : ((N : Int) % 8 != 0) = true := by simp; omega
              obtain ⟨hc, hlen, hbad⟩ := HB13.out h8
              obtain ⟨q8, hq8⟩ : ∃ x, x = N / 8 := ⟨_, rfl⟩
              obtain ⟨r8, hr8⟩ : ∃ x, x = N % 8 := ⟨_, rfl⟩
              have i8 : (N : Int) / 8 = (q8 : Int) := by omega
              have j8 : (N : Int) % 8 = (r8 : Int) := by omega
              have r8l : r8 < 8 := by omega
              have q8l : q8 ≤ 128 := by have := HNN.out; omega
              rw [← hq8] at hlen hbad
              rw [← hr8] at hbad
              have HBAD := hide hbad
              rw [j8] at g8
              have hbr := HB0.out.below (H.out.step ((Below.refl wr.heap.size wr).alloc (Nat.le_refl _) (Obj.cells #[.int .u8 2, .int .u16 (at_ : Int), .int .u8 (data : Int), .int .u8 (ptrs : Int), .int .u8 2, .int .u16 (count : Int)] 62)))
              have hbr0 := HB0.out.below H.out
              have f0 := SE.out.f0
              have ho0 := hbr0.own 0 (by omega)
              rw [(HSL.out 0 (by omega)).1] at ho0
              obtain ⟨z0, y0⟩ := own_cell ho0 (U_get (l := B.A) (i := at_ + q8) hlen)
              have lA := HB0.out.ok.A (at_ + q8)
              obtain ⟨v, hv⟩ : ∃ v, v = B.A.getD (at_ + q8) 0 := ⟨_, rfl⟩
              rw [← hv] at z0 lA HBAD
              have ho := put_or v (r8 * 8) lA (by omega)
              have hvl : (v ||| 2 ^ (r8 * 8)) < 18446744073709551616 := or_lt lA (Nat.pow_lt_pow_right (a := 2) (by omega) (show r8 * 8 < 64 by omega))
              have HO := hide ho
              have HBR := hide hbr
              have hg0 : a 0 < wr.heap.size := lt_of_cell z0
              clear hc hbad hq8 hr8 h8 HB13 hbr hbr0 ho0 hv ho
              go_wp2_with fail
              refine wp_region_qx 16 (by kernel_rfl) (by kernel_rfl) ?_
              simp only [List.take_succ_cons, List.take_zero, List.drop_succ_cons, List.drop_zero]
              repeat (go_big_quiet_step (fail))
              refine wpQuiet_nil ?_
              rintro _ ⟨x, rfl⟩
              go_wp2_with fail
              rw [HO.out]
              have hset := (HBR.out.ext x).setA (i := at_ + q8) (v := v ||| 2 ^ (r8 * 8)) (HSL.out 0 (by omega)).1 hvl
              have KW : Keeps (blk p hh) w (World.setCell _ ⟨a 0, at_ + q8, none⟩ (.int .u64 ((v ||| 2 ^ (r8 * 8) : Nat) : Int))) := (keeps_step ((Keeps.of_below H.out).mono (fun j hj hx => by omega)) (((Below.refl wr.heap.size wr).alloc (Nat.le_refl _) (Obj.cells #[.int .u8 2, .int .u16 (at_ : Int), .int .u8 (data : Int), .int .u8 (ptrs : Int), .int .u8 2, .int .u16 (count : Int)] 62)).step (World.below_ext _ x))).setCell (p := ⟨a 0, at_ + q8, none⟩) (fun _ => blk_row p (i := 0) (by omega) (HSL.out 0 (by omega)).1) _
              refine (check_calls hset (by show (B.A.set _ _).length ≤ _; rw [List.length_set]; omega) (by show B.obj.length ≤ _; rw [HNO.out]; omega)).mono ?_
              rintro r w9 ⟨⟨r', rfl, hr⟩, hb9⟩
              have hr' : r' = false := by
                cases r' with
                | false => rfl
                | true => exact absurd (hr.1 rfl) HBAD.out
              subst hr'
              have KF := hide (keeps_step KW hb9)
              clear hr hb9 hset KW
              go_wp2_with fail
              go_ret
              exact ⟨rfl, KF.out⟩
          · replace HB13 := hide (HB13.out rfl rfl (by omega) (by omega))
            have hpw2 : (2 : Nat) ^ (3 - 2) = 2 := by decide
            rw [hpw2] at HB13
            obtain ⟨N, hN⟩ : ∃ N, N = count * 2 := ⟨_, rfl⟩
            rw [← hN] at HB13
            have hNi : (count : Int) * 2 = (N : Int) := by omega
            have HNN := hide hN
            clear hpw2 hN
            by_cases h8 : N % 8 = 0
            · have g8 : ((N : Int) % 8 != 0) = false := by simp; omega
              clear h8 HB13
              go_wp2_with fail
              go_roundw
              case rel => exact ⟨k + 1, by omega, by omega, by go_num, hide (H.out.step ((Below.refl _ _).alloc (Nat.le_refl _) _))⟩
              case measure => simp [intOf]; omega
            · have g8 : ((N : Int) % 8 != 0) = true := by simp; omega
              obtain ⟨hc, hlen, hbad⟩ := HB13.out h8
              obtain ⟨q8, hq8⟩ : ∃ x, x = N / 8 := ⟨_, rfl⟩
              obtain ⟨r8, hr8⟩ : ∃ x, x = N % 8 := ⟨_, rfl⟩
              have i8 : (N : Int) / 8 = (q8 : Int) := by omega
              have j8 : (N : Int) % 8 = (r8 : Int) := by omega
              have r8l : r8 < 8 := by omega
              have q8l : q8 ≤ 128 := by have := HNN.out; omega
              rw [← hq8] at hlen hbad
              rw [← hr8] at hbad
              have HBAD := hide hbad
              rw [j8] at g8
              have hbr := HB0.out.below (H.out.step ((Below.refl wr.heap.size wr).alloc (Nat.le_refl _) (Obj.cells #[.int .u8 2, .int .u16 (at_ : Int), .int .u8 (data : Int), .int .u8 (ptrs : Int), .int .u8 3, .int .u16 (count : Int)] 62)))
              have hbr0 := HB0.out.below H.out
              have f0 := SE.out.f0
              have ho0 := hbr0.own 0 (by omega)
              rw [(HSL.out 0 (by omega)).1] at ho0
              obtain ⟨z0, y0⟩ := own_cell ho0 (U_get (l := B.A) (i := at_ + q8) hlen)
              have lA := HB0.out.ok.A (at_ + q8)
              obtain ⟨v, hv⟩ : ∃ v, v = B.A.getD (at_ + q8) 0 := ⟨_, rfl⟩
              rw [← hv] at z0 lA HBAD
              have ho := put_or v (r8 * 8) lA (by omega)
              have hvl : (v ||| 2 ^ (r8 * 8)) < 18446744073709551616 := or_lt lA (Nat.pow_lt_pow_right (a := 2) (by omega) (show r8 * 8 < 64 by omega))
              have HO := hide ho
              have HBR := hide hbr
              have hg0 : a 0 < wr.heap.size := lt_of_cell z0
              clear hc hbad hq8 hr8 h8 HB13 hbr hbr0 ho0 hv ho
              go_wp2_with fail
              refine wp_region_qx 16 (by kernel_rfl) (by kernel_rfl) ?_
              simp only [List.take_succ_cons, List.take_zero, List.drop_succ_cons, List.drop_zero]
              repeat (go_big_quiet_step (fail))
              refine wpQuiet_nil ?_
              rintro _ ⟨x, rfl⟩
              go_wp2_with fail
              rw [HO.out]
              have hset := (HBR.out.ext x).setA (i := at_ + q8) (v := v ||| 2 ^ (r8 * 8)) (HSL.out 0 (by omega)).1 hvl
              have KW : Keeps (blk p hh) w (World.setCell _ ⟨a 0, at_ + q8, none⟩ (.int .u64 ((v ||| 2 ^ (r8 * 8) : Nat) : Int))) := (keeps_step ((Keeps.of_below H.out).mono (fun j hj hx => by omega)) (((Below.refl wr.heap.size wr).alloc (Nat.le_refl _) (Obj.cells #[.int .u8 2, .int .u16 (at_ : Int), .int .u8 (data : Int), .int .u8 (ptrs : Int), .int .u8 3, .int .u16 (count : Int)] 62)).step (World.below_ext _ x))).setCell (p := ⟨a 0, at_ + q8, none⟩) (fun _ => blk_row p (i := 0) (by omega) (HSL.out 0 (by omega)).1) _
              refine (check_calls hset (by show (B.A.set _ _).length ≤ _; rw [List.length_set]; omega) (by show B.obj.length ≤ _; rw [HNO.out]; omega)).mono ?_
              rintro r w9 ⟨⟨r', rfl, hr⟩, hb9⟩
              have hr' : r' = false := by
                cases r' with
                | false => rfl
                | true => exact absurd (hr.1 rfl) HBAD.out
              subst hr'
              have KF := hide (keeps_step KW hb9)
              clear hr hb9 hset KW
              go_wp2_with fail
              go_ret
              exact ⟨rfl, KF.out⟩
          · replace HB13 := hide (HB13.out rfl rfl (by omega) (by omega))
            have hpw2 : (2 : Nat) ^ (4 - 2) = 4 := by decide
            rw [hpw2] at HB13
            obtain ⟨N, hN⟩ : ∃ N, N = count * 4 := ⟨_, rfl⟩
            rw [← hN] at HB13
            have hNi : (count : Int) * 4 = (N : Int) := by omega
            have HNN := hide hN
            clear hpw2 hN
            by_cases h8 : N % 8 = 0
            · have g8 : ((N : Int) % 8 != 0) = false := by simp; omega
              clear h8 HB13
              go_wp2_with fail
              go_roundw
              case rel => exact ⟨k + 1, by omega, by omega, by go_num, hide (H.out.step ((Below.refl _ _).alloc (Nat.le_refl _) _))⟩
              case measure => simp [intOf]; omega
            · have g8 : ((N : Int) % 8 != 0) = true := by simp; omega
              obtain ⟨hc, hlen, hbad⟩ := HB13.out h8
              obtain ⟨q8, hq8⟩ : ∃ x, x = N / 8 := ⟨_, rfl⟩
              obtain ⟨r8, hr8⟩ : ∃ x, x = N % 8 := ⟨_, rfl⟩
              have i8 : (N : Int) / 8 = (q8 : Int) := by omega
              have j8 : (N : Int) % 8 = (r8 : Int) := by omega
              have r8l : r8 < 8 := by omega
              have q8l : q8 ≤ 128 := by have := HNN.out; omega
              rw [← hq8] at hlen hbad
              rw [← hr8] at hbad
              have HBAD := hide hbad
              rw [j8] at g8
              have hbr := HB0.out.below (H.out.step ((Below.refl wr.heap.size wr).alloc (Nat.le_refl _) (Obj.cells #[.int .u8 2, .int .u16 (at_ : Int), .int .u8 (data : Int), .int .u8 (ptrs : Int), .int .u8 4, .int .u16 (count : Int)] 62)))
              have hbr0 := HB0.out.below H.out
              have f0 := SE.out.f0
              have ho0 := hbr0.own 0 (by omega)
              rw [(HSL.out 0 (by omega)).1] at ho0
              obtain ⟨z0, y0⟩ := own_cell ho0 (U_get (l := B.A) (i := at_ + q8) hlen)
              have lA := HB0.out.ok.A (at_ + q8)
              obtain ⟨v, hv⟩ : ∃ v, v = B.A.getD (at_ + q8) 0 := ⟨_, rfl⟩
              rw [← hv] at z0 lA HBAD
              have ho := put_or v (r8 * 8) lA (by omega)
              have hvl : (v ||| 2 ^ (r8 * 8)) < 18446744073709551616 := or_lt lA (Nat.pow_lt_pow_right (a := 2) (by omega) (show r8 * 8 < 64 by omega))
              have HO := hide ho
              have HBR := hide hbr
              have hg0 : a 0 < wr.heap.size := lt_of_cell z0
              clear hc hbad hq8 hr8 h8 HB13 hbr hbr0 ho0 hv ho
              go_wp2_with fail
              refine wp_region_qx 16 (by kernel_rfl) (by kernel_rfl) ?_
              simp only [List.take_succ_cons, List.take_zero, List.drop_succ_cons, List.drop_zero]
              repeat (go_big_quiet_step (fail))
              refine wpQuiet_nil ?_
              rintro _ ⟨x, rfl⟩
              go_wp2_with fail
              rw [HO.out]
              have hset := (HBR.out.ext x).setA (i := at_ + q8) (v := v ||| 2 ^ (r8 * 8)) (HSL.out 0 (by omega)).1 hvl
              have KW : Keeps (blk p hh) w (World.setCell _ ⟨a 0, at_ + q8, none⟩ (.int .u64 ((v ||| 2 ^ (r8 * 8) : Nat) : Int))) := (keeps_step ((Keeps.of_below H.out).mono (fun j hj hx => by omega)) (((Below.refl wr.heap.size wr).alloc (Nat.le_refl _) (Obj.cells #[.int .u8 2, .int .u16 (at_ : Int), .int .u8 (data : Int), .int .u8 (ptrs : Int), .int .u8 4, .int .u16 (count : Int)] 62)).step (World.below_ext _ x))).setCell (p := ⟨a 0, at_ + q8, none⟩) (fun _ => blk_row p (i := 0) (by omega) (HSL.out 0 (by omega)).1) _
              refine (check_calls hset (by show (B.A.set _ _).length ≤ _; rw [List.length_set]; omega) (by show B.obj.length ≤ _; rw [HNO.out]; omega)).mono ?_
              rintro r w9 ⟨⟨r', rfl, hr⟩, hb9⟩
              have hr' : r' = false := by
                cases r' with
                | false => rfl
                | true => exact absurd (hr.1 rfl) HBAD.out
              subst hr'
              have KF := hide (keeps_step KW hb9)
              clear hr hb9 hset KW
              go_wp2_with fail
              go_ret
              exact ⟨rfl, KF.out⟩
          · replace HB13 := hide (HB13.out rfl rfl (by omega) (by omega))
            have hpw2 : (2 : Nat) ^ (5 - 2) = 8 := by decide
            rw [hpw2] at HB13
            obtain ⟨N, hN⟩ : ∃ N, N = count * 8 := ⟨_, rfl⟩
            rw [← hN] at HB13
            have hNi : (count : Int) * 8 = (N : Int) := by omega
            have HNN := hide hN
            clear hpw2 hN
            by_cases h8 : N % 8 = 0
            · have g8 : ((N : Int) % 8 != 0) = false := by simp; omega
              clear h8 HB13
              go_wp2_with fail
              go_roundw
              case rel => exact ⟨k + 1, by omega, by omega, by go_num, hide (H.out.step ((Below.refl _ _).alloc (Nat.le_refl _) _))⟩
              case measure => simp [intOf]; omega
            · have g8 : ((N : Int) % 8 != 0) = true := by simp; omega
              obtain ⟨hc, hlen, hbad⟩ := HB13.out h8
              obtain ⟨q8, hq8⟩ : ∃ x, x = N / 8 := ⟨_, rfl⟩
              obtain ⟨r8, hr8⟩ : ∃ x, x = N % 8 := ⟨_, rfl⟩
              have i8 : (N : Int) / 8 = (q8 : Int) := by omega
              have j8 : (N : Int) % 8 = (r8 : Int) := by omega
              have r8l : r8 < 8 := by omega
              have q8l : q8 ≤ 128 := by have := HNN.out; omega
              rw [← hq8] at hlen hbad
              rw [← hr8] at hbad
              have HBAD := hide hbad
              rw [j8] at g8
              have hbr := HB0.out.below (H.out.step ((Below.refl wr.heap.size wr).alloc (Nat.le_refl _) (Obj.cells #[.int .u8 2, .int .u16 (at_ : Int), .int .u8 (data : Int), .int .u8 (ptrs : Int), .int .u8 5, .int .u16 (count : Int)] 62)))
              have hbr0 := HB0.out.below H.out
              have f0 := SE.out.f0
              have ho0 := hbr0.own 0 (by omega)
              rw [(HSL.out 0 (by omega)).1] at ho0
              obtain ⟨z0, y0⟩ := own_cell ho0 (U_get (l := B.A) (i := at_ + q8) hlen)
              have lA := HB0.out.ok.A (at_ + q8)
              obtain ⟨v, hv⟩ : ∃ v, v = B.A.getD (at_ + q8) 0 := ⟨_, rfl⟩
              rw [← hv] at z0 lA HBAD
              have ho := put_or v (r8 * 8) lA (by omega)
              have hvl : (v ||| 2 ^ (r8 * 8)) < 18446744073709551616 := or_lt lA (Nat.pow_lt_pow_right (a := 2) (by omega) (show r8 * 8 < 64 by omega))
              have HO := hide ho
              have HBR := hide hbr
              have hg0 : a 0 < wr.heap.size := lt_of_cell z0
              clear hc hbad hq8 hr8 h8 HB13 hbr hbr0 ho0 hv ho
              go_wp2_with fail
              refine wp_region_qx 16 (by kernel_rfl) (by kernel_rfl) ?_
              simp only [List.take_succ_cons, List.take_zero, List.drop_succ_cons, List.drop_zero]
              repeat (go_big_quiet_step (fail))
              refine wpQuiet_nil ?_
              rintro _ ⟨x, rfl⟩
              go_wp2_with fail
              rw [HO.out]
              have hset := (HBR.out.ext x).setA (i := at_ + q8) (v := v ||| 2 ^ (r8 * 8)) (HSL.out 0 (by omega)).1 hvl
              have KW : Keeps (blk p hh) w (World.setCell _ ⟨a 0, at_ + q8, none⟩ (.int .u64 ((v ||| 2 ^ (r8 * 8) : Nat) : Int))) := (keeps_step ((Keeps.of_below H.out).mono (fun j hj hx => by omega)) (((Below.refl wr.heap.size wr).alloc (Nat.le_refl _) (Obj.cells #[.int .u8 2, .int .u16 (at_ : Int), .int .u8 (data : Int), .int .u8 (ptrs : Int), .int .u8 5, .int .u16 (count : Int)] 62)).step (World.below_ext _ x))).setCell (p := ⟨a 0, at_ + q8, none⟩) (fun _ => blk_row p (i := 0) (by omega) (HSL.out 0 (by omega)).1) _
              refine (check_calls hset (by show (B.A.set _ _).length ≤ _; rw [List.length_set]; omega) (by show B.obj.length ≤ _; rw [HNO.out]; omega)).mono ?_
              rintro r w9 ⟨⟨r', rfl, hr⟩, hb9⟩
              have hr' : r' = false := by
                cases r' with
                | false => rfl
                | true => exact absurd (hr.1 rfl) HBAD.out
              subst hr'
              have KF := hide (keeps_step KW hb9)
              clear hr hb9 hset KW
              go_wp2_with fail
              go_ret
              exact ⟨rfl, KF.out⟩
          · clear HB13
            go_wp2_with fail
            go_roundw
            case rel => exact ⟨k + 1, by omega, by omega, by go_num, hide (H.out.step ((Below.refl _ _).alloc (Nat.le_refl _) _))⟩
            case measure => simp [intOf]; omega
        · have g2 : ((kind : Int) != 2) = true := by simp; omega
          clear HB13 hk2
          go_wp2_with fail
          go_roundw
          case rel => exact ⟨k + 1, by omega, by omega, by go_num, hide (H.out.step ((Below.refl _ _).alloc (Nat.le_refl _) _))⟩
          case measure => simp [intOf]; omega
    · go_wp2_with fail
      go_ret
      exact ⟨rfl, (Keeps.of_below H.out).mono (fun j hj hx => by omega)⟩
end Go.Proofs.YgcfaaGreat
