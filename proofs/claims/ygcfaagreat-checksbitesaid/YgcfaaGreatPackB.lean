import Derived.Test.YgcfaaGreatStr
namespace Go.Proofs.YgcfaaGreat
open Go.RowKit Bits Bd
set_option linter.unusedVariables false
set_option maxRecDepth 100000
set_option linter.unusedSimpArgs false
attribute [local go_sem] World.cell?_ext World.frozen?_ext

/-- A packed stream is handed back. -/
def RetStr (e : Ending) (B0 : Nat) (w : World) : Prop := ∃ v m, e = .returned v ∧ Str 5 .u8 256 B0 w v m ∧ m ≤ 2560

theorem byte_step {y j : Nat} (h : y * 256 ^ j < 18446744073709551616) : (y ≠ 0 → j < 8) ∧ y / 256 * 256 ^ (j + 1) < 18446744073709551616 := by
  constructor
  · intro hy
    rcases Nat.lt_or_ge j 8 with h1 | h1
    · exact h1
    · exfalso
      have h2 : 256 ^ 8 ≤ 256 ^ j := Nat.pow_le_pow_right (by omega) h1
      have h3 : 1 * 256 ^ j ≤ y * 256 ^ j := Nat.mul_le_mul_right _ (by omega)
      have h4 : (256 : Nat) ^ 8 = 18446744073709551616 := by decide
      omega
  · refine Nat.lt_of_le_of_lt ?_ h
    rw [Nat.pow_succ, Nat.mul_comm (256 ^ j) 256, ← Nat.mul_assoc]
    exact Nat.mul_le_mul_right _ (Nat.div_mul_le_self y 256)
theorem under23 : Faag.prog.underlying 23 = some (.slice (Faag.prog.elem 23)) := by kernel_rfl
theorem size23 (W : World) : (sizeOf (Faag.prog.elem 23)).run Faag.prog W = .ok 1 W := by kernel_rfl
theorem slice_tail (rb ro n c i : Nat) (h : i + 1 ≤ n) (hc : n ≤ c) : ∃ o', (∀ W, (Instr.sliceAt 23 (.slice (some ⟨rb, ro, none⟩) n c) (some (.int .i64 ((i : Int) + 1))) (some (.int .i64 (n : Int))) (some (.int .i64 (n : Int)))).run Faag.prog W = .ok (.slice (some ⟨rb, o', none⟩) (n - (i + 1)) (n - (i + 1))) W) ∧ (i + 1 < n → o' = ro + (i + 1)) := by
  have e1 : ((i : Int) + 1).toNat = i + 1 := by omega
  refine ⟨if n = i + 1 then ro else ro + (i + 1), fun W => ?_, fun h1 => by rw [if_neg (by omega)]⟩
  rw [run_sliceAt_slice W 23 _ _ _ _ under23, run_slice_lhm W 23 (some ⟨rb, ro, none⟩) n c under23 .i64 .i64 .i64 ((i : Int) + 1) n n (by omega) (by omega) (by omega) (by omega), size23, e1, Int.toNat_natCast, Result.andThen_ok]
  unfold sliced
  by_cases hn : n = i + 1
  · rw [if_pos hn, if_pos hn]
  · rw [if_neg hn, if_neg hn, Option.map_some, Addr.add_mid, Nat.mul_one]
theorem slice_head (rb ro n k : Nat) (h : k ≤ n) (W : World) : (Instr.sliceAt 23 (.slice (some ⟨rb, ro, none⟩) n n) none (some (.int .i64 (k : Int))) none).run Faag.prog W = .ok (.slice (some ⟨rb, ro, none⟩) k n) W := by
  rw [run_sliceAt_slice W 23 _ _ _ _ under23, run_slice_h W 23 (some ⟨rb, ro, none⟩) n n under23 .i64 k (by omega) (by omega), size23, Int.toNat_natCast, Result.andThen_ok]
  unfold sliced
  by_cases hn : n = 0
  · rw [if_pos hn, Nat.sub_zero, Nat.sub_zero]
  · rw [if_neg hn, Option.map_some, Addr.add_mid, Nat.zero_mul, Nat.add_zero, Nat.sub_zero, Nat.sub_zero]
theorem bytes8_calls (v : Nat) (hv : v < 18446744073709551616) (W : World) : Calls Faag.prog 76 #[.int .u64 v] W fun e W' =>
    (∃ y0 y1 y2 y3 y4 y5 y6 y7 : Nat, e = .returned (.agg #[.int .u8 y0, .int .u8 y1, .int .u8 y2, .int .u8 y3, .int .u8 y4, .int .u8 y5, .int .u8 y6, .int .u8 y7]) ∧ ∀ y ∈ [y0, y1, y2, y3, y4, y5, y6, y7], y < 256) ∧ Below W.heap.size W W' := by
  refine (bytes_calls v hv W).mono ?_
  rintro e w' ⟨rfl, hb⟩
  refine ⟨⟨v % 256, v / 256 % 256, v / 65536 % 256, v / 16777216 % 256, v / 4294967296 % 256, v / 1099511627776 % 256, v / 281474976710656 % 256, v / 72057594037927936, rfl, fun y hy => ?_⟩, hb⟩
  simp only [List.mem_cons, List.not_mem_nil, or_false] at hy
  omega
theorem news8 (w : World) (e : TypeId) (y0 y1 y2 y3 y4 y5 y6 y7 : Nat) : ∀ j u, (cellsK .u8 [y0, y1, y2, y3, y4, y5, y6, y7])[j]? = some u → (w.alloc (.cells #[.int .u8 y0, .int .u8 y1, .int .u8 y2, .int .u8 y3, .int .u8 y4, .int .u8 y5, .int .u8 y6, .int .u8 y7] e)).cell? ⟨w.heap.size, j, none⟩ = some u := by
  intro j u hu
  have := RowAt.of_alloc w (cellsK .u8 [y0, y1, y2, y3, y4, y5, y6, y7]) e
  have := this.at_ (i := j) hu
  rw [Nat.zero_add] at this
  exact this
theorem below_eq {B : Nat} {w w' : World} (h : Below B w w') (e : B = w.heap.size) : Below w.heap.size w w' := e ▸ h
set_option maxHeartbeats 16000000 in
theorem pack_calls (sa : Option Addr) (n c : Nat) (hnc : n ≤ c) (w : World) (hraw : RawAt w sa n) :
    Calls Faag.prog 36 #[.slice sa n c] w fun e w' => RetStr e w.heap.size w' ∧ Below w.heap.size w w' := by
  have hn := hraw.le
  by_cases h0 : n = 0
  · subst h0
    go_enter Faag.func36, Faag.ntmps36
    go_wp2_with fail
    go_ret
    exact ⟨⟨_, 0, rfl, Str.nil, by omega⟩, Below.refl _ _⟩
  have hn0 : ((n : Int) == 0) = false := by simp; omega
  have hn1 : decide ((256 : Int) < n) = false := by simp; omega
  obtain ⟨rb, ro, hsa, hW⟩ := hraw.words (by omega)
  subst hsa
  have HW := hide hW
  obtain ⟨B0, hB0⟩ : ∃ B0, B0 = w.heap.size := ⟨_, rfl⟩
  rw [← hB0]
  have HB0 := hide hB0
  have hBle : B0 ≤ w.heap.size := by omega
  clear hW hraw hB0
  go_enter Faag.func36, Faag.ntmps36
  go_wp2_with (first | (refine wpList_make0 (k := .u8) (lim := 256) (B0 := B0) ty_bytes rfl _ _ rfl .i64 .i64 (2 + 9 * n) rfl (by go_num) (by omega) (by omega) hBle ?_; intro w1 s1 b1) | fail)
  have HP := hide (show Str 5 .u8 256 B0 w1 (.slice (some ⟨w.heap.size, 0, none⟩) 0 (2 + 9 * n)) 0 ∧ Below B0 w w1 from ⟨s1, b1.mono hBle⟩)
  clear s1 b1
  go_loopw [3, 4] (fun r q wr => ∃ (i : Nat) (v : Value) (m : Nat), i ≤ n ∧ r = v ∧ q = .int .i64 (i : Nat) ∧ m ≤ 10 * i ∧ Hid (Str 5 .u8 256 B0 wr v m ∧ Below B0 w wr)) (fun _ q _ => 65536 - (intOf q).toNat)
  case atStart => exact ⟨0, _, 0, by omega, rfl, by simp, by omega, hide HP.out⟩
  case round =>
    obtain ⟨i, v, m, hi, rfl, rfl, hm, H⟩ := hrel
    clear HP
    by_cases hgo : i < n
    · have hwr : B0 ≤ wr.heap.size := Nat.le_trans hBle H.out.2.size
      obtain ⟨x, cx, xl⟩ := (HW.out.below (below_eq H.out.2 HB0.out)) i hgo
      have HT := hide (tagOf_calls x xl wr)
      go_wp2_with fail
      refine HT.out.mono ?_
      rintro e w2 ⟨⟨tg, rfl, htg⟩, e2⟩
      rw [e2]
      clear e2 HT
      go_wp2_with (first | (refine wpList_pushS ty_bytes rfl _ _ rfl _ m rfl (H.out.1.alloc _) _ 1 1 [tg] rfl rfl (by omega) (news1 _ 5 .u8 tg) (by intro y hy; rw [List.mem_singleton.1 hy]; exact htg) (by rw [World.size_alloc]; omega) (by omega) (by omega) ?_; intro v2 w3 s2 b2 k2 f2) | fail)
      have HP2 := hide (show Str 5 .u8 256 B0 w3 v2 (m + 1) ∧ Below B0 w w3 from ⟨s2, H.out.2.trans ((Below.refl B0 wr).alloc hwr _ |>.trans b2)⟩)
      clear s2 b2 k2 f2 H cx
      go_loopw [3, 5] (fun r q wr => ∃ (v : Value) (y l j : Nat), r = v ∧ q = .int .u64 (y : Nat) ∧ j ≤ 8 ∧ l ≤ m + 1 + j ∧ Hid (y * 256 ^ j < 18446744073709551616) ∧ Hid (Str 5 .u8 256 B0 wr v l ∧ Below B0 w wr)) (fun _ q _ => (intOf q).toNat)
      case atStart => exact ⟨v2, x, m + 1, 0, rfl, rfl, by omega, by omega, hide (by simpa using xl), hide HP2.out⟩
      case round =>
        obtain ⟨v, y, l, j, rfl, rfl, hj, hl, HY, H⟩ := hrel
        clear HP2
        have hwr : B0 ≤ wr.heap.size := Nat.le_trans hBle H.out.2.size
        by_cases hy : y = 0
        · subst hy
          have hI1 : (i : Int) + 1 ≤ n := by omega
          have hI2 : (n : Int) ≤ c := by omega
          obtain ⟨o', hsl, ho'⟩ := slice_tail rb ro n c i (by omega) hnc
          obtain ⟨R, hR⟩ : ∃ R, R = n - (i + 1) := ⟨_, rfl⟩
          rw [← hR] at hsl
          have hRn : i + 1 + R = n := by omega
          have HWR := hide (show WordsAt wr rb o' R from fun q hq => by
            obtain ⟨z, z1, z2⟩ := (HW.out.below (below_eq H.out.2 HB0.out)) (i + 1 + q) (by omega)
            rw [ho' (by omega)]
            exact ⟨z, by rw [show ro + (i + 1) + q = ro + (i + 1 + q) by omega]; exact z1, z2⟩)
          have HO := hide ho'
          clear HY hR ho'
          have htc : tg = 0 ∨ tg = 255 ∨ (¬ tg = 0 ∧ ¬ tg = 255) := by omega
          rcases htc with h0 | h0 | ⟨h0, h00⟩
          · have g0 : ((tg : Int) == 0) = true := by simp; omega
            have HZ := hide (zeros2_calls rb o' R R (by omega) wr HWR.out)
            clear h0
            go_wp2_with fail
            refine HZ.out.mono ?_
            rintro e w4 ⟨⟨k, rfl, hk⟩, e4⟩
            rw [e4]
            clear e4 HZ
            have hkb : (k : Int) % 256 = (k : Int) := by omega
            go_wp2_with (first | (refine wpList_pushS ty_bytes rfl _ _ rfl _ l rfl (H.out.1.alloc _) _ 1 1 [k] rfl rfl (by omega) (news1 _ 5 .u8 k) (by intro q hq; rw [List.mem_singleton.1 hq]; omega) (by rw [World.size_alloc]; omega) (by omega) (by omega) ?_; intro v3 w5 s3 b3 k3 f3) | fail)
            go_roundw
            case rel => exact ⟨i + k + 1, v3, l + 1, by omega, rfl, by go_num, by omega, hide ⟨s3, H.out.2.trans ((Below.refl B0 wr).alloc hwr _ |>.trans b3)⟩⟩
            case measure => simp [intOf]; omega
          · have g0 : ((tg : Int) == 0) = false := by simp; omega
            have g1 : ((tg : Int) == 255) = true := by simp; omega
            have HZ := hide (dense_calls rb o' R R (by omega) wr HWR.out)
            clear h0
            go_wp2_with fail
            refine HZ.out.mono ?_
            rintro e w4 ⟨⟨k, rfl, hk⟩, e4⟩
            rw [e4]
            clear e4 HZ
            have hkb : (k : Int) % 256 = (k : Int) := by omega
            have hsh := slice_head rb o' R k hk
            go_wp2_with (first | (refine wpList_pushS ty_bytes rfl _ _ rfl _ l rfl (H.out.1.alloc _) _ 1 1 [k] rfl rfl (by omega) (news1 _ 5 .u8 k) (by intro q hq; rw [List.mem_singleton.1 hq]; omega) (by rw [World.size_alloc]; omega) (by omega) (by omega) ?_; intro v3 w5 s3 b3 k3 f3) | fail)
            have HP3 := hide (show Str 5 .u8 256 B0 w5 v3 (l + 1) ∧ Below B0 w w5 from ⟨s3, H.out.2.trans ((Below.refl B0 wr).alloc hwr _ |>.trans b3)⟩)
            clear s3 b3 k3 f3
            have HWR2 := hide (show ∀ wx, Below B0 w wx → ∀ q, q < k → ∃ z : Nat, wx.cell? ⟨rb, o' + q, none⟩ = some (.int .u64 (z : Int)) ∧ z < 18446744073709551616 from fun wx hbx q hq => by
              obtain ⟨z, z1, z2⟩ := (HW.out.below (below_eq hbx HB0.out)) (i + 1 + q) (by omega)
              rw [HO.out (by omega)]
              exact ⟨z, by rw [show ro + (i + 1) + q = ro + (i + 1 + q) by omega]; exact z1, z2⟩)
            clear H HWR
            go_loopw [3, 88] (fun r q wr => ∃ (v : Value) (j l2 : Nat), r = v ∧ q = .int .i64 (j : Nat) ∧ j ≤ k ∧ l2 ≤ l + 1 + 8 * j ∧ Hid (Str 5 .u8 256 B0 wr v l2 ∧ Below B0 w wr)) (fun _ q _ => 65536 - (intOf q).toNat)
            case atStart => exact ⟨v3, 0, l + 1, rfl, by simp, by omega, by omega, HP3⟩
            case round =>
              obtain ⟨v, q, l2, rfl, rfl, hq, hl2, H⟩ := hrel
              clear HP3
              have hwr : B0 ≤ wr.heap.size := Nat.le_trans hBle H.out.2.size
              by_cases hqk : q < k
              · obtain ⟨z, z1, z2⟩ := HWR2.out wr H.out.2 q hqk
                have HBy := hide (bytes8_calls z z2 wr)
                go_wp2_with fail
                refine HBy.out.mono ?_
                rintro e w6 ⟨⟨y0, y1, y2, y3, y4, y5, y6, y7, rfl, hys⟩, b6⟩
                have HP6 := hide (show Str 5 .u8 256 B0 w6 u3 l2 ∧ Below B0 w w6 from ⟨H.out.1.below b6, H.out.2.trans (b6.mono hwr)⟩)
                have hw6 : B0 ≤ w6.heap.size := Nat.le_trans hwr b6.size
                clear b6 HBy z1 H
                go_wp2_with (first | (refine wpList_pushS ty_bytes rfl _ _ rfl _ l2 rfl (HP6.out.1.alloc _) _ 8 8 [y0, y1, y2, y3, y4, y5, y6, y7] rfl rfl (by omega) (news8 _ 124 y0 y1 y2 y3 y4 y5 y6 y7) hys (by rw [World.size_alloc]; omega) (by omega) (by omega) ?_; intro v4 w7 s4 b4 k4 f4) | fail)
                go_roundw
                case rel => exact ⟨v4, q + 1, l2 + 8, rfl, by go_num, by omega, by omega, hide ⟨s4, HP6.out.2.trans ((Below.refl B0 w6).alloc hw6 _ |>.trans b4)⟩⟩
                case measure => simp [intOf]; omega
              · have hqe : q = k := by omega
                go_wp2_with fail
                go_roundw
                case rel => exact ⟨i + k + 1, _, l2, by omega, rfl, by go_num, by omega, H⟩
                case measure => simp [intOf]; omega
          · have g0 : ((tg : Int) == 0) = false := by simp; omega
            have g1 : ((tg : Int) == 255) = false := by simp; omega
            clear h0 h00
            go_wp2_with fail
            go_roundw
            case rel => exact ⟨i + 1, _, l, by omega, rfl, by go_num, by omega, H⟩
            case measure => simp [intOf]; omega
        · have hj8 := (byte_step HY.out).1 hy
          have HY2 := hide (byte_step HY.out).2
          have hyn : ((y : Int) != 0) = true := by simp; omega
          obtain ⟨yb, hyb, hybl⟩ : ∃ yb : Nat, (y : Int) % 256 = (yb : Int) ∧ yb < 256 := ⟨y % 256, by omega, by omega⟩
          obtain ⟨yd, hyd, hydl, hyde⟩ : ∃ yd : Nat, (y : Int) / 256 = (yd : Int) ∧ yd < y ∧ Hid (yd = y / 256) := ⟨y / 256, by omega, Nat.div_lt_self (by omega) (by omega), hide rfl⟩
          have HY3 := hide (show yd * 256 ^ (j + 1) < 18446744073709551616 from by rw [hyde.out]; exact HY2.out)
          clear HY2 hyde
          by_cases hb : yb = 0
          · have hb0 : ((yb : Int) != 0) = false := by simp; omega
            clear HY hb
            go_wp2_with fail
            go_roundw
            case rel => exact ⟨_, yd, l, j + 1, rfl, by go_num, by omega, by omega, HY3, H⟩
            case measure => simp [intOf]; omega
          · have hb0 : ((yb : Int) != 0) = true := by simp; omega
            clear HY hb
            go_wp2_with (first | (refine wpList_pushS ty_bytes rfl _ _ rfl _ l rfl (H.out.1.alloc _) _ 1 1 [yb] rfl rfl (by omega) (news1 _ 5 .u8 yb) (by intro q hq; rw [List.mem_singleton.1 hq]; exact hybl) (by rw [World.size_alloc]; omega) (by omega) (by omega) ?_; intro v3 w4 s3 b3 k3 f3) | fail)
            go_roundw
            case rel => exact ⟨v3, yd, l + 1, j + 1, rfl, by go_num, by omega, by omega, HY3, hide ⟨s3, H.out.2.trans ((Below.refl B0 wr).alloc hwr _ |>.trans b3)⟩⟩
            case measure => simp [intOf]; omega
    · have : i = n := by omega
      go_wp2_with fail
      go_ret
      exact ⟨⟨_, m, rfl, H.out.1, by omega⟩, H.out.2⟩
end Go.Proofs.YgcfaaGreat
