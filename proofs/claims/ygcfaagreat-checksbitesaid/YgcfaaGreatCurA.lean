import Derived.Test.YgcfaaGreatPackB
namespace Go.Proofs.YgcfaaGreat
open Go.RowKit Bits Bd
set_option linter.unusedVariables false
set_option maxRecDepth 100000
set_option linter.unusedSimpArgs false
attribute [local go_sem] World.cell?_ext World.frozen?_ext

theorem onesD_calls (x : Nat) (hx : x < 18446744073709551616) : ∃ n : Nat, n < 256 ∧ ∀ w, Calls Faag.prog 77 #[.int .u64 x] w fun e w' => e = .returned (.int .u8 (n : Int)) ∧ w' = w := by
  obtain ⟨n, h1, h2⟩ : RetByte (.returned (.int .u8 (onesI x))) := RetByte.of_mod _
  refine ⟨n, h2, fun w => (onesI_calls x hx w).mono ?_⟩
  rintro e w' ⟨rfl, rfl⟩
  exact ⟨h1, rfl⟩
set_option maxHeartbeats 4000000 in
theorem lowD_calls (x : Nat) (hx : x < 18446744073709551616) : ∃ n : Nat, n < 256 ∧ ∀ w, Calls Faag.prog 78 #[.int .u64 x] w fun e w' => e = .returned (.int .u8 (n : Int)) ∧ w' = w := by
  obtain ⟨y, hy, hyl⟩ : ∃ y : Nat, IntKind.u64.wrap (bits .and .u64 (x : Int) (IntKind.u64.wrap (-(x : Int))) - 1) = (y : Int) ∧ y < 18446744073709551616 := by
    rw [IntKind.wrap_u64]
    exact ⟨((bits .and .u64 (x : Int) (IntKind.u64.wrap (-(x : Int))) - 1) % 18446744073709551616).toNat, by omega, by omega⟩
  obtain ⟨n, hn, ho'⟩ := onesD_calls y hyl
  refine ⟨n, hn, fun w => ?_⟩
  have ho := hide ho'
  clear ho'
  go_enter Faag.func78, Faag.ntmps78
  go_wp2_with fail
  refine (ho.out _).mono ?_
  rintro e w' ⟨rfl, rfl⟩
  go_wp2_with fail
  go_ret
  exact ⟨rfl, rfl⟩

abbrev SStr := Str 5 .u8 256
abbrev OStr := Str 31 .u64 18446744073709551616
structure CurAt (B0 : Nat) (w : World) (b : Nat) (sv : Value) (sn i : Nat) (ov : Value) (on : Nat) : Prop where
  row : RowAt w b 0 [sv, .int .u16 (i : Int), ov]
  s : SStr B0 w sv sn
  o : OStr B0 w ov on
  b0 : B0 ≤ b
  a1 : ¬ sv.ownBlock = some b
  a2 : ¬ ov.ownBlock = some b
  a3 : ∀ j, sv.ownBlock = some j → ¬ ov.ownBlock = some j
  chk : sn ≤ 4096 ∧ i ≤ sn ∧ on ≤ 256

section
variable {B0 : Nat} {w w' : World} {b : Nat} {sv : Value} {sn i : Nat} {ov : Value} {on : Nat}
theorem CurAt.lt (h : CurAt B0 w b sv sn i ov on) : b < w.heap.size := h.row.lt (by simp)
theorem CurAt.below (h : CurAt B0 w b sv sn i ov on) (hb : Below w.heap.size w w') : CurAt B0 w' b sv sn i ov on :=
  ⟨h.row.keeps (Keeps.of_below hb) (fun h1 h2 => by omega), h.s.below hb, h.o.below hb, h.b0, h.a1, h.a2, h.a3, h.chk⟩
theorem CurAt.drewN (h : CurAt B0 w b sv sn i ov on) (n : Nat) : CurAt B0 (w.drewN n) b sv sn i ov on := h.below ⟨rfl, rfl, rfl, Nat.le_refl _, fun _ _ => rfl⟩
theorem CurAt.check (h : CurAt B0 w b sv sn i ov on) : Calls Faag.prog 38 #[.pointer (some ⟨b, 0, none⟩)] w fun e w' => e = .returned (.bool true) ∧ Below w.heap.size w w' := by
  obtain ⟨a1, c1, e1, f1⟩ := h.s.form
  obtain ⟨a2, c2, e2, f2⟩ := h.o.form
  subst e1 e2
  have c0 := h.row.at_ (i := 0) rfl
  have c1 := h.row.at_ (i := 1) rfl
  have c2 := h.row.at_ (i := 2) rfl
  rw [Nat.zero_add] at c0 c1 c2
  obtain ⟨k1, k2, k3⟩ := h.chk
  refine (curCheck_calls b a1 a2 sn _ i on _ (by omega) (by omega) w c0 c1 c2 (by omega)).mono ?_
  rintro e w' ⟨⟨r, rfl, hr⟩, hb⟩
  have : r = true := hr.2 ⟨k1, k2, k3⟩
  subst this
  exact ⟨rfl, hb⟩
/-- Out gets a new slice. -/
theorem CurAt.putOut (h : CurAt B0 w b sv sn i ov on) (hB : B0 ≤ w.heap.size) {v' : Value} {w1 : World} {on' : Nat} (ho : OStr B0 w1 v' on') (kp : Keeps (fun j => some j = ov.ownBlock) w w1) (bf : BlkOf w ov v') (hon : on' ≤ 256) :
    CurAt B0 (w1.setCell ⟨b, 2, none⟩ v') b sv sn i v' on' ∧ Below B0 w (w1.setCell ⟨b, 2, none⟩ v') := by
  have hb := h.lt
  have hvb : ¬ v'.ownBlock = some b := fun e => by
    rcases bf b e with q | q
    · exact h.a2 q
    · omega
  have r1 : RowAt w1 b 0 [sv, .int .u16 (i : Int), ov] := h.row.keeps kp (fun _ e => h.a2 e.symm)
  have r2 := r1.set (i := 2) (by simp) v'
  have k2 := keeps_set w1 b 2 v'
  refine ⟨⟨r2, (h.s.keeps kp (fun j hj e => h.a3 j hj e.symm)).keeps k2 (fun j hj e => h.a1 (by rw [hj, e])), ho.keeps k2 (fun j hj e => hvb (by rw [hj, e])), h.b0, h.a1, hvb, fun j hj e => ?_, h.chk.1, h.chk.2.1, hon⟩, ?_⟩
  · rcases bf j e with q | q
    · exact h.a3 j hj q
    · have hl := h.s.own
      obtain ⟨ys, _, _, hw⟩ := hl
      have := (hw.lt j hj).2
      omega
  · have b1 : Below B0 w w1 := kp.below hB (fun j hj e => by have := h.o.fresh j e.symm; omega)
    exact b1.trans (k2.below (Nat.le_trans hB kp.size) (fun j hj e => by have := h.b0; omega))
theorem CurAt.putI (h : CurAt B0 w b sv sn i ov on) (hB : B0 ≤ w.heap.size) {i' : Nat} (hi : i' ≤ sn) :
    CurAt B0 (w.setCell ⟨b, 1, none⟩ (.int .u16 (i' : Int))) b sv sn i' ov on ∧ Below B0 w (w.setCell ⟨b, 1, none⟩ (.int .u16 (i' : Int))) := by
  have r2 := h.row.set (i := 1) (by simp) (.int .u16 (i' : Int))
  have k2 := keeps_set w b 1 (.int .u16 (i' : Int))
  exact ⟨⟨r2, h.s.keeps k2 (fun j hj e => h.a1 (by rw [hj, e])), h.o.keeps k2 (fun j hj e => h.a2 (by rw [hj, e])), h.b0, h.a1, h.a2, h.a3, h.chk.1, hi, h.chk.2.2⟩, k2.below hB (fun j hj e => by have := h.b0; omega)⟩
end
theorem under34 : Faag.prog.underlying 34 = some (.slice (Faag.prog.elem 34)) := by kernel_rfl
theorem size34 (W : World) : (sizeOf (Faag.prog.elem 34)).run Faag.prog W = .ok 1 W := by kernel_rfl
theorem slice_from (g n c i : Nat) (h : i < n) (hc : n ≤ c) (W : World) : (Instr.sliceAt 34 (.slice (some ⟨g, 0, none⟩) n c) (some (.int .u16 (i : Int))) (some (.int .i64 (n : Int))) (some (.int .i64 (n : Int)))).run Faag.prog W = .ok (.slice (some ⟨g, i, none⟩) (n - i) (n - i)) W := by
  rw [run_sliceAt_slice W 34 _ _ _ _ under34, run_slice_lhm W 34 (some ⟨g, 0, none⟩) n c under34 .u16 .i64 .i64 i n n (by omega) (by omega) (by omega) (by omega), size34, Int.toNat_natCast, Int.toNat_natCast, Result.andThen_ok]
  unfold sliced
  rw [if_neg (by omega), Option.map_some, Addr.add_mid, Nat.mul_one, Nat.zero_add]
theorem or_nat (a b : Int) (h1 : 0 ≤ a ∧ a < 18446744073709551616) (h2 : 0 ≤ b ∧ b < 18446744073709551616) : ∃ y : Nat, bits .or .u64 a b = (y : Int) ∧ y < 18446744073709551616 := by
  obtain ⟨x, rfl⟩ : ∃ x : Nat, a = (x : Int) := ⟨a.toNat, by omega⟩
  obtain ⟨z, rfl⟩ : ∃ z : Nat, b = (z : Int) := ⟨b.toNat, by omega⟩
  exact ⟨x ||| z, u64_or_nat x z (by omega) (by omega), or_lt (by omega) (by omega)⟩
theorem wrap_rng (a : Int) : 0 ≤ IntKind.u64.wrap a ∧ IntKind.u64.wrap a < 18446744073709551616 := by
  rw [IntKind.wrap_u64]; omega
end Go.Proofs.YgcfaaGreat
