import Derived.Test.YgcfaaGreatSee
namespace Go.Proofs.YgcfaaGreat
open Go.RowKit Bits Bd
set_option linter.unusedVariables false
set_option maxRecDepth 100000
set_option linter.unusedSimpArgs false
attribute [local go_sem] World.cell?_ext World.frozen?_ext
attribute [local go_sem] equalIn_ptr

namespace Bd
def firstPtr : Ptr := ⟨1, 0, 0, 1, 0, 0⟩
/-- Builder.rooted -/
def rootedP (B : Bld) : Prop := (B.o 0 = firstPtr ∧ B.up.getD 0 0 = 0 ∧ B.via.getD 0 0 = 0 ∧ B.depth.getD 0 0 = 0 ∧ B.dead.getD 0 false = false) ∧ ∀ h, 1 ≤ h → h < B.obj.length → B.up.getD h 0 < h
end Bd

set_option maxHeartbeats 4000000 in
theorem rooted_calls {w : World} {p : Nat} {B : Bld} {a c : Nat → Nat} (s : See w p B a c) (ok : B.Ok) (hev : evenP B) :
    Calls Faag.prog 18 #[.pointer (some ⟨p, 0, none⟩)] w fun e w' => RetB e (rootedP B) ∧ Below w.heap.size w w' := by
  obtain ⟨⟨a1, a2⟩, ⟨a3, a4⟩, a5, a6, a7, a8⟩ := hev
  obtain ⟨R, hR⟩ : ∃ R, R = rootedP B := ⟨_, rfl⟩
  rw [← hR]
  unfold rootedP firstPtr at hR
  have f1 := s.f1
  have f2 := s.f2
  have f3 := s.f3
  have f4 := s.f4
  have f5 := s.f5
  rw [a5] at f2
  rw [a6] at f3
  rw [a7] at f4
  rw [a8] at f5
  have bo := s.objs 0 (by omega)
  have b2 := s.ups 0 (by omega)
  have b3 := s.vias 0 (by omega)
  have b4 := s.depths 0 (by omega)
  have b5 := s.deads 0 (by omega)
  have HU := hide (fun k (hk : k < B.obj.length) => s.ups k (by omega))
  have u2 := ok.up 0
  have HUL := hide ok.up
  have hp : p < w.heap.size := lt_of_cell f1
  have hg1 : a 1 < w.heap.size := lt_of_cell (bo 0 _ rfl)
  have hg2 : a 2 < w.heap.size := lt_of_cell b2
  have hg3 : a 3 < w.heap.size := lt_of_cell b3
  have hg4 : a 4 < w.heap.size := lt_of_cell b4
  have hg5 : a 5 < w.heap.size := lt_of_cell b5
  have hk5 := ok.obj 0
  change (B.o 0).Ok at hk5
  generalize B.o 0 = P at *
  obtain ⟨kind, at_, data, ptrs, code, count⟩ := P
  have d0 := bo 0 _ rfl
  have d1 := bo 1 _ rfl
  have d2 := bo 2 _ rfl
  have d3 := bo 3 _ rfl
  have d4 := bo 4 _ rfl
  have d5 := bo 5 _ rfl
  simp only [Nat.zero_mul, Nat.zero_add] at d0 d1 d2 d3 d4 d5
  clear bo s
  generalize B.up.getD 0 0 = y2 at *
  generalize B.via.getD 0 0 = y3 at *
  generalize B.depth.getD 0 0 = y4 at *
  generalize B.dead.getD 0 false = y5 at *
  generalize B.obj.length = n at *
  have HR := hide hR
  clear hR a5 a6 a7 a8
  go_enter Faag.func18, Faag.ntmps18
  go_wp2_with fail
  refine wp_region_qd 7 (by kernel_rfl) (by kernel_rfl) ?_
  simp only [List.take_succ_cons, List.take_zero, List.drop_succ_cons, List.drop_zero]
  repeat (go_big_quiet_step (fail))
  refine wpQuiet_nil ?_
  rintro _ ⟨nq, rfl⟩
  go_wp2_with fail
  all_goals try
    (go_ret
     refine ⟨RetB.of ⟨fun h => Bool.noConfusion h, fun h => ?_⟩, ((Below.refl _ _).alloc (Nat.le_refl _) _).step (below_drewN _ _)⟩
     rw [HR.out] at h
     obtain ⟨⟨k1, k2, k3, k4, k5⟩, _⟩ := h
     rw [Ptr.mk.injEq] at k1
     first | omega | simp_all)
  rename_i e1 e2 e3 e4 e5 _ _
  have HR2 := hide (show R = ∀ h, 1 ≤ h → h < n → B.up.getD h 0 < h from by
    rw [HR.out, eq_iff_iff]
    refine ⟨fun h => h.2, fun h => ⟨⟨?_, e2, e3, e4, e5⟩, h⟩⟩
    rw [Ptr.mk.injEq]
    omega)
  have hE := World.ext_of_below (((Below.refl w.heap.size w).alloc (Nat.le_refl _) (Obj.cells #[.int .u8 1, .int .u16 0, .int .u8 0, .int .u8 1, .int .u8 0, .int .u16 0] 62)).step (below_drewN _ nq))
  generalize World.drewN _ nq = w1 at *
  obtain ⟨x1, rfl⟩ := hE
  clear e1 e2 e3 e4 e5 HR d0 d1 d2 d3 d4 d5 b2 b3 b4 b5 f3 f4 f5
  go_loopw [4] (fun q wr => ∃ k : Nat, 1 ≤ k ∧ k ≤ n ∧ q = .int .i64 k ∧ (∃ x, wr = w.ext x) ∧ Hid (∀ h, 1 ≤ h → h < k → B.up.getD h 0 < h)) (fun q _ => n - (intOf q).toNat)
  case atStart => exact ⟨1, by omega, by omega, rfl, ⟨x1, rfl⟩, hide (fun h h1 h2 => by omega)⟩
  case round =>
    obtain ⟨k, hk1, hk, rfl, ⟨x2, rfl⟩, hG⟩ := hrel
    by_cases hlt : k < n
    · have bk := HU.out k hlt
      have lk := HUL.out k
      obtain ⟨uk, huk⟩ : ∃ u, u = B.up.getD k 0 := ⟨_, rfl⟩
      rw [← huk] at bk lk
      have HK := hide huk
      clear huk
      by_cases hu : uk < k
      · go_wp2_with fail
        go_roundw
        case rel => exact ⟨k + 1, by omega, by omega, by go_num, ⟨x2, rfl⟩, hide (fun h h1 h2 => by
          by_cases hh : h < k
          · exact hG.out h h1 hh
          · have : h = k := by omega
            subst this; rw [← HK.out]; exact hu)⟩
        case measure => simp [intOf]; omega
      · have hu' : k ≤ uk := by omega
        go_wp2_with fail
        go_ret
        refine ⟨RetB.of ⟨fun h => Bool.noConfusion h, fun h => ?_⟩, World.below_ext _ _⟩
        rw [HR2.out] at h
        have := h k hk1 hlt
        rw [← HK.out] at this
        omega
    · go_wp2_with fail
      go_ret
      refine ⟨RetB.of ⟨fun _ => ?_, fun _ => rfl⟩, World.below_ext _ _⟩
      rw [HR2.out]
      exact fun h h1 h2 => hG.out h h1 (by omega)
end Go.Proofs.YgcfaaGreat
