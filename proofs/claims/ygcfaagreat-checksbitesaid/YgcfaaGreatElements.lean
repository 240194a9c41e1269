import Derived.Test.YgcfaaGreatSee
import Derived.Test.YgcfaaGreatLexC
namespace Go.Proofs.YgcfaaGreat
open Go.RowKit Bits Bd
set_option linter.unusedVariables false
set_option maxRecDepth 100000
set_option linter.unusedSimpArgs false
attribute [local go_sem] World.cell?_ext World.frozen?_ext

namespace Bd
/-- Handle h + 1 + j is the element j of the list h. -/
def elemP (B : Bld) (h j : Nat) : Prop :=
  B.o (h + 1 + j) = ⟨1, (B.o h).at_ + j * ((B.o h).data + (B.o h).ptrs), (B.o h).data, (B.o h).ptrs, 0, 0⟩ ∧ B.up.getD (h + 1 + j) 0 = h ∧ B.via.getD (h + 1 + j) 0 = j ∧
    B.depth.getD (h + 1 + j) 0 = B.depth.getD h 0 ∧ B.dead.getD (h + 1 + j) false = B.dead.getD h false
end Bd

/-- Two Ptrs compared. -/
def ptrEq (a1 a2 a3 a4 a5 a6 b1 b2 b3 b4 b5 b6 : Int) : Bool := decide (a1 = b1 ∧ a2 = b2 ∧ a3 = b3 ∧ a4 = b4 ∧ a5 = b5 ∧ a6 = b6)
theorem equalIn_ptr' (a1 a2 a3 a4 a5 a6 b1 b2 b3 b4 b5 b6 : Int) (w : World) :
    (Op.equalIn 10000 62 (.agg #[.int .u8 a1, .int .u16 a2, .int .u8 a3, .int .u8 a4, .int .u8 a5, .int .u16 a6]) (.agg #[.int .u8 b1, .int .u16 b2, .int .u8 b3, .int .u8 b4, .int .u8 b5, .int .u16 b6])).run Faag.prog w =
      .ok (ptrEq a1 a2 a3 a4 a5 a6 b1 b2 b3 b4 b5 b6) w := equalIn_ptr a1 a2 a3 a4 a5 a6 b1 b2 b3 b4 b5 b6 w
/-- Two values held against each other, of whatever shape. -/
def eqObj (P : Program) (d : Nat) (t : TypeId) (a b : Value) (w : World) : Result Bool := (Op.equalIn d t a b).run P w
theorem equalIn_obj (P : Program) (d : Nat) (t : TypeId) (a b : Value) (w : World) (ht : t = 62) : (Op.equalIn d t a b).run P w = eqObj P d t a b w := rfl
theorem eqObj_ptr (a1 a2 a3 a4 a5 a6 b1 b2 b3 b4 b5 b6 : Int) (w : World) :
    eqObj Faag.prog 10000 62 (.agg #[.int .u8 a1, .int .u16 a2, .int .u8 a3, .int .u8 a4, .int .u8 a5, .int .u16 a6]) (.agg #[.int .u8 b1, .int .u16 b2, .int .u8 b3, .int .u8 b4, .int .u8 b5, .int .u16 b6]) w = .ok (ptrEq a1 a2 a3 a4 a5 a6 b1 b2 b3 b4 b5 b6) w := equalIn_ptr' a1 a2 a3 a4 a5 a6 b1 b2 b3 b4 b5 b6 w
attribute [local go_sem] equalIn_obj eqObj_ptr

theorem See.below {w w' : World} {p : Nat} {B : Bld} {a c : Nat → Nat} (s : See w p B a c) (h : Below w.heap.size w w') : See w' p B a c := by
  obtain ⟨x, rfl⟩ := World.ext_of_below h
  exact s.ext x

set_option maxHeartbeats 8000000 in
theorem elements_calls {w : World} {p : Nat} {B : Bld} {a c : Nat → Nat} (s : See w p B a c) (ok : B.Ok) (hev : evenP B) (h n : Nat) (hn : h + n < B.obj.length) (hm : (B.o h).at_ + n * ((B.o h).data + (B.o h).ptrs) ≤ 60000) :
    Calls Faag.prog 56 #[.pointer (some ⟨p, 0, none⟩), .int .i64 h, .int .i64 n] w fun e w' => RetB e (∀ j, j < n → elemP B h j) ∧ Below w.heap.size w w' := by
  obtain ⟨⟨a1, a2⟩, ⟨a3, a4⟩, a5, a6, a7, a8⟩ := hev
  obtain ⟨R, hR⟩ : ∃ R, R = ∀ j, j < n → elemP B h j := ⟨_, rfl⟩
  rw [← hR]
  have HR := hide hR
  clear hR
  have HS := hide s
  have f1 := s.f1
  have bo := s.objs h (by omega)
  have hk5 := ok.obj h
  change (B.o h).Ok at hk5
  have HE := hide (show ∀ j, elemP B h j = _ from fun j => by unfold elemP; rfl)
  have b4 := s.depths h (by omega)
  have b5 := s.deads h (by omega)
  have hL := hide (And.intro a5 (And.intro a6 (And.intro a7 a8)))
  have HOK := hide ok
  generalize B.o h = P at *
  obtain ⟨kind, at_, data, ptrs, code, count⟩ := P
  obtain ⟨o1, o2, o3, o4, o5, o6⟩ := hk5
  have d0 := bo 0 _ rfl
  have d1 := bo 1 _ rfl
  have d2 := bo 2 _ rfl
  have d3 := bo 3 _ rfl
  have d4 := bo 4 _ rfl
  have d5 := bo 5 _ rfl
  dsimp only at d0 d1 d2 d3 d4 d5 o1 o2 o3 o4 o5 o6 hm HE
  simp only [Nat.add_zero] at d0
  have hp : p < w.heap.size := lt_of_cell f1
  have hg1 : a 1 < w.heap.size := lt_of_cell (bo 0 _ rfl)
  clear bo s a5 a6 a7 a8
  generalize hdp : B.depth.getD h 0 = dp at *
  generalize hdd : B.dead.getD h false = dd at *
  have HDP := hide (And.intro hdp hdd)
  clear hdp hdd ok b4 b5
  generalize hno : B.obj.length = no at *
  have HNO := hide hno
  clear hno
  go_enter Faag.func56, Faag.ntmps56
  go_wp2_with fail
  have r7 := hide (RowAt.of_alloc w [.int .u8 (kind : Int), .int .u16 (at_ : Int), .int .u8 (data : Int), .int .u8 (ptrs : Int), .int .u8 (code : Int), .int .u16 (count : Int)] 62)
  have hB := hide ((Below.refl w.heap.size w).alloc (Nat.le_refl _) (Obj.cells [Value.int .u8 (kind : Int), .int .u16 (at_ : Int), .int .u8 (data : Int), .int .u8 (ptrs : Int), .int .u8 (code : Int), .int .u16 (count : Int)].toArray 62))
  obtain ⟨b7, hb7⟩ : ∃ b, b = w.heap.size := ⟨_, rfl⟩
  rw [← hb7] at r7 ⊢
  have HB7 := hide hb7
  clear hb7 d0 d1 d2 d3 d4 d5 f1 hp hg1
  go_loopw [9] (fun q wr => ∃ k : Nat, k ≤ n ∧ q = .int .i64 k ∧ Hid (See wr p B a c ∧ RowAt wr b7 0 [.int .u8 (kind : Int), .int .u16 (at_ : Int), .int .u8 (data : Int), .int .u8 (ptrs : Int), .int .u8 (code : Int), .int .u16 (count : Int)] ∧ Below w.heap.size w wr) ∧ Hid (∀ j, j < k → elemP B h j)) (fun q _ => n - (intOf q).toNat)
  case atStart => exact ⟨0, by omega, rfl, hide ⟨HS.out.below hB.out, r7.out, hB.out⟩, hide (fun h h1 => by omega)⟩
  case round =>
    obtain ⟨k, hk, rfl, H, hG⟩ := hrel
    by_cases hlt : k < n
    · obtain ⟨⟨q0, q1, q2, q3, q4, q5⟩, _⟩ := six H.out.2.1
      have hb7 : b7 < wr.heap.size := lt_of_cell q0
      obtain ⟨l5, l6, l7, l8⟩ := hL.out
      have f1 := H.out.1.f1
      have f2 := H.out.1.f2
      have f3 := H.out.1.f3
      have f4 := H.out.1.f4
      have f5 := H.out.1.f5
      rw [l5] at f2
      rw [l6] at f3
      rw [l7] at f4
      rw [l8] at f5
      rw [HNO.out] at f1
      have hmk : k * (data + ptrs) ≤ n * (data + ptrs) := Nat.mul_le_mul_right _ (by omega)
      obtain ⟨M, hM⟩ : ∃ M, M = k * (data + ptrs) := ⟨_, rfl⟩
      have hMi : (k : Int) * ((data : Int) + ptrs) = (M : Int) := by rw [hM, Int.natCast_mul, Int.natCast_add]
      have HEk := HE.out k
      rw [← hM] at HEk hmk
      have hML : at_ + M ≤ 60000 := by omega
      obtain ⟨e, he⟩ : ∃ e, e = h + 1 + k := ⟨_, rfl⟩
      have hei : (h : Int) + 1 + (k : Int) = (e : Int) := by omega
      have hel : e < no := by omega
      rw [← he] at HEk
      have bo := H.out.1.objs e (by rw [HNO.out]; omega)
      have u1 := H.out.1.ups e (by omega)
      have v1 := H.out.1.vias e (by omega)
      have e1 := H.out.1.depths e (by omega)
      have e2 := H.out.1.depths h (by omega)
      have z1 := H.out.1.deads e (by omega)
      have z2 := H.out.1.deads h (by omega)
      rw [HDP.out.1] at e2
      rw [HDP.out.2] at z2
      have lu := HOK.out.up e
      have lv := HOK.out.via e
      have ld := HOK.out.depth e
      have lo := HOK.out.obj e
      change (B.o e).Ok at lo
      have HEK := hide HEk
      clear HEk hM he l5 l6 l7 l8
      generalize B.o e = P at *
      generalize B.up.getD e 0 = y2 at *
      generalize B.via.getD e 0 = y3 at *
      generalize B.depth.getD e 0 = y4 at *
      generalize B.dead.getD e false = y5 at *
      obtain ⟨k1, k2, k3, k4, k5, k6⟩ := P
      have d0 := bo 0 _ rfl
      have d1 := bo 1 _ rfl
      have d2 := bo 2 _ rfl
      have d3 := bo 3 _ rfl
      have d4 := bo 4 _ rfl
      have d5 := bo 5 _ rfl
      dsimp only at d0 d1 d2 d3 d4 d5
      simp only [Nat.add_zero] at d0
      have hp : p < wr.heap.size := lt_of_cell f1
      have hg1 : a 1 < wr.heap.size := lt_of_cell d0
      have hg2 : a 2 < wr.heap.size := lt_of_cell u1
      have hg3 : a 3 < wr.heap.size := lt_of_cell v1
      have hg4 : a 4 < wr.heap.size := lt_of_cell e1
      have hg5 : a 5 < wr.heap.size := lt_of_cell z1
      obtain ⟨l1, l2, l3, l4, l5, l6⟩ := lo
      dsimp only at l1 l2 l3 l4 l5 l6
      clear bo
      have HX := hide (show ∃ x, wr.alloc (Obj.cells #[.int .u8 1, .int .u16 ((at_ : Int) + M), .int .u8 (data : Int), .int .u8 (ptrs : Int), .int .u8 0, .int .u16 0] 62) = (wr.alloc (Obj.cells #[.int .u8 1, .int .u16 ((at_ : Int) + M), .int .u8 (data : Int), .int .u8 (ptrs : Int), .int .u8 0, .int .u16 0] 62)).ext x from World.ext_of_below (Below.refl _ _))
      obtain ⟨D, hD⟩ : ∃ D, ptrEq k1 k2 k3 k4 k5 k6 1 ((at_ : Int) + M) data ptrs 0 0 = D := ⟨_, rfl⟩
      have HD := hide (show D = true ↔ (⟨k1, k2, k3, k4, k5, k6⟩ : Ptr) = ⟨1, at_ + M, data, ptrs, 0, 0⟩ from by
        rw [← hD]; unfold ptrEq; rw [decide_eq_true_eq, Ptr.mk.injEq]; omega)
      cases D with
      | false =>
        have HF := hide (show ¬ elemP B h k from by rw [HEK.out]; exact fun h => by have := HD.out.2 h.1; cases this)
        clear HD HEK
        go_wp2_with fail
        refine wp_region_qk _ 65 (by kernel_rfl) (by exact lex56) HX.out ?_
        intro KK HK
        simp only [List.append_eq, List.cons_append, List.nil_append, List.take_succ_cons, List.take_zero, List.drop_succ_cons, List.drop_zero]
        repeat (go_big_quiet_step (fail))
        refine wpQuiet_nil ?_
        refine HK.out _ ?_
        rintro _ ⟨x1, rfl⟩
        clear HK
        go_wp2_with fail
        go_ret
        refine ⟨RetB.of ⟨fun h => Bool.noConfusion h, fun h => ?_⟩, H.out.2.2.step (((Below.refl _ _).alloc (Nat.le_refl _) _).step (World.below_ext _ _))⟩
        rw [HR.out] at h
        exact (HF.out (h k hlt)).elim
      | true =>
        have hD2 := HD.out.1 rfl
        have HD2 := hide hD2
        clear hD2 HD
        by_cases c2 : y2 = h
        · have g2 : ((y2 : Int) != (h : Int)) = false := by simp; omega
          by_cases c3 : y3 = k
          · have g3 : ((y3 : Int) != (k : Int)) = false := by simp; omega
            by_cases c4 : y4 = dp
            · have g4 : ((y4 : Int) != (dp : Int)) = false := by simp; omega
              by_cases c5 : y5 = dd
              · have g5 : (y5 == dd) = true := by simp [c5]
                have HF := hide (show elemP B h k from by rw [HEK.out]; exact ⟨HD2.out, c2, c3, c4, c5⟩)
                clear HD2 HEK c2 c3 c4 c5
                go_wp2_with fail
                refine wp_region_qk _ 65 (by kernel_rfl) (by exact lex56) HX.out ?_
                intro KK HK
                simp only [List.append_eq, List.cons_append, List.nil_append, List.take_succ_cons, List.take_zero, List.drop_succ_cons, List.drop_zero]
                repeat (go_big_quiet_step (fail))
                refine wpQuiet_nil ?_
                refine HK.out _ ?_
                rintro _ ⟨x1, rfl⟩
                clear HK
                go_wp2_with fail
                go_roundw
                case rel => exact ⟨k + 1, by omega, by go_num, hide ⟨H.out.1.below (((Below.refl _ _).alloc (Nat.le_refl _) _).step (World.below_ext _ _)), H.out.2.1.keeps (Keeps.of_below (((Below.refl _ _).alloc (Nat.le_refl _) _).step (World.below_ext _ _))) (fun h1 h2 => by omega), H.out.2.2.step (((Below.refl _ _).alloc (Nat.le_refl _) _).step (World.below_ext _ _))⟩, hide (fun j hj => by
                  by_cases hh : j < k
                  · exact hG.out j hh
                  · have : j = k := by omega
                    subst this; exact HF.out)⟩
                case measure => simp [intOf]; omega
              · have g5 : (y5 == dd) = false := by simpa using c5
                have HF := hide (show ¬ elemP B h k from by rw [HEK.out]; exact fun h => c5 h.2.2.2.2)
                clear HD2 HEK c2 c3 c4 c5
                go_wp2_with fail
                refine wp_region_qk _ 65 (by kernel_rfl) (by exact lex56) HX.out ?_
                intro KK HK
                simp only [List.append_eq, List.cons_append, List.nil_append, List.take_succ_cons, List.take_zero, List.drop_succ_cons, List.drop_zero]
                repeat (go_big_quiet_step (fail))
                refine wpQuiet_nil ?_
                refine HK.out _ ?_
                rintro _ ⟨x1, rfl⟩
                clear HK
                go_wp2_with fail
                go_ret
                refine ⟨RetB.of ⟨fun h => Bool.noConfusion h, fun h => ?_⟩, H.out.2.2.step (((Below.refl _ _).alloc (Nat.le_refl _) _).step (World.below_ext _ _))⟩
                rw [HR.out] at h
                exact (HF.out (h k hlt)).elim
            · have g4 : ((y4 : Int) != (dp : Int)) = true := by simp; omega
              have HF := hide (show ¬ elemP B h k from by rw [HEK.out]; exact fun h => c4 h.2.2.2.1)
              clear HD2 HEK c2 c3 c4
              go_wp2_with fail
              refine wp_region_qk _ 65 (by kernel_rfl) (by exact lex56) HX.out ?_
              intro KK HK
              simp only [List.append_eq, List.cons_append, List.nil_append, List.take_succ_cons, List.take_zero, List.drop_succ_cons, List.drop_zero]
              repeat (go_big_quiet_step (fail))
              refine wpQuiet_nil ?_
              refine HK.out _ ?_
              rintro _ ⟨x1, rfl⟩
              clear HK
              go_wp2_with fail
              go_ret
              refine ⟨RetB.of ⟨fun h => Bool.noConfusion h, fun h => ?_⟩, H.out.2.2.step (((Below.refl _ _).alloc (Nat.le_refl _) _).step (World.below_ext _ _))⟩
              rw [HR.out] at h
              exact (HF.out (h k hlt)).elim
          · have g3 : ((y3 : Int) != (k : Int)) = true := by simp; omega
            have HF := hide (show ¬ elemP B h k from by rw [HEK.out]; exact fun h => c3 h.2.2.1)
            clear HD2 HEK c2 c3
            go_wp2_with fail
            refine wp_region_qk _ 65 (by kernel_rfl) (by exact lex56) HX.out ?_
            intro KK HK
            simp only [List.append_eq, List.cons_append, List.nil_append, List.take_succ_cons, List.take_zero, List.drop_succ_cons, List.drop_zero]
            repeat (go_big_quiet_step (fail))
            refine wpQuiet_nil ?_
            refine HK.out _ ?_
            rintro _ ⟨x1, rfl⟩
            clear HK
            go_wp2_with fail
            go_ret
            refine ⟨RetB.of ⟨fun h => Bool.noConfusion h, fun h => ?_⟩, H.out.2.2.step (((Below.refl _ _).alloc (Nat.le_refl _) _).step (World.below_ext _ _))⟩
            rw [HR.out] at h
            exact (HF.out (h k hlt)).elim
        · have g2 : ((y2 : Int) != (h : Int)) = true := by simp; omega
          have HF := hide (show ¬ elemP B h k from by rw [HEK.out]; exact fun h => c2 h.2.1)
          clear HD2 HEK c2
          go_wp2_with fail
          refine wp_region_qk _ 65 (by kernel_rfl) (by exact lex56) HX.out ?_
          intro KK HK
          simp only [List.append_eq, List.cons_append, List.nil_append, List.take_succ_cons, List.take_zero, List.drop_succ_cons, List.drop_zero]
          repeat (go_big_quiet_step (fail))
          refine wpQuiet_nil ?_
          refine HK.out _ ?_
          rintro _ ⟨x1, rfl⟩
          clear HK
          go_wp2_with fail
          go_ret
          refine ⟨RetB.of ⟨fun h => Bool.noConfusion h, fun h => ?_⟩, H.out.2.2.step (((Below.refl _ _).alloc (Nat.le_refl _) _).step (World.below_ext _ _))⟩
          rw [HR.out] at h
          exact (HF.out (h k hlt)).elim
    · go_wp2_with fail
      go_ret
      refine ⟨RetB.of ⟨fun _ => ?_, fun _ => rfl⟩, H.out.2.2⟩
      rw [HR.out]
      exact fun j hj => hG.out j (by omega)
end Go.Proofs.YgcfaaGreat
