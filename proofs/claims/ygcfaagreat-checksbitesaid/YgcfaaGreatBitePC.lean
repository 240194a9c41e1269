import Derived.Test.YgcfaaGreatBitePB
namespace Go.Proofs.YgcfaaGreat
open Go.RowKit Bits Bd
set_option linter.unusedVariables false
set_option maxRecDepth 100000
set_option linter.unusedSimpArgs false
attribute [local go_sem] World.cell?_ext World.frozen?_ext


set_option maxHeartbeats 16000000 in
theorem bitePtr4_calls {w : World} {p : Nat} {B : Bld} {a c : Nat → Nat} (see : See w p B a c) (ok : B.Ok) (i : InvC B) (sa : Option Addr) (rl rc : Nat) (hraw : RawAt w sa rl)  :
    Calls Faag.prog 8 #[.pointer (some ⟨p, 0, none⟩), .slice sa rl rc, .int .i64 4] w fun e w' => e = .returned (.bool true) ∧ Below w.heap.size w w' := by
  have HL := hide (live0_calls see ok i.even i.up)
  have HS := hide see
  have HI := hide i
  have HOK := hide ok
  have HR := hide hraw
  clear see ok i hraw
  go_enter Faag.func8, Faag.ntmps8
  go_wp2_with fail
  refine HL.out.mono ?_
  rintro e w0 ⟨⟨h0, rfl, _⟩, hb0⟩
  have HL2 := hide (live2_calls (HS.out.below hb0) HOK.out HI.out.even HI.out.up)
  have hb0s := hb0.size
  go_wp2_with fail
  refine HL2.out.mono ?_
  rintro e w1 ⟨⟨hh, rfl, hlive⟩, hb1'⟩
  have hb1 : Below w.heap.size w w1 := hb0.trans (hb1'.mono hb0s)
  have SE := hide (HS.out.below hb1)
  have HBL := hide hb1
  have HR1 := hide (HR.out.below hb1)
  have HLA := hide (show ¬ hh = 0 → 1 ≤ hh ∧ hh < B.obj.length ∧ Hid (PickB (B.o hh)) from fun hz => by
    rcases hlive with q | ⟨q1, q2, _, q4, q5, _⟩
    · exact absurd q hz
    · exact ⟨q1, q2, hide ⟨q4.resolve_left (by decide), q5.resolve_left (by decide)⟩⟩)
  clear hlive hb1 hb1' hb0 hb0s HS HR HL HL2
  by_cases hz : hh = 0
  · have hz' : ((hh : Int) == 0) = true := by simp; omega
    clear hz
    go_wp2_with fail
    go_ret
    exact ⟨rfl, HBL.out⟩
  · have hz' : ((hh : Int) == 0) = false := by simp; omega
    obtain ⟨hq1, hq2, HX⟩ := HLA.out hz
    have f0 := SE.out.f0
    have f1 := SE.out.f1
    have bp := SE.out.objs hh hq2
    have hIn := inv_inside HI.out hq1 hq2
    have lq := HOK.out.obj hh
    change (B.o hh).Ok at lq
    have HIN := hide hIn
    have hA256 : B.A.length ≤ 256 := HI.out.even.1.2
    clear hIn
    obtain ⟨Pq, hPq⟩ : ∃ Pq, Pq = B.o hh := ⟨_, rfl⟩
    rw [← hPq] at bp HIN lq HX
    clear hPq
    obtain ⟨kind, at_, data, ptrs, code, count⟩ := Pq
    have e0 := bp 0 _ rfl
    have e1 := bp 1 _ rfl
    have e2 := bp 2 _ rfl
    have e3 := bp 3 _ rfl
    have e4 := bp 4 _ rfl
    have e5 := bp 5 _ rfl
    dsimp only at e0 e1 e2 e3 e4 e5
    simp only [Nat.add_zero] at e0
    have hpw : p < w1.heap.size := lt_of_cell f1
    have hg1 : a 1 < w1.heap.size := lt_of_cell e0
    have LQ := hide lq
    clear bp hz
    obtain ⟨no, hno⟩ : ∃ no, no = B.obj.length := ⟨_, rfl⟩
    rw [← hno] at f1 hq2
    obtain ⟨na, hna⟩ : ∃ na, na = B.A.length := ⟨_, rfl⟩
    rw [← hna] at f0 HIN hA256
    have hna64 : na ≤ 140737488355328 := by omega
    have HNA := hide hna
    clear hno hna lq
    have HInC := hide (fun (W : World) => inside_calls (some ⟨a 0, 0, none⟩) na (c 0) hna64 ⟨kind, at_, data, ptrs, code, count⟩ LQ.out W)
    unfold ptrC at HInC
    dsimp only at HInC
    go_wp2_with fail
    refine wp_region_ql (fun w' => ∃ x, w' = w1.ext x) 13 [0, 1, 2, 3, 4, 5, 6, 7, 8, 9, 10] [11, 12] (by kernel_rfl) (by kernel_rfl) ?_ (ext_drew _) ?_
    · intro d v c a w hx
      cases d <;> exact hx
    simp only [pickOps, List.getElem?_cons_zero, List.getElem?_cons_succ, Option.toList_some, List.cons_append, List.nil_append, List.drop_succ_cons, List.drop_zero]
    repeat (go_big_quiet_step (fail))
    refine wpQuiet_nil ?_
    refine wpLd_cons ?_
    go_wp2_with fail
    refine ⟨ext_alloc _ _, ?_⟩
    refine wpLd_cons ?_
    go_wp2_with fail
    refine ⟨ext_alloc _ _, ?_⟩
    unfold wpLd
    go_wp2_with fail
    have hbE : Below w1.heap.size w1 (w1.alloc (Obj.cells #[Value.int IntKind.u8 kind, Value.int IntKind.u16 at_, Value.int IntKind.u8 data, Value.int IntKind.u8 ptrs, Value.int IntKind.u8 code, Value.int IntKind.u16 count] 62)).drew := ((Below.refl _ _).alloc (Nat.le_refl _) _).step (below_drewW _)
    have hrowE : RowAt (w1.alloc (Obj.cells #[Value.int IntKind.u8 kind, Value.int IntKind.u16 at_, Value.int IntKind.u8 data, Value.int IntKind.u8 ptrs, Value.int IntKind.u8 code, Value.int IntKind.u16 count] 62)).drew w1.heap.size 0 [Value.int IntKind.u8 kind, Value.int IntKind.u16 at_, Value.int IntKind.u8 data, Value.int IntKind.u8 ptrs, Value.int IntKind.u8 code, Value.int IntKind.u16 count] := (RowAt.of_alloc w1 [Value.int IntKind.u8 kind, Value.int IntKind.u16 at_, Value.int IntKind.u8 data, Value.int IntKind.u8 ptrs, Value.int IntKind.u8 code, Value.int IntKind.u16 count] 62).drewN 1
    refine (HInC.out _).mono ?_
    rintro e w3 ⟨⟨rb, rfl, hrb⟩, hb3⟩
    have hrt : rb = true := hrb.2 HIN.out
    subst hrt
    have hs3 : w1.heap.size < w3.heap.size := Nat.lt_of_lt_of_le (by simp [World.drew, World.size_alloc]) hb3.size
    have hb3' := hbE.step hb3
    have HW3 := hide (show RowAt w3 w1.heap.size 0 [Value.int IntKind.u8 kind, Value.int IntKind.u16 at_, Value.int IntKind.u8 data, Value.int IntKind.u8 ptrs, Value.int IntKind.u8 code, Value.int IntKind.u16 count] ∧ Below w.heap.size w w3 ∧ RawAt w3 sa rl from
      ⟨hrowE.keeps (Keeps.of_below hb3) (fun h1 h2 => by omega), HBL.out.trans (hb3'.mono HBL.out.size), HR1.out.below hb3'⟩)
    have hNw : w.heap.size ≤ w1.heap.size := HBL.out.size
    clear hrowE hbE hb3 hb3' hrb HInC HBL HR1 SE f0 f1 e0 e1 e2 e3 e4 e5
    obtain ⟨N, hN⟩ : ∃ N, N = w1.heap.size := ⟨_, rfl⟩
    rw [← hN] at HW3 hs3 hNw ⊢
    clear hN hg1 hpw
    obtain ⟨a5, _, _⟩ := HW3.out
    have m0 := a5.at_ (i := 0) rfl
    have m1 := a5.at_ (i := 1) rfl
    have m2 := a5.at_ (i := 2) rfl
    have m3 := a5.at_ (i := 3) rfl
    have m4 := a5.at_ (i := 4) rfl
    have m5 := a5.at_ (i := 5) rfl
    have n0 := a5.live 0 (by simp)
    have n1 := a5.live 1 (by simp)
    rw [Nat.zero_add] at m0 m1 m2 m3 m4 m5 n0 n1
    clear a5
    have HEnd := hide (show ∀ (P : Ptr) (sl : Option Addr) (n c : Nat) (w4 : World), P.Ok → n ≤ 257 → ¬ insideP n P → Below w.heap.size w w4 → Calls Faag.prog 30 #[.slice sl n c, .agg (ptrC P).toArray] w4 fun e w' => e = .returned (.bool false) ∧ Below w.heap.size w w' from by
      intro P sl n c w4 pok hn hni b4
      refine (inside_calls sl n c (by omega) P pok w4).mono ?_
      rintro e w5 ⟨⟨rb, rfl, hrb⟩, hb5⟩
      have hrf : rb = false := by
        cases rb
        · rfl
        · exact absurd (hrb.1 rfl) hni
      subst hrf
      exact ⟨rfl, b4.trans (hb5.mono b4.size)⟩)
    have hbad : ∀ x, x < 2 → ¬ insideP na ⟨kind, x, data, ptrs, code, count⟩ := fun x hx => by
      have hS : isSt ⟨kind, at_, data, ptrs, code, count⟩ := HX.out
      refine out_low ?_ hx (fun h => absurd hS h)
      obtain ⟨s1, s2⟩ := hS
      dsimp only at s1 s2
      subst s1 s2
      intro hw
      unfold words at hw
      dsimp only at hw
      rw [if_neg (by omega), if_neg (by omega)] at hw
      split at hw
      · omega
      · rw [if_neg (by omega), if_neg (by omega)] at hw
        split at hw <;> omega
    have HC := hide (HEnd.out ⟨kind, 0, data, ptrs, code, count⟩ (some ⟨a 0, 0, none⟩) na (c 0) (w3.setCell ⟨N, 1, none⟩ (.int .u16 0)) ⟨LQ.out.1, (show 0 < 65536 by omega), LQ.out.2.2⟩ (by omega) (hbad 0 (by omega)) (HW3.out.2.1.trans ((keeps_set w3 N 1 _).below (B := w.heap.size) HW3.out.2.1.size (fun k hk h => by omega))))
    unfold ptrC at HC
    dsimp only at HC
    go_wp2_with fail
    refine HC.out.mono ?_
    rintro e w5 ⟨rfl, b5⟩
    have HB5 := hide b5
    clear b5 HC
    go_wp2_with fail
    go_ret
    exact ⟨rfl, HB5.out⟩

set_option maxHeartbeats 16000000 in
theorem bitePtr5_calls {w : World} {p : Nat} {B : Bld} {a c : Nat → Nat} (see : See w p B a c) (ok : B.Ok) (i : InvC B) (sa : Option Addr) (rl rc : Nat) (hraw : RawAt w sa rl)  :
    Calls Faag.prog 8 #[.pointer (some ⟨p, 0, none⟩), .slice sa rl rc, .int .i64 5] w fun e w' => e = .returned (.bool true) ∧ Below w.heap.size w w' := by
  have HL := hide (live0_calls see ok i.even i.up)
  have HS := hide see
  have HI := hide i
  have HOK := hide ok
  have HR := hide hraw
  clear see ok i hraw
  go_enter Faag.func8, Faag.ntmps8
  go_wp2_with fail
  refine HL.out.mono ?_
  rintro e w0 ⟨⟨h0, rfl, _⟩, hb0⟩
  have HL2 := hide (live2_calls (HS.out.below hb0) HOK.out HI.out.even HI.out.up)
  have hb0s := hb0.size
  go_wp2_with fail
  refine HL2.out.mono ?_
  rintro e w1 ⟨⟨hh, rfl, hlive⟩, hb1'⟩
  have hb1 : Below w.heap.size w w1 := hb0.trans (hb1'.mono hb0s)
  have SE := hide (HS.out.below hb1)
  have HBL := hide hb1
  have HR1 := hide (HR.out.below hb1)
  have HLA := hide (show ¬ hh = 0 → 1 ≤ hh ∧ hh < B.obj.length ∧ Hid (PickB (B.o hh)) from fun hz => by
    rcases hlive with q | ⟨q1, q2, _, q4, q5, _⟩
    · exact absurd q hz
    · exact ⟨q1, q2, hide ⟨q4.resolve_left (by decide), q5.resolve_left (by decide)⟩⟩)
  clear hlive hb1 hb1' hb0 hb0s HS HR HL HL2
  by_cases hz : hh = 0
  · have hz' : ((hh : Int) == 0) = true := by simp; omega
    clear hz
    go_wp2_with fail
    go_ret
    exact ⟨rfl, HBL.out⟩
  · have hz' : ((hh : Int) == 0) = false := by simp; omega
    obtain ⟨hq1, hq2, HX⟩ := HLA.out hz
    have f0 := SE.out.f0
    have f1 := SE.out.f1
    have bp := SE.out.objs hh hq2
    have hIn := inv_inside HI.out hq1 hq2
    have lq := HOK.out.obj hh
    change (B.o hh).Ok at lq
    have HIN := hide hIn
    have hA256 : B.A.length ≤ 256 := HI.out.even.1.2
    clear hIn
    obtain ⟨Pq, hPq⟩ : ∃ Pq, Pq = B.o hh := ⟨_, rfl⟩
    rw [← hPq] at bp HIN lq HX
    clear hPq
    obtain ⟨kind, at_, data, ptrs, code, count⟩ := Pq
    have e0 := bp 0 _ rfl
    have e1 := bp 1 _ rfl
    have e2 := bp 2 _ rfl
    have e3 := bp 3 _ rfl
    have e4 := bp 4 _ rfl
    have e5 := bp 5 _ rfl
    dsimp only at e0 e1 e2 e3 e4 e5
    simp only [Nat.add_zero] at e0
    have hpw : p < w1.heap.size := lt_of_cell f1
    have hg1 : a 1 < w1.heap.size := lt_of_cell e0
    have LQ := hide lq
    clear bp hz
    obtain ⟨no, hno⟩ : ∃ no, no = B.obj.length := ⟨_, rfl⟩
    rw [← hno] at f1 hq2
    obtain ⟨na, hna⟩ : ∃ na, na = B.A.length := ⟨_, rfl⟩
    rw [← hna] at f0 HIN hA256
    have hna64 : na ≤ 140737488355328 := by omega
    have HNA := hide hna
    clear hno hna lq
    have HInC := hide (fun (W : World) => inside_calls (some ⟨a 0, 0, none⟩) na (c 0) hna64 ⟨kind, at_, data, ptrs, code, count⟩ LQ.out W)
    unfold ptrC at HInC
    dsimp only at HInC
    go_wp2_with fail
    refine wp_region_ql (fun w' => ∃ x, w' = w1.ext x) 13 [0, 1, 2, 3, 4, 5, 6, 7, 8, 9, 10] [11, 12] (by kernel_rfl) (by kernel_rfl) ?_ (ext_drew _) ?_
    · intro d v c a w hx
      cases d <;> exact hx
    simp only [pickOps, List.getElem?_cons_zero, List.getElem?_cons_succ, Option.toList_some, List.cons_append, List.nil_append, List.drop_succ_cons, List.drop_zero]
    repeat (go_big_quiet_step (fail))
    refine wpQuiet_nil ?_
    refine wpLd_cons ?_
    go_wp2_with fail
    refine ⟨ext_alloc _ _, ?_⟩
    refine wpLd_cons ?_
    go_wp2_with fail
    refine ⟨ext_alloc _ _, ?_⟩
    unfold wpLd
    go_wp2_with fail
    have hbE : Below w1.heap.size w1 (w1.alloc (Obj.cells #[Value.int IntKind.u8 kind, Value.int IntKind.u16 at_, Value.int IntKind.u8 data, Value.int IntKind.u8 ptrs, Value.int IntKind.u8 code, Value.int IntKind.u16 count] 62)).drew := ((Below.refl _ _).alloc (Nat.le_refl _) _).step (below_drewW _)
    have hrowE : RowAt (w1.alloc (Obj.cells #[Value.int IntKind.u8 kind, Value.int IntKind.u16 at_, Value.int IntKind.u8 data, Value.int IntKind.u8 ptrs, Value.int IntKind.u8 code, Value.int IntKind.u16 count] 62)).drew w1.heap.size 0 [Value.int IntKind.u8 kind, Value.int IntKind.u16 at_, Value.int IntKind.u8 data, Value.int IntKind.u8 ptrs, Value.int IntKind.u8 code, Value.int IntKind.u16 count] := (RowAt.of_alloc w1 [Value.int IntKind.u8 kind, Value.int IntKind.u16 at_, Value.int IntKind.u8 data, Value.int IntKind.u8 ptrs, Value.int IntKind.u8 code, Value.int IntKind.u16 count] 62).drewN 1
    refine (HInC.out _).mono ?_
    rintro e w3 ⟨⟨rb, rfl, hrb⟩, hb3⟩
    have hrt : rb = true := hrb.2 HIN.out
    subst hrt
    have hs3 : w1.heap.size < w3.heap.size := Nat.lt_of_lt_of_le (by simp [World.drew, World.size_alloc]) hb3.size
    have hb3' := hbE.step hb3
    have HW3 := hide (show RowAt w3 w1.heap.size 0 [Value.int IntKind.u8 kind, Value.int IntKind.u16 at_, Value.int IntKind.u8 data, Value.int IntKind.u8 ptrs, Value.int IntKind.u8 code, Value.int IntKind.u16 count] ∧ Below w.heap.size w w3 ∧ RawAt w3 sa rl from
      ⟨hrowE.keeps (Keeps.of_below hb3) (fun h1 h2 => by omega), HBL.out.trans (hb3'.mono HBL.out.size), HR1.out.below hb3'⟩)
    have hNw : w.heap.size ≤ w1.heap.size := HBL.out.size
    clear hrowE hbE hb3 hb3' hrb HInC HBL HR1 SE f0 f1 e0 e1 e2 e3 e4 e5
    obtain ⟨N, hN⟩ : ∃ N, N = w1.heap.size := ⟨_, rfl⟩
    rw [← hN] at HW3 hs3 hNw ⊢
    clear hN hg1 hpw
    obtain ⟨a5, _, _⟩ := HW3.out
    have m0 := a5.at_ (i := 0) rfl
    have m1 := a5.at_ (i := 1) rfl
    have m2 := a5.at_ (i := 2) rfl
    have m3 := a5.at_ (i := 3) rfl
    have m4 := a5.at_ (i := 4) rfl
    have m5 := a5.at_ (i := 5) rfl
    have n0 := a5.live 0 (by simp)
    have n1 := a5.live 1 (by simp)
    rw [Nat.zero_add] at m0 m1 m2 m3 m4 m5 n0 n1
    clear a5
    have HEnd := hide (show ∀ (P : Ptr) (sl : Option Addr) (n c : Nat) (w4 : World), P.Ok → n ≤ 257 → ¬ insideP n P → Below w.heap.size w w4 → Calls Faag.prog 30 #[.slice sl n c, .agg (ptrC P).toArray] w4 fun e w' => e = .returned (.bool false) ∧ Below w.heap.size w w' from by
      intro P sl n c w4 pok hn hni b4
      refine (inside_calls sl n c (by omega) P pok w4).mono ?_
      rintro e w5 ⟨⟨rb, rfl, hrb⟩, hb5⟩
      have hrf : rb = false := by
        cases rb
        · rfl
        · exact absurd (hrb.1 rfl) hni
      subst hrf
      exact ⟨rfl, b4.trans (hb5.mono b4.size)⟩)
    have hbad : ∀ x, x < 2 → ¬ insideP na ⟨kind, x, data, ptrs, code, count⟩ := fun x hx => by
      have hS : isSt ⟨kind, at_, data, ptrs, code, count⟩ := HX.out
      refine out_low ?_ hx (fun h => absurd hS h)
      obtain ⟨s1, s2⟩ := hS
      dsimp only at s1 s2
      subst s1 s2
      intro hw
      unfold words at hw
      dsimp only at hw
      rw [if_neg (by omega), if_neg (by omega)] at hw
      split at hw
      · omega
      · rw [if_neg (by omega), if_neg (by omega)] at hw
        split at hw <;> omega
    have HC := hide (HEnd.out ⟨kind, 1, data, ptrs, code, count⟩ (some ⟨a 0, 0, none⟩) na (c 0) (w3.setCell ⟨N, 1, none⟩ (.int .u16 1)) ⟨LQ.out.1, (show 1 < 65536 by omega), LQ.out.2.2⟩ (by omega) (hbad 1 (by omega)) (HW3.out.2.1.trans ((keeps_set w3 N 1 _).below (B := w.heap.size) HW3.out.2.1.size (fun k hk h => by omega))))
    unfold ptrC at HC
    dsimp only at HC
    go_wp2_with fail
    refine HC.out.mono ?_
    rintro e w5 ⟨rfl, b5⟩
    have HB5 := hide b5
    clear b5 HC
    go_wp2_with fail
    go_ret
    exact ⟨rfl, HB5.out⟩

set_option maxHeartbeats 16000000 in
theorem bitePtr6_calls {w : World} {p : Nat} {B : Bld} {a c : Nat → Nat} (see : See w p B a c) (ok : B.Ok) (i : InvC B) (sa : Option Addr) (rl rc : Nat) (hraw : RawAt w sa rl)  :
    Calls Faag.prog 8 #[.pointer (some ⟨p, 0, none⟩), .slice sa rl rc, .int .i64 6] w fun e w' => e = .returned (.bool true) ∧ Below w.heap.size w w' := by
  have HL := hide (live0_calls see ok i.even i.up)
  have HS := hide see
  have HI := hide i
  have HOK := hide ok
  have HR := hide hraw
  clear see ok i hraw
  go_enter Faag.func8, Faag.ntmps8
  go_wp2_with fail
  refine HL.out.mono ?_
  rintro e w0 ⟨⟨h0, rfl, _⟩, hb0⟩
  have SE0 := hide (HS.out.below hb0)
  have HBL0 := hide hb0
  have f1 := SE0.out.f1
  have hon := HI.out.even.2.1
  obtain ⟨no, hno⟩ : ∃ no, no = B.obj.length := ⟨_, rfl⟩
  rw [← hno] at f1 hon
  have HNO := hide hno
  clear hno hb0 HL
  go_wp2_with fail
  go_loopw [7, 8] (fun r q wr => ∃ k hh : Nat, k < no ∧ r = .int .i64 hh ∧ q = .int .i64 k ∧ Hid (Below w.heap.size w wr ∧ (¬ hh = 0 → 1 ≤ hh ∧ hh < B.obj.length ∧ Hid (PickC (B.o hh))))) (fun _ q _ => (intOf q).toNat)
  case atStart => exact ⟨no - 1, 0, by omega, rfl, by congr 1; omega, hide ⟨HBL0.out, fun h => absurd rfl h⟩⟩
  case round =>
    obtain ⟨k, hh, hlt, rfl, rfl, H⟩ := hrel
    by_cases hk1 : 1 ≤ k
    · have SE := hide (HS.out.below H.out.1)
      have f1' := SE.out.f1
      rw [← HNO.out] at f1'
      have hl5 := HI.out.even.2.2.2.2.2
      have f5 := SE.out.f5
      rw [hl5, ← HNO.out] at f5
      have z5 := SE.out.deads k (by rw [hl5, ← HNO.out]; exact hlt)
      have bp := SE.out.objs k (by rw [← HNO.out]; exact hlt)
      have lq := HOK.out.obj k
      change (B.o k).Ok at lq
      obtain ⟨dk, hdk⟩ : ∃ d, d = B.dead.getD k false := ⟨_, rfl⟩
      rw [← hdk] at z5
      have HQ := hide (show (B.o k).kind = 1 → 0 < words (B.o k) → 1 ≤ k ∧ k < B.obj.length ∧ Hid (PickC (B.o k)) from fun q1 q2 => ⟨hk1, by rw [← HNO.out]; exact hlt, hide ⟨q1, by omega⟩⟩)
      have HOwn := hide (fun W => own_calls (B.o k) lq W)
      clear hdk lq hl5 f1
      obtain ⟨Q, hQ⟩ : ∃ Q, Q = B.o k := ⟨_, rfl⟩
      rw [← hQ] at bp HQ HOwn
      have HQe := hide hQ
      clear hQ
      obtain ⟨q1, q2, q3, q4, q5, q6⟩ := Q
      unfold ptrC at HOwn
      dsimp only at HOwn HQ
      have e0 := bp 0 _ rfl
      have e1 := bp 1 _ rfl
      have e2 := bp 2 _ rfl
      have e3 := bp 3 _ rfl
      have e4 := bp 4 _ rfl
      have e5 := bp 5 _ rfl
      dsimp only at e0 e1 e2 e3 e4 e5
      simp only [Nat.add_zero] at e0
      clear bp
      generalize words ⟨q1, q2, q3, q4, q5, q6⟩ = Wd at *
      cases dk
      · by_cases hq : q1 = 1
        · have hq' : ((q1 : Int) == 1) = true := by simp; omega
          have HQ1 := hide (HQ.out hq)
          clear hq
          go_wp2_with fail
          refine (HOwn.out _).mono ?_
          rintro e w2 ⟨rfl, b2⟩
          have HB2 := hide (H.out.1.trans (b2.mono H.out.1.size))
          clear b2
          by_cases hw : 0 < Wd
          · have HQ2 := hide (HQ1.out hw)
            go_wp2_with fail
            go_roundw
            case rel => exact ⟨k - 1, k, by omega, rfl, by congr 1; omega, hide ⟨HB2.out, fun _ => by rw [← HQe.out]; exact HQ2.out⟩⟩
            case measure => simp [intOf]; omega
          · go_wp2_with fail
            go_roundw
            case rel => exact ⟨k - 1, hh, by omega, rfl, by congr 1; omega, hide ⟨HB2.out, H.out.2⟩⟩
            case measure => simp [intOf]; omega
        · have hq' : ((q1 : Int) == 1) = false := by simp; omega
          clear hq
          go_wp2_with fail
          go_roundw
          case rel => exact ⟨k - 1, hh, by omega, rfl, by congr 1; omega, H⟩
          case measure => simp [intOf]; omega
      · go_wp2_with fail
        go_roundw
        case rel => exact ⟨k - 1, hh, by omega, rfl, by congr 1; omega, H⟩
        case measure => simp [intOf]; omega
    · obtain ⟨w1, hw1⟩ : ∃ w1, w1 = wr := ⟨_, rfl⟩
      rw [← hw1] at H ⊢
      clear hw1
      have hb1 := H.out.1
      have SE := hide (HS.out.below hb1)
      have HBL := hide hb1
      have HR1 := hide (HR.out.below hb1)
      have HLA := hide H.out.2
      clear hb1 H HS HR HBL0 SE0 f1 hon HNO
      by_cases hz : hh = 0
      · have hz' : ((hh : Int) == 0) = true := by simp; omega
        clear hz
        go_wp2_with fail
        go_ret
        exact ⟨rfl, HBL.out⟩
      · have hz' : ((hh : Int) == 0) = false := by simp; omega
        obtain ⟨hq1, hq2, HX⟩ := HLA.out hz
        have f0 := SE.out.f0
        have f1 := SE.out.f1
        have bp := SE.out.objs hh hq2
        have hIn := inv_inside HI.out hq1 hq2
        have lq := HOK.out.obj hh
        change (B.o hh).Ok at lq
        have HIN := hide hIn
        have hA256 : B.A.length ≤ 256 := HI.out.even.1.2
        clear hIn
        obtain ⟨Pq, hPq⟩ : ∃ Pq, Pq = B.o hh := ⟨_, rfl⟩
        rw [← hPq] at bp HIN lq HX
        clear hPq
        obtain ⟨kind, at_, data, ptrs, code, count⟩ := Pq
        have e0 := bp 0 _ rfl
        have e1 := bp 1 _ rfl
        have e2 := bp 2 _ rfl
        have e3 := bp 3 _ rfl
        have e4 := bp 4 _ rfl
        have e5 := bp 5 _ rfl
        dsimp only at e0 e1 e2 e3 e4 e5
        simp only [Nat.add_zero] at e0
        have hpw : p < w1.heap.size := lt_of_cell f1
        have hg1 : a 1 < w1.heap.size := lt_of_cell e0
        have LQ := hide lq
        clear bp hz
        obtain ⟨no, hno⟩ : ∃ no, no = B.obj.length := ⟨_, rfl⟩
        rw [← hno] at f1 hq2
        obtain ⟨na, hna⟩ : ∃ na, na = B.A.length := ⟨_, rfl⟩
        rw [← hna] at f0 HIN hA256
        have hna64 : na ≤ 140737488355328 := by omega
        have HNA := hide hna
        clear hno hna lq
        have HInC := hide (fun (W : World) => inside_calls (some ⟨a 0, 0, none⟩) na (c 0) hna64 ⟨kind, at_, data, ptrs, code, count⟩ LQ.out W)
        unfold ptrC at HInC
        dsimp only at HInC
        go_wp2_with fail
        refine wp_region_ql (fun w' => ∃ x, w' = w1.ext x) 13 [0, 1, 2, 3, 4, 5, 6, 7, 8, 9, 10] [11, 12] (by kernel_rfl) (by kernel_rfl) ?_ (ext_drew _) ?_
        · intro d v c a w hx
          cases d <;> exact hx
        simp only [pickOps, List.getElem?_cons_zero, List.getElem?_cons_succ, Option.toList_some, List.cons_append, List.nil_append, List.drop_succ_cons, List.drop_zero]
        repeat (go_big_quiet_step (fail))
        refine wpQuiet_nil ?_
        refine wpLd_cons ?_
        go_wp2_with fail
        refine ⟨ext_alloc _ _, ?_⟩
        refine wpLd_cons ?_
        go_wp2_with fail
        refine ⟨ext_alloc _ _, ?_⟩
        unfold wpLd
        go_wp2_with fail
        have hbE : Below w1.heap.size w1 (w1.alloc (Obj.cells #[Value.int IntKind.u8 kind, Value.int IntKind.u16 at_, Value.int IntKind.u8 data, Value.int IntKind.u8 ptrs, Value.int IntKind.u8 code, Value.int IntKind.u16 count] 62)).drew := ((Below.refl _ _).alloc (Nat.le_refl _) _).step (below_drewW _)
        have hrowE : RowAt (w1.alloc (Obj.cells #[Value.int IntKind.u8 kind, Value.int IntKind.u16 at_, Value.int IntKind.u8 data, Value.int IntKind.u8 ptrs, Value.int IntKind.u8 code, Value.int IntKind.u16 count] 62)).drew w1.heap.size 0 [Value.int IntKind.u8 kind, Value.int IntKind.u16 at_, Value.int IntKind.u8 data, Value.int IntKind.u8 ptrs, Value.int IntKind.u8 code, Value.int IntKind.u16 count] := (RowAt.of_alloc w1 [Value.int IntKind.u8 kind, Value.int IntKind.u16 at_, Value.int IntKind.u8 data, Value.int IntKind.u8 ptrs, Value.int IntKind.u8 code, Value.int IntKind.u16 count] 62).drewN 1
        refine (HInC.out _).mono ?_
        rintro e w3 ⟨⟨rb, rfl, hrb⟩, hb3⟩
        have hrt : rb = true := hrb.2 HIN.out
        subst hrt
        have hs3 : w1.heap.size < w3.heap.size := Nat.lt_of_lt_of_le (by simp [World.drew, World.size_alloc]) hb3.size
        have hb3' := hbE.step hb3
        have HW3 := hide (show RowAt w3 w1.heap.size 0 [Value.int IntKind.u8 kind, Value.int IntKind.u16 at_, Value.int IntKind.u8 data, Value.int IntKind.u8 ptrs, Value.int IntKind.u8 code, Value.int IntKind.u16 count] ∧ Below w.heap.size w w3 ∧ RawAt w3 sa rl from
          ⟨hrowE.keeps (Keeps.of_below hb3) (fun h1 h2 => by omega), HBL.out.trans (hb3'.mono HBL.out.size), HR1.out.below hb3'⟩)
        have hNw : w.heap.size ≤ w1.heap.size := HBL.out.size
        clear hrowE hbE hb3 hb3' hrb HInC HBL HR1 SE f0 f1 e0 e1 e2 e3 e4 e5
        obtain ⟨N, hN⟩ : ∃ N, N = w1.heap.size := ⟨_, rfl⟩
        rw [← hN] at HW3 hs3 hNw ⊢
        clear hN hg1 hpw
        obtain ⟨a5, _, _⟩ := HW3.out
        have m0 := a5.at_ (i := 0) rfl
        have m1 := a5.at_ (i := 1) rfl
        have m2 := a5.at_ (i := 2) rfl
        have m3 := a5.at_ (i := 3) rfl
        have m4 := a5.at_ (i := 4) rfl
        have m5 := a5.at_ (i := 5) rfl
        have n0 := a5.live 0 (by simp)
        have n1 := a5.live 1 (by simp)
        rw [Nat.zero_add] at m0 m1 m2 m3 m4 m5 n0 n1
        clear a5
        have HEnd := hide (show ∀ (P : Ptr) (sl : Option Addr) (n c : Nat) (w4 : World), P.Ok → n ≤ 257 → ¬ insideP n P → Below w.heap.size w w4 → Calls Faag.prog 30 #[.slice sl n c, .agg (ptrC P).toArray] w4 fun e w' => e = .returned (.bool false) ∧ Below w.heap.size w w' from by
          intro P sl n c w4 pok hn hni b4
          refine (inside_calls sl n c (by omega) P pok w4).mono ?_
          rintro e w5 ⟨⟨rb, rfl, hrb⟩, hb5⟩
          have hrf : rb = false := by
            cases rb
            · rfl
            · exact absurd (hrb.1 rfl) hni
          subst hrf
          exact ⟨rfl, b4.trans (hb5.mono b4.size)⟩)
        have hbad : ¬ insideP na ⟨kind, 0, data, ptrs, code, count⟩ := by
          obtain ⟨x1, x2⟩ := HX.out
          exact out_low x2 (show (0 : Nat) < 2 by decide) (fun _ => rfl)
        have HC := hide (HEnd.out ⟨kind, 0, data, ptrs, code, count⟩ (some ⟨a 0, 0, none⟩) na (c 0) (w3.setCell ⟨N, 1, none⟩ (.int .u16 0)) ⟨LQ.out.1, (show 0 < 65536 by omega), LQ.out.2.2⟩ (by omega) hbad (HW3.out.2.1.trans ((keeps_set w3 N 1 _).below (B := w.heap.size) HW3.out.2.1.size (fun k hk h => by omega))))
        unfold ptrC at HC
        dsimp only at HC
        go_wp2_with fail
        refine HC.out.mono ?_
        rintro e w5 ⟨rfl, b5⟩
        have HB5 := hide b5
        clear b5 HC
        go_wp2_with fail
        go_ret
        exact ⟨rfl, HB5.out⟩
end Go.Proofs.YgcfaaGreat
