import Derived.Test.YgcfaaGreatBitePA
namespace Go.Proofs.YgcfaaGreat
open Go.RowKit Bits Bd
set_option linter.unusedVariables false
set_option maxRecDepth 100000
set_option linter.unusedSimpArgs false
attribute [local go_sem] World.cell?_ext World.frozen?_ext

def PickA (P : Ptr) : Prop := P = P
def PickB (P : Ptr) : Prop := isSt P
def PickC (P : Ptr) : Prop := P.kind = 1 ∧ ¬ words P = 0

set_option maxHeartbeats 16000000 in
theorem bitePtrA_calls {w : World} {p : Nat} {B : Bld} {a c : Nat → Nat} (see : See w p B a c) (ok : B.Ok) (i : InvC B) (sa : Option Addr) (rl rc : Nat) (hraw : RawAt w sa rl) (k : Nat) (hk : k < 4) :
    Calls Faag.prog 8 #[.pointer (some ⟨p, 0, none⟩), .slice sa rl rc, .int .i64 k] w fun e w' => e = .returned (.bool true) ∧ Below w.heap.size w w' := by
  have HL := hide (live0_calls see ok i.even i.up)
  have HS := hide see
  have HI := hide i
  have HOK := hide ok
  have HR := hide hraw
  have k4 : ((k : Int) == 4) = false := by simp; omega
  have k5 : ((k : Int) == 5) = false := by simp; omega
  have k6 : ((k : Int) == 6) = false := by simp; omega
  clear see ok i hraw
  go_enter Faag.func8, Faag.ntmps8
  go_wp2_with fail
  refine HL.out.mono ?_
  rintro e w1 ⟨⟨hh, rfl, hlive⟩, hb1⟩
  have SE := hide (HS.out.below hb1)
  have HBL := hide hb1
  have HR1 := hide (HR.out.below hb1)
  have HLA := hide (show ¬ hh = 0 → 1 ≤ hh ∧ hh < B.obj.length ∧ Hid (PickA (B.o hh)) from fun hz => by
    rcases hlive with q | q
    · exact absurd q hz
    · exact ⟨q.1, q.2.1, hide rfl⟩)
  clear hlive hb1 HS HR HL
  by_cases hz : hh = 0
  · have hz' : ((hh : Int) == 0) = true := by simp; omega
    clear hz
    go_wp2_with fail
    go_ret
    exact ⟨rfl, HBL.out⟩
  · have hz' : ((hh : Int) == 0) = false := by simp; omega
    obtain ⟨hq1, hq2, HX⟩ := HLA.out hz
    have f0 := SE.out.f0
    have f1 := SE.out.f1
    have bp := SE.out.objs hh hq2
    have hIn := inv_inside HI.out hq1 hq2
    have lq := HOK.out.obj hh
    change (B.o hh).Ok at lq
    have HIN := hide hIn
    have hA256 : B.A.length ≤ 256 := HI.out.even.1.2
    clear hIn
    obtain ⟨Pq, hPq⟩ : ∃ Pq, Pq = B.o hh := ⟨_, rfl⟩
    rw [← hPq] at bp HIN lq HX
    clear hPq
    obtain ⟨kind, at_, data, ptrs, code, count⟩ := Pq
    have e0 := bp 0 _ rfl
    have e1 := bp 1 _ rfl
    have e2 := bp 2 _ rfl
    have e3 := bp 3 _ rfl
    have e4 := bp 4 _ rfl
    have e5 := bp 5 _ rfl
    dsimp only at e0 e1 e2 e3 e4 e5
    simp only [Nat.add_zero] at e0
    have hpw : p < w1.heap.size := lt_of_cell f1
    have hg1 : a 1 < w1.heap.size := lt_of_cell e0
    have LQ := hide lq
    clear bp hz
    obtain ⟨no, hno⟩ : ∃ no, no = B.obj.length := ⟨_, rfl⟩
    rw [← hno] at f1 hq2
    obtain ⟨na, hna⟩ : ∃ na, na = B.A.length := ⟨_, rfl⟩
    rw [← hna] at f0 HIN hA256
    have hna64 : na ≤ 140737488355328 := by omega
    have HNA := hide hna
    clear hno hna lq
    have HInC := hide (fun (W : World) => inside_calls (some ⟨a 0, 0, none⟩) na (c 0) hna64 ⟨kind, at_, data, ptrs, code, count⟩ LQ.out W)
    unfold ptrC at HInC
    dsimp only at HInC
    go_wp2_with fail
    refine wp_region_ql (fun w' => ∃ x, w' = w1.ext x) 13 [0, 1, 2, 3, 4, 5, 6, 7, 8, 9, 10] [11, 12] (by kernel_rfl) (by kernel_rfl) ?_ (ext_drew _) ?_
    · intro d v c a w hx
      cases d <;> exact hx
    simp only [pickOps, List.getElem?_cons_zero, List.getElem?_cons_succ, Option.toList_some, List.cons_append, List.nil_append, List.drop_succ_cons, List.drop_zero]
    repeat (go_big_quiet_step (fail))
    refine wpQuiet_nil ?_
    refine wpLd_cons ?_
    go_wp2_with fail
    refine ⟨ext_alloc _ _, ?_⟩
    refine wpLd_cons ?_
    go_wp2_with fail
    refine ⟨ext_alloc _ _, ?_⟩
    unfold wpLd
    go_wp2_with fail
    have hbE : Below w1.heap.size w1 (w1.alloc (Obj.cells #[Value.int IntKind.u8 kind, Value.int IntKind.u16 at_, Value.int IntKind.u8 data, Value.int IntKind.u8 ptrs, Value.int IntKind.u8 code, Value.int IntKind.u16 count] 62)).drew := ((Below.refl _ _).alloc (Nat.le_refl _) _).step (below_drewW _)
    have hrowE : RowAt (w1.alloc (Obj.cells #[Value.int IntKind.u8 kind, Value.int IntKind.u16 at_, Value.int IntKind.u8 data, Value.int IntKind.u8 ptrs, Value.int IntKind.u8 code, Value.int IntKind.u16 count] 62)).drew w1.heap.size 0 [Value.int IntKind.u8 kind, Value.int IntKind.u16 at_, Value.int IntKind.u8 data, Value.int IntKind.u8 ptrs, Value.int IntKind.u8 code, Value.int IntKind.u16 count] := (RowAt.of_alloc w1 [Value.int IntKind.u8 kind, Value.int IntKind.u16 at_, Value.int IntKind.u8 data, Value.int IntKind.u8 ptrs, Value.int IntKind.u8 code, Value.int IntKind.u16 count] 62).drewN 1
    refine (HInC.out _).mono ?_
    rintro e w3 ⟨⟨rb, rfl, hrb⟩, hb3⟩
    have hrt : rb = true := hrb.2 HIN.out
    subst hrt
    have hs3 : w1.heap.size < w3.heap.size := Nat.lt_of_lt_of_le (by simp [World.drew, World.size_alloc]) hb3.size
    have hb3' := hbE.step hb3
    have HW3 := hide (show RowAt w3 w1.heap.size 0 [Value.int IntKind.u8 kind, Value.int IntKind.u16 at_, Value.int IntKind.u8 data, Value.int IntKind.u8 ptrs, Value.int IntKind.u8 code, Value.int IntKind.u16 count] ∧ Below w.heap.size w w3 ∧ RawAt w3 sa rl from
      ⟨hrowE.keeps (Keeps.of_below hb3) (fun h1 h2 => by omega), HBL.out.trans (hb3'.mono HBL.out.size), HR1.out.below hb3'⟩)
    have hNw : w.heap.size ≤ w1.heap.size := HBL.out.size
    clear hrowE hbE hb3 hb3' hrb HInC HBL HR1 SE f0 f1 e0 e1 e2 e3 e4 e5
    obtain ⟨N, hN⟩ : ∃ N, N = w1.heap.size := ⟨_, rfl⟩
    rw [← hN] at HW3 hs3 hNw ⊢
    clear hN hg1 hpw
    obtain ⟨a5, _, _⟩ := HW3.out
    have m0 := a5.at_ (i := 0) rfl
    have m1 := a5.at_ (i := 1) rfl
    have m2 := a5.at_ (i := 2) rfl
    have m3 := a5.at_ (i := 3) rfl
    have m4 := a5.at_ (i := 4) rfl
    have m5 := a5.at_ (i := 5) rfl
    have n0 := a5.live 0 (by simp)
    have n1 := a5.live 1 (by simp)
    rw [Nat.zero_add] at m0 m1 m2 m3 m4 m5 n0 n1
    clear a5
    have HEnd := hide (show ∀ (P : Ptr) (sl : Option Addr) (n c : Nat) (w4 : World), P.Ok → n ≤ 257 → ¬ insideP n P → Below w.heap.size w w4 → Calls Faag.prog 30 #[.slice sl n c, .agg (ptrC P).toArray] w4 fun e w' => e = .returned (.bool false) ∧ Below w.heap.size w w' from by
      intro P sl n c w4 pok hn hni b4
      refine (inside_calls sl n c (by omega) P pok w4).mono ?_
      rintro e w5 ⟨⟨rb, rfl, hrb⟩, hb5⟩
      have hrf : rb = false := by
        cases rb
        · rfl
        · exact absurd (hrb.1 rfl) hni
      subst hrf
      exact ⟨rfl, b4.trans (hb5.mono b4.size)⟩)
    have hk4 : k = 0 ∨ k = 1 ∨ k = 2 ∨ k = 3 := by omega
    clear k4 k5 k6
    rcases hk4 with rfl | rfl | rfl | rfl
    · obtain ⟨cs, c1, c2, c3⟩ := HW3.out.2.2.list
      have hrl := HW3.out.2.2.le
      have HC3 := hide c3
      clear c3
      go_wp2_with (first | (refine wpList_make ty_words rfl _ _ rfl .i64 .i64 257 rfl rfl (by omega) (by omega) ?_; intro w4 o4 b4 s4) | fail)
      have HO4 := hide (And.intro o4 b4)
      have m0' : w4.cell? ⟨N, 0, none⟩ = some (.int .u8 kind) := keeps_cellS (Keeps.of_below b4) m0 (by show ¬ w3.heap.size ≤ N; omega)
      have m1' : w4.cell? ⟨N, 1, none⟩ = some (.int .u16 at_) := keeps_cellS (Keeps.of_below b4) m1 (by show ¬ w3.heap.size ≤ N; omega)
      have m2' : w4.cell? ⟨N, 2, none⟩ = some (.int .u8 data) := keeps_cellS (Keeps.of_below b4) m2 (by show ¬ w3.heap.size ≤ N; omega)
      have m3' : w4.cell? ⟨N, 3, none⟩ = some (.int .u8 ptrs) := keeps_cellS (Keeps.of_below b4) m3 (by show ¬ w3.heap.size ≤ N; omega)
      have m4' : w4.cell? ⟨N, 4, none⟩ = some (.int .u8 code) := keeps_cellS (Keeps.of_below b4) m4 (by show ¬ w3.heap.size ≤ N; omega)
      have m5' : w4.cell? ⟨N, 5, none⟩ = some (.int .u16 count) := keeps_cellS (Keeps.of_below b4) m5 (by show ¬ w3.heap.size ≤ N; omega)
      have hcp := run_copyT (w := w4) ty_words 3 w3.heap.size 257 257 sa rl rc cs c1 (by omega) (fun h0 => by
        obtain ⟨ad, q1, q2⟩ := HC3.out h0
        exact ⟨ad, q1, fun j v hv => keeps_cellS (Keeps.of_below b4) (q2 j v hv) (by have := lt_of_cell (q2 j v hv); show ¬ w3.heap.size ≤ _; omega)⟩) c2 (own_there o4)
      have kc := keeps_setCells w4 w3.heap.size 0 cs
      rw [hcp]
      clear hcp o4
      have x0 := keeps_cellS kc m0' (by show ¬ N = w3.heap.size; omega)
      have x1 := keeps_cellS kc m1' (by show ¬ N = w3.heap.size; omega)
      have x2 := keeps_cellS kc m2' (by show ¬ N = w3.heap.size; omega)
      have x3 := keeps_cellS kc m3' (by show ¬ N = w3.heap.size; omega)
      have x4 := keeps_cellS kc m4' (by show ¬ N = w3.heap.size; omega)
      have x5 := keeps_cellS kc m5' (by show ¬ N = w3.heap.size; omega)
      have HB6 := hide (show Below w.heap.size w (w4.setCells w3.heap.size 0 cs) from
        (HW3.out.2.1.trans (b4.mono HW3.out.2.1.size)).trans (kc.below (B := w.heap.size) (by omega) (fun k hk h => by omega)))
      clear kc b4 m0' m1' m2' m3' m4' m5' m0 m1 m2 m3 m4 m5
      generalize w4.setCells w3.heap.size 0 cs = w6 at *
      have HC := hide (HEnd.out ⟨kind, at_, data, ptrs, code, count⟩ (some ⟨w3.heap.size, 0, none⟩) 257 257 w6 LQ.out (by omega) (out_long _) HB6.out)
      unfold ptrC at HC
      dsimp only at HC
      go_wp2_with fail
      refine HC.out.mono ?_
      rintro e w7 ⟨rfl, b7⟩
      have HB7 := hide b7
      clear b7 HC
      go_wp2_with fail
      go_ret
      exact ⟨rfl, HB7.out⟩
    · have HC := hide (HEnd.out ⟨0, at_, data, ptrs, code, count⟩ (some ⟨a 0, 0, none⟩) na (c 0) (w3.setCell ⟨N, 0, none⟩ (.int .u8 0)) ⟨(show 0 < 256 by omega), LQ.out.2⟩ (by omega) (out_kind (show ¬ ((0 : Nat) = 1 ∨ (0 : Nat) = 2) by decide)) (HW3.out.2.1.trans ((keeps_set w3 N 0 _).below (B := w.heap.size) HW3.out.2.1.size (fun k hk h => by omega))))
      unfold ptrC at HC
      dsimp only at HC
      go_wp2_with fail
      refine HC.out.mono ?_
      rintro e w5 ⟨rfl, b5⟩
      have HB5 := hide b5
      clear b5 HC
      go_wp2_with fail
      go_ret
      exact ⟨rfl, HB5.out⟩

    · have HC := hide (HEnd.out ⟨3, at_, data, ptrs, code, count⟩ (some ⟨a 0, 0, none⟩) na (c 0) (w3.setCell ⟨N, 0, none⟩ (.int .u8 3)) ⟨(show 3 < 256 by omega), LQ.out.2⟩ (by omega) (out_kind (show ¬ ((3 : Nat) = 1 ∨ (3 : Nat) = 2) by decide)) (HW3.out.2.1.trans ((keeps_set w3 N 0 _).below (B := w.heap.size) HW3.out.2.1.size (fun k hk h => by omega))))
      unfold ptrC at HC
      dsimp only at HC
      go_wp2_with fail
      refine HC.out.mono ?_
      rintro e w5 ⟨rfl, b5⟩
      have HB5 := hide b5
      clear b5 HC
      go_wp2_with fail
      go_ret
      exact ⟨rfl, HB5.out⟩

    · have hWn : words ⟨kind, at_, data, ptrs, code, count⟩ ≤ na := by
        rcases HIN.out.2.2 with ⟨_, _, q1, q2⟩ | ⟨_, q1, q2⟩
        · dsimp only at q1 q2; omega
        · dsimp only at q1 q2; omega
      have HOw := hide (own_calls ⟨kind, at_, data, ptrs, code, count⟩ LQ.out w3)
      unfold ptrC at HOw
      dsimp only at HOw
      have HWd := hide (show ∀ x, words ⟨kind, x, data, ptrs, code, count⟩ = words ⟨kind, at_, data, ptrs, code, count⟩ from fun x => rfl)
      generalize words ⟨kind, at_, data, ptrs, code, count⟩ = Wd at *
      go_wp2_with fail
      refine HOw.out.mono ?_
      rintro e w4 ⟨rfl, b4⟩
      have HW4 := hide (show RowAt w4 N 0 [Value.int IntKind.u8 kind, Value.int IntKind.u16 at_, Value.int IntKind.u8 data, Value.int IntKind.u8 ptrs, Value.int IntKind.u8 code, Value.int IntKind.u16 count] ∧ Below w.heap.size w w4 from ⟨HW3.out.1.keeps (Keeps.of_below b4) (fun h1 h2 => by omega), HW3.out.2.1.trans (b4.mono HW3.out.2.1.size)⟩)
      have hs4 : N < w4.heap.size := Nat.lt_of_lt_of_le hs3 b4.size
      clear b4 HOw m0 m1 m2 m3 m4 m5 n0 n1
      obtain ⟨a5, _⟩ := HW4.out
      have m0 := a5.at_ (i := 0) rfl
      have m1 := a5.at_ (i := 1) rfl
      have m2 := a5.at_ (i := 2) rfl
      have m3 := a5.at_ (i := 3) rfl
      have m4 := a5.at_ (i := 4) rfl
      have m5 := a5.at_ (i := 5) rfl
      have n1 := a5.live 1 (by simp)
      rw [Nat.zero_add] at m0 m1 m2 m3 m4 m5 n1
      clear a5
      have hsub : (na : Int) - (Wd : Int) = ((na - Wd : Nat) : Int) := by omega
      obtain ⟨D, hD⟩ : ∃ D, D = na - Wd := ⟨_, rfl⟩
      rw [← hD] at hsub
      have HD := hide (show D + Wd = na from by omega)
      have hDl : D ≤ 256 := by omega
      clear hD
      have hcs : (isSt ⟨kind, at_, data, ptrs, code, count⟩ ∧ ((kind : Int) == 2) = true ∧ ((code : Int) == 7) = true) ∨ (¬ isSt ⟨kind, at_, data, ptrs, code, count⟩ ∧ ((((kind : Int) == 2) = false) ∨ ((((kind : Int) == 2) = true) ∧ (((code : Int) == 7) = false)))) := by
        by_cases hk2 : kind = 2
        · by_cases hc7 : code = 7
          · exact .inl ⟨⟨hk2, hc7⟩, by simp; omega, by simp; omega⟩
          · exact .inr ⟨fun h => hc7 h.2, .inr ⟨by simp; omega, by simp; omega⟩⟩
        · exact .inr ⟨fun h => hk2 h.1, .inl (by simp; omega)⟩
      rcases hcs with ⟨hS, g1, g2⟩ | ⟨hS, hg⟩
      · have HST := hide hS
        clear hS
        have HC := hide (HEnd.out ⟨kind, D + 2, data, ptrs, code, count⟩ (some ⟨a 0, 0, none⟩) na (c 0) (w4.setCell ⟨N, 1, none⟩ (.int .u16 ((D + 2 : Nat) : Int))) ⟨LQ.out.1, (show D + 2 < 65536 by omega), LQ.out.2.2⟩ (by omega) (out_high (fun _ => by
          rw [HWd.out]; have := HD.out; show na + 1 < D + 2 + Wd; omega) (fun h => absurd HST.out h)) (HW4.out.2.trans ((keeps_set w4 N 1 _).below (B := w.heap.size) HW4.out.2.size (fun k hk h => by omega))))
        unfold ptrC at HC
        dsimp only at HC
        go_wp2_with fail
        refine HC.out.mono ?_
        rintro e w5 ⟨rfl, b5⟩
        have HB5 := hide b5
        clear b5 HC
        go_wp2_with fail
        go_ret
        exact ⟨rfl, HB5.out⟩
      · have HST := hide hS
        clear hS
        have HC := hide (HEnd.out ⟨kind, D + 1, data, ptrs, code, count⟩ (some ⟨a 0, 0, none⟩) na (c 0) (w4.setCell ⟨N, 1, none⟩ (.int .u16 ((D + 1 : Nat) : Int))) ⟨LQ.out.1, (show D + 1 < 65536 by omega), LQ.out.2.2⟩ (by omega) (out_high (fun h => absurd h HST.out) (fun _ => by
          rw [HWd.out]; have := HD.out; show na < D + 1 + Wd; omega)) (HW4.out.2.trans ((keeps_set w4 N 1 _).below (B := w.heap.size) HW4.out.2.size (fun k hk h => by omega))))
        unfold ptrC at HC
        dsimp only at HC
        rcases hg with g1 | ⟨g1, g2⟩
        all_goals
          go_wp2_with fail
          refine HC.out.mono ?_
          rintro e w5 ⟨rfl, b5⟩
          have HB5 := hide b5
          clear b5 HC
          go_wp2_with fail
          go_ret
          exact ⟨rfl, HB5.out⟩
end Go.Proofs.YgcfaaGreat
