import Derived.Test.YgcfaaGreatSlots
namespace Go.Proofs.YgcfaaGreat
open Go.RowKit Bits Bd
set_option linter.unusedVariables false
set_option maxRecDepth 100000
set_option linter.unusedSimpArgs false
attribute [local go_sem] World.cell?_ext World.frozen?_ext

/-- Word at_ is the null pointer via of the live object h. -/
def NullAt (B : Bld) (h via at_ : Nat) : Prop :=
  B.dead.getD h false = false ∧ ¬ isSt (B.o h) ∧ via < (slotsQ (B.o h)).2.1 ∧ at_ = (slotsQ (B.o h)).1 + via ∧ B.A.getD at_ 0 = 0 ∧ via < 256 ∧ at_ < B.A.length
def RetNull (B : Bld) (h : Nat) (e : Ending) : Prop :=
  ∃ (via at_ : Nat) (ok : Bool), e = .returned (.tuple #[.int .u8 (via : Int), .int .i64 (at_ : Int), .bool ok]) ∧ (ok = true → NullAt B h via at_) ∧ via < 256 ∧ at_ < 65536
theorem four' {w : World} {b : Nat} {v0 v1 v2 v3 : Value} (h : RowAt w b 0 [v0, v1, v2, v3]) :
    w.cell? ⟨b, 0, none⟩ = some v0 ∧ w.cell? ⟨b, 1, none⟩ = some v1 ∧ w.cell? ⟨b, 2, none⟩ = some v2 ∧ w.cell? ⟨b, 3, none⟩ = some v3 := by
  have c := fun i (hi : i < 4) => h.cell i hi
  simp only [Nat.zero_add] at c
  exact ⟨c 0 (by omega), c 1 (by omega), c 2 (by omega), c 3 (by omega)⟩

/-- What the law's readers need of an object. -/
structure SlotFit (B : Bld) (h : Nat) : Prop where
  lt : h < B.obj.length
  cnt : (slotsQ (B.o h)).2.1 ≤ 4000
  cnt2 : ¬ isSt (B.o h) → (slotsQ (B.o h)).2.1 ≤ 200
  fits : ¬ isSt (B.o h) → (slotsQ (B.o h)).1 + (slotsQ (B.o h)).2.1 ≤ B.A.length
  run : ¬ isSt (B.o h) → 0 < (slotsQ (B.o h)).2.1 → ((slotsQ (B.o h)).2.2.1 = (slotsQ (B.o h)).2.1 ∧ (slotsQ (B.o h)).2.2.2 < 1000) ∨ ((slotsQ (B.o h)).2.2.1 = 1 ∧ (slotsQ (B.o h)).2.2.2 = 1)

set_option maxHeartbeats 8000000 in
theorem null_calls {w : World} {p : Nat} {B : Bld} {a c : Nat → Nat} (see : See w p B a c) (ok : B.Ok) (hev : evenP B) (h : Nat) (hf : SlotFit B h) :
    Calls Faag.prog 66 #[.pointer (some ⟨p, 0, none⟩), .int .i64 h] w fun e w' => RetNull B h e ∧ Below w.heap.size w w' := by
  obtain ⟨hlt, hcnt, hcnt2, hfits, hrun⟩ := hf
  obtain ⟨⟨a1, a2⟩, ⟨a3, a4⟩, a5, a6, a7, a8⟩ := hev
  have HS := hide see
  have HOK := hide ok
  have f1 := see.f1
  have bo := see.objs h hlt
  have lo := ok.obj h
  change (B.o h).Ok at lo
  have hso := hide (slotsOf_calls (B.o h) lo)
  have HN := hide (show ∀ via at_, NullAt B h via at_ = _ from fun via at_ => by unfold NullAt; rfl)
  have hst := hide (show isSt (B.o h) ↔ (B.o h).kind = 2 ∧ (B.o h).code = 7 from Iff.rfl)
  rw [show slotsQ (B.o h) = ((slotsQ (B.o h)).1, (slotsQ (B.o h)).2.1, (slotsQ (B.o h)).2.2.1, (slotsQ (B.o h)).2.2.2) from rfl] at hso
  generalize (slotsQ (B.o h)).1 = q1 at *
  generalize (slotsQ (B.o h)).2.1 = q2 at *
  generalize (slotsQ (B.o h)).2.2.1 = q3 at *
  generalize (slotsQ (B.o h)).2.2.2 = q4 at *
  generalize isSt (B.o h) = IS at *
  obtain ⟨P, hP⟩ : ∃ P, P = B.o h := ⟨_, rfl⟩
  rw [← hP] at bo lo hso hst
  obtain ⟨kind, at_, data, ptrs, code, count⟩ := P
  have HP := hide hP
  clear hP
  have d0 := bo 0 _ rfl
  have d1 := bo 1 _ rfl
  have d2 := bo 2 _ rfl
  have d3 := bo 3 _ rfl
  have d4 := bo 4 _ rfl
  have d5 := bo 5 _ rfl
  obtain ⟨l1, l2, l3, l4, l5, l6⟩ := lo
  dsimp only at d0 d1 d2 d3 d4 d5 l1 l2 l3 l4 l5 l6 hst
  simp only [Nat.add_zero] at d0
  unfold ptrC slotsC at hso
  dsimp only at hso
  have HL := hide (And.intro a5 (And.intro a6 (And.intro a7 a8)))
  have z1 := see.deads h (by omega)
  have HC := hide (And.intro hcnt2 (And.intro hfits hrun))
  clear bo see ok a5 a6 a7 a8 hcnt2 hfits hrun
  generalize hno : B.obj.length = no at *
  have HNO := hide hno
  clear hno
  obtain ⟨dk, hdk⟩ : ∃ d, d = B.dead.getD h false := ⟨_, rfl⟩
  rw [← hdk] at z1 HN
  have HDK := hide hdk
  clear hdk
  go_enter Faag.func66, Faag.ntmps66
  go_wp2_with fail
  refine (hso.out _).mono ?_
  rintro r w1 ⟨rfl, hb1⟩
  have SE1 := hide (HS.out.below hb1)
  have HB1 := hide hb1
  clear f1 d0 d1 d2 d3 d4 d5 z1 hb1 hso
  have f1 := SE1.out.f1
  rw [HNO.out] at f1
  have f5 := SE1.out.f5
  rw [HL.out.2.2.2] at f5
  have z5 := SE1.out.deads h (by have := HL.out.2.2.2; omega)
  rw [← HDK.out] at z5
  have bo := SE1.out.objs h (by rw [HNO.out]; exact hlt)
  have hP := HP.out
  rw [← hP] at bo
  have d0 := bo 0 _ rfl
  have d1 := bo 1 _ rfl
  have d2 := bo 2 _ rfl
  have d3 := bo 3 _ rfl
  have d4 := bo 4 _ rfl
  have d5 := bo 5 _ rfl
  dsimp only at d0 d1 d2 d3 d4 d5
  simp only [Nat.add_zero] at d0
  clear bo hP
  have hpw : p < w1.heap.size := lt_of_cell f1
  have hg1 : a 1 < w1.heap.size := lt_of_cell d0
  have hg5 : a 5 < w1.heap.size := lt_of_cell z5
  have y1 : p < w1.heap.size + 1 := by omega
  have y2 : a 1 < w1.heap.size + 1 := by omega
  have y3 : a 5 < w1.heap.size + 1 := by omega
  have y4 : w1.heap.size < w1.heap.size + 1 := by omega
  cases dk with
  | true =>
    go_wp2_with fail
    go_ret3
    exact ⟨⟨0, 0, false, rfl, fun h => Bool.noConfusion h, by omega, by omega⟩, HB1.out.step (below_two w1 _ _)⟩
  | false =>
    by_cases hS : kind = 2 ∧ code = 7
    · obtain ⟨rfl, rfl⟩ := hS
      go_wp2_with fail
      go_ret3
      exact ⟨⟨0, 0, false, rfl, fun h => Bool.noConfusion h, by omega, by omega⟩, HB1.out.step (below_two w1 _ _)⟩
    · have hIS : ¬ IS := fun h => hS (hst.out.1 h)
      obtain ⟨hc2, hfits, hrun⟩ := HC.out
      have hc2 := hc2 hIS
      have hfits := hfits hIS
      have hrun := hrun hIS
      have HRUN := hide hrun
      have HNN := hide (show ∀ via, via < q2 → B.A.getD (q1 + via) 0 = 0 → NullAt B h via (q1 + via) from fun via h1 h2 => by
        rw [HN.out]; exact ⟨rfl, hIS, h1, rfl, h2, by omega, by omega⟩)
      have hcs : (((kind : Int) == 2) = false) ∨ ((((kind : Int) == 2) = true) ∧ (((code : Int) == 7) = false)) := by
        by_cases hk : kind = 2
        · exact .inr ⟨by simp; omega, by simp; omega⟩
        · exact .inl (by simp; omega)
      clear hrun hIS hS HN hst
      have hRS := hide (show RowAt ((w1.alloc (.cells #[.int .i64 (q1 : Int), .int .i64 (q2 : Int), .int .i64 (q3 : Int), .int .i64 (q4 : Int)] 110)).alloc (.cells #[.int .u8 (kind : Int), .int .u16 (at_ : Int), .int .u8 (data : Int), .int .u8 (ptrs : Int), .int .u8 (code : Int), .int .u16 (count : Int)] 62)) w1.heap.size 0 [.int .i64 (q1 : Int), .int .i64 (q2 : Int), .int .i64 (q3 : Int), .int .i64 (q4 : Int)] from
        (RowAt.of_alloc w1 [.int .i64 (q1 : Int), .int .i64 (q2 : Int), .int .i64 (q3 : Int), .int .i64 (q4 : Int)] 110).alloc _)
      have hBW := hide (show Below w.heap.size w ((w1.alloc (.cells #[.int .i64 (q1 : Int), .int .i64 (q2 : Int), .int .i64 (q3 : Int), .int .i64 (q4 : Int)] 110)).alloc (.cells #[.int .u8 (kind : Int), .int .u16 (at_ : Int), .int .u8 (data : Int), .int .u8 (ptrs : Int), .int .u8 (code : Int), .int .u16 (count : Int)] 62)) from HB1.out.step (below_two w1 _ _))
      rcases hcs with g1 | ⟨g1, g2⟩
      all_goals
        go_wp2_with fail
        generalize World.alloc (World.alloc w1 _) _ = W2 at *
        obtain ⟨b7, hb7⟩ : ∃ b, b = w1.heap.size := ⟨_, rfl⟩
        rw [← hb7] at hRS ⊢
        clear f1 f5 z5 d0 d1 d2 d3 d4 d5 hpw hg1 hg5 y1 y2 y3 y4 hb7
        go_loopw [9] (fun q wr => ∃ k : Nat, k ≤ q2 ∧ q = .int .i64 k ∧ Hid (Below w.heap.size w wr ∧ RowAt wr b7 0 [.int .i64 (q1 : Int), .int .i64 (q2 : Int), .int .i64 (q3 : Int), .int .i64 (q4 : Int)])) (fun q _ => q2 - (intOf q).toNat)
        case atStart => exact ⟨0, by omega, rfl, hide ⟨hBW.out, hRS.out⟩⟩
        case round =>
          obtain ⟨k, hk, rfl, H⟩ := hrel
          obtain ⟨r0, r1, r2, r3⟩ := four' H.out.2
          by_cases hkl : k < q2
          · have hat := hide (at_calls q1 q2 q3 q4 k (by omega) (by omega) (by rcases HRUN.out (by omega) with ⟨h1, h2⟩ | ⟨h1, h2⟩ <;> omega) (by rcases HRUN.out (by omega) with ⟨h1, h2⟩ | ⟨h1, h2⟩ <;> omega) (by rcases HRUN.out (by omega) with ⟨h1, h2⟩ | ⟨h1, h2⟩ <;> omega))
            unfold slotsC at hat
            dsimp only at hat
            have f0 := (HS.out.below H.out.1).f0
            have cA := (HS.out.below H.out.1).words (q1 + k) (by omega)
            have hg0 : a 0 < wr.heap.size := lt_of_cell cA
            have hpp : p < wr.heap.size := lt_of_cell f0
            have hgb : b7 < wr.heap.size := lt_of_cell r0
            have lA := HOK.out.A (q1 + k)
            obtain ⟨nA, hnA⟩ : ∃ n, n = B.A.length := ⟨_, rfl⟩
            rw [← hnA] at f0
            have hkn : q1 + k < nA := by omega
            have hnl : nA ≤ 256 := by omega
            obtain ⟨v, hv⟩ : ∃ v, v = B.A.getD (q1 + k) 0 := ⟨_, rfl⟩
            rw [← hv] at cA lA
            have HV := hide hv
            clear hv hnA
            by_cases hv0 : v = 0
            · subst hv0
              go_wp2_with fail
              refine wp_region_qx 7 (by kernel_rfl) (by kernel_rfl) ?_
              simp only [List.take_succ_cons, List.take_zero, List.drop_succ_cons, List.drop_zero]
              repeat (go_big_quiet_step ((go_at_call 68; exact Calls.ext_of (hat.out _))))
              refine wpQuiet_nil ?_
              rintro _ ⟨x, rfl⟩
              go_wp2_with fail
              refine (hat.out _).mono ?_
              rintro r w5 ⟨rfl, hb5⟩
              have HB5 := hide ((H.out.1.step (World.below_ext _ _)).step hb5)
              clear hb5 hat
              go_wp2_with fail
              go_ret3
              exact ⟨⟨k, q1 + k, true, rfl, fun _ => HNN.out k hkl HV.out.symm, by omega, by omega⟩, HB5.out⟩
            · have g0 : ((v : Int) == 0) = false := by simp; omega
              go_wp2_with fail
              refine wp_region_qx 7 (by kernel_rfl) (by kernel_rfl) ?_
              simp only [List.take_succ_cons, List.take_zero, List.drop_succ_cons, List.drop_zero]
              repeat (go_big_quiet_step ((go_at_call 68; exact Calls.ext_of (hat.out _))))
              refine wpQuiet_nil ?_
              rintro _ ⟨x, rfl⟩
              go_wp2_with fail
              go_roundw
              case rel => exact ⟨k + 1, by omega, by go_num, hide ⟨H.out.1.step (World.below_ext _ _), H.out.2.keeps (Keeps.of_below (World.below_ext _ _)) (fun h1 h2 => by omega)⟩⟩
              case measure => simp [intOf]; omega
          · go_wp2_with fail
            go_ret3
            exact ⟨⟨0, 0, false, rfl, fun h => Bool.noConfusion h, by omega, by omega⟩, H.out.1⟩
end Go.Proofs.YgcfaaGreat
