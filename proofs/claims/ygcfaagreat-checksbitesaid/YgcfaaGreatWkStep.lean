import Derived.Test.YgcfaaGreatWkClaim
import Derived.Test.YgcfaaGreatWkFollow
namespace Go.Proofs.YgcfaaGreat
open Go.RowKit Bits Bd
set_option linter.unusedVariables false
set_option maxRecDepth 100000
set_option linter.unusedSimpArgs false
attribute [local go_sem] World.cell?_ext World.frozen?_ext

theorem ArAt.keepsX {X : Nat → Prop} {w w' : World} {g : Nat} {A : List Nat} (h : ArAt w g A) (k : Keeps X w w') (hx : ¬ X g) : ArAt w' g A :=
  ⟨fun i hi => keeps_cellS k (h.1 i hi) hx, h.2⟩

theorem below_drewW (w : World) : Below w.heap.size w w.drew := ⟨rfl, rfl, rfl, Nat.le_refl _, fun _ _ => rfl⟩
theorem keeps_set (w : World) (b o : Nat) (v : Value) : Keeps (fun k => k = b) w (w.setCell ⟨b, o, none⟩ v) := by
  have h : Keeps (fun k => k = b) w w := Keeps.refl _ w
  exact h.setCell (p := ⟨b, o, none⟩) (fun _ => rfl) v
theorem step0_calls (g : Nat) (A : List Nat) (c : Nat) {w : World} {b : Nat} {W : Wk} (hb : WkAt w b W) (h0 : W.sp = 0) :
    Calls Faag.prog 26 #[.pointer (some ⟨b, 0, none⟩), .slice (some ⟨g, 0, none⟩) A.length c] w fun e w' => e = .returned (.bool true) ∧ w' = w := by
  obtain ⟨c1, c2⟩ := hb.spC
  rw [h0] at c1
  clear hb h0
  go_enter Faag.func26, Faag.ntmps26
  go_wp2_with fail
  go_ret
  exact ⟨rfl, rfl⟩

/-- What Step asks of the object that it meets. -/
structure StepOk (A : List Nat) (W : Wk) (got : Ptr) (d : Nat) : Prop where
  dep : d < 8
  at_ : got.at_ ≤ 300
  data : got.data ≤ 8
  ptrs : got.ptrs ≤ 8
  count : got.count ≤ 128
  fit : first got + words got ≤ 256
  free : ∀ i, first got ≤ i → i < first got + words got → tb W.set i = false
  pad : paddedP A got

set_option maxHeartbeats 8000000 in
theorem step1_calls (g : Nat) (A : List Nat) (c : Nat) (hA1 : A.length ≤ 256) {w : World} {b : Nat} {W : Wk} (hb : WkAt w b W) (hA : ArAt w g A) (hgb : ¬ g = b) (h0 : 0 < W.sp) (h1 : W.sp ≤ 256)
    (got : Ptr) (hr : resolveN A (W.ent (W.sp - 1)).1 = some got) (hk : ¬ got.kind = 0 → StepOk A W got (W.ent (W.sp - 1)).2) :
    Calls Faag.prog 26 #[.pointer (some ⟨b, 0, none⟩), .slice (some ⟨g, 0, none⟩) A.length c] w fun e w' => e = .returned (.bool true) ∧ Keeps (fun k => k = b) w w' ∧
      ((got.kind = 0 ∧ WkAt w' b { W with sp := W.sp - 1 }) ∨ (¬ got.kind = 0 ∧ ∃ s', TakenS W.set (first got) (words got) s' ∧ WkAt w' b (followW got ((W.ent (W.sp - 1)).2 + 1) { W with set := s', sp := W.sp - 1 }))) := by
  obtain ⟨c1, c2⟩ := hb.spC
  obtain ⟨sp, hsp⟩ : ∃ sp, sp + 1 = W.sp := ⟨W.sp - 1, by omega⟩
  have hsp' : W.sp - 1 = sp := by omega
  rw [← hsp] at c1
  have hspl : sp < 256 := by omega
  rw [hsp'] at hr hk ⊢
  have hblt := hb.lt
  have hi1 : (sp : Int) + 1 ≤ 256 := by omega
  have q1 := hb.putSp (n := sp) (by omega)
  have q2 : Keeps (fun k => k = b) w (w.setCell ⟨b, 516, none⟩ (.int .u16 (sp : Int))) := keeps_set w b 516 _
  have q3 := hA.keepsX q2 hgb
  have hal := hb.ok.at_ sp
  have hdl := hb.ok.dep sp
  have hent : Wk.ent { W with sp := sp } sp = W.ent sp := rfl
  obtain ⟨ea, ed, hE⟩ : ∃ ea ed, W.ent sp = (ea, ed) := ⟨_, _, rfl⟩
  rw [hE] at hal hdl hr hk hent ⊢
  dsimp only at hal hdl hr hk ⊢
  have HRes := hide (fun (W2 : World) (hx : ArAt W2 g A) => resolve_calls g A c ea hA1 hal W2 hx)
  rw [hr] at HRes
  have HK := hide hk
  have HEN := hide hent
  clear hb hA hsp hsp' h0 h1 hk hr hent hE
  go_enter Faag.func26, Faag.ntmps26
  go_wp2_with fail
  generalize w.setCell ⟨b, 516, none⟩ (.int .u16 (sp : Int)) = wS at *
  have hblt2 := q1.lt
  obtain ⟨d0, _⟩ := q1.spC
  obtain ⟨d1, d2⟩ := q1.e0 hspl
  obtain ⟨d3, d4⟩ := q1.e1 hspl
  rw [HEN.out] at d1 d3
  dsimp only at d0 d1 d3
  have HQ := hide (And.intro q1 (And.intro q2 q3))
  clear q1 q2 q3 c1 c2
  refine wp_region_ql (fun w' => ∃ x, w' = wS.ext x) 10 [0, 1, 2, 3, 4, 5, 6, 7, 8] [9] (by kernel_rfl) (by kernel_rfl) ?_ (ext_drew _) ?_
  · intro d v c a w hx
    cases d <;> exact hx
  simp only [pickOps, List.getElem?_cons_zero, List.getElem?_cons_succ, Option.toList_some, List.cons_append, List.nil_append, List.drop_succ_cons, List.drop_zero]
  repeat (go_big_quiet_step (fail))
  refine wpQuiet_nil ?_
  refine wpLd_cons ?_
  go_wp2_with fail
  refine ⟨ext_alloc _ _, ?_⟩
  unfold wpLd
  go_wp2_with fail
  have hbE : Below wS.heap.size wS (wS.alloc (Obj.cells #[Value.int IntKind.u16 (ea : Int), Value.int IntKind.u8 (ed : Int)] 64)).drew := ((Below.refl _ _).alloc (Nat.le_refl _) _).step (below_drewW _)
  have hrowE : RowAt (wS.alloc (Obj.cells #[Value.int IntKind.u16 (ea : Int), Value.int IntKind.u8 (ed : Int)] 64)).drew wS.heap.size 0 [Value.int IntKind.u16 (ea : Int), Value.int IntKind.u8 (ed : Int)] := (RowAt.of_alloc wS [Value.int IntKind.u16 (ea : Int), Value.int IntKind.u8 (ed : Int)] 64).drewN 1
  refine (HRes.out _ (HQ.out.2.2.below hbE)).mono ?_
  rintro e w3 ⟨⟨p, r, pok, rfl, hor⟩, hb3⟩
  have hp : p = got ∧ r = true := by
    rcases hor with ⟨h1, h2⟩ | ⟨_, h2, _⟩
    · exact ⟨(Option.some.inj h2).symm, h1⟩
    · cases h2
  obtain ⟨rfl, rfl⟩ := hp
  clear hor
  have hs3 : wS.heap.size < w3.heap.size := Nat.lt_of_lt_of_le (by simp [World.drew, World.size_alloc]) hb3.size
  have hrow3 : RowAt w3 wS.heap.size 0 [Value.int IntKind.u16 (ea : Int), Value.int IntKind.u8 (ed : Int)] := hrowE.keeps (Keeps.of_below hb3) (fun h1 h2 => by omega)
  have hb3' := hbE.step hb3
  have HW3 := hide (show WkAt w3 b { W with sp := sp } ∧ Keeps (fun k => k = b) w w3 ∧ ArAt w3 g A ∧ RowAt w3 wS.heap.size 0 [Value.int IntKind.u16 (ea : Int), Value.int IntKind.u8 (ed : Int)] from
    ⟨HQ.out.1.below hb3', HQ.out.2.1.trans ((Keeps.of_below hb3').mono (fun k hk h => absurd h (by omega))), HQ.out.2.2.below hb3', hrow3⟩)
  have t0 := hrow3.at_ (i := 0) rfl
  have t1 := hrow3.at_ (i := 1) rfl
  rw [Nat.zero_add] at t0 t1
  clear hrow3 hrowE hbE hb3 hb3' HQ HRes
  generalize wS.heap.size = N at *
  clear d0 d1 d2 d3 d4
  obtain ⟨kind, at_, data, ptrs, code, count⟩ := p
  unfold ptrC
  dsimp only at HK ⊢
  by_cases hk0 : kind = 0
  · subst hk0
    go_wp2_with fail
    go_ret
    have q2 : Keeps (fun k => k = b) w (w3.alloc (Obj.cells #[Value.int IntKind.u8 0, Value.int IntKind.u16 at_, Value.int IntKind.u8 data, Value.int IntKind.u8 ptrs, Value.int IntKind.u8 code, Value.int IntKind.u16 count] 62)) := HW3.out.2.1.alloc _
    exact ⟨rfl, q2, HW3.out.1.row.alloc _, HW3.out.1.ok⟩
  · have g0 : ((kind : Int) == 0) = false := by simp; omega
    have KO := hide (HK.out hk0)
    have hd8 : ed < 8 := KO.out.dep
    have hd8' : (ed : Int) < 8 := by omega
    have HW4 := hide (show WkAt (w3.alloc (Obj.cells #[Value.int IntKind.u8 kind, Value.int IntKind.u16 at_, Value.int IntKind.u8 data, Value.int IntKind.u8 ptrs, Value.int IntKind.u8 code, Value.int IntKind.u16 count] 62)) b { W with sp := sp } ∧ Keeps (fun k => k = b) w (w3.alloc (Obj.cells #[Value.int IntKind.u8 kind, Value.int IntKind.u16 at_, Value.int IntKind.u8 data, Value.int IntKind.u8 ptrs, Value.int IntKind.u8 code, Value.int IntKind.u16 count] 62)) ∧
        ArAt (w3.alloc (Obj.cells #[Value.int IntKind.u8 kind, Value.int IntKind.u16 at_, Value.int IntKind.u8 data, Value.int IntKind.u8 ptrs, Value.int IntKind.u8 code, Value.int IntKind.u16 count] 62)) g A ∧
        RowAt (w3.alloc (Obj.cells #[Value.int IntKind.u8 kind, Value.int IntKind.u16 at_, Value.int IntKind.u8 data, Value.int IntKind.u8 ptrs, Value.int IntKind.u8 code, Value.int IntKind.u16 count] 62)) N 0 [Value.int IntKind.u16 (ea : Int), Value.int IntKind.u8 (ed : Int)] ∧
        RowAt (w3.alloc (Obj.cells #[Value.int IntKind.u8 kind, Value.int IntKind.u16 at_, Value.int IntKind.u8 data, Value.int IntKind.u8 ptrs, Value.int IntKind.u8 code, Value.int IntKind.u16 count] 62)) w3.heap.size 0 [Value.int IntKind.u8 kind, Value.int IntKind.u16 at_, Value.int IntKind.u8 data, Value.int IntKind.u8 ptrs, Value.int IntKind.u8 code, Value.int IntKind.u16 count] from
      ⟨⟨HW3.out.1.row.alloc _, HW3.out.1.ok⟩, HW3.out.2.1.alloc _, HW3.out.2.2.1.below ((Below.refl _ _).alloc (Nat.le_refl _) _), HW3.out.2.2.2.alloc _, RowAt.of_alloc _ _ _⟩)
    have HCl := hide (claimW_calls ⟨kind, at_, data, ptrs, code, count⟩ pok _ _ rfl rfl KO.out.fit HW4.out.1 KO.out.free)
    unfold ptrC at HCl
    dsimp only at HCl
    have POK := hide pok
    clear HW3 HK hk0 pok
    go_wp2_with fail
    refine HCl.out.mono ?_
    rintro e w5 ⟨rfl, s', ht, hw5, kp5⟩
    have HW5 := hide (show WkAt w5 b { W with set := s', sp := sp } ∧ Keeps (fun k => k = b) w w5 ∧ ArAt w5 g A ∧ RowAt w5 N 0 [Value.int IntKind.u16 (ea : Int), Value.int IntKind.u8 (ed : Int)] ∧
        RowAt w5 w3.heap.size 0 [Value.int IntKind.u8 kind, Value.int IntKind.u16 at_, Value.int IntKind.u8 data, Value.int IntKind.u8 ptrs, Value.int IntKind.u8 code, Value.int IntKind.u16 count] from
      ⟨hw5, HW4.out.2.1.trans kp5, HW4.out.2.2.1.keepsX kp5 hgb, HW4.out.2.2.2.1.keeps kp5 (fun _ => by omega), HW4.out.2.2.2.2.keeps kp5 (fun _ => by omega)⟩)
    have HT := hide ht
    clear HW4 HCl ht hw5 kp5
    obtain ⟨a1, a2, a3, a4, a5⟩ := HW5.out
    have m0 := a5.at_ (i := 0) rfl
    have m1 := a5.at_ (i := 1) rfl
    have m2 := a5.at_ (i := 2) rfl
    have m3 := a5.at_ (i := 3) rfl
    have m4 := a5.at_ (i := 4) rfl
    have m5 := a5.at_ (i := 5) rfl
    rw [Nat.zero_add] at m0 m1 m2 m3 m4 m5
    have HPd := hide (padded_calls g A c hA1 ⟨kind, at_, data, ptrs, code, count⟩ POK.out w5 a3)
    unfold ptrC at HPd
    dsimp only at HPd
    clear a1 a2 a3 a4 a5
    go_wp2_with fail
    refine HPd.out.mono ?_
    rintro e w6 ⟨⟨rb, rfl, hrb⟩, hb6⟩
    have hrt : rb = true := hrb.2 KO.out.pad
    subst hrt
    have HW6 := hide (show WkAt w6 b { W with set := s', sp := sp } ∧ Keeps (fun k => k = b) w w6 ∧ RowAt w6 N 0 [Value.int IntKind.u16 (ea : Int), Value.int IntKind.u8 (ed : Int)] ∧
        RowAt w6 w3.heap.size 0 [Value.int IntKind.u8 kind, Value.int IntKind.u16 at_, Value.int IntKind.u8 data, Value.int IntKind.u8 ptrs, Value.int IntKind.u8 code, Value.int IntKind.u16 count] from
      ⟨HW5.out.1.below hb6, HW5.out.2.1.trans ((Keeps.of_below hb6).mono (fun k hk h => absurd h (by omega))), HW5.out.2.2.2.1.keeps (Keeps.of_below hb6) (fun h1 h2 => by omega), HW5.out.2.2.2.2.keeps (Keeps.of_below hb6) (fun h1 h2 => by omega)⟩)
    clear HW5 HPd hrb hb6 m0 m1 m2 m3 m4 m5
    obtain ⟨a1, a2, a4, a5⟩ := HW6.out
    have m0 := a5.at_ (i := 0) rfl
    have m1 := a5.at_ (i := 1) rfl
    have m2 := a5.at_ (i := 2) rfl
    have m3 := a5.at_ (i := 3) rfl
    have m4 := a5.at_ (i := 4) rfl
    have m5 := a5.at_ (i := 5) rfl
    have m6 := a4.at_ (i := 1) rfl
    rw [Nat.zero_add] at m0 m1 m2 m3 m4 m5 m6
    have HFo := hide (follow_calls ⟨kind, at_, data, ptrs, code, count⟩ POK.out (ed + 1) (by omega) KO.out.at_ KO.out.data KO.out.ptrs KO.out.count a1)
    unfold ptrC at HFo
    dsimp only at HFo
    clear a1 a2 a4 a5
    go_wp2_with fail
    refine HFo.out.mono ?_
    rintro e w7 ⟨rfl, f1, f2⟩
    have HF := hide (And.intro f1 (HW6.out.2.1.trans f2))
    clear f1 f2 HFo
    go_wp2_with fail
    go_ret
    exact ⟨rfl, HF.out.2, .inr ⟨fun e => by rw [e] at g0; exact absurd g0 (by decide), s', HT.out, HF.out.1⟩⟩
end Go.Proofs.YgcfaaGreat
