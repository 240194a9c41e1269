import Derived.Test.YgcfaaGreatEven
import Derived.Test.YgcfaaGreatDrop
import Derived.Test.YgcfaaGreatSetElem
import Derived.Test.YgcfaaGreatSetData
namespace Go.Proofs.YgcfaaGreat
open Go.RowKit Bits Bd Utf
set_option linter.unusedVariables false
set_option maxRecDepth 100000
set_option linter.unusedSimpArgs false
attribute [local go_sem] World.cell?_ext World.frozen?_ext

/-- Builder.Do; what IsContent and Inside say is handed in. -/
def doB (B : Bld) (op : Opn) (content inside : Bool) : Option Bld :=
  if op.h < B.obj.length ∧ B.dead.getD op.h false = false then
    if op.kind = 0 then newStructB B op
    else if op.kind = 1 then newListB B op
    else if op.kind = 2 then setTextB B op content (zOf op.s)
    else if op.kind = 3 then setDataB B op
    else if op.kind = 4 then setElemB B op inside
    else if op.kind = 5 then dropB B op
    else none
  else none

/-- Builder and handles as every script leaves them. -/
structure Good (B : Bld) : Prop where
  even : evenP B
  at_ : ∀ x, (B.o x).at_ ≤ 60000

theorem even_yes {w : World} {p : Nat} {h : Nat → Value} {B : Bld} (hb : HB w p h B) (hev : evenP B) : Calls Faag.prog 17 #[.pointer (some ⟨p, 0, none⟩)] w fun e w' => e = .returned (.bool true) ∧ w' = w := by
  have hev0 := hev
  obtain ⟨⟨a1, a2⟩, ⟨a3, a4⟩, _⟩ := hev0
  refine (even_calls hb (by omega) (by omega)).mono ?_
  rintro e w' ⟨⟨r, rfl, hr⟩, rfl⟩
  rw [hr.2 hev]
  exact ⟨rfl, rfl⟩

set_option maxHeartbeats 8000000 in
theorem do_calls (op : Opn) (hop : op.Ok) (hs : op.s.size ≤ 9223372036854775807) {B : Bld} (c1 c2 : Bool) (hc1 : c1 = true ↔ contentP op.s) (hc2 : c2 = true ↔ insideP B.A.length (B.o op.h)) {w : World} {p : Nat} {h : Nat → Value} (hb : HB w p h B) (hG : Good B) :
    Calls Faag.prog 15 #[.pointer (some ⟨p, 0, none⟩), .agg (opC op).toArray] w fun e w' => RetO e (doB B op c1 c2) ∧ ∃ h', HB w' p h' ((doB B op c1 c2).getD B) ∧ Mv p h h' w w' := by
  obtain ⟨⟨a1, a2⟩, ⟨a3, a4⟩, a5, a6, a7, a8⟩ := hG.even
  have hp : p < w.heap.size := hb.lt ⟨0, rfl⟩
  have HE := hide (fun (W : World) (hW : HB W p h B) => even_yes hW hG.even)
  obtain ⟨b1, cp1, k1, hv1⟩ := hb.lens 1 (by omega)
  simp only [fOff, Nat.reduceAdd, Bld.len] at k1
  have HH := hide hb
  have HX := hide (fun (W : World) (hW : ∃ x, W = (w.alloc (.cells (opC op).toArray 55)).ext x) => show HB W p h B from by obtain ⟨x, rfl⟩ := hW; exact (hb.alloc _).ext x)
  by_cases hlt : op.h < B.obj.length
  · have hle : decide (B.obj.length ≤ op.h) = false := by simpa using hlt
    have hl : Live B op.h := ⟨hG.even, hlt, hG.at_ op.h⟩
    obtain ⟨g5, q5, v5, l5, n5, r5⟩ := hb.rowAt 5 (by omega) (by simp only [Bld.len]; omega)
    obtain ⟨k5, _⟩ := hb.cell 5 (by omega)
    simp only [fOff, Nat.reduceAdd, Bld.len] at k5 v5
    rw [v5] at k5
    have cX := (r5 op.h _ (rowB_get (by omega))).1
    by_cases hdead : B.dead.getD op.h false = false
    · rw [hdead] at cX
      have hD : doB B op c1 c2 = if op.kind = 0 then newStructB B op else if op.kind = 1 then newListB B op else if op.kind = 2 then setTextB B op c1 (zOf op.s) else if op.kind = 3 then setDataB B op else if op.kind = 4 then setElemB B op c2 else if op.kind = 5 then dropB B op else none := if_pos ⟨hlt, hdead⟩
      have HC0 := hide (fun (W : World) (hW : HB W p h B) => newStruct_calls op hop hW hl)
      have HC1 := hide (fun (W : World) (hW : HB W p h B) => newList_calls op hop hW hl)
      have HC2 := hide (fun (W : World) (hW : HB W p h B) => setText_calls op hop hs c1 hc1 hW hl)
      have HC3 := hide (fun (W : World) (hW : HB W p h B) => setData_calls op hop hW hl)
      have HC4 := hide (fun (W : World) (hW : HB W p h B) => setElem_calls op hop c2 hc2 hW hl)
      have HC5 := hide (fun (W : World) (hW : HB W p h B) => drop_calls op hop hW hl)
      generalize doB B op c1 c2 = S at *
      have HD := hide hD
      obtain ⟨kind, x, i, X, Y, N, V, s⟩ := op
      obtain ⟨o1, o2, o3, o4, o5, o6, o7⟩ := hop
      unfold opC at HC0 HC1 HC2 HC3 HC4 HC5 HX ⊢
      dsimp only at o1 o2 o3 o4 o5 o6 o7 HD HC0 HC1 HC2 HC3 HC4 HC5 HX hlt hle hdead cX ⊢
      clear hb hG hl v5 r5 hc1 hc2 hD hv1 hdead
      have hk : kind = 0 ∨ kind = 1 ∨ kind = 2 ∨ kind = 3 ∨ kind = 4 ∨ kind = 5 ∨ 5 < kind := by omega
      rcases hk with rfl | rfl | rfl | rfl | rfl | rfl | hk
      · have HD2 := hide (show S = newStructB B ⟨0, x, i, X, Y, N, V, s⟩ from HD.out)
        clear HD HC1 HC2 HC3 HC4 HC5
        go_enter Faag.func15, Faag.ntmps15
        go_wp2_with fail
        refine wp_region_qx 21 (by kernel_rfl) (by kernel_rfl) ?_
        simp only [List.take_succ_cons, List.take_zero, List.drop_succ_cons, List.drop_zero]
        repeat (go_big_quiet_step ((go_at_call 17; exact Calls.ext_of_same (HE.out _ (HX.out _ ⟨_, rfl⟩)))))
        refine wpQuiet_nil ?_
        rintro _ ⟨x1, rfl⟩
        go_wp2_with fail
        refine (HC0.out _ (HX.out _ ⟨x1, rfl⟩)).mono ?_
        rintro e w2 ⟨he, h2, hb2, mv2⟩
        unfold RetO at he
        obtain ⟨R, hR⟩ : ∃ R, R = newStructB B ⟨0, x, i, X, Y, N, V, s⟩ := ⟨_, rfl⟩
        rw [← hR] at he hb2 HD2
        obtain ⟨r, hr⟩ : ∃ r, r = R.isSome := ⟨_, rfl⟩
        rw [← hr] at he
        subst he
        have HF := hide (And.intro hr (And.intro hb2 (((Mv.of_below ((Below.refl _ w).alloc (Nat.le_refl _) (.cells #[.int .u8 0, .int .u8 x, .int .u8 i, .int .u8 X, .int .u8 Y, .int .u16 N, .int .u64 V, .string s] 55))).trans (Mv.of_below (World.below_ext _ x1))).trans mv2)))
        clear hr hb2 mv2 hR HC0
        go_wp2_with fail
        go_ret
        rw [HD2.out]
        exact ⟨by rw [HF.out.1]; rfl, h2, HF.out.2⟩
      · have HD2 := hide (show S = newListB B ⟨1, x, i, X, Y, N, V, s⟩ from HD.out)
        clear HD HC0 HC2 HC3 HC4 HC5
        go_enter Faag.func15, Faag.ntmps15
        go_wp2_with fail
        refine wp_region_qx 21 (by kernel_rfl) (by kernel_rfl) ?_
        simp only [List.take_succ_cons, List.take_zero, List.drop_succ_cons, List.drop_zero]
        repeat (go_big_quiet_step ((go_at_call 17; exact Calls.ext_of_same (HE.out _ (HX.out _ ⟨_, rfl⟩)))))
        refine wpQuiet_nil ?_
        rintro _ ⟨x1, rfl⟩
        go_wp2_with fail
        refine (HC1.out _ (HX.out _ ⟨x1, rfl⟩)).mono ?_
        rintro e w2 ⟨he, h2, hb2, mv2⟩
        unfold RetO at he
        obtain ⟨R, hR⟩ : ∃ R, R = newListB B ⟨1, x, i, X, Y, N, V, s⟩ := ⟨_, rfl⟩
        rw [← hR] at he hb2 HD2
        obtain ⟨r, hr⟩ : ∃ r, r = R.isSome := ⟨_, rfl⟩
        rw [← hr] at he
        subst he
        have HF := hide (And.intro hr (And.intro hb2 (((Mv.of_below ((Below.refl _ w).alloc (Nat.le_refl _) (.cells #[.int .u8 1, .int .u8 x, .int .u8 i, .int .u8 X, .int .u8 Y, .int .u16 N, .int .u64 V, .string s] 55))).trans (Mv.of_below (World.below_ext _ x1))).trans mv2)))
        clear hr hb2 mv2 hR HC1
        go_wp2_with fail
        go_ret
        rw [HD2.out]
        exact ⟨by rw [HF.out.1]; rfl, h2, HF.out.2⟩
      · have HD2 := hide (show S = setTextB B ⟨2, x, i, X, Y, N, V, s⟩ c1 (zOf s) from HD.out)
        clear HD HC0 HC1 HC3 HC4 HC5
        go_enter Faag.func15, Faag.ntmps15
        go_wp2_with fail
        refine wp_region_qx 21 (by kernel_rfl) (by kernel_rfl) ?_
        simp only [List.take_succ_cons, List.take_zero, List.drop_succ_cons, List.drop_zero]
        repeat (go_big_quiet_step ((go_at_call 17; exact Calls.ext_of_same (HE.out _ (HX.out _ ⟨_, rfl⟩)))))
        refine wpQuiet_nil ?_
        rintro _ ⟨x1, rfl⟩
        go_wp2_with fail
        refine (HC2.out _ (HX.out _ ⟨x1, rfl⟩)).mono ?_
        rintro e w2 ⟨he, h2, hb2, mv2⟩
        unfold RetO at he
        obtain ⟨R, hR⟩ : ∃ R, R = setTextB B ⟨2, x, i, X, Y, N, V, s⟩ c1 (zOf s) := ⟨_, rfl⟩
        rw [← hR] at he hb2 HD2
        obtain ⟨r, hr⟩ : ∃ r, r = R.isSome := ⟨_, rfl⟩
        rw [← hr] at he
        subst he
        have HF := hide (And.intro hr (And.intro hb2 (((Mv.of_below ((Below.refl _ w).alloc (Nat.le_refl _) (.cells #[.int .u8 2, .int .u8 x, .int .u8 i, .int .u8 X, .int .u8 Y, .int .u16 N, .int .u64 V, .string s] 55))).trans (Mv.of_below (World.below_ext _ x1))).trans mv2)))
        clear hr hb2 mv2 hR HC2
        go_wp2_with fail
        go_ret
        rw [HD2.out]
        exact ⟨by rw [HF.out.1]; rfl, h2, HF.out.2⟩
      · have HD2 := hide (show S = setDataB B ⟨3, x, i, X, Y, N, V, s⟩ from HD.out)
        clear HD HC0 HC1 HC2 HC4 HC5
        go_enter Faag.func15, Faag.ntmps15
        go_wp2_with fail
        refine wp_region_qx 21 (by kernel_rfl) (by kernel_rfl) ?_
        simp only [List.take_succ_cons, List.take_zero, List.drop_succ_cons, List.drop_zero]
        repeat (go_big_quiet_step ((go_at_call 17; exact Calls.ext_of_same (HE.out _ (HX.out _ ⟨_, rfl⟩)))))
        refine wpQuiet_nil ?_
        rintro _ ⟨x1, rfl⟩
        go_wp2_with fail
        refine (HC3.out _ (HX.out _ ⟨x1, rfl⟩)).mono ?_
        rintro e w2 ⟨he, h2, hb2, mv2⟩
        unfold RetO at he
        obtain ⟨R, hR⟩ : ∃ R, R = setDataB B ⟨3, x, i, X, Y, N, V, s⟩ := ⟨_, rfl⟩
        rw [← hR] at he hb2 HD2
        obtain ⟨r, hr⟩ : ∃ r, r = R.isSome := ⟨_, rfl⟩
        rw [← hr] at he
        subst he
        have HF := hide (And.intro hr (And.intro hb2 (((Mv.of_below ((Below.refl _ w).alloc (Nat.le_refl _) (.cells #[.int .u8 3, .int .u8 x, .int .u8 i, .int .u8 X, .int .u8 Y, .int .u16 N, .int .u64 V, .string s] 55))).trans (Mv.of_below (World.below_ext _ x1))).trans mv2)))
        clear hr hb2 mv2 hR HC3
        go_wp2_with fail
        go_ret
        rw [HD2.out]
        exact ⟨by rw [HF.out.1]; rfl, h2, HF.out.2⟩
      · have HD2 := hide (show S = setElemB B ⟨4, x, i, X, Y, N, V, s⟩ c2 from HD.out)
        clear HD HC0 HC1 HC2 HC3 HC5
        go_enter Faag.func15, Faag.ntmps15
        go_wp2_with fail
        refine wp_region_qx 21 (by kernel_rfl) (by kernel_rfl) ?_
        simp only [List.take_succ_cons, List.take_zero, List.drop_succ_cons, List.drop_zero]
        repeat (go_big_quiet_step ((go_at_call 17; exact Calls.ext_of_same (HE.out _ (HX.out _ ⟨_, rfl⟩)))))
        refine wpQuiet_nil ?_
        rintro _ ⟨x1, rfl⟩
        go_wp2_with fail
        refine (HC4.out _ (HX.out _ ⟨x1, rfl⟩)).mono ?_
        rintro e w2 ⟨he, h2, hb2, mv2⟩
        unfold RetO at he
        obtain ⟨R, hR⟩ : ∃ R, R = setElemB B ⟨4, x, i, X, Y, N, V, s⟩ c2 := ⟨_, rfl⟩
        rw [← hR] at he hb2 HD2
        obtain ⟨r, hr⟩ : ∃ r, r = R.isSome := ⟨_, rfl⟩
        rw [← hr] at he
        subst he
        have HF := hide (And.intro hr (And.intro hb2 (((Mv.of_below ((Below.refl _ w).alloc (Nat.le_refl _) (.cells #[.int .u8 4, .int .u8 x, .int .u8 i, .int .u8 X, .int .u8 Y, .int .u16 N, .int .u64 V, .string s] 55))).trans (Mv.of_below (World.below_ext _ x1))).trans mv2)))
        clear hr hb2 mv2 hR HC4
        go_wp2_with fail
        go_ret
        rw [HD2.out]
        exact ⟨by rw [HF.out.1]; rfl, h2, HF.out.2⟩
      · have HD2 := hide (show S = dropB B ⟨5, x, i, X, Y, N, V, s⟩ from HD.out)
        clear HD HC0 HC1 HC2 HC3 HC4
        go_enter Faag.func15, Faag.ntmps15
        go_wp2_with fail
        refine wp_region_qx 21 (by kernel_rfl) (by kernel_rfl) ?_
        simp only [List.take_succ_cons, List.take_zero, List.drop_succ_cons, List.drop_zero]
        repeat (go_big_quiet_step ((go_at_call 17; exact Calls.ext_of_same (HE.out _ (HX.out _ ⟨_, rfl⟩)))))
        refine wpQuiet_nil ?_
        rintro _ ⟨x1, rfl⟩
        go_wp2_with fail
        refine (HC5.out _ (HX.out _ ⟨x1, rfl⟩)).mono ?_
        rintro e w2 ⟨he, h2, hb2, mv2⟩
        unfold RetO at he
        obtain ⟨R, hR⟩ : ∃ R, R = dropB B ⟨5, x, i, X, Y, N, V, s⟩ := ⟨_, rfl⟩
        rw [← hR] at he hb2 HD2
        obtain ⟨r, hr⟩ : ∃ r, r = R.isSome := ⟨_, rfl⟩
        rw [← hr] at he
        subst he
        have HF := hide (And.intro hr (And.intro hb2 (((Mv.of_below ((Below.refl _ w).alloc (Nat.le_refl _) (.cells #[.int .u8 5, .int .u8 x, .int .u8 i, .int .u8 X, .int .u8 Y, .int .u16 N, .int .u64 V, .string s] 55))).trans (Mv.of_below (World.below_ext _ x1))).trans mv2)))
        clear hr hb2 mv2 hR HC5
        go_wp2_with fail
        go_ret
        rw [HD2.out]
        exact ⟨by rw [HF.out.1]; rfl, h2, HF.out.2⟩
      · have HD2 := hide (show S = none from by rw [HD.out, if_neg (by omega), if_neg (by omega), if_neg (by omega), if_neg (by omega), if_neg (by omega), if_neg (by omega)])
        clear HD HC0 HC1 HC2 HC3 HC4 HC5
        go_enter Faag.func15, Faag.ntmps15
        go_wp2_with fail
        refine wp_region_qx 21 (by kernel_rfl) (by kernel_rfl) ?_
        simp only [List.take_succ_cons, List.take_zero, List.drop_succ_cons, List.drop_zero]
        repeat (go_big_quiet_step ((go_at_call 17; exact Calls.ext_of_same (HE.out _ (HX.out _ ⟨_, rfl⟩)))))
        refine wpQuiet_nil ?_
        rintro _ ⟨x1, rfl⟩
        go_wp2_with fail
        go_ret
        rw [HD2.out]
        exact ⟨rfl, h, HX.out _ ⟨x1, rfl⟩, (Mv.of_below ((Below.refl _ w).alloc (Nat.le_refl _) _)).trans (Mv.of_below (World.below_ext _ x1))⟩
    · have hdead2 : B.dead.getD op.h false = true := by simpa using hdead
      rw [hdead2] at cX
      have HD2 := hide (show doB B op c1 c2 = none from if_neg (fun e => hdead e.2))
      generalize doB B op c1 c2 = S at *
      obtain ⟨kind, x, i, X, Y, N, V, s⟩ := op
      obtain ⟨o1, o2, o3, o4, o5, o6, o7⟩ := hop
      unfold opC at HX ⊢
      dsimp only at o1 o2 o3 o4 o5 o6 o7 HX hlt hle hdead2 cX ⊢
      clear hb hG hl v5 r5 hc1 hc2 hv1 hdead hdead2
      go_enter Faag.func15, Faag.ntmps15
      go_wp2_with fail
      refine wp_region_qx 21 (by kernel_rfl) (by kernel_rfl) ?_
      simp only [List.take_succ_cons, List.take_zero, List.drop_succ_cons, List.drop_zero]
      repeat (go_big_quiet_step ((go_at_call 17; exact Calls.ext_of_same (HE.out _ (HX.out _ ⟨_, rfl⟩)))))
      refine wpQuiet_nil ?_
      rintro _ ⟨x1, rfl⟩
      go_wp2_with fail
      go_ret
      rw [HD2.out]
      exact ⟨rfl, h, HX.out _ ⟨x1, rfl⟩, (Mv.of_below ((Below.refl _ w).alloc (Nat.le_refl _) _)).trans (Mv.of_below (World.below_ext _ x1))⟩
  · have hle : decide (B.obj.length ≤ op.h) = true := by simpa using hlt
    have HD2 := hide (show doB B op c1 c2 = none from if_neg (fun e => hlt e.1))
    generalize doB B op c1 c2 = S at *
    obtain ⟨kind, x, i, X, Y, N, V, s⟩ := op
    obtain ⟨o1, o2, o3, o4, o5, o6, o7⟩ := hop
    unfold opC at HX ⊢
    dsimp only at o1 o2 o3 o4 o5 o6 o7 HX hlt hle ⊢
    clear hb hG hc1 hc2 hv1
    go_enter Faag.func15, Faag.ntmps15
    go_wp2_with fail
    refine wp_region_qx 21 (by kernel_rfl) (by kernel_rfl) ?_
    simp only [List.take_succ_cons, List.take_zero, List.drop_succ_cons, List.drop_zero]
    repeat (go_big_quiet_step ((go_at_call 17; exact Calls.ext_of_same (HE.out _ (HX.out _ ⟨_, rfl⟩)))))
    refine wpQuiet_nil ?_
    rintro _ ⟨x1, rfl⟩
    go_wp2_with fail
    go_ret
    rw [HD2.out]
    exact ⟨rfl, h, HX.out _ ⟨x1, rfl⟩, (Mv.of_below ((Below.refl _ w).alloc (Nat.le_refl _) _)).trans (Mv.of_below (World.below_ext _ x1))⟩
end Go.Proofs.YgcfaaGreat
