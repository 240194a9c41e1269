import Derived.Test.YgcfaaGreatHurtB
namespace Go.Proofs.YgcfaaGreat
open Go.RowKit Bits Bd
set_option linter.unusedVariables false
set_option maxRecDepth 100000
set_option linter.unusedSimpArgs false
attribute [local go_sem] World.cell?_ext World.frozen?_ext

theorem keeps_step {X : Nat → Prop} {w w1 w2 : World} (k : Keeps X w w1) (b : Below w1.heap.size w1 w2) : Keeps X w w2 :=
  k.trans ((Keeps.of_below b).mono (fun j hj hx => by omega))

theorem nil_row0 (B : Bld) : RowIs B { B with A := [] } 0 0 [] := by
  refine ⟨rfl, rfl, ?_, ?_, rfl⟩
  · intro k hk hne
    match k, hk with
    | 0, _ => exact absurd rfl hne
    | 1, _ => rfl
    | 2, _ => rfl
    | 3, _ => rfl
    | 4, _ => rfl
    | 5, _ => rfl
  · intro k hk hne
    match k, hk with
    | 0, _ => exact absurd rfl hne
    | 1, _ => rfl
    | 2, _ => rfl
    | 3, _ => rfl
    | 4, _ => rfl
    | 5, _ => rfl
theorem nil_row1 (B : Bld) : RowIs B { B with obj := [] } 1 0 [] := by
  refine ⟨rfl, rfl, ?_, ?_, rfl⟩
  · intro k hk hne
    match k, hk with
    | 0, _ => rfl
    | 1, _ => exact absurd rfl hne
    | 2, _ => rfl
    | 3, _ => rfl
    | 4, _ => rfl
    | 5, _ => rfl
  · intro k hk hne
    match k, hk with
    | 0, _ => rfl
    | 1, _ => exact absurd rfl hne
    | 2, _ => rfl
    | 3, _ => rfl
    | 4, _ => rfl
    | 5, _ => rfl
theorem nil_row2 (B : Bld) : RowIs B { B with up := [] } 2 0 [] := by
  refine ⟨rfl, rfl, ?_, ?_, rfl⟩
  · intro k hk hne
    match k, hk with
    | 0, _ => rfl
    | 1, _ => rfl
    | 2, _ => exact absurd rfl hne
    | 3, _ => rfl
    | 4, _ => rfl
    | 5, _ => rfl
  · intro k hk hne
    match k, hk with
    | 0, _ => rfl
    | 1, _ => rfl
    | 2, _ => exact absurd rfl hne
    | 3, _ => rfl
    | 4, _ => rfl
    | 5, _ => rfl
theorem nil_row3 (B : Bld) : RowIs B { B with via := [] } 3 0 [] := by
  refine ⟨rfl, rfl, ?_, ?_, rfl⟩
  · intro k hk hne
    match k, hk with
    | 0, _ => rfl
    | 1, _ => rfl
    | 2, _ => rfl
    | 3, _ => exact absurd rfl hne
    | 4, _ => rfl
    | 5, _ => rfl
  · intro k hk hne
    match k, hk with
    | 0, _ => rfl
    | 1, _ => rfl
    | 2, _ => rfl
    | 3, _ => exact absurd rfl hne
    | 4, _ => rfl
    | 5, _ => rfl
theorem nil_row4 (B : Bld) : RowIs B { B with depth := [] } 4 0 [] := by
  refine ⟨rfl, rfl, ?_, ?_, rfl⟩
  · intro k hk hne
    match k, hk with
    | 0, _ => rfl
    | 1, _ => rfl
    | 2, _ => rfl
    | 3, _ => rfl
    | 4, _ => exact absurd rfl hne
    | 5, _ => rfl
  · intro k hk hne
    match k, hk with
    | 0, _ => rfl
    | 1, _ => rfl
    | 2, _ => rfl
    | 3, _ => rfl
    | 4, _ => exact absurd rfl hne
    | 5, _ => rfl
theorem nil_row5 (B : Bld) : RowIs B { B with dead := [] } 5 0 [] := by
  refine ⟨rfl, rfl, ?_, ?_, rfl⟩
  · intro k hk hne
    match k, hk with
    | 0, _ => rfl
    | 1, _ => rfl
    | 2, _ => rfl
    | 3, _ => rfl
    | 4, _ => rfl
    | 5, _ => exact absurd rfl hne
  · intro k hk hne
    match k, hk with
    | 0, _ => rfl
    | 1, _ => rfl
    | 2, _ => rfl
    | 3, _ => rfl
    | 4, _ => rfl
    | 5, _ => exact absurd rfl hne
/-- The hurts of clauses 1 to 6 bite. -/
structure Bites (B : Bld) : Prop where
  even : evenP B
  up : ∀ h, 1 ≤ h → h < B.obj.length → B.up.getD h 0 < h
  b6 : ¬ checkP (B.setObj 0 { B.o 0 with data := 1 })
  b7 : ∀ h, h < B.obj.length → B.dead.getD h false = true → ¬ checkP (B.setObj h { B.o h with at_ := 300 })
  b8 : ∀ h, 1 ≤ h → h < B.obj.length → isSt (B.o (B.up.getD h 0)) → ¬ checkP (B.setDead h (!B.dead.getD h false))
  b9 : 1 < B.obj.length → ¬ checkP (B.setDepth (B.obj.length - 1) 255) ∧ ¬ checkP (B.setDepth (B.obj.length - 1) 0)

set_option maxHeartbeats 16000000 in
/-- Hurts 0 to 6. -/
theorem biteB_low {w : World} {p : Nat} {hh : Nat → Value} {B : Bld} (hb : HB w p hh B) (hbt : Bites B) (k : Nat) (hk : k ≤ 6) :
    Calls Faag.prog 6 #[.pointer (some ⟨p, 0, none⟩), .int .i64 k] w fun e w' => e = .returned (.bool true) ∧ Keeps (blk p hh) w w' := by
  obtain ⟨a, c, see, hsl, hrow⟩ := hb.see3 hbt.even
  obtain ⟨⟨a1, a2⟩, ⟨a3, a4⟩, a5, a6, a7, a8⟩ := hbt.even
  have f1 := see.f1
  have HB0 := hide hb
  obtain ⟨o1, o2, o3, o4, o5, o6, o7⟩ := hb.ok
  have hp : p < w.heap.size := lt_of_cell f1
  have hcs : k = 0 ∨ k = 1 ∨ k = 2 ∨ k = 3 ∨ k = 4 ∨ k = 5 ∨ k = 6 := by omega
  have HBT := hide hbt
  have n0 := (hb.cell 0 (by omega)).1
  have n1 := (hb.cell 1 (by omega)).1
  have n2 := (hb.cell 2 (by omega)).1
  have n3 := (hb.cell 3 (by omega)).1
  have n4 := (hb.cell 4 (by omega)).1
  have n5 := (hb.cell 5 (by omega)).1
  have m0 := (hb.cell 0 (by omega)).2
  have m1 := (hb.cell 1 (by omega)).2
  have m2 := (hb.cell 2 (by omega)).2
  have m3 := (hb.cell 3 (by omega)).2
  have m4 := (hb.cell 4 (by omega)).2
  have m5 := (hb.cell 5 (by omega)).2
  simp only [fOff, Nat.reduceAdd] at n0 n1 n2 n3 n4 n5 m0 m1 m2 m3 m4 m5
  have bo := see.objs 0 (by omega)
  have l6 := (hrow 1 (by omega) 2 (.int .u8 ((B.o 0).data : Nat)) (by
    show (rowP B.obj)[0 * 6 + 2]? = _
    rw [rowP_get _ 0 2 (by omega) (by omega)]; rfl)).2
  have e6 := hsl 1 (by omega)
  have hg1 := e6.2
  have HE6 := hide e6.1
  have d2 := bo 2 _ rfl
  have lo := hb.ok.obj 0
  change (B.o 0).Ok at lo
  clear hb see hsl hrow bo e6
  rcases hcs with rfl | rfl | rfl | rfl | rfl | rfl | rfl
  · have hnil := HB0.out.nil 0 (by omega) (B' := { B with A := [] }) (nil_row0 B) ⟨fun i => by simp, o2, o3, o4, o5, o6, o7⟩
    have HBAD := hide (show ¬ checkP { B with A := [] } from fun h => by
      have h1 := h.1
      unfold evenP at h1
      dsimp only at h1
      simp only [List.length_nil] at h1
      omega)
    have hck := hide (check_calls hnil.1 (by simp) (by dsimp only; omega))
    have KW := hide hnil.2.keeps
    clear hnil
    simp only [fOff, Nat.reduceAdd] at hck KW
    go_enter Faag.func6, Faag.ntmps6
    go_wp2_with fail
    refine (hck.out).mono ?_
    rintro r w2 ⟨⟨r', rfl, hr⟩, hb2⟩
    have hr' : r' = false := by
      cases r' with
      | false => rfl
      | true => exact absurd (hr.1 rfl) HBAD.out
    subst hr'
    have KF := hide (keeps_step KW.out hb2)
    clear hr hb2 hck
    go_wp2_with fail
    go_ret
    exact ⟨rfl, KF.out⟩
  · have hnil := HB0.out.nil 1 (by omega) (B' := { B with obj := [] }) (nil_row1 B) ⟨o1, o2, o3, fun i => by simp [zeroPtr, Ptr.Ok], o5, o6, o7⟩
    have HBAD := hide (show ¬ checkP { B with obj := [] } from fun h => by
      have h1 := h.1
      unfold evenP at h1
      dsimp only at h1
      simp only [List.length_nil] at h1
      omega)
    have hck := hide (check_calls hnil.1 (by dsimp only; omega) (by simp))
    have KW := hide hnil.2.keeps
    clear hnil
    simp only [fOff, Nat.reduceAdd] at hck KW
    go_enter Faag.func6, Faag.ntmps6
    go_wp2_with fail
    refine (hck.out).mono ?_
    rintro r w2 ⟨⟨r', rfl, hr⟩, hb2⟩
    have hr' : r' = false := by
      cases r' with
      | false => rfl
      | true => exact absurd (hr.1 rfl) HBAD.out
    subst hr'
    have KF := hide (keeps_step KW.out hb2)
    clear hr hb2 hck
    go_wp2_with fail
    go_ret
    exact ⟨rfl, KF.out⟩
  · have hnil := HB0.out.nil 2 (by omega) (B' := { B with up := [] }) (nil_row2 B) ⟨o1, o2, o3, o4, fun i => by simp, o6, o7⟩
    have HBAD := hide (show ¬ checkP { B with up := [] } from fun h => by
      have h1 := h.1
      unfold evenP at h1
      dsimp only at h1
      simp only [List.length_nil] at h1
      omega)
    have hck := hide (check_calls hnil.1 (by dsimp only; omega) (by dsimp only; omega))
    have KW := hide hnil.2.keeps
    clear hnil
    simp only [fOff, Nat.reduceAdd] at hck KW
    go_enter Faag.func6, Faag.ntmps6
    go_wp2_with fail
    refine (hck.out).mono ?_
    rintro r w2 ⟨⟨r', rfl, hr⟩, hb2⟩
    have hr' : r' = false := by
      cases r' with
      | false => rfl
      | true => exact absurd (hr.1 rfl) HBAD.out
    subst hr'
    have KF := hide (keeps_step KW.out hb2)
    clear hr hb2 hck
    go_wp2_with fail
    go_ret
    exact ⟨rfl, KF.out⟩
  · have hnil := HB0.out.nil 3 (by omega) (B' := { B with via := [] }) (nil_row3 B) ⟨o1, o2, o3, o4, o5, fun i => by simp, o7⟩
    have HBAD := hide (show ¬ checkP { B with via := [] } from fun h => by
      have h1 := h.1
      unfold evenP at h1
      dsimp only at h1
      simp only [List.length_nil] at h1
      omega)
    have hck := hide (check_calls hnil.1 (by dsimp only; omega) (by dsimp only; omega))
    have KW := hide hnil.2.keeps
    clear hnil
    simp only [fOff, Nat.reduceAdd] at hck KW
    go_enter Faag.func6, Faag.ntmps6
    go_wp2_with fail
    refine (hck.out).mono ?_
    rintro r w2 ⟨⟨r', rfl, hr⟩, hb2⟩
    have hr' : r' = false := by
      cases r' with
      | false => rfl
      | true => exact absurd (hr.1 rfl) HBAD.out
    subst hr'
    have KF := hide (keeps_step KW.out hb2)
    clear hr hb2 hck
    go_wp2_with fail
    go_ret
    exact ⟨rfl, KF.out⟩
  · have hnil := HB0.out.nil 4 (by omega) (B' := { B with depth := [] }) (nil_row4 B) ⟨o1, o2, o3, o4, o5, o6, fun i => by simp⟩
    have HBAD := hide (show ¬ checkP { B with depth := [] } from fun h => by
      have h1 := h.1
      unfold evenP at h1
      dsimp only at h1
      simp only [List.length_nil] at h1
      omega)
    have hck := hide (check_calls hnil.1 (by dsimp only; omega) (by dsimp only; omega))
    have KW := hide hnil.2.keeps
    clear hnil
    simp only [fOff, Nat.reduceAdd] at hck KW
    go_enter Faag.func6, Faag.ntmps6
    go_wp2_with fail
    refine (hck.out).mono ?_
    rintro r w2 ⟨⟨r', rfl, hr⟩, hb2⟩
    have hr' : r' = false := by
      cases r' with
      | false => rfl
      | true => exact absurd (hr.1 rfl) HBAD.out
    subst hr'
    have KF := hide (keeps_step KW.out hb2)
    clear hr hb2 hck
    go_wp2_with fail
    go_ret
    exact ⟨rfl, KF.out⟩
  · have hnil := HB0.out.nil 5 (by omega) (B' := { B with dead := [] }) (nil_row5 B) ⟨o1, o2, o3, o4, o5, o6, o7⟩
    have HBAD := hide (show ¬ checkP { B with dead := [] } from fun h => by
      have h1 := h.1
      unfold evenP at h1
      dsimp only at h1
      simp only [List.length_nil] at h1
      omega)
    have hck := hide (check_calls hnil.1 (by dsimp only; omega) (by dsimp only; omega))
    have KW := hide hnil.2.keeps
    clear hnil
    simp only [fOff, Nat.reduceAdd] at hck KW
    go_enter Faag.func6, Faag.ntmps6
    go_wp2_with fail
    refine (hck.out).mono ?_
    rintro r w2 ⟨⟨r', rfl, hr⟩, hb2⟩
    have hr' : r' = false := by
      cases r' with
      | false => rfl
      | true => exact absurd (hr.1 rfl) HBAD.out
    subst hr'
    have KF := hide (keeps_step KW.out hb2)
    clear hr hb2 hck
    go_wp2_with fail
    go_ret
    exact ⟨rfl, KF.out⟩
  · have hset := HB0.out.setObj (x := 0) (j := 2) (u := .int .u8 1) (P := { B.o 0 with data := 1 }) HE6.out (by omega) (by omega) rfl ⟨lo.1, lo.2.1, by dsimp only; omega, lo.2.2.2.1, lo.2.2.2.2.1, lo.2.2.2.2.2⟩
    have KW := hide (show Keeps (blk p hh) w (w.setCell ⟨a 1, 2, none⟩ (.int .u8 1)) from (Keeps.refl _ w).setCell (p := ⟨a 1, 2, none⟩) (fun _ => blk_row p (i := 1) (by omega) HE6.out) _)
    have HBAD := hide HBT.out.b6
    have hck := hide (check_calls hset (by show B.A.length ≤ _; omega) (by simp only [Bld.setObj, List.length_set]; omega))
    simp only [Nat.zero_mul, Nat.zero_add] at hck d2
    clear hset
    go_enter Faag.func6, Faag.ntmps6
    go_wp2_with fail
    refine (hck.out).mono ?_
    rintro r w2 ⟨⟨r', rfl, hr⟩, hb2⟩
    have hr' : r' = false := by
      cases r' with
      | false => rfl
      | true => exact absurd (hr.1 rfl) HBAD.out
    subst hr'
    have KF := hide (keeps_step KW.out hb2)
    clear hr hb2 hck
    go_wp2_with fail
    go_ret
    exact ⟨rfl, KF.out⟩
end Go.Proofs.YgcfaaGreat
