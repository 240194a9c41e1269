import Derived.Test.YgcfaaNew
import Derived.Test.YgcfaaNewStruct
namespace Go.Proofs.Ygcfaa
open Go.RowKit Bits Bd
set_option linter.unusedVariables false
set_option maxRecDepth 100000
set_option linter.unusedSimpArgs false
attribute [local go_sem] World.cell?_ext World.frozen?_ext

def six (v0 v1 v2 v3 v4 v5 : Value) : Nat → Value
  | 0 => v0
  | 1 => v1
  | 2 => v2
  | 3 => v3
  | 4 => v4
  | _ => v5
def six' (v0 v1 v2 v3 v4 v5 : Nat) : Nat → Nat
  | 0 => v0
  | 1 => v1
  | 2 => v2
  | 3 => v3
  | 4 => v4
  | _ => v5
theorem row_one (B : Bld) (i : Nat) : ∀ u ∈ B.row i, u.oneCell' = true := by
  intro u hu
  unfold Bld.row at hu
  split at hu
  · simp only [U, List.mem_map] at hu; obtain ⟨x, _, rfl⟩ := hu; rfl
  · simp only [rowP, List.mem_flatMap, ptrC, List.mem_cons, List.not_mem_nil, or_false] at hu
    obtain ⟨x, _, h⟩ := hu
    rcases h with rfl | rfl | rfl | rfl | rfl | rfl <;> rfl
  · simp only [rowU8, List.mem_map] at hu; obtain ⟨x, _, rfl⟩ := hu; rfl
  · simp only [rowU8, List.mem_map] at hu; obtain ⟨x, _, rfl⟩ := hu; rfl
  · simp only [rowU8, List.mem_map] at hu; obtain ⟨x, _, rfl⟩ := hu; rfl
  · simp only [rowB, List.mem_map] at hu; obtain ⟨x, _, rfl⟩ := hu; rfl
theorem row_len {w : World} {p : Nat} {h : Nat → Value} {B : Bld} (hb : HB w p h B) (i : Nat) (hi : i < 6) : (B.row i).length = B.len i * elS i := (hb.own i hi).1

/-- Row i of the builder, as an append's second operand. -/
theorem row_news {w : World} {p : Nat} {h : Nat → Value} {B : Bld} (hb : HB w p h B) (i : Nat) (hi : i < 6) {g m c : Nat} (hg : h i = .slice (some ⟨g, 0, none⟩) m c) : ∀ (j : Nat) (u : Value), (B.row i)[j]? = some u → w.cell? ⟨g, j, none⟩ = some u := by
  intro j u hu
  have := hb.own i hi
  rw [hg] at this
  exact (own_cell this hu).1
theorem own_nil (w : World) (e : TypeId) (s : Nat) : w.ownsRow 0 e s (.slice none 0 0) 0 [] := ⟨by simp, .inl ⟨rfl, rfl⟩⟩
theorem keeps_nil {w w' : World} (hk : Keeps (fun k => some k = (Value.slice none 0 0).ownBlock) w w') : Keeps (fun _ => False) w w' := hk.mono (fun k _ e => by simp [Value.ownBlock] at e)

/-- A builder of six new rows. -/
theorem six_hb {w : World} {q : Nat} {B : Bld} (ok : B.Ok) {g c : Nat → Nat} (hq : RowAt w q 0 (fields (six (.slice (some ⟨g 0, 0, none⟩) B.A.length (c 0)) (.slice (some ⟨g 1, 0, none⟩) B.obj.length (c 1)) (.slice (some ⟨g 2, 0, none⟩) B.up.length (c 2)) (.slice (some ⟨g 3, 0, none⟩) B.via.length (c 3)) (.slice (some ⟨g 4, 0, none⟩) B.depth.length (c 4)) (.slice (some ⟨g 5, 0, none⟩) B.dead.length (c 5))) B.slot))
    (ho : ∀ i, i < 6 → w.ownsRow 0 (elT i) (elS i) (.slice (some ⟨g i, 0, none⟩) (B.len i) (c i)) (B.len i) (B.row i))
    (h1 : g 0 < g 1) (h2 : g 1 < g 2) (h3 : g 2 < g 3) (h4 : g 3 < g 4) (h5 : g 4 < g 5) (h6 : g 5 < q) :
    ∃ h, HB w q h B ∧ ∀ k, blk q h k → g 0 ≤ k := by
  have hf : ∀ i, i < 6 → six (.slice (some ⟨g 0, 0, none⟩) B.A.length (c 0)) (.slice (some ⟨g 1, 0, none⟩) B.obj.length (c 1)) (.slice (some ⟨g 2, 0, none⟩) B.up.length (c 2)) (.slice (some ⟨g 3, 0, none⟩) B.via.length (c 3)) (.slice (some ⟨g 4, 0, none⟩) B.depth.length (c 4)) (.slice (some ⟨g 5, 0, none⟩) B.dead.length (c 5)) i = .slice (some ⟨g i, 0, none⟩) (B.len i) (c i) := by
    intro i hi
    match i, hi with
    | 0, _ => rfl
    | 1, _ => rfl
    | 2, _ => rfl
    | 3, _ => rfl
    | 4, _ => rfl
    | 5, _ => rfl
  generalize six _ _ _ _ _ _ = F at *
  have hb : ∀ i k, blks q F i = some k → (i = 0 ∧ k = q) ∨ (0 < i ∧ i < 7 ∧ k = g (i - 1)) := by
    intro i k e
    match i with
    | 0 => simp only [blks, Option.some.injEq] at e; exact .inl ⟨rfl, e.symm⟩
    | i + 1 =>
      simp only [blks] at e
      split at e
      · rename_i hi
        rw [hf i hi] at e
        simp only [Value.ownBlock, Option.some.injEq] at e
        exact .inr ⟨by omega, by omega, e.symm⟩
      · cases e
  have hmono : ∀ i j, i < 6 → j < 6 → g i = g j → i = j := by
    intro i j hi hj e
    have e1 : i = 0 ∨ i = 1 ∨ i = 2 ∨ i = 3 ∨ i = 4 ∨ i = 5 := by omega
    have e2 : j = 0 ∨ j = 1 ∨ j = 2 ∨ j = 3 ∨ j = 4 ∨ j = 5 := by omega
    rcases e1 with rfl | rfl | rfl | rfl | rfl | rfl <;> rcases e2 with rfl | rfl | rfl | rfl | rfl | rfl <;> omega
  have hlow : ∀ i, i < 6 → g 0 ≤ g i ∧ g i < q := by
    intro i hi
    have e1 : i = 0 ∨ i = 1 ∨ i = 2 ∨ i = 3 ∨ i = 4 ∨ i = 5 := by omega
    rcases e1 with rfl | rfl | rfl | rfl | rfl | rfl <;> omega
  refine ⟨F, ⟨hq, fun i hi => by rw [hf i hi]; exact ho i hi, ?_, ok⟩, ?_⟩
  · intro i j k e1 e2
    rcases hb i k e1 with ⟨a, b⟩ | ⟨a, b, d⟩ <;> rcases hb j k e2 with ⟨a', b'⟩ | ⟨a', b', d'⟩
    · omega
    · have := hlow (j - 1) (by omega); omega
    · have := hlow (i - 1) (by omega); omega
    · have := hmono (i - 1) (j - 1) (by omega) (by omega) (by omega); omega
  · rintro k ⟨i, e⟩
    rcases hb i k e with ⟨a, b⟩ | ⟨a, b, d⟩
    · have := hlow 5 (by omega); omega
    · have := hlow (i - 1) (by omega); omega

set_option maxHeartbeats 4000000 in
theorem copied_calls {w : World} {p : Nat} {h : Nat → Value} {B : Bld} (hb : HB w p h B) (hev : evenP B) : Calls Faag.prog 36 #[.pointer (some ⟨p, 0, none⟩)] w fun e w' => ∃ q h', e = .returned (.pointer (some ⟨q, 0, none⟩)) ∧ HB w' q h' B ∧ Below w.heap.size w w' ∧ (∀ k, blk q h' k → w.heap.size ≤ k) := by
  obtain ⟨⟨a1, a2⟩, ⟨a3, a4⟩, a5, a6, a7, a8⟩ := hev
  have hp : p < w.heap.size := hb.lt ⟨0, rfl⟩
  have four := hb.ok.four
  obtain ⟨k1, _⟩ := hb.slotCell (i := 0) (by omega)
  obtain ⟨k2, _⟩ := hb.slotCell (i := 1) (by omega)
  obtain ⟨k3, _⟩ := hb.slotCell (i := 2) (by omega)
  obtain ⟨k4, _⟩ := hb.slotCell (i := 3) (by omega)
  obtain ⟨g0, c0, e0⟩ := own_form (hb.own 0 (by omega)) (by simp only [Bld.len]; omega)
  obtain ⟨g1, c1, e1⟩ := own_form (hb.own 1 (by omega)) (by simp only [Bld.len]; omega)
  obtain ⟨g2, c2, e2⟩ := own_form (hb.own 2 (by omega)) (by simp only [Bld.len]; omega)
  obtain ⟨g3, c3, e3⟩ := own_form (hb.own 3 (by omega)) (by simp only [Bld.len]; omega)
  obtain ⟨g4, c4, e4⟩ := own_form (hb.own 4 (by omega)) (by simp only [Bld.len]; omega)
  obtain ⟨g5, c5, e5⟩ := own_form (hb.own 5 (by omega)) (by simp only [Bld.len]; omega)
  have f0 := (hb.cell 0 (by omega)).1
  have f1 := (hb.cell 1 (by omega)).1
  have f2 := (hb.cell 2 (by omega)).1
  have f3 := (hb.cell 3 (by omega)).1
  have f4 := (hb.cell 4 (by omega)).1
  have f5 := (hb.cell 5 (by omega)).1
  rw [e0] at f0
  rw [e1] at f1
  rw [e2] at f2
  rw [e3] at f3
  rw [e4] at f4
  rw [e5] at f5
  obtain ⟨s0, s1, s2, s3, hs⟩ : ∃ s0 s1 s2 s3, B.slot = [s0, s1, s2, s3] := by
    generalize B.slot = l at *
    match l, four with
    | [a, b, c, d], _ => exact ⟨a, b, c, d, rfl⟩
  rw [hs] at k1 k2 k3 k4
  simp only [fOff, Nat.reduceAdd, List.getD_cons_zero, List.getD_cons_succ] at f0 f1 f2 f3 f4 f5 k1 k2 k3 k4
  have HS := hide hs
  have HH := hide (fun (W : World) (hW : Keeps (fun _ => False) w W) => hb.kp hW)
  have HO := hide hb.ok
  have E0 := hide e0
  have E1 := hide e1
  have E2 := hide e2
  have E3 := hide e3
  have E4 := hide e4
  have E5 := hide e5
  have L := hide (And.intro a1 (And.intro a2 (And.intro a3 (And.intro a4 (And.intro a5 (And.intro a6 (And.intro a7 a8)))))))
  have HR := hide (fun i hi => row_len hb i hi)
  clear hb hs four e0 e1 e2 e3 e4 e5 a1 a2 a3 a4 a5 a6 a7 a8
  go_enter Faag.func36, Faag.ntmps36
  go_wp2_with fail
  refine wp_region_ql (fun w' => ∃ x, w' = w.ext x) 34 [0,1,2,3,5,6,7,8,9,10,11,12,14,15,16,17,19,20,21,22,24,25,26,27,29,30,31,32] [4,13,18,23,28,33] (by kernel_rfl) (by kernel_rfl) ?_ (ext_drew _) ?_
  · intro d v c a w hx
    cases d <;> exact hx
  simp only [pickOps, List.getElem?_cons_zero, List.getElem?_cons_succ, Option.toList_some, List.cons_append, List.nil_append, List.drop_succ_cons, List.drop_zero]
  repeat (go_big_quiet_step (fail))
  refine wpQuiet_nil ?_
  have hn0 : Keeps (fun _ => False) w w.drew := (Keeps.refl _ _).drew
  refine wpLd_one rfl ?_
  refine wp_app 0 (by omega) _ _ _ rfl rfl (.slice none 0 0) 0 [] rfl (own_nil _ _ _) g0 (B.len 0) c0 (B.row 0) rfl (HR.out 0 (by omega)) (row_news (HH.out _ hn0) 0 (by omega) E0.out) (row_one B 0) (by have := L.out; simp only [Bld.len]; omega) (by have := L.out; simp only [Bld.len]; omega) ?_
  intro v0 w1 o0 q0 z0
  have hn1 := hn0.trans (keeps_nil q0)
  refine ⟨World.ext_of_below (hn1.below (Nat.le_refl _) (fun _ _ => id)), ?_⟩
  rw [Nat.zero_add, List.nil_append] at o0
  obtain ⟨G0, C0, rfl⟩ := own_form o0 (by have := L.out; simp only [Bld.len]; omega)
  have l0 := (o0.lt G0 rfl).2
  have m0 : G0 = _ := (z0 G0 rfl).resolve_left (by simp [Value.ownBlock])
  refine wpLd_one rfl ?_
  refine wp_app 1 (by omega) _ _ _ rfl rfl (.slice none 0 0) 0 [] rfl (own_nil _ _ _) g1 (B.len 1) c1 (B.row 1) rfl (HR.out 1 (by omega)) (row_news (HH.out _ hn1) 1 (by omega) E1.out) (row_one B 1) (by have := L.out; simp only [Bld.len]; omega) (by have := L.out; simp only [Bld.len]; omega) ?_
  intro v1 w2 o1 q1 z1
  have hn2 := hn1.trans (keeps_nil q1)
  refine ⟨World.ext_of_below (hn2.below (Nat.le_refl _) (fun _ _ => id)), ?_⟩
  rw [Nat.zero_add, List.nil_append] at o1
  obtain ⟨G1, C1, rfl⟩ := own_form o1 (by have := L.out; simp only [Bld.len]; omega)
  have l1 := (o1.lt G1 rfl).2
  have m1 : G1 = _ := (z1 G1 rfl).resolve_left (by simp [Value.ownBlock])
  refine wpLd_one rfl ?_
  refine wp_app 2 (by omega) _ _ _ rfl rfl (.slice none 0 0) 0 [] rfl (own_nil _ _ _) g2 (B.len 2) c2 (B.row 2) rfl (HR.out 2 (by omega)) (row_news (HH.out _ hn2) 2 (by omega) E2.out) (row_one B 2) (by have := L.out; simp only [Bld.len]; omega) (by have := L.out; simp only [Bld.len]; omega) ?_
  intro v2 w3 o2 q2 z2
  have hn3 := hn2.trans (keeps_nil q2)
  refine ⟨World.ext_of_below (hn3.below (Nat.le_refl _) (fun _ _ => id)), ?_⟩
  rw [Nat.zero_add, List.nil_append] at o2
  obtain ⟨G2, C2, rfl⟩ := own_form o2 (by have := L.out; simp only [Bld.len]; omega)
  have l2 := (o2.lt G2 rfl).2
  have m2 : G2 = _ := (z2 G2 rfl).resolve_left (by simp [Value.ownBlock])
  refine wpLd_one rfl ?_
  refine wp_app 3 (by omega) _ _ _ rfl rfl (.slice none 0 0) 0 [] rfl (own_nil _ _ _) g3 (B.len 3) c3 (B.row 3) rfl (HR.out 3 (by omega)) (row_news (HH.out _ hn3) 3 (by omega) E3.out) (row_one B 3) (by have := L.out; simp only [Bld.len]; omega) (by have := L.out; simp only [Bld.len]; omega) ?_
  intro v3 w4 o3 q3 z3
  have hn4 := hn3.trans (keeps_nil q3)
  refine ⟨World.ext_of_below (hn4.below (Nat.le_refl _) (fun _ _ => id)), ?_⟩
  rw [Nat.zero_add, List.nil_append] at o3
  obtain ⟨G3, C3, rfl⟩ := own_form o3 (by have := L.out; simp only [Bld.len]; omega)
  have l3 := (o3.lt G3 rfl).2
  have m3 : G3 = _ := (z3 G3 rfl).resolve_left (by simp [Value.ownBlock])
  refine wpLd_one rfl ?_
  refine wp_app 4 (by omega) _ _ _ rfl rfl (.slice none 0 0) 0 [] rfl (own_nil _ _ _) g4 (B.len 4) c4 (B.row 4) rfl (HR.out 4 (by omega)) (row_news (HH.out _ hn4) 4 (by omega) E4.out) (row_one B 4) (by have := L.out; simp only [Bld.len]; omega) (by have := L.out; simp only [Bld.len]; omega) ?_
  intro v4 w5 o4 q4 z4
  have hn5 := hn4.trans (keeps_nil q4)
  refine ⟨World.ext_of_below (hn5.below (Nat.le_refl _) (fun _ _ => id)), ?_⟩
  rw [Nat.zero_add, List.nil_append] at o4
  obtain ⟨G4, C4, rfl⟩ := own_form o4 (by have := L.out; simp only [Bld.len]; omega)
  have l4 := (o4.lt G4 rfl).2
  have m4 : G4 = _ := (z4 G4 rfl).resolve_left (by simp [Value.ownBlock])
  refine wpLd_one rfl ?_
  refine wp_app 5 (by omega) _ _ _ rfl rfl (.slice none 0 0) 0 [] rfl (own_nil _ _ _) g5 (B.len 5) c5 (B.row 5) rfl (HR.out 5 (by omega)) (row_news (HH.out _ hn5) 5 (by omega) E5.out) (row_one B 5) (by have := L.out; simp only [Bld.len]; omega) (by have := L.out; simp only [Bld.len]; omega) ?_
  intro v5 w6 o5 q5 z5
  have hn6 := hn5.trans (keeps_nil q5)
  refine ⟨World.ext_of_below (hn6.below (Nat.le_refl _) (fun _ _ => id)), ?_⟩
  rw [Nat.zero_add, List.nil_append] at o5
  obtain ⟨G5, C5, rfl⟩ := own_form o5 (by have := L.out; simp only [Bld.len]; omega)
  have l5 := (o5.lt G5 rfl).2
  have m5 : G5 = _ := (z5 G5 rfl).resolve_left (by simp [Value.ownBlock])
  have HO0 := hide (own_keeps o0 (((((keeps_nil q1).trans (keeps_nil q2)).trans (keeps_nil q3)).trans (keeps_nil q4)).trans (keeps_nil q5)) (fun _ _ => id))
  have HO1 := hide (own_keeps o1 ((((keeps_nil q2).trans (keeps_nil q3)).trans (keeps_nil q4)).trans (keeps_nil q5)) (fun _ _ => id))
  have HO2 := hide (own_keeps o2 (((keeps_nil q3).trans (keeps_nil q4)).trans (keeps_nil q5)) (fun _ _ => id))
  have HO3 := hide (own_keeps o3 ((keeps_nil q4).trans (keeps_nil q5)) (fun _ _ => id))
  have HO4 := hide (own_keeps o4 (keeps_nil q5) (fun _ _ => id))
  have HO5 := hide o5
  have HLT := hide (show (w.heap.size ≤ G0 ∧ G0 < G1 ∧ G1 < G2 ∧ G2 < G3 ∧ G3 < G4 ∧ G4 < G5) ∧ G5 < w6.heap.size from by
    have := hn0.size
    have := q0.size
    have := q1.size
    have := q2.size
    have := q3.size
    have := q4.size
    have := q5.size
    omega)
  have HN := hide hn6
  clear o0 o1 o2 o3 o4 o5 q0 q1 q2 q3 q4 q5 z0 z1 z2 z3 z4 z5 l0 l1 l2 l3 l4 l5 m0 m1 m2 m3 m4 m5 hn0 hn1 hn2 hn3 hn4 hn5 hn6 f0 f1 f2 f3 f4 f5 k1 k2 k3 k4
  unfold wpLd
  go_wp2_with fail
  go_ret
  have hrow := RowAt.of_alloc w6 (fields (six (.slice (some ⟨G0, 0, none⟩) (B.len 0) C0) (.slice (some ⟨G1, 0, none⟩) (B.len 1) C1) (.slice (some ⟨G2, 0, none⟩) (B.len 2) C2) (.slice (some ⟨G3, 0, none⟩) (B.len 3) C3) (.slice (some ⟨G4, 0, none⟩) (B.len 4) C4) (.slice (some ⟨G5, 0, none⟩) (B.len 5) C5)) B.slot) 61
  rw [HS.out] at hrow
  have hsz := HN.out.size
  have hlt := HLT.out
  obtain ⟨H, h1, h2⟩ := six_hb (g := six' G0 G1 G2 G3 G4 G5) (c := six' C0 C1 C2 C3 C4 C5) (q := w6.heap.size) (B := B) HO.out (by rw [HS.out]; exact hrow) (fun i hi => by
    match i, hi with
    | 0, _ => exact own_keeps HO0.out ((Keeps.refl _ _).alloc _) (fun _ _ => id)
    | 1, _ => exact own_keeps HO1.out ((Keeps.refl _ _).alloc _) (fun _ _ => id)
    | 2, _ => exact own_keeps HO2.out ((Keeps.refl _ _).alloc _) (fun _ _ => id)
    | 3, _ => exact own_keeps HO3.out ((Keeps.refl _ _).alloc _) (fun _ _ => id)
    | 4, _ => exact own_keeps HO4.out ((Keeps.refl _ _).alloc _) (fun _ _ => id)
    | 5, _ => exact own_keeps HO5.out ((Keeps.refl _ _).alloc _) (fun _ _ => id)) hlt.1.2.1 hlt.1.2.2.1 hlt.1.2.2.2.1 hlt.1.2.2.2.2.1 hlt.1.2.2.2.2.2 hlt.2
  exact ⟨_, H, rfl, h1, (HN.out.below (Nat.le_refl _) (fun _ _ => id)).trans ((Below.refl _ _).alloc hsz _), fun k hk => Nat.le_trans hlt.1.1 (h2 k hk)⟩
end Go.Proofs.Ygcfaa
