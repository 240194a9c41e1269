import Derived.Test.YgcfaaGreatSlot
namespace Go.Proofs.YgcfaaGreat
open Go.RowKit Bits Bd
set_option linter.unusedVariables false
set_option maxRecDepth 100000
set_option linter.unusedSimpArgs false
attribute [local go_sem] World.cell?_ext World.frozen?_ext

/-- A row of the builder, in memory. -/
theorem HB.rowAt {w : World} {p : Nat} {h : Nat → Value} {B : Bld} (hb : HB w p h B) (i : Nat) (hi : i < 6) (hn : 0 < B.len i) :
    ∃ g c, h i = .slice (some ⟨g, 0, none⟩) (B.len i) c ∧ g < w.heap.size ∧ g ≠ p ∧ ∀ j u, (B.row i)[j]? = some u → w.cell? ⟨g, j, none⟩ = some u ∧ w.frozen? ⟨g, j, none⟩ = false := by
  have ho := hb.own i hi
  obtain ⟨g, c, hv⟩ := own_form ho hn
  have hne := blks_ne hb hi hv
  rw [hv] at ho
  exact ⟨g, c, hv, own_lt ho, hne, fun j u hu => own_cell ho hu⟩
theorem HB.aAt {w : World} {p : Nat} {h : Nat → Value} {B : Bld} (hb : HB w p h B) {j : Nat} (hj : j < B.A.length) :
    ∃ g c, h 0 = .slice (some ⟨g, 0, none⟩) B.A.length c ∧ g < w.heap.size ∧ g ≠ p ∧ w.cell? ⟨g, j, none⟩ = some (.int .u64 (B.A.getD j 0 : Nat)) ∧ w.frozen? ⟨g, j, none⟩ = false := by
  obtain ⟨g, c, h1, h2, h3, h4⟩ := hb.rowAt 0 (by omega) (by show 0 < B.A.length; omega)
  exact ⟨g, c, h1, h2, h3, h4 j _ (U_get hj)⟩
theorem rowU8_get {l : List Nat} {j : Nat} (hj : j < l.length) : (rowU8 l)[j]? = some (.int .u8 (l.getD j 0 : Nat)) := by simp [rowU8, hj]
theorem HB.dAt {w : World} {p : Nat} {h : Nat → Value} {B : Bld} (hb : HB w p h B) {j : Nat} (hj : j < B.depth.length) :
    ∃ g c, h 4 = .slice (some ⟨g, 0, none⟩) B.depth.length c ∧ g < w.heap.size ∧ w.cell? ⟨g, j, none⟩ = some (.int .u8 (B.depth.getD j 0 : Nat)) := by
  obtain ⟨g, c, h1, h2, _, h4⟩ := hb.rowAt 4 (by omega) (by show 0 < B.depth.length; omega)
  exact ⟨g, c, h1, h2, (h4 j _ (rowU8_get hj)).1⟩

/-- build.Op's cells -/
def opC (o : Opn) : List Value := [.int .u8 (o.kind : Nat), .int .u8 (o.h : Nat), .int .u8 (o.i : Nat), .int .u8 (o.x : Nat), .int .u8 (o.y : Nat), .int .u16 (o.n : Nat), .int .u64 (o.v : Nat), .string o.s]

/-- What the builder needs of a handle. -/
structure Live (B : Bld) (x : Nat) : Prop where
  even : evenP B
  lt : x < B.obj.length
  at_ : (B.o x).at_ ≤ 60000

set_option maxHeartbeats 8000000 in
theorem room_calls (op : Opn) (hop : op.Ok) (words handles : Nat) (hwl : words < 65536) (hhl : handles < 100000) {w : World} {p : Nat} {h : Nat → Value} {B : Bld} (hb : HB w p h B) (hl : Live B op.h) :
    Calls Faag.prog 80 #[.pointer (some ⟨p, 0, none⟩), .agg (opC op).toArray, .int .u16 words, .int .i64 handles] w fun e w' => RetAt e (roomB B op.h op.i words handles) ∧ Below w.heap.size w w' := by
  have hev := hl.even
  obtain ⟨⟨a1, a2⟩, ⟨a3, a4⟩, _, _, a5, _⟩ := hev
  obtain ⟨kind, x, i, X, Y, N, V, s⟩ := op
  obtain ⟨o1, o2, o3, o4, o5, o6, o7⟩ := hop
  unfold opC
  dsimp only at o1 o2 o3 o4 o5 o6 o7 hl ⊢
  have hlt := hl.lt
  have hsc := hide (fun o => slot_calls x i o2 o3 (hb.alloc o) hlt (by omega) hl.at_)
  obtain ⟨gd, cd, hd1, hd2, cD⟩ := hb.dAt (j := x) (by omega)
  obtain ⟨c4, _⟩ := hb.cell 4 (by omega)
  obtain ⟨c0, _⟩ := hb.cell 0 (by omega)
  obtain ⟨c1, _⟩ := hb.cell 1 (by omega)
  obtain ⟨b1, cp1, hv1, _⟩ := own_len (hb.own 1 (by omega))
  obtain ⟨b0, cp0, hv0, _⟩ := own_len (hb.own 0 (by omega))
  simp only [fOff, Nat.reduceAdd, Bld.len] at c4 c0 c1 hv0 hv1
  rw [hd1] at c4
  rw [hv0] at c0
  rw [hv1] at c1
  have hp : p < w.heap.size := hb.lt ⟨0, rfl⟩
  obtain ⟨S, hS⟩ : ∃ S, S = slotB B x i := ⟨_, rfl⟩
  have hR : (S = none → roomB B x i words handles = none) ∧ ∀ a, S = some a → roomB B x i words handles = if B.A.getD a 0 = 0 ∧ B.depth.getD x 0 < 8 ∧ B.A.length + words ≤ 256 ∧ B.obj.length + handles ≤ 256 then some a else none := by
    rw [hS]
    constructor
    · intro e; unfold roomB; rw [e]
    · intro a e; unfold roomB; rw [e]
  have hSlt : ∀ a, S = some a → a < B.A.length := by
    intro a ha
    rw [hS] at ha
    unfold slotB at ha
    split at ha
    · cases ha
    · split at ha
      · rename_i h1; cases ha; exact h1
      · cases ha
  generalize roomB B x i words handles = R at *
  rw [← hS] at hsc
  have HAt := hide (fun a (ha : a < B.A.length) => hb.aAt ha)
  have hDl : B.depth.getD x 0 < 256 := hb.ok.depth x
  have hAl : ∀ a, B.A.getD a 0 < 18446744073709551616 := hb.ok.A
  generalize B.depth.getD x 0 = D at *
  have HR := hide hR
  clear hb hl hd1 hv1 hS hR
  go_enter Faag.func80, Faag.ntmps80
  go_wp2_with fail
  refine (hsc.out _).mono ?_
  rintro e w1 ⟨⟨a, r, rfl, hr, hal⟩, hb1⟩
  obtain ⟨x1, rfl⟩ := World.ext_of_below hb1
  clear hb1
  rcases hr with ⟨rfl, hr⟩ | ⟨rfl, hr⟩
  · have ha := hSlt a hr
    obtain ⟨ga, ca, hga, hgl, hgp, cA, _⟩ := HAt.out a ha
    have hAv := hAl a
    have HR2 := hide (HR.out.2 a hr)
    generalize B.A.getD a 0 = Av at *
    rw [hga] at hv0
    cases hv0
    generalize B.A.length = n0 at *
    generalize B.obj.length = n1 at *
    generalize B.depth.length = n4 at *
    clear HAt hsc hAl hSlt HR hr
    by_cases e1 : Av = 0
    · have g1 : ((Av : Int) != 0) = false := by simp; omega
      by_cases e2 : D < 8
      · clear e1
        go_wp2_with fail
        refine wp_region_qd 19 (by kernel_rfl) (by kernel_rfl) ?_
        simp only [List.take_succ_cons, List.take_zero, List.drop_succ_cons, List.drop_zero]
        repeat (go_big_quiet_step (fail))
        refine wpQuiet_nil ?_
        rintro _ ⟨nq, rfl⟩
        by_cases e3 : n0 + words ≤ 256
        · by_cases e4 : n1 + handles ≤ 256
          · go_wp2_with fail
            have e1 : Av = 0 := by simpa using g1
            go_ret2
            exact ⟨⟨a, true, by first | rfl | (refine retAt_eq (by omega) rfl), by rw [HR2.out]; exact .inl ⟨rfl, if_pos (by omega)⟩, by omega⟩, (((Below.refl _ _).alloc (Nat.le_refl _) _).step (World.below_ext _ _)).step (below_drewN _ _)⟩
          · go_wp2_with fail
            go_ret2
            exact ⟨⟨0, false, by first | rfl | (refine retAt_eq (by omega) rfl), by rw [HR2.out]; exact .inr ⟨rfl, if_neg (by omega)⟩, by omega⟩, (((Below.refl _ _).alloc (Nat.le_refl _) _).step (World.below_ext _ _)).step (below_drewN _ _)⟩
        · go_wp2_with fail
          go_ret2
          exact ⟨⟨0, false, by first | rfl | (refine retAt_eq (by omega) rfl), by rw [HR2.out]; exact .inr ⟨rfl, if_neg (by omega)⟩, by omega⟩, (((Below.refl _ _).alloc (Nat.le_refl _) _).step (World.below_ext _ _)).step (below_drewN _ _)⟩
      · clear e1
        go_wp2_with fail
        refine wp_region_qd 19 (by kernel_rfl) (by kernel_rfl) ?_
        simp only [List.take_succ_cons, List.take_zero, List.drop_succ_cons, List.drop_zero]
        repeat (go_big_quiet_step (fail))
        refine wpQuiet_nil ?_
        rintro _ ⟨nq, rfl⟩
        go_wp2_with fail
        go_ret2
        exact ⟨⟨0, false, by first | rfl | (refine retAt_eq (by omega) rfl), by rw [HR2.out]; exact .inr ⟨rfl, if_neg (by omega)⟩, by omega⟩, (((Below.refl _ _).alloc (Nat.le_refl _) _).step (World.below_ext _ _)).step (below_drewN _ _)⟩
    · have g1 : ((Av : Int) != 0) = true := by simp; omega
      go_wp2_with fail
      refine wp_region_qd 19 (by kernel_rfl) (by kernel_rfl) ?_
      simp only [List.take_succ_cons, List.take_zero, List.drop_succ_cons, List.drop_zero]
      repeat (go_big_quiet_step (fail))
      refine wpQuiet_nil ?_
      rintro _ ⟨nq, rfl⟩
      go_wp2_with fail
      go_ret2
      exact ⟨⟨0, false, by first | rfl | (refine retAt_eq (by omega) rfl), by rw [HR2.out]; exact .inr ⟨rfl, if_neg (by omega)⟩, by omega⟩, (((Below.refl _ _).alloc (Nat.le_refl _) _).step (World.below_ext _ _)).step (below_drewN _ _)⟩
  · have HR2 := hide (HR.out.1 hr)
    clear HAt hsc hSlt HR hr
    go_wp2_with fail
    refine wp_region_qd 19 (by kernel_rfl) (by kernel_rfl) ?_
    simp only [List.take_succ_cons, List.take_zero, List.drop_succ_cons, List.drop_zero]
    repeat (go_big_quiet_step (fail))
    refine wpQuiet_nil ?_
    rintro _ ⟨nq, rfl⟩
    go_wp2_with fail
    go_ret2
    exact ⟨⟨0, false, rfl, .inr ⟨rfl, HR2.out⟩, by omega⟩, (((Below.refl _ _).alloc (Nat.le_refl _) _).step (World.below_ext _ _)).step (below_drewN _ _)⟩
end Go.Proofs.YgcfaaGreat
