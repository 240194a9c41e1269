import Derived.Test.YgcfaaMake
namespace Go.Proofs.Ygcfaa
open Go.RowKit Bits Bd
set_option linter.unusedVariables false
set_option maxRecDepth 100000
set_option linter.unusedSimpArgs false
attribute [local go_sem] World.cell?_ext World.frozen?_ext

set_option maxHeartbeats 8000000 in
theorem make_no (op : Opn) (hop : op.Ok) (made : Ent) (sv : Value) (words elements : Nat) (hw : words ≤ 10000000) (hel : elements ≤ 65535) {w : World} {b : Nat} {r : Value} {s : Nat → Value} {K : Bk} (hb : HK w b r s K) (hlt : op.h < K.e.length) (hn : K.e.length ≤ 256) (hL : (K.at_ op.h).set.length ≤ 256) (hD : (K.at_ op.h).depth ≤ 100) (hlen : K.len ≤ 256)
    (hno : makeK K op made words elements = none) :
    Calls Faag.prog 81 #[.pointer (some ⟨b, 0, none⟩), .agg (opC op).toArray, .agg (entC made sv).toArray, .int .i64 (words : Int), .int .i64 (elements : Int)] w fun e w' => e = .returned (.bool false) ∧ Below w.heap.size w w' := by
  have hcase : ¬ op.i < (K.at_ op.h).set.length ∨ (op.i < (K.at_ op.h).set.length ∧ (K.at_ op.h).set.getD op.i false = true) ∨ (op.i < (K.at_ op.h).set.length ∧ (K.at_ op.h).set.getD op.i false = false ∧ 8 < (K.at_ op.h).depth + 1) ∨
      (op.i < (K.at_ op.h).set.length ∧ (K.at_ op.h).set.getD op.i false = false ∧ (K.at_ op.h).depth + 1 ≤ 8 ∧ 256 < K.len + words) ∨ (op.i < (K.at_ op.h).set.length ∧ (K.at_ op.h).set.getD op.i false = false ∧ (K.at_ op.h).depth + 1 ≤ 8 ∧ K.len + words ≤ 256 ∧ 256 < K.e.length + 1 + elements) := by
    unfold makeK at hno
    split at hno
    · cases hno
    · rename_i h
      by_cases h1 : op.i < (K.at_ op.h).set.length
      · by_cases h2 : (K.at_ op.h).set.getD op.i false = true
        · exact .inr (.inl ⟨h1, h2⟩)
        · have h2' : (K.at_ op.h).set.getD op.i false = false := by simpa using h2
          by_cases h3 : (K.at_ op.h).depth + 1 ≤ 8
          · by_cases h4 : K.len + words ≤ 256
            · exact .inr (.inr (.inr (.inr ⟨h1, h2', h3, h4, by
                by_cases h5 : K.e.length + 1 + elements ≤ 256
                · exact absurd ⟨h1, h2', h3, h4, h5⟩ h
                · omega⟩)))
            · exact .inr (.inr (.inr (.inl ⟨h1, h2', h3, by omega⟩)))
          · exact .inr (.inr (.inl ⟨h1, h2', by omega⟩))
      · exact .inl h1
  clear hno
  obtain ⟨g, c, hr, hg, hgb, hcs⟩ := hb.entAt hlt
  obtain ⟨a, c2, hs, hset⟩ := hb.setAt hlt
  have c6 := (hcs 6 _ rfl).1
  have c9 := (hcs 9 _ rfl).1
  obtain ⟨l0, _, l1, _⟩ := hb.lenAt
  have hbl : b < w.heap.size := hb.lt ⟨0, rfl⟩
  have hbl1 : b < w.heap.size + 1 := by omega
  have hg1 : g < w.heap.size + 1 := by omega
  rw [hs] at c9
  rw [hr] at l0
  have HN := hide (fun (W : World) (hW : Below w.heap.size w W) => named_calls op hop (hb.below hW) hlt hn hr hL)
  generalize (K.at_ op.h).set.length = L at *
  generalize K.e.length = n at *
  generalize (K.at_ op.h).depth = D at *
  generalize K.len = ln at *
  obtain ⟨kind, x, i, X, Y, N, V, st⟩ := op
  obtain ⟨o1, o2, o3, o4, o5, o6, o7⟩ := hop
  obtain ⟨mdead, mkind, mcode, mdata, mptrs, mcount, mdepth, mup, mvia, mset⟩ := made
  unfold opC at HN ⊢
  unfold entC
  dsimp only at *
  clear hcs hs hb
  rcases hcase with h1 | ⟨h1, h2⟩ | ⟨h1, h2, h3⟩ | ⟨h1, h2, h3, h4⟩ | ⟨h1, h2, h3, h4, h5⟩
  · have d1 : decide (i < L) = false := by simpa using h1
    go_enter Faag.func81, Faag.ntmps81
    go_wp2_with fail
    refine (HN.out _ (((Below.refl _ w).alloc (Nat.le_refl _) _).alloc (by simp) _)).mono ?_
    rintro e w1 ⟨rfl, bl1⟩
    obtain ⟨x1, rfl⟩ := World.ext_of_below bl1
    rw [d1]
    clear bl1
    go_wp2_with fail
    refine wp_region_qy _ 37 (by kernel_rfl) (by kernel_rfl) ⟨x1, rfl⟩ ?_
    simp only [List.take_succ_cons, List.take_zero, List.drop_succ_cons, List.drop_zero]
    repeat (go_big_quiet_step (fail))
    refine wpQuiet_nil ?_
    rintro _ ⟨x2, rfl⟩
    go_wp2_with fail
    go_ret
    exact ⟨rfl, (((Below.refl _ w).alloc (Nat.le_refl _) _).alloc (by simp) _).trans ((World.below_ext _ x2).mono (by simp; omega))⟩
  all_goals
    obtain ⟨gs, rfl, hgs, _, _, bit⟩ := hset (by omega)
    have hgs1 : gs < w.heap.size + 1 := by omega
    have b1 := (bit i h1).1
    rw [h2] at b1
    clear bit hset
    have d1 : decide (i < L) = true := by simpa using h1
    try have e3 : decide ((8 : Int) < (D : Int) + 1) = true := by rw [decide_eq_true_iff]; omega
    try have e3 : decide ((8 : Int) < (D : Int) + 1) = false := by rw [decide_eq_false_iff_not]; omega
    try have e4 : decide ((256 : Int) < (ln : Int) + (words : Int)) = true := by rw [decide_eq_true_iff]; omega
    try have e4 : decide ((256 : Int) < (ln : Int) + (words : Int)) = false := by rw [decide_eq_false_iff_not]; omega
    try have e5 : decide ((256 : Int) < (n : Int) + 1 + (elements : Int)) = true := by rw [decide_eq_true_iff]; omega
    go_enter Faag.func81, Faag.ntmps81
    go_wp2_with fail
    refine (HN.out _ (((Below.refl _ w).alloc (Nat.le_refl _) _).alloc (by simp) _)).mono ?_
    rintro e w1 ⟨rfl, bl1⟩
    obtain ⟨x1, rfl⟩ := World.ext_of_below bl1
    rw [d1]
    clear bl1
    go_wp2_with fail
    refine wp_region_qy _ 37 (by kernel_rfl) (by kernel_rfl) ⟨x1, rfl⟩ ?_
    simp only [List.take_succ_cons, List.take_zero, List.drop_succ_cons, List.drop_zero]
    repeat (go_big_quiet_step (fail))
    refine wpQuiet_nil ?_
    rintro _ ⟨x2, rfl⟩
    go_wp2_with fail
    go_ret
    exact ⟨rfl, (((Below.refl _ w).alloc (Nat.le_refl _) _).alloc (by simp) _).trans ((World.below_ext _ x2).mono (by simp; omega))⟩
end Go.Proofs.Ygcfaa
