import Derived.Test.YgcfaaList
import Derived.Test.YgcfaaDrop
namespace Go.Proofs.Ygcfaa
open Go.RowKit Bits Bd
set_option linter.unusedVariables false
set_option maxRecDepth 100000
set_option linter.unusedSimpArgs false
attribute [local go_sem] World.cell?_ext World.frozen?_ext

namespace Bd
structure Dk where
  under : List Bool
  K : Bk
def dropStepK (oh oi h : Nat) (d : Dk) : Dk :=
  if (d.K.at_ h).dead = false ∧ (((d.K.at_ h).up = oh ∧ (d.K.at_ h).via = oi) ∨ d.under.getD (d.K.at_ h).up false = true) then ⟨d.under.set h true, d.K.putDead h true⟩ else d
def dropGoK (oh oi : Nat) : Nat → Nat → Dk → Dk
  | 0, _, d => d
  | k + 1, h, d => dropGoK oh oi k (h + 1) (dropStepK oh oi h d)
/-- book.drop -/
def dropK (K : Bk) (op : Opn) : Option Bk :=
  if op.i < (K.at_ op.h).set.length ∧ (K.at_ op.h).set.getD op.i false = true then
    some (dropGoK op.h op.i (K.e.length - 1) 1 ⟨List.replicate 256 false, K.putSet op.h ((K.at_ op.h).set.set op.i false)⟩).K
  else none
structure Bk.Fit2 (K : Bk) : Prop where
  up : ∀ i, (K.at_ i).up < 256
  via : ∀ i, (K.at_ i).via < 65536
end Bd

theorem dropGoK_succ (oh oi : Nat) : ∀ (k h : Nat) (d : Dk), dropGoK oh oi (k + 1) h d = dropStepK oh oi (h + k) (dropGoK oh oi k h d)
  | 0, h, d => rfl
  | k + 1, h, d => by
    rw [dropGoK, dropGoK_succ oh oi k (h + 1) (dropStepK oh oi h d), show h + 1 + k = h + (k + 1) by omega]
    rfl
/-- What a step leaves as it was. -/
structure SameK (K K' : Bk) : Prop where
  n : K'.e.length = K.e.length
  len : K'.len = K.len
  up : ∀ i, (K'.at_ i).up = (K.at_ i).up
  via : ∀ i, (K'.at_ i).via = (K.at_ i).via
  set : ∀ i, (K'.at_ i).set = (K.at_ i).set
theorem SameK.refl (K : Bk) : SameK K K := ⟨rfl, rfl, fun _ => rfl, fun _ => rfl, fun _ => rfl⟩
theorem SameK.trans {K K' K'' : Bk} (a : SameK K K') (b : SameK K' K'') : SameK K K'' := ⟨b.n.trans a.n, b.len.trans a.len, fun i => (b.up i).trans (a.up i), fun i => (b.via i).trans (a.via i), fun i => (b.set i).trans (a.set i)⟩
theorem putDead_out (K : Bk) {h : Nat} (hh : ¬ h < K.e.length) (x : Bool) : K.putDead h x = K := by
  unfold Bk.putDead
  rw [List.set_eq_of_length_le (by omega)]
theorem putDead_same (K : Bk) (h : Nat) (x : Bool) : SameK K (K.putDead h x) := by
  by_cases hh : h < K.e.length
  · refine ⟨putDead_len _ _ _, rfl, fun i => ?_, fun i => ?_, fun i => ?_⟩ <;>
    · rw [putDead_at K hh]
      split
      · rename_i e; rw [e]
      · rfl
  · rw [putDead_out K hh]; exact SameK.refl K
theorem dropStepK_same (oh oi h : Nat) (d : Dk) : SameK d.K (dropStepK oh oi h d).K ∧ (dropStepK oh oi h d).under.length = d.under.length := by
  unfold dropStepK
  split
  · exact ⟨putDead_same _ _ _, by simp⟩
  · exact ⟨SameK.refl _, rfl⟩
theorem dropGoK_same (oh oi : Nat) : ∀ (k h : Nat) (d : Dk), SameK d.K (dropGoK oh oi k h d).K ∧ (dropGoK oh oi k h d).under.length = d.under.length
  | 0, h, d => ⟨SameK.refl _, rfl⟩
  | k + 1, h, d => by
    rw [dropGoK]
    have h1 := dropStepK_same oh oi h d
    have h2 := dropGoK_same oh oi k (h + 1) (dropStepK oh oi h d)
    exact ⟨h1.1.trans h2.1, h2.2.trans h1.2⟩

set_option maxHeartbeats 4000000 in
theorem dropK_no (op : Opn) (hop : op.Ok) {w : World} {b : Nat} {r : Value} {s : Nat → Value} {K : Bk} (hb : HK w b r s K) (hlt : op.h < K.e.length) (fit : K.Fit) (hno : dropK K op = none) :
    Calls Faag.prog 83 #[.pointer (some ⟨b, 0, none⟩), .agg (opC op).toArray] w fun e w' => e = .returned (.bool false) ∧ Below w.heap.size w w' := by
  have hcase : ¬ op.i < (K.at_ op.h).set.length ∨ (op.i < (K.at_ op.h).set.length ∧ (K.at_ op.h).set.getD op.i false = false) := by
    unfold dropK at hno
    split at hno
    · cases hno
    · rename_i h
      by_cases h1 : op.i < (K.at_ op.h).set.length
      · refine .inr ⟨h1, ?_⟩
        cases hh : (K.at_ op.h).set.getD op.i false
        · rfl
        · exact absurd ⟨h1, hh⟩ h
      · exact .inl h1
  clear hno
  obtain ⟨g, c, hr, hg, hgb, hcs⟩ := hb.entAt hlt
  obtain ⟨a, c2, hs, hset⟩ := hb.setAt hlt
  have c9 := (hcs 9 _ rfl).1
  have hbl : b < w.heap.size := hb.lt ⟨0, rfl⟩
  rw [hs] at c9
  have hn := fit.n
  have hL := fit.set op.h
  have HN := hide (fun (W : World) (hW : Below w.heap.size w W) => named_calls op hop (hb.below hW) hlt fit.n hr (fit.set _))
  generalize (K.at_ op.h).set.length = L at *
  generalize K.e.length = n at *
  obtain ⟨kind, x, i, X, Y, N, V, st⟩ := op
  obtain ⟨o1, o2, o3, o4, o5, o6, o7⟩ := hop
  unfold opC at HN ⊢
  dsimp only at *
  clear hcs hs hb fit
  rcases hcase with h1 | ⟨h1, h2⟩
  · have d1 : decide (i < L) = false := by simpa using h1
    go_enter Faag.func83, Faag.ntmps83
    go_wp2_with fail
    refine (HN.out _ ((Below.refl _ w).alloc (Nat.le_refl _) _)).mono ?_
    rintro e w1 ⟨rfl, bl1⟩
    obtain ⟨x1, rfl⟩ := World.ext_of_below bl1
    rw [d1]
    clear bl1
    go_wp2_with fail
    refine wp_region_qy _ 9 (by kernel_rfl) (by kernel_rfl) ⟨x1, rfl⟩ ?_
    simp only [List.take_succ_cons, List.take_zero, List.drop_succ_cons, List.drop_zero]
    repeat (go_big_quiet_step (fail))
    refine wpQuiet_nil ?_
    rintro _ ⟨x2, rfl⟩
    go_wp2_with fail
    go_ret
    exact ⟨rfl, ((Below.refl _ w).alloc (Nat.le_refl _) _).trans ((World.below_ext _ x2).mono (by simp))⟩
  · obtain ⟨gs, rfl, hgs, _, _, bit⟩ := hset (by omega)
    have b1 := (bit i h1).1
    rw [h2] at b1
    clear bit hset
    have d1 : decide (i < L) = true := by simpa using h1
    go_enter Faag.func83, Faag.ntmps83
    go_wp2_with fail
    refine (HN.out _ ((Below.refl _ w).alloc (Nat.le_refl _) _)).mono ?_
    rintro e w1 ⟨rfl, bl1⟩
    obtain ⟨x1, rfl⟩ := World.ext_of_below bl1
    rw [d1]
    clear bl1
    go_wp2_with fail
    refine wp_region_qy _ 9 (by kernel_rfl) (by kernel_rfl) ⟨x1, rfl⟩ ?_
    simp only [List.take_succ_cons, List.take_zero, List.drop_succ_cons, List.drop_zero]
    repeat (go_big_quiet_step (fail))
    refine wpQuiet_nil ?_
    rintro _ ⟨x2, rfl⟩
    go_wp2_with fail
    go_ret
    exact ⟨rfl, ((Below.refl _ w).alloc (Nat.le_refl _) _).trans ((World.below_ext _ x2).mono (by simp))⟩
end Go.Proofs.Ygcfaa
