import Derived.Test.YgcfaaDropY
namespace Go.Proofs.Ygcfaa
open Go.RowKit Bits Bd
set_option linter.unusedVariables false
set_option maxRecDepth 100000
set_option linter.unusedSimpArgs false
attribute [local go_sem] World.cell?_ext World.frozen?_ext Kw.cell Kw.frozen

namespace Bd
/-- book.takes; what the text's bytes say is handed in. -/
def takesK (K : Bk) (op : Opn) (content : Bool) : Option Bk :=
  if op.h < K.e.length ∧ (K.at_ op.h).dead = false then
    if op.kind = 0 then
      if 8 < op.x ∨ 8 < op.y then none else makeK K op ⟨false, 1, 0, op.x, op.y, 0, 0, 0, 0, List.replicate op.y false⟩ (op.x + op.y) 0
    else if op.kind = 1 then listK K op
    else if op.kind = 2 then
      if content = true then makeK K op ⟨false, 2, 2, 0, 0, op.s.size + 1, 0, 0, 0, []⟩ ((op.s.size + 1 + 7) / 8) 0 else none
    else if op.kind = 3 then
      if (op.x = 0 ∨ op.x = 3 ∨ op.x = 4 ∨ op.x = 5 ∨ op.x = 6) ∧ (K.at_ op.h).kind = 1 ∧ (op.n + 1) * 2 ^ op.x ≤ 64 * (K.at_ op.h).data then some K else none
    else if op.kind = 4 then
      if (K.at_ op.h).kind = 2 ∧ 2 ≤ (K.at_ op.h).code ∧ (K.at_ op.h).code ≤ 5 ∧ op.n < (K.at_ op.h).count then some K else none
    else if op.kind = 5 then dropK K op
    else none
  else none
structure Bk.Fit3 (K : Bk) : Prop where
  kind : ∀ i, (K.at_ i).kind < 256
  code : ∀ i, (K.at_ i).code < 256
  data : ∀ i, (K.at_ i).data ≤ 255
  count : ∀ i, (K.at_ i).count ≤ 65536
end Bd

theorem KOut.same {w W : World} {b : Nat} {r : Value} {s : Nat → Value} {K : Bk} (hb : HK w b r s K) (bl : Below w.heap.size w W) {R : Option Bk} (v : Bool) (hR : R = if v = true then some K else none) : KOut b r s K w R (.returned (.bool v)) W := by
  subst hR
  cases v
  · exact ⟨rfl, r, s, hb.below bl, MvK.of_below bl⟩
  · exact ⟨rfl, r, s, hb.below bl, MvK.of_below bl⟩

set_option maxHeartbeats 4000000 in
theorem takes_none (op : Opn) (hop : op.Ok) {w : World} {b : Nat} {r : Value} {s : Nat → Value} {K : Bk} (hb : HK w b r s K) (fit : K.Fit) (fit2 : K.Fit2) (fit3 : K.Fit3) (h : ¬ (op.h < K.e.length ∧ (K.at_ op.h).dead = false)) {R : Option Bk} (hR : R = none) : Calls Faag.prog 35 #[.pointer (some ⟨b, 0, none⟩), .agg (opC op).toArray] w (KOut b r s K w R) := by
  have HKO := hide (fun (W : World) (bl : Below w.heap.size w W) => KOut.same hb bl (R := R) false hR)
  obtain ⟨l0, _, _, _⟩ := hb.lenAt
  obtain ⟨a, cc, hv, _⟩ := own_len hb.own
  rw [hv] at l0
  have hbl : b < w.heap.size := hb.lt ⟨0, rfl⟩
  have hn := fit.n
  by_cases hlt : op.h < K.e.length
  · have hdead : (K.at_ op.h).dead = true := by
      cases hd : (K.at_ op.h).dead
      · exact absurd ⟨hlt, hd⟩ h
      · rfl
    obtain ⟨g, c, hr, hg, hgb, hcs⟩ := hb.entAt hlt
    have c0 := (hcs 0 _ rfl).1
    simp only [Nat.add_zero] at c0
    rw [hdead] at c0
    rw [hr] at hv
    simp only [Value.slice.injEq, true_and] at hv
    obtain ⟨rfl, rfl⟩ := hv
    have hle : decide (K.e.length ≤ op.h) = false := by simpa using hlt
    generalize K.e.length = n at *
    clear hcs hdead h hb fit fit2 fit3 hr
    obtain ⟨kind, x, i, X, Y, N, V, st⟩ := op
    obtain ⟨o1, o2, o3, o4, o5, o6, o7⟩ := hop
    unfold opC
    dsimp only at *
    go_enter Faag.func35, Faag.ntmps35
    go_wp2_with fail
    refine wp_region_qx 16 (by kernel_rfl) (by kernel_rfl) ?_
    simp only [List.take_succ_cons, List.take_zero, List.drop_succ_cons, List.drop_zero]
    repeat (go_big_quiet_step (fail))
    refine wpQuiet_nil ?_
    rintro _ ⟨x1, rfl⟩
    go_wp2_with fail
    go_ret
    exact HKO.out _ (((Below.refl _ w).alloc (Nat.le_refl _) _).trans ((World.below_ext _ x1).mono (by simp)))
  · have hle : decide (K.e.length ≤ op.h) = true := by simpa using hlt
    generalize K.e.length = n at *
    clear h hb fit fit2 fit3 hv
    obtain ⟨kind, x, i, X, Y, N, V, st⟩ := op
    obtain ⟨o1, o2, o3, o4, o5, o6, o7⟩ := hop
    unfold opC
    dsimp only at *
    go_enter Faag.func35, Faag.ntmps35
    go_wp2_with fail
    refine wp_region_qx 16 (by kernel_rfl) (by kernel_rfl) ?_
    simp only [List.take_succ_cons, List.take_zero, List.drop_succ_cons, List.drop_zero]
    repeat (go_big_quiet_step (fail))
    refine wpQuiet_nil ?_
    rintro _ ⟨x1, rfl⟩
    go_wp2_with fail
    go_ret
    exact HKO.out _ (((Below.refl _ w).alloc (Nat.le_refl _) _).trans ((World.below_ext _ x1).mono (by simp)))

set_option maxHeartbeats 4000000 in
theorem takes_1 (op : Opn) (hop : op.Ok) {w : World} {b : Nat} {r : Value} {s : Nat → Value} {K : Bk} (hb : HK w b r s K) (fit : K.Fit) (fit2 : K.Fit2) (fit3 : K.Fit3) (hlt : op.h < K.e.length) (hdead : (K.at_ op.h).dead = false) (hk : op.kind = 1) {R : Option Bk} (hR : R = listK K op) : Calls Faag.prog 35 #[.pointer (some ⟨b, 0, none⟩), .agg (opC op).toArray] w (KOut b r s K w R) := by
  have HC := hide (fun (W : World) (bl : Below w.heap.size w W) => list_calls op hop (hb.below bl) hlt fit)
  have HOUT := hide (fun (W W' : World) (e : Ending) (bl : Below w.heap.size w W) (h : KOut b r s K W (listK K op) e W') => show KOut b r s K w (listK K op) e W' from by
    obtain ⟨h1, r', s', h2, h3⟩ := h
    exact ⟨h1, r', s', h2, (MvK.of_below bl).trans h3⟩)
  obtain ⟨g, c, hr, hg, hgb, hcs⟩ := hb.entAt hlt
  have c0 := (hcs 0 _ rfl).1
  have c1 := (hcs 1 _ rfl).1
  have c2 := (hcs 2 _ rfl).1
  have c3 := (hcs 3 _ rfl).1
  have c5 := (hcs 5 _ rfl).1
  simp only [Nat.add_zero] at c0
  rw [hdead] at c0
  obtain ⟨l0, _, _, _⟩ := hb.lenAt
  rw [hr] at l0
  have hbl : b < w.heap.size := hb.lt ⟨0, rfl⟩
  have hn := fit.n
  have hle : decide (K.e.length ≤ op.h) = false := by simpa using hlt
  have k1 := fit3.kind op.h
  have k2 := fit3.code op.h
  have k3 := fit3.data op.h
  have k4 := fit3.count op.h
  clear hcs
  generalize K.e.length = n at *
  clear hdead hb fit fit2 fit3 hr
  generalize (listK K op) = R2 at *
  subst hR
  obtain ⟨kind, x, i, X, Y, N, V, st⟩ := op
  obtain ⟨o1, o2, o3, o4, o5, o6, o7⟩ := hop
  unfold opC at HC ⊢
  dsimp only at *
  subst hk
  go_enter Faag.func35, Faag.ntmps35
  go_wp2_with fail
  refine wp_region_qx 16 (by kernel_rfl) (by kernel_rfl) ?_
  simp only [List.take_succ_cons, List.take_zero, List.drop_succ_cons, List.drop_zero]
  repeat (go_big_quiet_step (fail))
  refine wpQuiet_nil ?_
  rintro _ ⟨x1, rfl⟩
  go_wp2_with fail
  refine wp_region_qy _ 6 (by kernel_rfl) (by kernel_rfl) ⟨x1, rfl⟩ ?_
  simp only [List.take_succ_cons, List.take_zero, List.drop_succ_cons, List.drop_zero]
  repeat (go_big_quiet_step (fail))
  refine wpQuiet_nil ?_
  rintro _ ⟨x2, rfl⟩
  go_wp2_with fail
  refine (HC.out _ (((Below.refl _ w).alloc (Nat.le_refl _) _).trans ((World.below_ext _ x2).mono (by simp)))).mono ?_
  intro e w3 H
  have H2 := HOUT.out _ _ _ (((Below.refl _ w).alloc (Nat.le_refl _) _).trans ((World.below_ext _ x2).mono (by simp))) H
  obtain ⟨he, H3⟩ := H2
  obtain ⟨rb, hrb⟩ : ∃ rb, rb = R.isSome := ⟨_, rfl⟩
  rw [← hrb] at he
  subst he
  have HF := hide (And.intro hrb H3)
  clear hrb H3 HC HOUT H
  go_wp2_with fail
  go_ret
  exact ⟨by rw [HF.out.1]; rfl, HF.out.2⟩

set_option maxHeartbeats 4000000 in
theorem takes_5 (op : Opn) (hop : op.Ok) {w : World} {b : Nat} {r : Value} {s : Nat → Value} {K : Bk} (hb : HK w b r s K) (fit : K.Fit) (fit2 : K.Fit2) (fit3 : K.Fit3) (hlt : op.h < K.e.length) (hdead : (K.at_ op.h).dead = false) (hk : op.kind = 5) {R : Option Bk} (hR : R = dropK K op) : Calls Faag.prog 35 #[.pointer (some ⟨b, 0, none⟩), .agg (opC op).toArray] w (KOut b r s K w R) := by
  have HC := hide (fun (W : World) (bl : Below w.heap.size w W) => dropK_calls op hop (hb.below bl) hlt fit fit2)
  have HOUT := hide (fun (W W' : World) (e : Ending) (bl : Below w.heap.size w W) (h : KOut b r s K W (dropK K op) e W') => show KOut b r s K w (dropK K op) e W' from by
    obtain ⟨h1, r', s', h2, h3⟩ := h
    exact ⟨h1, r', s', h2, (MvK.of_below bl).trans h3⟩)
  obtain ⟨g, c, hr, hg, hgb, hcs⟩ := hb.entAt hlt
  have c0 := (hcs 0 _ rfl).1
  have c1 := (hcs 1 _ rfl).1
  have c2 := (hcs 2 _ rfl).1
  have c3 := (hcs 3 _ rfl).1
  have c5 := (hcs 5 _ rfl).1
  simp only [Nat.add_zero] at c0
  rw [hdead] at c0
  obtain ⟨l0, _, _, _⟩ := hb.lenAt
  rw [hr] at l0
  have hbl : b < w.heap.size := hb.lt ⟨0, rfl⟩
  have hn := fit.n
  have hle : decide (K.e.length ≤ op.h) = false := by simpa using hlt
  have k1 := fit3.kind op.h
  have k2 := fit3.code op.h
  have k3 := fit3.data op.h
  have k4 := fit3.count op.h
  clear hcs
  generalize K.e.length = n at *
  clear hdead hb fit fit2 fit3 hr
  generalize (dropK K op) = R2 at *
  subst hR
  obtain ⟨kind, x, i, X, Y, N, V, st⟩ := op
  obtain ⟨o1, o2, o3, o4, o5, o6, o7⟩ := hop
  unfold opC at HC ⊢
  dsimp only at *
  subst hk
  go_enter Faag.func35, Faag.ntmps35
  go_wp2_with fail
  refine wp_region_qx 16 (by kernel_rfl) (by kernel_rfl) ?_
  simp only [List.take_succ_cons, List.take_zero, List.drop_succ_cons, List.drop_zero]
  repeat (go_big_quiet_step (fail))
  refine wpQuiet_nil ?_
  rintro _ ⟨x1, rfl⟩
  go_wp2_with fail
  refine wp_region_qy _ 6 (by kernel_rfl) (by kernel_rfl) ⟨x1, rfl⟩ ?_
  simp only [List.take_succ_cons, List.take_zero, List.drop_succ_cons, List.drop_zero]
  repeat (go_big_quiet_step (fail))
  refine wpQuiet_nil ?_
  rintro _ ⟨x2, rfl⟩
  go_wp2_with fail
  refine (HC.out _ (((Below.refl _ w).alloc (Nat.le_refl _) _).trans ((World.below_ext _ x2).mono (by simp)))).mono ?_
  intro e w3 H
  have H2 := HOUT.out _ _ _ (((Below.refl _ w).alloc (Nat.le_refl _) _).trans ((World.below_ext _ x2).mono (by simp))) H
  obtain ⟨he, H3⟩ := H2
  obtain ⟨rb, hrb⟩ : ∃ rb, rb = R.isSome := ⟨_, rfl⟩
  rw [← hrb] at he
  subst he
  have HF := hide (And.intro hrb H3)
  clear hrb H3 HC HOUT H
  go_wp2_with fail
  go_ret
  exact ⟨by rw [HF.out.1]; rfl, HF.out.2⟩

set_option maxHeartbeats 4000000 in
theorem takes_other (op : Opn) (hop : op.Ok) {w : World} {b : Nat} {r : Value} {s : Nat → Value} {K : Bk} (hb : HK w b r s K) (fit : K.Fit) (fit2 : K.Fit2) (fit3 : K.Fit3) (hlt : op.h < K.e.length) (hdead : (K.at_ op.h).dead = false) (hk : 5 < op.kind) {R : Option Bk} (hR : R = none) : Calls Faag.prog 35 #[.pointer (some ⟨b, 0, none⟩), .agg (opC op).toArray] w (KOut b r s K w R) := by
  have HKO := hide (fun (W : World) (bl : Below w.heap.size w W) => KOut.same hb bl (R := R) false hR)
  obtain ⟨g, c, hr, hg, hgb, hcs⟩ := hb.entAt hlt
  have c0 := (hcs 0 _ rfl).1
  have c1 := (hcs 1 _ rfl).1
  have c2 := (hcs 2 _ rfl).1
  have c3 := (hcs 3 _ rfl).1
  have c5 := (hcs 5 _ rfl).1
  simp only [Nat.add_zero] at c0
  rw [hdead] at c0
  obtain ⟨l0, _, _, _⟩ := hb.lenAt
  rw [hr] at l0
  have hbl : b < w.heap.size := hb.lt ⟨0, rfl⟩
  have hn := fit.n
  have hle : decide (K.e.length ≤ op.h) = false := by simpa using hlt
  have k1 := fit3.kind op.h
  have k2 := fit3.code op.h
  have k3 := fit3.data op.h
  have k4 := fit3.count op.h
  clear hcs
  have t0 : ((op.kind : Int) == 0) = false := by simp; omega
  have t1 : ((op.kind : Int) == 1) = false := by simp; omega
  have t2 : ((op.kind : Int) == 2) = false := by simp; omega
  have t3 : ((op.kind : Int) == 3) = false := by simp; omega
  have t4 : ((op.kind : Int) == 4) = false := by simp; omega
  have t5 : ((op.kind : Int) == 5) = false := by simp; omega
  generalize K.e.length = n at *
  clear hdead hb fit fit2 fit3 hr
  obtain ⟨kind, x, i, X, Y, N, V, st⟩ := op
  obtain ⟨o1, o2, o3, o4, o5, o6, o7⟩ := hop
  unfold opC
  dsimp only at *
  go_enter Faag.func35, Faag.ntmps35
  go_wp2_with fail
  refine wp_region_qx 16 (by kernel_rfl) (by kernel_rfl) ?_
  simp only [List.take_succ_cons, List.take_zero, List.drop_succ_cons, List.drop_zero]
  repeat (go_big_quiet_step (fail))
  refine wpQuiet_nil ?_
  rintro _ ⟨x1, rfl⟩
  go_wp2_with fail
  refine wp_region_qy _ 6 (by kernel_rfl) (by kernel_rfl) ⟨x1, rfl⟩ ?_
  simp only [List.take_succ_cons, List.take_zero, List.drop_succ_cons, List.drop_zero]
  repeat (go_big_quiet_step (fail))
  refine wpQuiet_nil ?_
  rintro _ ⟨x2, rfl⟩
  go_wp2_with fail
  go_ret
  exact HKO.out _ (((Below.refl _ w).alloc (Nat.le_refl _) _).trans ((World.below_ext _ x2).mono (by simp)))

end Go.Proofs.Ygcfaa
