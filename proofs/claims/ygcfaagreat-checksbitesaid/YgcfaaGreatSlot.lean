import Derived.Test.YgcfaaGreatMark
namespace Go.Proofs.YgcfaaGreat
open Go.RowKit Bits Bd
set_option linter.unusedVariables false
set_option maxRecDepth 100000
set_option linter.unusedSimpArgs false
attribute [local go_sem] World.cell?_ext World.frozen?_ext

theorem rowP_get (l : List Ptr) : ∀ (i j : Nat), i < l.length → j < 6 → (rowP l)[i * 6 + j]? = (ptrC (l.getD i zeroPtr))[j]? := by
  induction l with
  | nil => intro i j hi; simp at hi
  | cons q l ih =>
    intro i j hi hj
    have hl : (ptrC q).length = 6 := rfl
    cases i with
    | zero =>
      simp only [rowP, List.flatMap_cons, Nat.zero_mul, Nat.zero_add]
      rw [List.getElem?_append_left (by omega)]
      rfl
    | succ i =>
      have h := ih i j (by simpa using hi) hj
      simp only [rowP, List.flatMap_cons] at h ⊢
      rw [List.getElem?_append_right (by omega), hl, show (i + 1) * 6 + j - 6 = i * 6 + j by omega, h]
      rfl

/-- It hands back the index o and true, or false. -/
def RetAt (e : Ending) (o : Option Nat) : Prop := ∃ (a : Nat) (r : Bool), e = .returned (.tuple #[.int .u16 (a : Int), .bool r]) ∧ ((r = true ∧ o = some a) ∨ (r = false ∧ o = none)) ∧ a < 65536

theorem retAt_eq {a b : Int} {r s : Bool} (h1 : a = b) (h2 : r = s) : Ending.returned (.tuple #[.int .u16 a, .bool r]) = .returned (.tuple #[.int .u16 b, .bool s]) := by rw [h1, h2]
theorem below_drewN (w : World) (n : Nat) : Below w.heap.size w (w.drewN n) := ⟨rfl, rfl, rfl, Nat.le_refl _, fun _ _ => rfl⟩
/-- The object of a handle, in memory. -/
theorem HB.objAt {w : World} {p : Nat} {h : Nat → Value} {B : Bld} (hb : HB w p h B) {i : Nat} (hi : i < B.obj.length) :
    ∃ g c, h 1 = .slice (some ⟨g, 0, none⟩) B.obj.length c ∧ g < w.heap.size ∧ ∀ j u, (ptrC (B.o i))[j]? = some u → w.cell? ⟨g, i * 6 + j, none⟩ = some u := by
  have ho := hb.own 1 (by omega)
  obtain ⟨g, c, hv⟩ := own_form ho (by show 0 < B.obj.length; omega)
  rw [hv] at ho
  refine ⟨g, c, hv, own_lt ho, fun j u hu => ?_⟩
  have hj : j < 6 := by
    have := (List.getElem?_eq_some_iff.1 hu).1
    exact this
  refine (own_cell ho (u := u) ?_).1
  show (rowP B.obj)[i * 6 + j]? = some u
  rw [rowP_get _ _ _ hi hj]
  exact hu

set_option maxHeartbeats 8000000 in
theorem slot_calls (x i : Nat) (hx : x < 256) (hi : i < 256) {w : World} {p : Nat} {h : Nat → Value} {B : Bld} (hb : HB w p h B) (hxo : x < B.obj.length) (hA : B.A.length ≤ 500000) (hat : (B.o x).at_ ≤ 60000) :
    Calls Faag.prog 59 #[.pointer (some ⟨p, 0, none⟩), .int .u8 x, .int .u8 i] w fun e w' => RetAt e (slotB B x i) ∧ Below w.heap.size w w' := by
  obtain ⟨g, c, hv, hg, hcs⟩ := hb.objAt hxo
  obtain ⟨c1, _⟩ := hb.cell 1 (by omega)
  obtain ⟨a0, cp0, k0, _⟩ := hb.lens 0 (by omega)
  have hok := hb.ok.obj x
  have hp : p < w.heap.size := hb.lt ⟨0, rfl⟩
  simp only [fOff, Nat.reduceAdd, Bld.len] at c1 k0
  rw [hv] at c1
  have HO := hide (show slotB B x i = slotB B x i from rfl)
  have hS : slotB B x i = match slotN (B.o x) i with | none => none | some a => if a < B.A.length then some a else none := rfl
  change (B.o x).Ok at hok
  generalize B.o x = q at *
  generalize slotB B x i = S at *
  obtain ⟨kind, at_, data, ptrs, code, count⟩ := q
  have d0 := hcs 0 _ rfl
  have d1 := hcs 1 _ rfl
  have d2 := hcs 2 _ rfl
  have d3 := hcs 3 _ rfl
  have d4 := hcs 4 _ rfl
  have d5 := hcs 5 _ rfl
  obtain ⟨o1, o2, o3, o4, o5, o6⟩ := hok
  dsimp only at d0 d1 d2 d3 d4 d5 o1 o2 o3 o4 o5 o6
  simp only [Nat.add_zero] at d0
  dsimp only at hat
  have hcs2 : (kind = 1 ∧ i < ptrs ∧ S = (if at_ + data + i < B.A.length then some (at_ + data + i) else none)) ∨ (kind = 2 ∧ code = 6 ∧ i < count ∧ S = (if at_ + i < B.A.length then some (at_ + i) else none)) ∨
      (S = none ∧ ((¬ kind = 1 ∧ ¬ kind = 2) ∨ (kind = 1 ∧ ptrs ≤ i) ∨ (kind = 2 ∧ ¬ code = 6) ∨ (kind = 2 ∧ code = 6 ∧ count ≤ i))) := by
    unfold slotN at hS
    dsimp only at hS
    by_cases h1 : kind = 1 ∧ i < ptrs
    · rw [if_pos h1, Nat.mod_eq_of_lt (by omega)] at hS
      exact .inl ⟨h1.1, h1.2, hS⟩
    · rw [if_neg h1] at hS
      by_cases h2 : kind = 2 ∧ code = 6 ∧ i < count
      · rw [if_pos h2, Nat.mod_eq_of_lt (by omega)] at hS
        exact .inr (.inl ⟨h2.1, h2.2.1, h2.2.2, hS⟩)
      · rw [if_neg h2] at hS
        exact .inr (.inr ⟨hS, by omega⟩)
  clear hcs hS HO hb hv
  generalize B.A.length = n0 at *
  generalize B.obj.length = n1 at *
  rcases hcs2 with ⟨rfl, h2, hS⟩ | ⟨rfl, rfl, h2, hS⟩ | ⟨rfl, h2⟩
  · have HS := hide hS
    clear hS
    go_enter Faag.func59, Faag.ntmps59
    go_wp2_with fail
    refine wp_region_qd 10 (by kernel_rfl) (by kernel_rfl) ?_
    simp only [List.take_succ_cons, List.take_zero, List.drop_succ_cons, List.drop_zero]
    repeat (go_big_quiet_step (fail))
    refine wpQuiet_nil ?_
    rintro _ ⟨nq, rfl⟩
    go_wp2_with fail
    go_ret2
    refine ⟨⟨at_ + data + i, decide (at_ + data + i < n0), ?_, ?_, by omega⟩, ?_⟩
    · refine retAt_eq (by omega) ?_
      rw [decide_eq_decide]
      omega
    · rw [HS.out]
      by_cases hq : at_ + data + i < n0
      · exact .inl ⟨by simpa using hq, if_pos hq⟩
      · exact .inr ⟨by simpa using hq, if_neg hq⟩
    · exact ((Below.refl _ _).alloc (Nat.le_refl _) _).step (below_drewN _ _)
  · have HS := hide hS
    clear hS
    go_enter Faag.func59, Faag.ntmps59
    go_wp2_with fail
    refine wp_region_qd 10 (by kernel_rfl) (by kernel_rfl) ?_
    simp only [List.take_succ_cons, List.take_zero, List.drop_succ_cons, List.drop_zero]
    repeat (go_big_quiet_step (fail))
    refine wpQuiet_nil ?_
    rintro _ ⟨nq, rfl⟩
    go_wp2_with fail
    go_ret2
    refine ⟨⟨at_ + i, decide (at_ + i < n0), ?_, ?_, by omega⟩, ?_⟩
    · refine retAt_eq (by omega) ?_
      rw [decide_eq_decide]
      omega
    · rw [HS.out]
      by_cases hq : at_ + i < n0
      · exact .inl ⟨by simpa using hq, if_pos hq⟩
      · exact .inr ⟨by simpa using hq, if_neg hq⟩
    · exact ((Below.refl _ _).alloc (Nat.le_refl _) _).step (below_drewN _ _)
  · rcases h2 with ⟨h2, h3⟩ | ⟨rfl, h3⟩ | ⟨rfl, h3⟩ | ⟨rfl, rfl, h3⟩
    · have g1 : ((kind : Int) == 1) = false := by simp; omega
      have g2 : ((kind : Int) == 2) = false := by simp; omega
      clear h2 h3
      go_enter Faag.func59, Faag.ntmps59
      go_wp2_with fail
      go_ret2
      exact ⟨⟨0, false, rfl, .inr ⟨rfl, rfl⟩, by omega⟩, (Below.refl _ _).alloc (Nat.le_refl _) _⟩
    · go_enter Faag.func59, Faag.ntmps59
      go_wp2_with fail
      go_ret2
      exact ⟨⟨0, false, rfl, .inr ⟨rfl, rfl⟩, by omega⟩, (Below.refl _ _).alloc (Nat.le_refl _) _⟩
    · have g1 : ((code : Int) == 6) = false := by simp; omega
      clear h3
      go_enter Faag.func59, Faag.ntmps59
      go_wp2_with fail
      go_ret2
      exact ⟨⟨0, false, rfl, .inr ⟨rfl, rfl⟩, by omega⟩, (Below.refl _ _).alloc (Nat.le_refl _) _⟩
    · go_enter Faag.func59, Faag.ntmps59
      go_wp2_with fail
      go_ret2
      exact ⟨⟨0, false, rfl, .inr ⟨rfl, rfl⟩, by omega⟩, (Below.refl _ _).alloc (Nat.le_refl _) _⟩
end Go.Proofs.YgcfaaGreat
