import Derived.Test.YgcfaaGreatRow
namespace Go.Proofs.YgcfaaGreat
open Go.RowKit Bits Bd
set_option linter.unusedVariables false

theorem words_isSt2 {p : Ptr} (h : isSt p) (hw : words p ≤ 256) : p.data ≤ 8 ∧ p.ptrs ≤ 8 := by
  obtain ⟨h1, h2⟩ := h
  unfold words at hw
  rw [if_neg (by omega), if_neg (by omega)] at hw
  split at hw
  · omega
  · rw [if_neg (by omega), if_neg (by omega)] at hw
    split at hw
    · rename_i h4; exact h4.2
    · omega
theorem words_struct {p : Ptr} (h : p.kind = 1) (hw : words p ≤ 256) : p.data ≤ 8 ∧ p.ptrs ≤ 8 ∧ words p = p.data + p.ptrs := by
  unfold words at hw ⊢
  rw [if_neg (by omega)] at hw ⊢
  split at hw
  · rename_i h1; rw [if_pos h1]; exact ⟨h1.2.1, h1.2.2, rfl⟩
  · rw [if_pos (by omega)] at hw
    omega
theorem words_el (a d q : Nat) (hd : d ≤ 8) (hq : q ≤ 8) : words ⟨1, a, d, q, 0, 0⟩ = d + q := by
  unfold words
  dsimp only
  rw [if_neg (by omega), if_pos ⟨rfl, hd, hq⟩]

theorem tb_putS (s : List Nat) (i x : Nat) (hs : s.length = 4) (hi : i < 256) : tb (putS s i) x = (tb s x || decide (x = i)) := by
  unfold putS
  rw [tb_orAt _ _ _ _ (by omega), Nat.testBit_two_pow]
  congr 1
  rw [Bool.eq_iff_iff, Bool.and_eq_true, decide_eq_true_eq, decide_eq_true_eq, decide_eq_true_eq]
  omega
theorem putS_len (s : List Nat) (i : Nat) : (putS s i).length = s.length := orAt_length _ _ _
theorem putMany_len : ∀ (k i : Nat) (s : List Nat), (putMany k i s).length = s.length
  | 0, _, _ => rfl
  | k + 1, i, s => by rw [putMany, putMany_len k, putS_len]
theorem tb_putMany : ∀ (k i : Nat) (s : List Nat) (x : Nat), s.length = 4 → i + k ≤ 256 → tb (putMany k i s) x = (tb s x || decide (i ≤ x ∧ x < i + k))
  | 0, i, s, x, hs, hi => by
    have : decide (i ≤ x ∧ x < i + 0) = false := by rw [decide_eq_false_iff_not]; omega
    rw [this, Bool.or_false]; rfl
  | k + 1, i, s, x, hs, hi => by
    rw [putMany, tb_putMany k (i + 1) (putS s i) x (by rw [putS_len]; exact hs) (by omega), tb_putS s i x hs (by omega), Bool.or_assoc]
    congr 1
    rw [Bool.eq_iff_iff, Bool.or_eq_true, decide_eq_true_eq, decide_eq_true_eq, decide_eq_true_eq]
    omega

/-- What row tells of a handle. -/
structure RowFact (B : Bld) (x : Nat) : Prop where
  kind : (B.o x).kind = 1 ∨ (B.o x).kind = 2
  at_ : (B.o x).at_ ≤ 257
  fits : first (B.o x) + words (B.o x) ≤ B.A.length
  words : words (B.o x) ≤ 256
/-- x is an element of a list at h0 or behind. -/
def IsElem (B : Bld) (h0 x : Nat) : Prop := ∃ L j, h0 ≤ L ∧ isSt (B.o L) ∧ j < (B.o L).count ∧ x = L + 1 + j ∧ elemP B L j ∧ x < B.obj.length

theorem first_isSt {p : Ptr} (h : isSt p) (h1 : 1 ≤ p.at_) (h2 : p.at_ ≤ 60000) : first p = p.at_ - 1 := by
  unfold isSt at h
  unfold first; rw [if_pos h]; omega
theorem first_not {p : Ptr} (h : ¬ isSt p) : first p = p.at_ := by
  unfold isSt at h
  unfold first; rw [if_neg h]

theorem rowGo_sound {B : Bld} (hA : B.A.length ≤ 256) (hn : B.obj.length ≤ 256) : ∀ (f w h : Nat) (s e : List Nat), s.length = 4 → 1 ≤ w → rowGo B f w h s = some e →
    e.length = 4 ∧ (∀ x, h ≤ x → x < B.obj.length → RowFact B x) ∧ (∀ x, tb e x = true ↔ (tb s x = true ∨ IsElem B h x))
  | 0, w, h, s, e, _, _, he => by rw [rowGo] at he; cases he
  | f + 1, w, h, s, e, hs, hw, he => by
    rw [rowGo] at he
    by_cases hlt : h < B.obj.length
    · rw [if_pos hlt] at he
      by_cases hkn : ¬ ((B.o h).kind = 1 ∨ (B.o h).kind = 2)
      · rw [if_pos hkn] at he; cases he
      rw [if_neg hkn] at he
      have hkd : (B.o h).kind = 1 ∨ (B.o h).kind = 2 := Decidable.not_not.1 hkn
      by_cases hbad : B.A.length < w + words (B.o h) ∨ ¬ (B.o h).at_ = (haveI := isStD (B.o h); if isSt (B.o h) then w + 1 else w)
      · rw [if_pos hbad] at he; cases he
      rw [if_neg hbad] at he
      by_cases hS : ¬ isSt (B.o h)
      · rw [if_pos hS] at he
        rw [if_neg hS] at hbad
        obtain ⟨h1, h2, h3⟩ := rowGo_sound hA hn f _ _ s e hs (by omega) he
        refine ⟨h1, fun x hx hxl => ?_, fun x => ?_⟩
        · by_cases hxh : x = h
          · subst hxh
            exact ⟨hkd, by omega, by rw [first_not hS]; omega, by omega⟩
          · exact h2 x (by omega) hxl
        · rw [h3 x]
          refine or_congr_right ⟨fun ⟨L, j, a1, a2⟩ => ⟨L, j, by omega, a2⟩, fun ⟨L, j, a1, a2, a3⟩ => ⟨L, j, ?_, a2, a3⟩⟩
          by_cases hL : L = h
          · subst hL; exact absurd a2 hS
          · omega
      · rw [if_neg hS] at he
        have hS : isSt (B.o h) := Classical.byContradiction hS
        rw [if_pos hS] at hbad
        by_cases hel : B.obj.length ≤ h + (B.o h).count ∨ ¬ (∀ j, j < (B.o h).count → elemP B h j)
        · rw [if_pos hel] at he; cases he
        rw [if_neg hel] at he
        have hcnt : h + (B.o h).count < B.obj.length := by omega
        have hel2 : ∀ j, j < (B.o h).count → elemP B h j := Classical.byContradiction (fun hx => hel (.inr hx))
        obtain ⟨c1, c2, c3⟩ := words_isSt hS (by omega)
        obtain ⟨c4, c5⟩ := words_isSt2 hS (by omega)
        obtain ⟨h1, h2, h3⟩ := rowGo_sound hA hn f _ _ _ e (by rw [putMany_len]; exact hs) (by omega) he
        refine ⟨h1, fun x hx hxl => ?_, fun x => ?_⟩
        · by_cases hxh : x = h
          · subst hxh
            exact ⟨hkd, by omega, by rw [first_isSt hS (by omega) (by omega)]; omega, by omega⟩
          · by_cases hxe : x < h + 1 + (B.o h).count
            · obtain ⟨j, rfl⟩ : ∃ j, x = h + 1 + j := ⟨x - (h + 1), by omega⟩
              have hj : j < (B.o h).count := by omega
              have he1 := (hel2 j hj).1
              have hjm : (j + 1) * ((B.o h).data + (B.o h).ptrs) ≤ (B.o h).count * ((B.o h).data + (B.o h).ptrs) := Nat.mul_le_mul_right _ hj
              rw [Nat.add_mul, Nat.one_mul] at hjm
              refine ⟨.inl (by rw [he1]), ?_, ?_, ?_⟩
              · rw [he1]; dsimp only; omega
              · rw [first_not (by rw [he1]; unfold isSt; dsimp only; omega), he1, words_el _ _ _ c4 c5]; dsimp only; omega
              · rw [he1, words_el _ _ _ c4 c5]; omega
            · exact h2 x (by omega) hxl
        · rw [h3 x, tb_putMany _ _ _ _ hs (by omega), Bool.or_eq_true, decide_eq_true_eq, or_assoc]
          refine or_congr_right ⟨fun hh => ?_, fun ⟨L, j, a1, a2, a3, a4, a5⟩ => ?_⟩
          · rcases hh with hh | ⟨L, j, a1, a2⟩
            · exact ⟨h, x - (h + 1), Nat.le_refl _, hS, by omega, by omega, hel2 _ (by omega), by omega⟩
            · exact ⟨L, j, by omega, a2⟩
          · by_cases hL : L = h
            · subst hL; exact .inl (by omega)
            · by_cases hL2 : L < h + (B.o h).count + 1
              · exfalso
                obtain ⟨i, rfl⟩ : ∃ i, L = h + 1 + i := ⟨L - (h + 1), by omega⟩
                have := (hel2 i (by omega)).1
                rw [this] at a2
                unfold isSt at a2
                dsimp only at a2
                omega
              · exact .inr ⟨L, j, by omega, a2, a3, a4, a5⟩
    · rw [if_neg hlt] at he
      split at he
      · cases he
        exact ⟨hs, fun x h1 h2 => by omega, fun x => ⟨fun hx => .inl hx, fun hx => hx.elim id (fun ⟨L, j, a1, a2, a3, a4, a5, a6⟩ => by omega)⟩⟩
      · cases he
end Go.Proofs.YgcfaaGreat
