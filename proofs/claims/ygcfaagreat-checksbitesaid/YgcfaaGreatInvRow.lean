import Derived.Test.YgcfaaGreatInvC
namespace Go.Proofs.YgcfaaGreat
open Go.RowKit Bits Bd
set_option linter.unusedVariables false

section
variable {B : Bld}
theorem inv_fits (i : InvC B) : ∀ (k h : Nat), B.obj.length - h ≤ k → 1 ≤ h → h < B.obj.length → ¬ isE B h → lo (B.o h) + words (B.o h) ≤ B.A.length
  | 0, h, hk, h1, hn, he => by omega
  | k + 1, h, hk, h1, hn, he => by
    obtain ⟨r1, r2, r3⟩ := i.row h h1 hn he
    by_cases hx : nxt B h < B.obj.length
    · obtain ⟨e1, e2⟩ := r2 hx
      have hlt : h < nxt B h := by unfold nxt; omega
      have := inv_fits i k (nxt B h) (by omega) (by omega) hx e1
      omega
    · rw [r3 (by omega)]
      exact Nat.le_refl _
theorem inv_fit (i : InvC B) {h : Nat} (h1 : 1 ≤ h) (hn : h < B.obj.length) (he : ¬ isE B h) : lo (B.o h) + words (B.o h) ≤ B.A.length := inv_fits i _ h (Nat.le_refl _) h1 hn he

theorem inv_rowGo (i : InvC B) : ∀ (f h : Nat) (s : List Nat), B.obj.length - h < f → 1 ≤ h → (h = B.obj.length ∨ (h < B.obj.length ∧ ¬ isE B h)) →
    ∃ e, rowGo B f (if h < B.obj.length then lo (B.o h) else B.A.length) h s = some e
  | 0, h, s, hf, _, _ => by omega
  | f + 1, h, s, hf, h1, hc => by
    rw [rowGo]
    by_cases hn : h < B.obj.length
    · rw [if_pos hn, if_pos hn]
      have he : ¬ isE B h := by
        rcases hc with h | h
        · omega
        · exact h.2
      have hg := i.good h h1 hn
      have hfit := inv_fit i h1 hn he
      obtain ⟨r1, r2, r3⟩ := i.row h h1 hn he
      rw [if_neg (fun hx => hx (by rcases hg with h | h | h <;> omega))]
      have hat : (B.o h).at_ = (haveI := isStD (B.o h); if isSt (B.o h) then lo (B.o h) + 1 else lo (B.o h)) := by
        unfold lo
        by_cases hS : isSt (B.o h)
        · have := i.at1 h h1 hn hS
          rw [if_pos hS, if_pos hS]; omega
        · rw [if_neg hS, if_neg hS]
      rw [if_neg (fun hx => hx.elim (fun hx => by omega) (fun hx => hx hat))]
      have key : ∀ s', ∃ e, rowGo B f (lo (B.o h) + words (B.o h)) (nxt B h) s' = some e := by
        intro s'
        have hlt : h < nxt B h := by unfold nxt; omega
        by_cases hx : nxt B h < B.obj.length
        · obtain ⟨e1, e2⟩ := r2 hx
          have := inv_rowGo i f (nxt B h) s' (by omega) (by omega) (.inr ⟨hx, e1⟩)
          rw [if_pos hx, e2] at this
          exact this
        · have := inv_rowGo i f (nxt B h) s' (by omega) (by omega) (.inl (by omega))
          rw [if_neg hx, ← r3 (by omega)] at this
          exact this
      by_cases hS : isSt (B.o h)
      · have hnx : nxt B h = h + (B.o h).count + 1 := by unfold nxt; rw [if_pos hS]; omega
        rw [if_neg (fun hx => hx hS), if_neg (fun hx => hx.elim (fun hx => by omega) (fun hx => hx (i.elems h h1 hn hS))), ← hnx]
        exact key _
      · have hnx : nxt B h = h + 1 := by unfold nxt; rw [if_neg hS]
        rw [if_pos hS, ← hnx]
        exact key _
    · rw [if_neg hn, if_neg hn, if_pos rfl]
      exact ⟨s, rfl⟩

theorem inv_row (i : InvC B) : ∃ e, rowGo B B.obj.length 1 1 zset = some e ∧ e.length = 4 ∧ (∀ x, 1 ≤ x → x < B.obj.length → RowFact B x) ∧ ∀ x, tb e x = true ↔ (1 ≤ x ∧ x < B.obj.length ∧ isE B x) := by
  obtain ⟨⟨a1, a2⟩, ⟨a3, a4⟩, _⟩ := i.even
  have hs : ∃ e, rowGo B B.obj.length 1 1 zset = some e := by
    by_cases h1 : B.obj.length = 1
    · have := inv_rowGo i B.obj.length 1 zset (by omega) (Nat.le_refl _) (.inl h1.symm)
      rw [if_neg (by omega), i.row1.1 h1] at this
      exact this
    · obtain ⟨e1, e2⟩ := i.row1.2 (by omega)
      have := inv_rowGo i B.obj.length 1 zset (by omega) (Nat.le_refl _) (.inr ⟨by omega, e1⟩)
      rw [if_pos (by omega), e2] at this
      exact this
  obtain ⟨e, he⟩ := hs
  obtain ⟨s1, s2, s3⟩ := rowGo_sound a2 a4 _ _ _ _ _ rfl (Nat.le_refl 1) he
  refine ⟨e, he, s1, s2, fun x => ?_⟩
  rw [s3 x]
  constructor
  · rintro (h | ⟨L, j, l1, l2, l3, l4, l5, l6⟩)
    · rw [tb_zset] at h; cases h
    · subst l4
      refine ⟨by omega, l6, ?_⟩
      unfold isE
      rw [l5.2.1]
      exact l2
  · rintro ⟨h1, h2, h3⟩
    obtain ⟨e1, e2, e3⟩ := i.inE x h1 h2 h3
    have hu := i.up x h1 h2
    have hel := i.elems (B.up.getD x 0) e1 (by omega) h3 (B.via.getD x 0) e2
    exact .inr ⟨B.up.getD x 0, B.via.getD x 0, e1, h3, e2, e3, hel, h2⟩

/-- InvC gives the clauses 1 to 6. -/
theorem inv_rooted (i : InvC B) : rootedP B := ⟨i.root, i.up⟩
theorem inv_deep (i : InvC B) {e : List Nat} (he : ∀ x, tb e x = true ↔ (1 ≤ x ∧ x < B.obj.length ∧ isE B x)) : deepP B e := by
  intro h h1 hn ht
  have hE : ¬ isE B h := fun hE => by
    have := (he h).2 ⟨h1, hn, hE⟩
    rw [ht] at this; cases this
  exact ⟨hE, (i.deep h h1 hn hE).1, (i.deep h h1 hn hE).2⟩
end
end Go.Proofs.YgcfaaGreat
