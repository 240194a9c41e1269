import Derived.Test.YgcfaaGreatInvRow
namespace Go.Proofs.YgcfaaGreat
open Go.RowKit Bits Bd
set_option linter.unusedVariables false

section
variable {B : Bld}
/-- The element j of a list: its place and its words. -/
theorem inv_elem (i : InvC B) {L j : Nat} (h1 : 1 ≤ L) (hn : L < B.obj.length) (hS : isSt (B.o L)) (hj : j < (B.o L).count) :
    B.o (L + 1 + j) = ⟨1, (B.o L).at_ + j * ((B.o L).data + (B.o L).ptrs), (B.o L).data, (B.o L).ptrs, 0, 0⟩ ∧ (B.o L).data ≤ 8 ∧ (B.o L).ptrs ≤ 8 ∧ words (B.o (L + 1 + j)) = (B.o L).data + (B.o L).ptrs := by
  have h := (i.elems L h1 hn hS j hj).1
  have hg := i.good L h1 hn
  have hd : (B.o L).data ≤ 8 ∧ (B.o L).ptrs ≤ 8 := by
    obtain ⟨s1, s2⟩ := hS
    rcases hg with hg | hg | hg <;> omega
  refine ⟨h, hd.1, hd.2, ?_⟩
  rw [h, words_el _ _ _ hd.1 hd.2]
theorem lo_struct {p : Ptr} (h : p.kind = 1) : lo p = p.at_ ∧ hi p = p.at_ + words p := by
  have : ¬ isSt p := fun hs => by have := hs.1; omega
  unfold lo hi
  rw [if_neg this, if_neg this]
  exact ⟨rfl, rfl⟩
/-- A list that is no element. -/
theorem st_notE (i : InvC B) {L : Nat} (h1 : 1 ≤ L) (hn : L < B.obj.length) (hS : isSt (B.o L)) : ¬ isE B L := fun hE => by
  obtain ⟨e1, e2, e3⟩ := i.inE L h1 hn hE
  have hu := i.up L h1 hn
  have := (inv_elem i e1 (by omega) hE e2).1
  rw [← e3] at this
  rw [this] at hS
  have := hS.1
  dsimp only at this
  omega
theorem st_words (i : InvC B) {L : Nat} (h1 : 1 ≤ L) (hn : L < B.obj.length) (hS : isSt (B.o L)) : words (B.o L) = 1 + (B.o L).count * ((B.o L).data + (B.o L).ptrs) := by
  have hf := inv_fit i h1 hn (st_notE i h1 hn hS)
  exact (words_isSt hS (by have := i.even.1.2; omega)).2.2
theorem lo_st {p : Ptr} (hS : isSt p) : lo p = p.at_ - 1 ∧ hi p = p.at_ := by
  unfold lo hi
  rw [if_pos hS, if_pos hS]
  exact ⟨rfl, rfl⟩

theorem inv_lo_ge (i : InvC B) : ∀ (k g h : Nat), B.obj.length - g ≤ k → 1 ≤ g → ¬ isE B g → g ≤ h → h < B.obj.length → lo (B.o g) ≤ lo (B.o h) ∧ (nxt B g ≤ h → lo (B.o g) + words (B.o g) ≤ lo (B.o h))
  | 0, g, h, hk, h1, he, hgh, hn => by omega
  | k + 1, g, h, hk, h1, he, hgh, hn => by
    have hlt : g < nxt B g := by unfold nxt; omega
    obtain ⟨r1, r2, r3⟩ := i.row g h1 (by omega) he
    by_cases hx : nxt B g ≤ h
    · obtain ⟨e1, e2⟩ := r2 (by omega)
      have := (inv_lo_ge i k (nxt B g) h (by omega) (by omega) e1 hx hn).1
      exact ⟨by omega, fun _ => by omega⟩
    · refine ⟨?_, fun h => absurd h hx⟩
      by_cases hgh2 : g = h
      · subst hgh2; exact Nat.le_refl _
      · have hS : isSt (B.o g) := Classical.byContradiction (fun hS => by
          unfold nxt at hx
          rw [if_neg hS] at hx
          omega)
        unfold nxt at hx
        rw [if_pos hS] at hx
        obtain ⟨j, rfl⟩ : ∃ j, h = g + 1 + j := ⟨h - (g + 1), by omega⟩
        have he1 := (inv_elem i h1 (by omega) hS (by omega : j < (B.o g).count)).1
        rw [(lo_st hS).1, (lo_struct (by rw [he1])).1, he1]
        dsimp only
        omega

/-- The own words of handles rise with the handle. -/
theorem inv_rise (i : InvC B) {h g : Nat} (h1 : 1 ≤ h) (hg : h < g) (hn : g < B.obj.length) : hi (B.o h) ≤ lo (B.o g) := by
  by_cases hE : isE B h
  · obtain ⟨e1, e2, e3⟩ := i.inE h h1 (by omega) hE
    have hu := i.up h h1 (by omega)
    obtain ⟨L, hL⟩ : ∃ L, L = B.up.getD h 0 := ⟨_, rfl⟩
    obtain ⟨j, hj⟩ : ∃ j, j = B.via.getD h 0 := ⟨_, rfl⟩
    unfold isE at hE
    rw [← hL] at e1 e2 e3 hu hE
    rw [← hj] at e2 e3
    subst e3
    obtain ⟨x1, x2, x3, x4⟩ := inv_elem i e1 (by omega) hE e2
    have hLw := st_words i e1 (by omega) hE
    have hat := i.at1 L e1 (by omega) hE
    have hlo := (lo_st hE).1
    have hm : (j + 1) * ((B.o L).data + (B.o L).ptrs) ≤ (B.o L).count * ((B.o L).data + (B.o L).ptrs) := Nat.mul_le_mul_right _ e2
    rw [(lo_struct (by rw [x1])).2, x4]
    by_cases hx : nxt B L ≤ g
    · have := (inv_lo_ge i _ L g (Nat.le_refl _) e1 (st_notE i e1 (by omega) hE) (by omega) hn).2 hx
      rw [x1]
      dsimp only
      rw [Nat.add_mul, Nat.one_mul] at hm
      omega
    · unfold nxt at hx
      rw [if_pos hE] at hx
      obtain ⟨j', rfl⟩ : ∃ j', g = L + 1 + j' := ⟨g - (L + 1), by omega⟩
      have hj' : j' < (B.o L).count := by omega
      obtain ⟨y1, y2, y3, y4⟩ := inv_elem i e1 (by omega) hE hj'
      have hm2 : (j + 1) * ((B.o L).data + (B.o L).ptrs) ≤ j' * ((B.o L).data + (B.o L).ptrs) := Nat.mul_le_mul_right _ (by omega)
      rw [(lo_struct (by rw [y1])).1, x1, y1]
      dsimp only
      rw [Nat.add_mul, Nat.one_mul] at hm2
      omega
  · by_cases hx : nxt B h ≤ g
    · have := (inv_lo_ge i _ h g (Nat.le_refl _) h1 hE (by omega) hn).2 hx
      by_cases hS : isSt (B.o h)
      · have hw := st_words i h1 (by omega) hS
        have hat := i.at1 h h1 (by omega) hS
        rw [(lo_st hS).1] at this
        rw [(lo_st hS).2]
        omega
      · have : hi (B.o h) = lo (B.o h) + words (B.o h) := by unfold hi lo; rw [if_neg hS, if_neg hS]
        omega
    · have hS : isSt (B.o h) := Classical.byContradiction (fun hS => by
        unfold nxt at hx
        rw [if_neg hS] at hx
        omega)
      unfold nxt at hx
      rw [if_pos hS] at hx
      obtain ⟨j, rfl⟩ : ∃ j, g = h + 1 + j := ⟨g - (h + 1), by omega⟩
      have he1 := (inv_elem i h1 (by omega) hS (by omega : j < (B.o h).count)).1
      rw [(lo_st hS).2, (lo_struct (by rw [he1])).1, he1]
      dsimp only
      omega
end
end Go.Proofs.YgcfaaGreat
