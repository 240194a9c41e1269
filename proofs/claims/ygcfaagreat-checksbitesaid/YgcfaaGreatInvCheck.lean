import Derived.Test.YgcfaaGreatInvHang2
namespace Go.Proofs.YgcfaaGreat
open Go.RowKit Bits Bd
set_option linter.unusedVariables false

theorem tb_mark1 (on : Bool) (s : List Nat) (i x : Nat) (h4 : s.length = 4) (hb : ∀ k, s.getD k 0 < 18446744073709551616) (hi : i < 256) :
    tb (s.set (i / 64) (putN (s.getD (i / 64) 0) (if on then 1 else 0) (i % 64) 1)) x = if x = i then on else tb s x := by
  unfold tb
  rw [getD_set _ _ _ _ (by omega)]
  by_cases hx : x / 64 = i / 64
  · rw [if_pos hx, putN_testBit _ _ _ _ _ (hb _) (by omega), hx]
    by_cases hm : x % 64 = i % 64
    · rw [if_pos (show i % 64 ≤ x % 64 ∧ x % 64 < i % 64 + 1 by omega), if_pos (show x = i by omega), hm, Nat.sub_self]
      cases on <;> rfl
    · rw [if_neg (show ¬ (i % 64 ≤ x % 64 ∧ x % 64 < i % 64 + 1) by omega), if_neg (show ¬ x = i from fun h => hm (by rw [h]))]
  · rw [if_neg hx, if_neg (fun h => hx (by rw [h]))]
theorem mark1_lt (on : Bool) (s : List Nat) (i : Nat) (h4 : s.length = 4) (hb : ∀ k, s.getD k 0 < 18446744073709551616) (hi : i < 256) (k : Nat) :
    (s.set (i / 64) (putN (s.getD (i / 64) 0) (if on then 1 else 0) (i % 64) 1)).getD k 0 < 18446744073709551616 := by
  rw [getD_set _ _ _ _ (by omega)]
  split
  · exact putN_lt (hb _) _ _
  · exact hb k
theorem tb_markGo (on : Bool) : ∀ (k i : Nat) (s : List Nat), s.length = 4 → (∀ k, s.getD k 0 < 18446744073709551616) → i + k ≤ 256 →
    (∀ x, tb (markGo on k i s) x = if i ≤ x ∧ x < i + k then on else tb s x) ∧ (markGo on k i s).length = 4 ∧ ∀ j, (markGo on k i s).getD j 0 < 18446744073709551616
  | 0, i, s, h4, hb, hi => ⟨fun x => by rw [if_neg (by omega)]; rfl, h4, hb⟩
  | k + 1, i, s, h4, hb, hi => by
    rw [markGo, if_pos (by omega)]
    obtain ⟨h1, h2, h3⟩ := tb_markGo on k (i + 1) _ (by rw [List.length_set]; exact h4) (mark1_lt on s i h4 hb (by omega)) (by omega)
    refine ⟨fun x => ?_, h2, h3⟩
    rw [h1 x, tb_mark1 on s i x h4 hb (by omega)]
    by_cases hx : x = i
    · rw [if_pos hx, if_neg (by omega), if_pos (by omega)]
    · rw [if_neg hx]
      by_cases hy : i + 1 ≤ x ∧ x < i + 1 + k
      · rw [if_pos hy, if_pos (by omega)]
      · rw [if_neg hy, if_neg (by omega)]

section
variable {B : Bld}
theorem inv_want1 (i : InvC B) {u : Nat} (hn : u < B.obj.length) (s : List Nat) (h4 : s.length = 4) (hb : ∀ k, s.getD k 0 < 18446744073709551616) :
    (∀ x, tb (want1 (B.o u) s) x = true ↔ (tb s x = true ∨ ∃ k, k < nsl (B.o u) ∧ x = sAt (B.o u) k)) ∧ (want1 (B.o u) s).length = 4 ∧ ∀ j, (want1 (B.o u) s).getD j 0 < 18446744073709551616 := by
  have hA := i.even.1.2
  have hg : u = 0 ∨ GoodP (B.o u) := by
    by_cases h0 : u = 0
    · exact .inl h0
    · exact .inr (i.good u (by omega) hn)
  unfold want1
  have hsl := fun k hk => inv_slot_lt i hn (k := k) hk
  unfold nsl sAt at *
  by_cases hk1 : (B.o u).kind = 1
  · rw [if_pos hk1]
    simp only [if_pos hk1] at hsl ⊢
    have hfit : (B.o u).at_ + (B.o u).data + (B.o u).ptrs ≤ 256 ∨ (B.o u).ptrs = 0 := by
      by_cases h0 : (B.o u).ptrs = 0
      · exact .inr h0
      · have := hsl ((B.o u).ptrs - 1) (by omega)
        exact .inl (by omega)
    rcases hfit with hfit | hfit
    · obtain ⟨m1, m2, m3⟩ := tb_markGo true (B.o u).ptrs ((B.o u).at_ + (B.o u).data) s h4 hb hfit
      refine ⟨fun x => ?_, m2, m3⟩
      rw [m1 x]
      by_cases hx : (B.o u).at_ + (B.o u).data ≤ x ∧ x < (B.o u).at_ + (B.o u).data + (B.o u).ptrs
      · rw [if_pos hx]
        exact ⟨fun _ => .inr ⟨x - ((B.o u).at_ + (B.o u).data), by omega, by omega⟩, fun _ => rfl⟩
      · rw [if_neg hx]
        exact ⟨.inl, fun h => h.elim id (fun ⟨k, a, b⟩ => by omega)⟩
    · rw [hfit]
      exact ⟨fun x => ⟨.inl, fun h => h.elim id (fun ⟨k, a, b⟩ => by omega)⟩, h4, hb⟩
  · rw [if_neg hk1]
    simp only [if_neg hk1] at hsl ⊢
    have hgp : GoodP (B.o u) := hg.resolve_left (fun h0 => by subst h0; rw [i.root.1] at hk1; exact hk1 rfl)
    by_cases hk6 : (B.o u).code = 6
    · have hk2 : (B.o u).kind = 2 := by rcases hgp with h | h | h <;> omega
      rw [if_pos hk6]
      simp only [if_pos (And.intro hk2 hk6)] at hsl ⊢
      have hfit : (B.o u).at_ + (B.o u).count ≤ 256 ∨ (B.o u).count = 0 := by
        by_cases h0 : (B.o u).count = 0
        · exact .inr h0
        · have := hsl ((B.o u).count - 1) (by omega)
          exact .inl (by omega)
      rcases hfit with hfit | hfit
      · obtain ⟨m1, m2, m3⟩ := tb_markGo true (B.o u).count (B.o u).at_ s h4 hb hfit
        refine ⟨fun x => ?_, m2, m3⟩
        rw [m1 x]
        by_cases hx : (B.o u).at_ ≤ x ∧ x < (B.o u).at_ + (B.o u).count
        · rw [if_pos hx]
          exact ⟨fun _ => .inr ⟨x - (B.o u).at_, by omega, by omega⟩, fun _ => rfl⟩
        · rw [if_neg hx]
          exact ⟨.inl, fun h => h.elim id (fun ⟨k, a, b⟩ => by omega)⟩
      · rw [hfit]
        exact ⟨fun x => ⟨.inl, fun h => h.elim id (fun ⟨k, a, b⟩ => by omega)⟩, h4, hb⟩
    · rw [if_neg hk6]
      have : ¬ ((B.o u).kind = 2 ∧ (B.o u).code = 6) := fun h => hk6 h.2
      simp only [if_neg this]
      exact ⟨fun x => ⟨.inl, fun h => h.elim id (fun ⟨k, a, b⟩ => by omega)⟩, h4, hb⟩

theorem inv_wantGo (i : InvC B) : ∀ (k h : Nat) (s : List Nat), h + k ≤ B.obj.length → s.length = 4 → (∀ k, s.getD k 0 < 18446744073709551616) →
    (∀ x, tb (wantGo B k h s) x = true ↔ (tb s x = true ∨ ∃ u j, h ≤ u ∧ u < h + k ∧ B.dead.getD u false = false ∧ j < nsl (B.o u) ∧ x = sAt (B.o u) j)) ∧ (wantGo B k h s).length = 4 ∧ ∀ j, (wantGo B k h s).getD j 0 < 18446744073709551616
  | 0, h, s, hk, h4, hb => ⟨fun x => ⟨.inl, fun hx => hx.elim id (fun ⟨u, j, a, b, _⟩ => by omega)⟩, h4, hb⟩
  | k + 1, h, s, hk, h4, hb => by
    rw [wantGo]
    by_cases hd : B.dead.getD h false = true
    · rw [if_pos hd]
      obtain ⟨m1, m2, m3⟩ := inv_wantGo i k (h + 1) s (by omega) h4 hb
      refine ⟨fun x => ?_, m2, m3⟩
      rw [m1 x]
      refine or_congr_right ⟨fun ⟨u, j, a, b, c⟩ => ⟨u, j, by omega, by omega, c⟩, fun ⟨u, j, a, b, c, d⟩ => ⟨u, j, ?_, by omega, c, d⟩⟩
      by_cases hu : u = h
      · subst hu; rw [c] at hd; cases hd
      · omega
    · rw [if_neg hd]
      have hd' : B.dead.getD h false = false := by
        cases hx : B.dead.getD h false
        · rfl
        · exact absurd hx hd
      obtain ⟨w1, w2, w3⟩ := inv_want1 i (u := h) (by omega) s h4 hb
      obtain ⟨m1, m2, m3⟩ := inv_wantGo i k (h + 1) _ (by omega) w2 w3
      refine ⟨fun x => ?_, m2, m3⟩
      rw [m1 x, w1 x, or_assoc]
      refine or_congr_right ⟨?_, ?_⟩
      · rintro (⟨j, a, b⟩ | ⟨u, j, a, b, c⟩)
        · exact ⟨h, j, by omega, by omega, hd', a, b⟩
        · exact ⟨u, j, by omega, by omega, c⟩
      · rintro ⟨u, j, a, b, c, d, e⟩
        by_cases hu : u = h
        · subst hu; exact .inl ⟨j, d, e⟩
        · exact .inr ⟨u, j, by omega, by omega, c, d, e⟩

theorem tb_ext {s t : List Nat} (hs : s.length = 4) (ht : t.length = 4) (bs : ∀ k, s.getD k 0 < 18446744073709551616) (bt : ∀ k, t.getD k 0 < 18446744073709551616) (h : ∀ x, x < 256 → tb s x = tb t x) : s = t := by
  match s, hs with
  | [a, b, c, d], _ =>
    match t, ht with
    | [a', b', c', d'], _ =>
      have key : ∀ j (hj : j < 4), ([a, b, c, d] : List Nat).getD j 0 = ([a', b', c', d'] : List Nat).getD j 0 := by
        intro j hj
        refine Nat.eq_of_testBit_eq (fun m => ?_)
        by_cases hm : m < 64
        · have := h (j * 64 + m) (by omega)
          unfold tb at this
          rw [show (j * 64 + m) / 64 = j by omega, show (j * 64 + m) % 64 = m by omega] at this
          exact this
        · have e : (2 : Nat) ^ 64 ≤ 2 ^ m := Nat.pow_le_pow_right (by omega) (by omega)
          rw [Nat.testBit_lt_two_pow (Nat.lt_of_lt_of_le (bs j) e), Nat.testBit_lt_two_pow (Nat.lt_of_lt_of_le (bt j) e)]
      have k0 := key 0 (by omega)
      have k1 := key 1 (by omega)
      have k2 := key 2 (by omega)
      have k3 := key 3 (by omega)
      simp at k0 k1 k2 k3
      rw [k0, k1, k2, k3]

theorem inv_slotted (i : InvC B) (ok : B.Ok) {u : List Nat} (hu : ∀ x, tb u x = true ↔ ∃ g, Hung B g ∧ x = hAt B g) : slottedP B u := by
  obtain ⟨m1, m2, m3⟩ := inv_wantGo i B.obj.length 0 zset (by omega) rfl zset_lt
  refine ⟨tb_ext m2 ok.four m3 ok.slot (fun x hx => ?_), fun x hx hw ht => ?_⟩
  · rw [Bool.eq_iff_iff]
    show tb (wantGo B B.obj.length 0 zset) x = true ↔ _
    rw [m1 x, i.slot x hx, tb_zset]
    exact ⟨fun h => h.elim (fun h => Bool.noConfusion h) (fun ⟨u, j, a, b, c, d, e⟩ => ⟨u, j, by omega, c, d, e⟩), fun ⟨u, j, a, b, c, d⟩ => .inr ⟨u, j, by omega, by omega, b, c, d⟩⟩
  · have ht' : tb (wantGo B B.obj.length 0 zset) x = true := ht
    rw [m1 x, tb_zset] at ht'
    rcases ht' with h | ⟨v, j, a, b, c, d, e⟩
    · cases h
    · refine (hu x).2 (Classical.byContradiction (fun hno => hw ?_))
      rw [e]
      refine i.null v j (by omega) c d (fun h h1 hn hd hE hup hvia => hno ⟨h, ⟨h1, hn, hd, hE⟩, ?_⟩)
      unfold hAt
      rw [hup, hvia]
      exact e

theorem inv_zeros (i : InvC B) {e : List Nat} (he : ∀ x, tb e x = true ↔ (1 ≤ x ∧ x < B.obj.length ∧ isE B x)) (hr : ∀ x, 1 ≤ x → x < B.obj.length → RowFact B x) : zerosP B e := by
  intro h h1 hn
  by_cases hE : isE B h
  · exact .inl ((he h).2 ⟨h1, hn, hE⟩)
  · refine .inr ⟨fun hd k hk => ?_, fun hd hS => ?_, fun hd hS => i.pad h h1 hn hd⟩
    · have hfl : first (B.o h) = lo (B.o h) := by
        by_cases hS : isSt (B.o h)
        · rw [(lo_st hS).1, first_isSt hS (i.at1 h h1 hn hS) (by have := (hr h h1 hn).at_; omega)]
        · rw [first_not hS]; unfold lo; rw [if_neg hS]
      rw [hfl]
      by_cases hS : isSt (B.o h)
      · have hat := i.at1 h h1 hn hS
        have hw := st_words i h1 hn hS
        have hlo := lo_st hS
        by_cases hk0 : k = 0
        · exact i.zero h h1 hn hd _ (by omega) (by rw [hlo.2, hlo.1]; omega)
        · obtain ⟨D, hD⟩ : ∃ D, D = (B.o h).data + (B.o h).ptrs := ⟨_, rfl⟩
          rw [← hD] at hw
          have hD0 : 0 < D := by
            rcases Nat.eq_zero_or_pos D with h0 | h0
            · rw [h0, Nat.mul_zero] at hw; omega
            · exact h0
          have hj : (k - 1) / D < (B.o h).count := Nat.div_lt_of_lt_mul (by rw [Nat.mul_comm]; omega)
          have hdm := Nat.div_add_mod (k - 1) D
          have hml := Nat.mod_lt (k - 1) hD0
          rw [Nat.mul_comm] at hdm
          generalize (k - 1) / D = J at *
          generalize (k - 1) % D = M at *
          obtain ⟨x1, x2, x3, x4⟩ := inv_elem i h1 hn hS hj
          have hel := i.elems h h1 hn hS _ hj
          have hnx := (i.row h h1 hn hE).1
          unfold nxt at hnx
          rw [if_pos hS] at hnx
          have hlx := lo_struct (p := B.o (h + 1 + J)) (by rw [x1])
          refine i.zero (h + 1 + J) (by omega) (by omega) (by rw [hel.2.2.2.2]; exact hd) _ ?_ ?_
          · rw [hlx.1, x1, hlo.1, ← hD]; dsimp only; omega
          · rw [hlx.2, x4, x1, hlo.1, ← hD]; dsimp only; omega
      · refine i.zero h h1 hn hd _ (by omega) ?_
        unfold hi lo
        rw [if_neg hS, if_neg hS]; omega
    · have hat := i.at1 h h1 hn hS
      rw [first_isSt hS hat (by have := (hr h h1 hn).at_; omega)]
      exact i.tag h h1 hn hd hS

/-- What every script leaves passes Check. -/
theorem inv_check (i : InvC B) (ok : B.Ok) : checkP B := by
  obtain ⟨e, he, h4, hr, ht⟩ := inv_row i
  obtain ⟨u, hu, hu4, hut⟩ := inv_hangs i ht
  exact ⟨i.even, inv_rooted i, e, he, inv_deep i ht, u, hu, inv_slotted i ok hut, inv_zeros i ht hr⟩
end
end Go.Proofs.YgcfaaGreat
