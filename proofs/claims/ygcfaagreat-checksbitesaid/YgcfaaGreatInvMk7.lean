import Derived.Test.YgcfaaGreatInvMk1
namespace Go.Proofs.YgcfaaGreat
open Go.RowKit Bits Bd
set_option linter.unusedVariables false

section
variable {B B' : Bld}
/-- A code 7 list appended with its elements. -/
structure Grp (B B' : Bld) (p : Ptr) (u v d : Nat) : Prop where
  len : B'.obj.length = B.obj.length + 1 + p.count
  old : ∀ h, h < B.obj.length → B'.o h = B.o h ∧ B'.up.getD h 0 = B.up.getD h 0 ∧ B'.via.getD h 0 = B.via.getD h 0 ∧ B'.depth.getD h 0 = B.depth.getD h 0 ∧ B'.dead.getD h false = B.dead.getD h false
  new : B'.o B.obj.length = p ∧ B'.up.getD B.obj.length 0 = u ∧ B'.via.getD B.obj.length 0 = v ∧ B'.depth.getD B.obj.length 0 = d ∧ B'.dead.getD B.obj.length false = false
  el : ∀ j, j < p.count → B'.o (B.obj.length + 1 + j) = ⟨1, p.at_ + j * (p.data + p.ptrs), p.data, p.ptrs, 0, 0⟩ ∧ B'.up.getD (B.obj.length + 1 + j) 0 = B.obj.length ∧ B'.via.getD (B.obj.length + 1 + j) 0 = j ∧ B'.depth.getD (B.obj.length + 1 + j) 0 = d ∧ B'.dead.getD (B.obj.length + 1 + j) false = false

theorem inv_mk7 (i : InvC B) {H I a : Nat} {p : Ptr} (hH : H < B.obj.length) (hd : B.dead.getD H false = false) (hI : I < nsl (B.o H)) (ha : a = sAt (B.o H) I) (h0 : B.A.getD a 0 = 0) (hdep : B.depth.getD H 0 < 8)
    (hev : evenP B') (hg : GoodP p) (hS : isSt p) (hat : p.at_ = B.A.length + 1) (ap : Grp B B' p H I (B.depth.getD H 0 + 1)) (hAl : B'.A.length = B.A.length + words p)
    (hAg : ∀ y, B'.A.getD y 0 = if y = a then ptrW a p else if y = B.A.length then mkTag p.count p.data p.ptrs else B.A.getD y 0)
    (hsl : ∀ x, x < 256 → (tb B'.slot x = true ↔ tb B.slot x = true ∨ ∃ j k, j < p.count ∧ k < p.ptrs ∧ x = p.at_ + j * (p.data + p.ptrs) + p.data + k)) : InvC B' := by
  have hn1 := i.even.2.1.1
  have hSH : ¬ isSt (B.o H) := nsl_notSt (by omega)
  have hEn : ¬ isE B' B.obj.length := by
    unfold isE
    rw [ap.new.2.1, (ap.old H hH).1]
    exact hSH
  have hEe : ∀ j, j < p.count → isE B' (B.obj.length + 1 + j) := fun j hj => by
    unfold isE
    rw [(ap.el j hj).2.1, ap.new.1]; exact hS
  have hEo : ∀ h, 1 ≤ h → h < B.obj.length → (isE B' h ↔ isE B h) := fun h h1 hh => by
    have hu := i.up h h1 hh
    unfold isE
    rw [(ap.old h hh).2.1, (ap.old _ (by omega : B.up.getD h 0 < B.obj.length)).1]
  have hcase : ∀ h, h < B'.obj.length → h < B.obj.length ∨ h = B.obj.length ∨ ∃ j, j < p.count ∧ h = B.obj.length + 1 + j := fun h hh => by
    have := ap.len
    by_cases h1 : h < B.obj.length
    · exact .inl h1
    · by_cases h2 : h = B.obj.length
      · exact .inr (.inl h2)
      · exact .inr (.inr ⟨h - B.obj.length - 1, by omega, by omega⟩)
  have hlop : lo p = B.A.length := by rw [(lo_st hS).1, hat]; omega
  have hown := inv_slot_own i hH hI
  rw [← ha] at hown
  have hal : a < B.A.length := by rw [ha]; exact inv_slot_lt i hH hI
  have hne : ∀ y, ¬ y = a → ¬ y = B.A.length → B'.A.getD y 0 = B.A.getD y 0 := fun y hy hz => by rw [hAg, if_neg hy, if_neg hz]
  have hlen := ap.len
  have hgd : p.data ≤ 8 ∧ p.ptrs ≤ 8 := by
    obtain ⟨s1, s2⟩ := hS
    rcases hg with h | h | h <;> omega
  have hnp : nsl p = 0 := by
    unfold nsl
    rw [if_neg (by have := hS.1; omega), if_neg (by have := hS.2; omega)]
  have hES : ∀ (x y z : Nat), ¬ isSt ⟨1, x, y, z, 0, 0⟩ := fun x y z h => by have := h.1; exact absurd this (show ¬ (1 : Nat) = 2 by decide)
  refine ⟨hev, ?_, fun h h1 hn => ?_, ⟨fun h => by omega, fun h => ?_⟩, fun h h1 hn hE => ?_, fun h h1 hn hs => ?_, fun h h1 hn hs j hj => ?_, fun h h1 hn hE => ?_, fun h h1 hn => ?_, fun h h1 hn hE => ?_, fun h h1 hn hdd hE => ?_, ?_, ?_, ?_, ?_, ?_, ?_⟩
  · have := ap.old 0 (by omega)
    rw [this.1, this.2.1, this.2.2.1, this.2.2.2.1, this.2.2.2.2]
    exact i.root
  · rcases hcase h hn with hx | rfl | ⟨j, hj, rfl⟩
    · rw [(ap.old h hx).1]; exact i.good h h1 hx
    · rw [ap.new.1]; exact hg
    · rw [(ap.el j hj).1]; exact .inl ⟨rfl, hgd.1, hgd.2, rfl, rfl⟩
  · by_cases hx : B.obj.length = 1
    · rw [← hx]
      refine ⟨hEn, ?_⟩
      rw [ap.new.1, hlop, i.row1.1 hx, hx]
    · obtain ⟨e1, e2⟩ := i.row1.2 (by omega)
      exact ⟨fun hE => e1 ((hEo _ (Nat.le_refl _) (by omega)).1 hE), by rw [(ap.old 1 (by omega)).1]; exact e2⟩
  · rcases hcase h hn with hx | rfl | ⟨j, hj, rfl⟩
    · have hE' : ¬ isE B h := fun e => hE ((hEo h h1 hx).2 e)
      obtain ⟨r1, r2, r3⟩ := i.row h h1 hx hE'
      have hnx : nxt B' h = nxt B h := by unfold nxt; rw [(ap.old h hx).1]
      rw [hnx, (ap.old h hx).1]
      refine ⟨by omega, fun hy => ?_, fun hy => by omega⟩
      by_cases hz : nxt B h < B.obj.length
      · obtain ⟨s1, s2⟩ := r2 hz
        have hlt : h < nxt B h := by unfold nxt; omega
        exact ⟨fun e => s1 ((hEo _ (by omega) hz).1 e), by rw [(ap.old _ hz).1]; exact s2⟩
      · have hq : nxt B h = B.obj.length := by omega
        rw [hq]
        exact ⟨hEn, by rw [ap.new.1, hlop]; exact (r3 hq).symm⟩
    · have hq : nxt B' B.obj.length = B.obj.length + 1 + p.count := by unfold nxt; rw [ap.new.1, if_pos hS]
      rw [hq, ap.new.1, hlop]
      exact ⟨by omega, fun hy => by omega, fun _ => hAl.symm⟩
    · exact absurd (hEe j hj) hE
  · rcases hcase h hn with hx | rfl | ⟨j, hj, rfl⟩
    · rw [(ap.old h hx).1] at hs ⊢; exact i.at1 h h1 hx hs
    · rw [ap.new.1, hat]; omega
    · rw [(ap.el j hj).1] at hs; exact absurd hs (hES _ _ _)
  · rcases hcase h hn with hx | rfl | ⟨m, hm, rfl⟩
    · rw [(ap.old h hx).1] at hs hj
      have hel := i.elems h h1 hx hs j hj
      have hnx := (i.row h h1 hx (st_notE i h1 hx hs)).1
      unfold nxt at hnx
      rw [if_pos hs] at hnx
      have o1 := ap.old h hx
      have o2 := ap.old (h + 1 + j) (by omega)
      unfold elemP at hel ⊢
      rw [o2.1, o2.2.1, o2.2.2.1, o2.2.2.2.1, o2.2.2.2.2, o1.1, o1.2.2.2.1, o1.2.2.2.2]
      exact hel
    · rw [ap.new.1] at hj
      have := ap.el j hj
      unfold elemP
      rw [ap.new.1, ap.new.2.2.2.1, ap.new.2.2.2.2]
      exact this
    · rw [(ap.el m hm).1] at hs; exact absurd hs (hES _ _ _)
  · rcases hcase h hn with hx | rfl | ⟨j, hj, rfl⟩
    · have hu := i.up h h1 hx
      have := i.inE h h1 hx ((hEo h h1 hx).1 hE)
      rw [(ap.old h hx).2.1, (ap.old h hx).2.2.1, (ap.old _ (by omega : B.up.getD h 0 < B.obj.length)).1]
      exact this
    · exact absurd hE hEn
    · have := ap.el j hj
      rw [this.2.1, this.2.2.1, ap.new.1]
      exact ⟨hn1, hj, rfl⟩
  · rcases hcase h hn with hx | rfl | ⟨j, hj, rfl⟩
    · rw [(ap.old h hx).2.1]; exact i.up h h1 hx
    · rw [ap.new.2.1]; exact hH
    · rw [(ap.el j hj).2.1]; omega
  · rcases hcase h hn with hx | rfl | ⟨j, hj, rfl⟩
    · have hu := i.up h h1 hx
      have := i.deep h h1 hx (fun e => hE ((hEo h h1 hx).2 e))
      rw [(ap.old h hx).2.1, (ap.old h hx).2.2.2.1, (ap.old _ (by omega : B.up.getD h 0 < B.obj.length)).2.2.2.1]
      exact this
    · rw [ap.new.2.1, ap.new.2.2.2.1, (ap.old H hH).2.2.2.1]
      exact ⟨rfl, by omega⟩
    · exact absurd (hEe j hj) hE
  · rcases hcase h hn with hx | rfl | ⟨j, hj, rfl⟩
    · have hu := i.up h h1 hx
      have hE' : ¬ isE B h := fun e => hE ((hEo h h1 hx).2 e)
      rw [(ap.old h hx).2.2.2.2] at hdd
      obtain ⟨c1, c2, c3⟩ := i.hang h h1 hx hdd hE'
      have o1 := ap.old h hx
      have o2 := ap.old (B.up.getD h 0) (by omega)
      rw [o1.2.1, o1.2.2.1, o1.1, o2.1, o2.2.2.2.2]
      refine ⟨c1, c2, ?_⟩
      have hsl := inv_slot_lt i (by omega : B.up.getD h 0 < B.obj.length) c2
      rw [hne _ (fun e => ?_) (by omega)]
      · exact c3
      · rw [ha] at e
        obtain ⟨e1, e2⟩ := inv_slot_inj i (by omega) hH c2 hI e
        rw [ha] at h0
        exact inv_at_null i hH hI h0 ⟨h1, hx, hdd, hE'⟩ ⟨e1, e2⟩
    · have o2 := ap.old H hH
      rw [ap.new.2.1, ap.new.2.2.1, ap.new.1, o2.1, o2.2.2.2.2, ← ha]
      exact ⟨hd, hI, by rw [hAg, if_pos rfl]⟩
    · exact absurd (hEe j hj) hE
  · intro h g h1 hn g1 gn hdd gd hE gE e1 e2
    rw [ha] at h0
    rcases hcase h hn with hx | rfl | ⟨j, hj, rfl⟩
    · rcases hcase g gn with gx | rfl | ⟨j, hj, rfl⟩
      · have o1 := ap.old h hx
        have o2 := ap.old g gx
        rw [o1.2.1, o2.2.1] at e1
        rw [o1.2.2.1, o2.2.2.1] at e2
        exact i.uniq h g h1 hx g1 gx (o1.2.2.2.2 ▸ hdd) (o2.2.2.2.2 ▸ gd) (fun e => hE ((hEo h h1 hx).2 e)) (fun e => gE ((hEo g g1 gx).2 e)) e1 e2
      · have o1 := ap.old h hx
        rw [o1.2.1, ap.new.2.1] at e1
        rw [o1.2.2.1, ap.new.2.2.1] at e2
        exact absurd ⟨e1, e2⟩ (inv_at_null i hH hI h0 ⟨h1, hx, o1.2.2.2.2 ▸ hdd, fun e => hE ((hEo h h1 hx).2 e)⟩)
      · exact absurd (hEe j hj) gE
    · rcases hcase g gn with gx | rfl | ⟨j, hj, rfl⟩
      · have o1 := ap.old g gx
        rw [o1.2.1, ap.new.2.1] at e1
        rw [o1.2.2.1, ap.new.2.2.1] at e2
        exact absurd ⟨e1.symm, e2.symm⟩ (inv_at_null i hH hI h0 ⟨g1, gx, o1.2.2.2.2 ▸ gd, fun e => gE ((hEo g g1 gx).2 e)⟩)
      · rfl
      · exact absurd (hEe j hj) gE
    · exact absurd (hEe j hj) hE
  · intro u k hu hdu hk hno
    rcases hcase u hu with hx | rfl | ⟨j, hj, rfl⟩
    · have o1 := ap.old u hx
      rw [o1.1] at hk ⊢
      rw [o1.2.2.2.2] at hdu
      have hlt := inv_slot_lt i hx hk
      by_cases hs : sAt (B.o u) k = a
      · exfalso
        rw [ha] at hs
        obtain ⟨e1, e2⟩ := inv_slot_inj i hx hH hk hI hs
        exact hno B.obj.length (by omega) (by omega) ap.new.2.2.2.2 hEn (by rw [ap.new.2.1]; exact e1.symm) (by rw [ap.new.2.2.1]; exact e2.symm)
      · rw [hne _ hs (by omega)]
        refine i.null u k hx hdu hk (fun h h1 hn hd2 hE hup hv => ?_)
        have o2 := ap.old h hn
        exact hno h h1 (by omega) (by rw [o2.2.2.2.2]; exact hd2) (fun e => hE ((hEo h h1 hn).1 e)) (by rw [o2.2.1]; exact hup) (by rw [o2.2.2.1]; exact hv)
    · rw [ap.new.1, hnp] at hk; omega
    · rw [(ap.el j hj).1]
      have hge : B.A.length < sAt ⟨1, p.at_ + j * (p.data + p.ptrs), p.data, p.ptrs, 0, 0⟩ k := by
        unfold sAt; rw [if_pos rfl]; show B.A.length < p.at_ + j * (p.data + p.ptrs) + p.data + k
        omega
      rw [hne _ (by omega) (by omega), List.getD_eq_getElem?_getD, List.getElem?_eq_none (by omega)]
      rfl
  · intro x hx
    rw [hsl x hx, i.slot x hx]
    constructor
    · rintro (⟨u, k, a1, a2, a3, a4⟩ | ⟨j, k, a1, a2, a3⟩)
      · have o1 := ap.old u a1
        exact ⟨u, k, by omega, by rw [o1.2.2.2.2]; exact a2, by rw [o1.1]; exact a3, by rw [o1.1]; exact a4⟩
      · have := ap.el j a1
        refine ⟨B.obj.length + 1 + j, k, by omega, this.2.2.2.2, ?_, ?_⟩
        · rw [this.1]; unfold nsl; rw [if_pos rfl]; exact a2
        · rw [this.1]; unfold sAt; rw [if_pos rfl]; exact a3
    · rintro ⟨u, k, a1, a2, a3, a4⟩
      rcases hcase u a1 with hy | rfl | ⟨j, hj, rfl⟩
      · have o1 := ap.old u hy
        rw [o1.1] at a3 a4
        rw [o1.2.2.2.2] at a2
        exact .inl ⟨u, k, hy, a2, a3, a4⟩
      · rw [ap.new.1, hnp] at a3; omega
      · rw [(ap.el j hj).1] at a3 a4
        unfold nsl at a3
        unfold sAt at a4
        rw [if_pos rfl] at a3 a4
        exact .inr ⟨j, k, hj, a3, a4⟩
  · intro h h1 hn hdd y y1 y2
    rcases hcase h hn with hx | rfl | ⟨j, hj, rfl⟩
    · have o1 := ap.old h hx
      rw [o1.1] at y1 y2
      rw [o1.2.2.2.2] at hdd
      have hhi := inv_hi i hx
      rw [hne _ (fun e => ?_) (by omega)]
      · exact i.zero h h1 hx hdd y y1 y2
      · subst e
        have := own_one i hx hH y1 y2 hown.1 hown.2
        subst this
        rw [hd] at hdd; cases hdd
    · rw [ap.new.2.2.2.2] at hdd; cases hdd
    · rw [(ap.el j hj).2.2.2.2] at hdd; cases hdd
  · intro h h1 hn hdd hs
    rcases hcase h hn with hx | rfl | ⟨j, hj, rfl⟩
    · have o1 := ap.old h hx
      rw [o1.1] at hs ⊢
      rw [o1.2.2.2.2] at hdd
      have ht := tag_own i h1 hx hs
      have hhi := inv_hi i hx
      rw [hne _ (fun e => ?_) (by omega)]
      · exact i.tag h h1 hx hdd hs
      · rw [e] at ht
        have := own_one i hx hH ht.1 ht.2 hown.1 hown.2
        subst this
        exact hSH hs
    · rw [ap.new.1, hAg, if_neg (by omega), if_pos (by omega)]
    · rw [(ap.el j hj).1] at hs; exact absurd hs (hES _ _ _)
  · intro h h1 hn hdd
    rcases hcase h hn with hx | rfl | ⟨j, hj, rfl⟩
    · have o1 := ap.old h hx
      rw [o1.1]
      rw [o1.2.2.2.2] at hdd
      have hhi := inv_hi i hx
      refine pad_of i h1 hx (by omega) (fun y y1 y2 _ _ hz => ?_) (i.pad h h1 hx hdd)
      refine hne _ (fun e => ?_) (by omega)
      subst e
      have := own_one i hx hH y1 y2 hown.1 hown.2
      subst this
      omega
    · rw [ap.new.1]
      refine .inr (.inl ?_)
      rw [hS.2]
      show p.count * 0 % 8 = 0
      simp
    · rw [(ap.el j hj).1]
      exact .inl (show ¬ (1 : Nat) = 2 by decide)

/-- The elements of a code 7 list, appended one by one. -/
theorem elems_spec (L d q D : Nat) : ∀ (k m at_ : Nat) (B : Bld), B.up.length = B.obj.length ∧ B.via.length = B.obj.length ∧ B.depth.length = B.obj.length ∧ B.dead.length = B.obj.length → B.slot.length = 4 → (∀ j, B.slot.getD j 0 < 18446744073709551616) → at_ + k * (d + q) ≤ 256 →
    let B' := elems L d q D k m at_ B
    B'.A = B.A ∧ B'.obj.length = B.obj.length + k ∧ (B'.up.length = B'.obj.length ∧ B'.via.length = B'.obj.length ∧ B'.depth.length = B'.obj.length ∧ B'.dead.length = B'.obj.length) ∧
    (∀ h, h < B.obj.length → B'.o h = B.o h ∧ B'.up.getD h 0 = B.up.getD h 0 ∧ B'.via.getD h 0 = B.via.getD h 0 ∧ B'.depth.getD h 0 = B.depth.getD h 0 ∧ B'.dead.getD h false = B.dead.getD h false) ∧
    (∀ j, j < k → B'.o (B.obj.length + j) = ⟨1, at_ + j * (d + q), d, q, 0, 0⟩ ∧ B'.up.getD (B.obj.length + j) 0 = L ∧ B'.via.getD (B.obj.length + j) 0 = m + j ∧ B'.depth.getD (B.obj.length + j) 0 = D ∧ B'.dead.getD (B.obj.length + j) false = false) ∧
    (∀ x, tb B'.slot x = true ↔ tb B.slot x = true ∨ ∃ j n, j < k ∧ n < q ∧ x = at_ + j * (d + q) + d + n)
  | 0, m, at_, B, hl, h4, hb, h2 => ⟨rfl, rfl, hl, fun _ _ => ⟨rfl, rfl, rfl, rfl, rfl⟩, fun j hj => absurd hj (by omega), fun x => ⟨fun h => .inl h, fun h => h.resolve_right (fun ⟨j, _, h, _⟩ => absurd h (by omega))⟩⟩
  | k + 1, m, at_, B, hl, h4, hb, h2 => by
    have e : (k + 1) * (d + q) = k * (d + q) + (d + q) := Nat.succ_mul _ _
    have hmk := tb_markGo true q (at_ + d) B.slot h4 hb (by omega)
    have hsub : (at_ + d + q) % 65536 - (at_ + d) = q := by omega
    obtain ⟨C, hC⟩ : ∃ C, C = hangB (markB B (at_ + d) q true) ⟨1, at_, d, q, 0, 0⟩ L m D := ⟨_, rfl⟩
    have hap := apnd_hang (B := B) hl ⟨1, at_, d, q, 0, 0⟩ L m D
    have hCA : C.A = B.A := by rw [hC]; rfl
    have hCs : C.slot = markGo true q (at_ + d) B.slot := by rw [hC]; simp only [hangB, markB, hsub]
    have hCap : Apnd B C ⟨1, at_, d, q, 0, 0⟩ L m D := by rw [hC]; exact ⟨hap.len, hap.old, hap.new⟩
    have hCl : C.up.length = C.obj.length ∧ C.via.length = C.obj.length ∧ C.depth.length = C.obj.length ∧ C.dead.length = C.obj.length := by
      rw [hC]; simp only [hangB, markB, List.length_append, List.length_singleton]; omega
    have ih := elems_spec L d q D k (m + 1) (at_ + (d + q)) C hCl (by rw [hCs]; exact hmk.2.1) (by rw [hCs]; exact hmk.2.2) (by omega)
    dsimp only at ih ⊢
    rw [elems, ← hC]
    obtain ⟨i1, i2, i3, i4, i5, i6⟩ := ih
    have hlen := hCap.len
    refine ⟨i1.trans hCA, by omega, i3, fun h hh => ?_, fun j hj => ?_, fun x => ?_⟩
    · have a1 := i4 h (by omega)
      have a2 := hCap.old h hh
      rw [a1.1, a1.2.1, a1.2.2.1, a1.2.2.2.1, a1.2.2.2.2]; exact a2
    · by_cases hj0 : j = 0
      · subst hj0
        have a1 := i4 B.obj.length (by omega)
        have a2 := hCap.new
        rw [show B.obj.length + 0 = B.obj.length from rfl, show m + 0 = m from rfl, a1.1, a1.2.1, a1.2.2.1, a1.2.2.2.1, a1.2.2.2.2, Nat.zero_mul]; exact a2
      · have := i5 (j - 1) (by omega)
        rw [hlen, show B.obj.length + 1 + (j - 1) = B.obj.length + j by omega] at this
        have e3 : j * (d + q) = (j - 1) * (d + q) + (d + q) := by
          have := Nat.succ_mul (j - 1) (d + q)
          rw [← this, show (j - 1).succ = j by omega]
        refine ⟨?_, this.2.1, ?_, this.2.2.2⟩
        · rw [this.1, e3]
          congr 1; omega
        · rw [this.2.2.1]; omega
    · rw [i6 x, hCs, hmk.1 x]
      constructor
      · rintro (h | ⟨j, n, a1, a2, a3⟩)
        · split at h
          · rename_i hh
            exact .inr ⟨0, x - (at_ + d), by omega, by omega, by rw [Nat.zero_mul]; omega⟩
          · exact .inl h
        · refine .inr ⟨j + 1, n, by omega, a2, ?_⟩
          have := Nat.succ_mul j (d + q)
          have e4 : (j + 1) * (d + q) = j * (d + q) + (d + q) := this
          omega
      · rintro (h | ⟨j, n, a1, a2, a3⟩)
        · left; split
          · rfl
          · exact h
        · by_cases hj0 : j = 0
          · subst hj0
            rw [Nat.zero_mul] at a3
            left; rw [if_pos (by omega)]
          · right
            have e3 : j * (d + q) = (j - 1) * (d + q) + (d + q) := by
              have := Nat.succ_mul (j - 1) (d + q)
              rw [← this, show (j - 1).succ = j by omega]
            exact ⟨j - 1, n, by omega, a2, by omega⟩
end
end Go.Proofs.YgcfaaGreat
