import Derived.Test.YgcfaaGreatInvMk1
namespace Go.Proofs.YgcfaaGreat
open Go.RowKit Bits Bd
set_option linter.unusedVariables false

section
variable {B B' : Bld}
theorem inv_mk1 (i : InvC B) {H I a : Nat} {p : Ptr} (hH : H < B.obj.length) (hd : B.dead.getD H false = false) (hI : I < nsl (B.o H)) (ha : a = sAt (B.o H) I) (h0 : B.A.getD a 0 = 0) (hdep : B.depth.getD H 0 < 8)
    (hev : evenP B') (hg : GoodP p) (hS : ¬ isSt p) (hat : p.at_ = B.A.length) (ap : Apnd B B' p H I (B.depth.getD H 0 + 1)) (hAl : B'.A.length = B.A.length + words p) (hAg : ∀ y, B'.A.getD y 0 = if y = a then ptrW a p else B.A.getD y 0)
    (hsl : ∀ x, x < 256 → (tb B'.slot x = true ↔ tb B.slot x = true ∨ ∃ k, k < nsl p ∧ x = sAt p k)) : InvC B' := by
  have hn1 := i.even.2.1.1
  have hSH : ¬ isSt (B.o H) := nsl_notSt (by omega)
  have hEn : ¬ isE B' B.obj.length := by
    unfold isE
    rw [ap.new.2.1, (ap.old H hH).1]
    exact hSH
  have hlop : lo p = B.A.length := by unfold lo; rw [if_neg hS]; exact hat
  have hown := inv_slot_own i hH hI
  rw [← ha] at hown
  have hal : a < B.A.length := by rw [ha]; exact inv_slot_lt i hH hI
  have hne : ∀ y, ¬ y = a → B'.A.getD y 0 = B.A.getD y 0 := fun y hy => by rw [hAg, if_neg hy]
  have hlen := ap.len
  refine ⟨hev, ?_, fun h h1 hn => ?_, ⟨fun h => by omega, fun h => ?_⟩, fun h h1 hn hE => ?_, fun h h1 hn hs => ?_, fun h h1 hn hs j hj => ?_, fun h h1 hn hE => ?_, fun h h1 hn => ?_, fun h h1 hn hE => ?_, fun h h1 hn hdd hE => ?_, ?_, ?_, ?_, ?_, ?_, ?_⟩
  · have := ap.old 0 (by omega)
    rw [this.1, this.2.1, this.2.2.1, this.2.2.2.1, this.2.2.2.2]
    exact i.root
  · by_cases hx : h < B.obj.length
    · rw [(ap.old h hx).1]; exact i.good h h1 hx
    · have : h = B.obj.length := by omega
      subst this
      rw [ap.new.1]; exact hg
  · by_cases hx : B.obj.length = 1
    · rw [← hx]
      refine ⟨hEn, ?_⟩
      rw [ap.new.1, hlop, i.row1.1 hx, hx]
    · obtain ⟨e1, e2⟩ := i.row1.2 (by omega)
      exact ⟨fun hE => e1 ((isE_old i ap (Nat.le_refl _) (by omega)).1 hE), by rw [(ap.old 1 (by omega)).1]; exact e2⟩
  · by_cases hx : h < B.obj.length
    · have hE' : ¬ isE B h := fun e => hE ((isE_old i ap h1 hx).2 e)
      obtain ⟨r1, r2, r3⟩ := i.row h h1 hx hE'
      rw [nxt_old ap hx, (ap.old h hx).1]
      refine ⟨by omega, fun hy => ?_, fun hy => by omega⟩
      by_cases hz : nxt B h < B.obj.length
      · obtain ⟨s1, s2⟩ := r2 hz
        have hlt : h < nxt B h := by unfold nxt; omega
        exact ⟨fun e => s1 ((isE_old i ap (by omega) hz).1 e), by rw [(ap.old _ hz).1]; exact s2⟩
      · have hq : nxt B h = B.obj.length := by omega
        rw [hq]
        exact ⟨hEn, by rw [ap.new.1, hlop]; exact (r3 hq).symm⟩
    · have : h = B.obj.length := by omega
      subst this
      have hq : nxt B' B.obj.length = B.obj.length + 1 := by unfold nxt; rw [ap.new.1, if_neg hS]
      rw [hq, ap.new.1, hlop]
      exact ⟨by omega, fun hy => by omega, fun _ => hAl.symm⟩
  · by_cases hx : h < B.obj.length
    · rw [(ap.old h hx).1] at hs ⊢; exact i.at1 h h1 hx hs
    · have : h = B.obj.length := by omega
      subst this
      rw [ap.new.1] at hs; exact absurd hs hS
  · by_cases hx : h < B.obj.length
    · rw [(ap.old h hx).1] at hs hj
      have hel := i.elems h h1 hx hs j hj
      have hnx := (i.row h h1 hx (st_notE i h1 hx hs)).1
      unfold nxt at hnx
      rw [if_pos hs] at hnx
      have o1 := ap.old h hx
      have o2 := ap.old (h + 1 + j) (by omega)
      unfold elemP at hel ⊢
      rw [o2.1, o2.2.1, o2.2.2.1, o2.2.2.2.1, o2.2.2.2.2, o1.1, o1.2.2.2.1, o1.2.2.2.2]
      exact hel
    · have : h = B.obj.length := by omega
      subst this
      rw [ap.new.1] at hs; exact absurd hs hS
  · by_cases hx : h < B.obj.length
    · have hu := i.up h h1 hx
      have := i.inE h h1 hx ((isE_old i ap h1 hx).1 hE)
      rw [(ap.old h hx).2.1, (ap.old h hx).2.2.1, (ap.old _ (by omega : B.up.getD h 0 < B.obj.length)).1]
      exact this
    · have : h = B.obj.length := by omega
      subst this
      exact absurd hE hEn
  · by_cases hx : h < B.obj.length
    · rw [(ap.old h hx).2.1]; exact i.up h h1 hx
    · have : h = B.obj.length := by omega
      subst this
      rw [ap.new.2.1]; exact hH
  · by_cases hx : h < B.obj.length
    · have hu := i.up h h1 hx
      have := i.deep h h1 hx (fun e => hE ((isE_old i ap h1 hx).2 e))
      rw [(ap.old h hx).2.1, (ap.old h hx).2.2.2.1, (ap.old _ (by omega : B.up.getD h 0 < B.obj.length)).2.2.2.1]
      exact this
    · have : h = B.obj.length := by omega
      subst this
      rw [ap.new.2.1, ap.new.2.2.2.1, (ap.old H hH).2.2.2.1]
      exact ⟨rfl, by omega⟩
  · by_cases hx : h < B.obj.length
    · have hu := i.up h h1 hx
      have hE' : ¬ isE B h := fun e => hE ((isE_old i ap h1 hx).2 e)
      rw [(ap.old h hx).2.2.2.2] at hdd
      obtain ⟨c1, c2, c3⟩ := i.hang h h1 hx hdd hE'
      have o1 := ap.old h hx
      have o2 := ap.old (B.up.getD h 0) (by omega)
      rw [o1.2.1, o1.2.2.1, o1.1, o2.1, o2.2.2.2.2]
      refine ⟨c1, c2, ?_⟩
      rw [hne _ (fun e => ?_)]
      · exact c3
      · rw [ha] at e
        obtain ⟨e1, e2⟩ := inv_slot_inj i (by omega) hH c2 hI e
        rw [ha] at h0
        exact inv_at_null i hH hI h0 ⟨h1, hx, hdd, hE'⟩ ⟨e1, e2⟩
    · have : h = B.obj.length := by omega
      subst this
      have o2 := ap.old H hH
      rw [ap.new.2.1, ap.new.2.2.1, ap.new.1, o2.1, o2.2.2.2.2, ← ha]
      exact ⟨hd, hI, by rw [hAg, if_pos rfl]⟩
  · intro h g h1 hn g1 gn hdd gd hE gE e1 e2
    rw [ha] at h0
    by_cases hx : h < B.obj.length
    · by_cases gx : g < B.obj.length
      · have o1 := ap.old h hx
        have o2 := ap.old g gx
        rw [o1.2.1, o2.2.1] at e1
        rw [o1.2.2.1, o2.2.2.1] at e2
        exact i.uniq h g h1 hx g1 gx (o1.2.2.2.2 ▸ hdd) (o2.2.2.2.2 ▸ gd) (fun e => hE ((isE_old i ap h1 hx).2 e)) (fun e => gE ((isE_old i ap g1 gx).2 e)) e1 e2
      · have : g = B.obj.length := by omega
        subst this
        have o1 := ap.old h hx
        rw [o1.2.1, ap.new.2.1] at e1
        rw [o1.2.2.1, ap.new.2.2.1] at e2
        exact absurd ⟨e1, e2⟩ (inv_at_null i hH hI h0 ⟨h1, hx, o1.2.2.2.2 ▸ hdd, fun e => hE ((isE_old i ap h1 hx).2 e)⟩)
    · have : h = B.obj.length := by omega
      subst this
      by_cases gx : g < B.obj.length
      · have o1 := ap.old g gx
        rw [o1.2.1, ap.new.2.1] at e1
        rw [o1.2.2.1, ap.new.2.2.1] at e2
        exact absurd ⟨e1.symm, e2.symm⟩ (inv_at_null i hH hI h0 ⟨g1, gx, o1.2.2.2.2 ▸ gd, fun e => gE ((isE_old i ap g1 gx).2 e)⟩)
      · omega
  · intro u k hu hdu hk hno
    by_cases hx : u < B.obj.length
    · have o1 := ap.old u hx
      rw [o1.1] at hk ⊢
      rw [o1.2.2.2.2] at hdu
      by_cases hs : sAt (B.o u) k = a
      · exfalso
        rw [ha] at hs
        obtain ⟨e1, e2⟩ := inv_slot_inj i hx hH hk hI hs
        exact hno B.obj.length (by omega) (by omega) ap.new.2.2.2.2 hEn (by rw [ap.new.2.1]; exact e1.symm) (by rw [ap.new.2.2.1]; exact e2.symm)
      · rw [hne _ hs]
        refine i.null u k hx hdu hk (fun h h1 hn hd2 hE hup hv => ?_)
        have o2 := ap.old h hn
        exact hno h h1 (by omega) (by rw [o2.2.2.2.2]; exact hd2) (fun e => hE ((isE_old i ap h1 hn).1 e)) (by rw [o2.2.1]; exact hup) (by rw [o2.2.2.1]; exact hv)
    · have : u = B.obj.length := by omega
      subst this
      rw [ap.new.1] at hk ⊢
      have hge : B.A.length ≤ sAt p k := by unfold sAt; split <;> omega
      rw [hne _ (by omega), List.getD_eq_getElem?_getD, List.getElem?_eq_none hge]
      rfl
  · intro x hx
    rw [hsl x hx, i.slot x hx]
    constructor
    · rintro (⟨u, k, a1, a2, a3, a4⟩ | ⟨k, a1, a2⟩)
      · have o1 := ap.old u a1
        exact ⟨u, k, by omega, by rw [o1.2.2.2.2]; exact a2, by rw [o1.1]; exact a3, by rw [o1.1]; exact a4⟩
      · exact ⟨B.obj.length, k, by omega, ap.new.2.2.2.2, by rw [ap.new.1]; exact a1, by rw [ap.new.1]; exact a2⟩
    · rintro ⟨u, k, a1, a2, a3, a4⟩
      by_cases hy : u < B.obj.length
      · have o1 := ap.old u hy
        rw [o1.1] at a3 a4
        rw [o1.2.2.2.2] at a2
        exact .inl ⟨u, k, hy, a2, a3, a4⟩
      · have : u = B.obj.length := by omega
        subst this
        rw [ap.new.1] at a3 a4
        exact .inr ⟨k, a3, a4⟩
  · intro h h1 hn hdd y y1 y2
    by_cases hx : h < B.obj.length
    · have o1 := ap.old h hx
      rw [o1.1] at y1 y2
      rw [o1.2.2.2.2] at hdd
      rw [hne _ (fun e => ?_)]
      · exact i.zero h h1 hx hdd y y1 y2
      · subst e
        have := own_one i hx hH y1 y2 hown.1 hown.2
        subst this
        rw [hd] at hdd; cases hdd
    · have : h = B.obj.length := by omega
      subst this
      rw [ap.new.2.2.2.2] at hdd; cases hdd
  · intro h h1 hn hdd hs
    by_cases hx : h < B.obj.length
    · have o1 := ap.old h hx
      rw [o1.1] at hs ⊢
      rw [o1.2.2.2.2] at hdd
      rw [hne _ (fun e => ?_)]
      · exact i.tag h h1 hx hdd hs
      · have ht := tag_own i h1 hx hs
        rw [e] at ht
        have := own_one i hx hH ht.1 ht.2 hown.1 hown.2
        subst this
        exact hSH hs
    · have : h = B.obj.length := by omega
      subst this
      rw [ap.new.1] at hs; exact absurd hs hS
  · intro h h1 hn hdd
    by_cases hx : h < B.obj.length
    · have o1 := ap.old h hx
      rw [o1.1]
      rw [o1.2.2.2.2] at hdd
      refine pad_of i h1 hx (by omega) (fun y y1 y2 _ _ hz => ?_) (i.pad h h1 hx hdd)
      refine hne _ (fun e => ?_)
      subst e
      have := own_one i hx hH y1 y2 hown.1 hown.2
      subst this
      omega
    · have : h = B.obj.length := by omega
      subst this
      rw [ap.new.1]
      by_cases hk : p.kind = 2
      · by_cases h8 : p.count * width p.code % 8 = 0
        · exact .inr (.inl h8)
        · have hc : 2 ≤ p.code ∧ p.code ≤ 5 := by
            have : ¬ width p.code = 0 := fun h0 => by rw [h0, Nat.mul_zero] at h8; exact h8 rfl
            unfold width at this
            split at this
            · exact absurd rfl this
            · omega
          have hcnt : p.count ≤ 128 := by rcases hg with h | h | h <;> omega
          have hw := words_scalar' hk hc.1 hc.2 hcnt
          refine .inr (.inr ⟨by rw [hAl, hw]; omega, ?_⟩)
          rw [hne _ (by omega), List.getD_eq_getElem?_getD, List.getElem?_eq_none (by omega)]
          simp
      · exact .inl hk
end
end Go.Proofs.YgcfaaGreat
