import Derived.Test.YgcfaaGreatInvBiteW
namespace Go.Proofs.YgcfaaGreat
open Go.RowKit Bits Bd
set_option linter.unusedVariables false

section
variable {B : Bld}
/-- Of a state that passes row: a handle whose up is no code 7 list is looked at, if it lives. -/
theorem act_of {B' : Bld} {e : List Nat} {x : Nat} (hA : B'.A.length ≤ 256) (hn : B'.obj.length ≤ 256) (he : rowGo B' B'.obj.length 1 1 zset = some e) (hS : ¬ isSt (B'.o (B'.up.getD x 0)) ∨ ¬ (B'.o x).kind = 1) (hd : B'.dead.getD x false = false) : Act1 B' e x := by
  rintro (h | h)
  · rcases ((rowGo_sound hA hn _ _ _ _ _ rfl (Nat.le_refl 1) he).2.2 x).1 h with hz | ⟨L, j, l1, l2, l3, l4, l5, l6⟩
    · rw [tb_zset] at hz; cases hz
    · rcases hS with hS | hS
      · have := l5.2.1
        rw [← l4] at this
        rw [this] at hS
        exact hS l2
      · have := l5.1
        rw [← l4] at this
        rw [this] at hS
        exact hS rfl
  · rw [hd] at h; cases h

theorem inv_b10 (i : InvC B) {h via a : Nat} (h1 : 1 ≤ h) (hn : h < B.obj.length) (hN : NullAt B (B.up.getD h 0) via a) (hd : B.dead.getD h false = false) : ¬ checkP (B.setVia h via) := by
  intro hc
  obtain ⟨hev, hro, e, he, hdp, u, hu, _⟩ := hc
  obtain ⟨n1, n2, n3, n4, n5, n6, n7⟩ := hN
  have hact := act_of hev.1.2 hev.2.1.2 he (x := h) (.inl n2) hd
  have hlen := i.even.2.2
  obtain ⟨b, got, p1, p2, p3, p4⟩ := (hangGo_act hev.1.2 _ _ _ _ rfl hu).1 h h1 (by show h < 1 + (B.obj.length - 1); omega) hact
  obtain ⟨q1, q2⟩ := slotsQ_not n2
  rw [q1] at n3
  have hus := i.up h h1 hn
  have hsl := inv_slotB i (u := B.up.getD h 0) (k := via) (by omega) n3
  have hv : (B.setVia h via).via.getD h 0 = via := getD_set_eq (by omega)
  have hsl2 : slotB (B.setVia h via) ((B.setVia h via).up.getD h 0) ((B.setVia h via).via.getD h 0) = some (sAt (B.o (B.up.getD h 0)) via) := by rw [hv]; exact hsl
  rw [hsl2] at p1
  cases p1
  have ha : B.A.getD (sAt (B.o (B.up.getD h 0)) via) 0 = 0 := by rw [← q2 via n3, ← n4]; exact n5
  have hr := resolve_null (A := B.A) (inv_slot_lt i (by omega) n3) ha
  have p3' : resolveN B.A (sAt (B.o (B.up.getD h 0)) via) = some got := p3
  rw [hr] at p3'
  cases p3'
  have p4' : sameObj (B.o h) ⟨0, 0, 0, 0, 0, 0⟩ := p4
  have hg := i.good h h1 hn
  unfold sameObj at p4'
  have := congrArg Ptr.kind p4'
  split at this
  · dsimp only at this; rcases hg with h | h | h <;> omega
  · dsimp only at this; rcases hg with h | h | h <;> omega

theorem setA_getD {B : Bld} {a v : Nat} (h : a < B.A.length) : (setA B a v).A.getD a 0 = v := getD_set_eq h

theorem inv_b11 (i : InvC B) {h g : Nat} (h1 : 1 ≤ g) (hgh : g < h) (hn : h < B.obj.length) (hd : B.dead.getD h false = false) (hdg : B.dead.getD g false = false) (hu : B.up.getD h 0 = B.up.getD g 0) (hc7 : ¬ (B.o (B.up.getD h 0)).code = 7) :
    B.via.getD h 0 < (slotsQ (B.o (B.up.getD h 0))).2.1 ∧ ¬ isSt (B.o (B.up.getD h 0)) ∧ ¬ checkP ((setA B ((slotsQ (B.o (B.up.getD h 0))).1 + B.via.getD h 0) 0).setVia h (B.via.getD g 0)) := by
  have hS : ¬ isSt (B.o (B.up.getD h 0)) := fun hx => hc7 hx.2
  obtain ⟨q1, q2⟩ := slotsQ_not hS
  obtain ⟨c1, c2, c3⟩ := i.hang h (by omega) hn hd hS
  refine ⟨by rw [q1]; exact c2, hS, fun hc => ?_⟩
  obtain ⟨hev, hro, e, he, hdp, u, hu2, _⟩ := hc
  have hlen := i.even.2.2
  have a1 := act_of hev.1.2 hev.2.1.2 he (x := h) (.inl hS) hd
  have a2 := act_of hev.1.2 hev.2.1.2 he (x := g) (.inl (by show ¬ isSt (B.o (B.up.getD g 0)); rw [← hu]; exact hS)) hdg
  have hne := (hangGo_act hev.1.2 _ _ _ _ rfl hu2).2.2 g h h1 hgh (by show h < 1 + (B.obj.length - 1); omega) a2 a1
  refine hne ?_
  have v1 : ((setA B ((slotsQ (B.o (B.up.getD h 0))).1 + B.via.getD h 0) 0).setVia h (B.via.getD g 0)).via.getD h 0 = B.via.getD g 0 := getD_set_eq (by show h < B.via.length; omega)
  have v2 : ((setA B ((slotsQ (B.o (B.up.getD h 0))).1 + B.via.getD h 0) 0).setVia h (B.via.getD g 0)).via.getD g 0 = B.via.getD g 0 := getD_set_ne (by omega)
  rw [v1, v2]
  show slotB _ (B.up.getD g 0) _ = slotB _ (B.up.getD h 0) _
  rw [hu]
end
end Go.Proofs.YgcfaaGreat
