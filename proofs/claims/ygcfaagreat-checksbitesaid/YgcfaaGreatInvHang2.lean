import Derived.Test.YgcfaaGreatInvHang
namespace Go.Proofs.YgcfaaGreat
open Go.RowKit Bits Bd
set_option linter.unusedVariables false

section
variable {B : Bld}
/-- A made pointer word resolves to its object. -/
theorem resolve_made {A : List Nat} {a : Nat} {p : Ptr} (hA : A.length ≤ 256) (ha : a < A.length) (hg : GoodP p) (hat : isSt p → 1 ≤ p.at_) (h1 : 1 ≤ lo p) (hf : lo p + words p ≤ A.length) (hw : A.getD a 0 = ptrW a p) (ht : isSt p → A.getD (p.at_ - 1) 0 = mkTag p.count p.data p.ptrs) :
    ∃ got, resolveN A a = some got ∧ sameObj p got ∧ ¬ got.kind = 0 := by
  have hgw := good_words hg
  obtain ⟨kind, at_, data, ptrs, code, count⟩ := p
  unfold ptrW at hw
  dsimp only at hw
  rcases hg with ⟨g1, g2, g3, g4, g5⟩ | ⟨g1, g2, g3, g4, g5, g6⟩ | ⟨g1, g2, g3, g4, g5, g6⟩
  · dsimp only at g1 g2 g3 g4 g5
    subst g1 g4 g5
    rw [if_pos rfl] at hw
    have hwd := hgw.1 rfl
    dsimp only at hwd
    have hlo := (lo_struct (p := ⟨1, at_, data, ptrs, 0, 0⟩) rfl).1
    rw [hlo] at h1 hf
    dsimp only at h1 hf
    have := resolve_struct ha hA (by omega) g2 g3 hw (fun h => by omega)
    refine ⟨_, this, ?_, by dsimp only; omega⟩
    unfold sameObj
    rw [hwd]
    by_cases h0 : data + ptrs = 0
    · rw [if_pos h0]
    · rw [if_neg h0, if_neg h0]
  · dsimp only at g1 g2 g3 g4 g5 g6
    subst g1 g4 g5
    rw [if_neg (by omega), if_neg (by omega)] at hw
    have hS : ¬ isSt ⟨2, at_, 0, 0, code, count⟩ := fun h => by have := h.2; dsimp only at this; omega
    have hlo : lo ⟨2, at_, 0, 0, code, count⟩ = at_ := by unfold lo; rw [if_neg hS]
    rw [hlo] at h1 hf
    have hww : words ⟨2, at_, 0, 0, code, count⟩ = words ⟨2, 0, 0, 0, code, count⟩ := rfl
    rw [hww] at hf
    have := resolve_list ha hA (by omega) ⟨g2, g3⟩ g6 hw (fun h => by omega)
    refine ⟨_, this, ?_, by dsimp only; omega⟩
    unfold sameObj
    split <;> rfl
  · dsimp only at g1 g2 g3 g4 g5 g6
    subst g1 g2
    have hS : isSt ⟨2, at_, data, ptrs, 7, count⟩ := ⟨rfl, rfl⟩
    rw [if_neg (by omega), if_pos rfl] at hw
    have hwd := hgw.2.1 hS
    dsimp only at hwd
    have hlo := (lo_st hS).1
    have hat := hat hS
    rw [hlo] at h1 hf
    have ht := ht hS
    dsimp only at h1 hf hat ht
    have := resolve_structs (t := at_ - 1) ha hA (by omega) (by omega) g3 g4 g5 g6 hw ht
    rw [show at_ - 1 + 1 = at_ by omega] at this
    refine ⟨_, this, ?_, by dsimp only; omega⟩
    unfold sameObj
    split <;> rfl

/-- A live object that is no element, and its pointer word. -/
def Hung (B : Bld) (h : Nat) : Prop := 1 ≤ h ∧ h < B.obj.length ∧ B.dead.getD h false = false ∧ ¬ isE B h
def hAt (B : Bld) (h : Nat) : Nat := sAt (B.o (B.up.getD h 0)) (B.via.getD h 0)

theorem inv_res (i : InvC B) {h : Nat} (hh : Hung B h) : ∃ got, resolveN B.A (hAt B h) = some got ∧ sameObj (B.o h) got ∧ ¬ got.kind = 0 := by
  obtain ⟨h1, hn, hd, hE⟩ := hh
  have hu := i.up h h1 hn
  obtain ⟨c1, c2, c3⟩ := i.hang h h1 hn hd hE
  exact resolve_made i.even.1.2 (inv_slot_lt i (by omega) c2) (i.good h h1 hn) (i.at1 h h1 hn) (inv_lo1 i h1 hn) (inv_fit i h1 hn hE) c3 (i.tag h h1 hn hd)

theorem inv_hangGo (i : InvC B) {e : List Nat} (he : ∀ x, tb e x = true ↔ (1 ≤ x ∧ x < B.obj.length ∧ isE B x)) :
    ∀ (k h : Nat) (s : List Nat), h + k = B.obj.length → 1 ≤ h → s.length = 4 → (∀ x, tb s x = true ↔ ∃ g, Hung B g ∧ g < h ∧ x = hAt B g) →
    ∃ u, hangGo B e k h s = some u ∧ u.length = 4 ∧ ∀ x, tb u x = true ↔ ∃ g, Hung B g ∧ x = hAt B g
  | 0, h, s, hk, h1, hl, hs => ⟨s, rfl, hl, fun x => by
      rw [hs x]
      exact ⟨fun ⟨g, a, b, c⟩ => ⟨g, a, c⟩, fun ⟨g, a, c⟩ => ⟨g, a, by have := a.2.1; omega, c⟩⟩⟩
  | k + 1, h, s, hk, h1, hl, hs => by
    have hn : h < B.obj.length := by omega
    by_cases hskip : tb e h = true ∨ B.dead.getD h false = true
    · rw [hangGo_skip hskip]
      refine inv_hangGo i he k (h + 1) s (by omega) (by omega) hl (fun x => ?_)
      rw [hs x]
      refine ⟨fun ⟨g, a, b, c⟩ => ⟨g, a, by omega, c⟩, fun ⟨g, a, b, c⟩ => ⟨g, a, ?_, c⟩⟩
      by_cases hgh : g = h
      · subst hgh
        exfalso
        rcases hskip with hx | hx
        · exact a.2.2.2 ((he g).1 hx).2.2
        · rw [a.2.2.1] at hx; cases hx
      · omega
    · have hH : Hung B h := ⟨h1, hn, by
        cases hd : B.dead.getD h false
        · rfl
        · exact absurd (.inr hd) hskip, fun hE => hskip (.inl ((he h).2 ⟨h1, hn, hE⟩))⟩
      obtain ⟨got, r1, r2, r3⟩ := inv_res i hH
      obtain ⟨c1, c2, c3⟩ := i.hang h h1 hn hH.2.2.1 hH.2.2.2
      have hu := i.up h h1 hn
      have hlt := inv_slot_lt i (by omega) c2
      have hA := i.even.1.2
      have hnot : ¬ tb s (hAt B h) = true := fun hx => by
        obtain ⟨g, a, b, c⟩ := (hs _).1 hx
        obtain ⟨d1, d2, d3⟩ := i.hang g a.1 a.2.1 a.2.2.1 a.2.2.2
        have hug := i.up g a.1 a.2.1
        obtain ⟨e1, e2⟩ := inv_slot_inj i (by omega) (by omega) c2 d2 c
        have := i.uniq h g h1 hn a.1 a.2.1 hH.2.2.1 a.2.2.1 hH.2.2.2 a.2.2.2 e1 e2
        omega
      have hh1 : hang1 B s h = some (putS s (hAt B h)) := by
        unfold hang1
        rw [inv_slotB i (by omega) c2]
        dsimp only
        rw [if_neg (fun hx => hx.elim (fun hx => by rw [c1] at hx; cases hx) hnot)]
        have r1' := r1
        unfold hAt at r1'
        rw [r1']
        dsimp only
        rw [if_pos r2]
        rfl
      rw [hangGo_some hskip hh1]
      refine inv_hangGo i he k (h + 1) _ (by omega) (by omega) (by rw [putS_len]; exact hl) (fun x => ?_)
      rw [tb_putS s _ x hl (by unfold hAt; omega), Bool.or_eq_true, decide_eq_true_eq, hs x]
      constructor
      · rintro (⟨g, a, b, c⟩ | hx)
        · exact ⟨g, a, by omega, c⟩
        · exact ⟨h, hH, by omega, hx⟩
      · rintro ⟨g, a, b, c⟩
        by_cases hgh : g = h
        · subst hgh; exact .inr c
        · exact .inl ⟨g, a, by omega, c⟩

theorem inv_hangs (i : InvC B) {e : List Nat} (he : ∀ x, tb e x = true ↔ (1 ≤ x ∧ x < B.obj.length ∧ isE B x)) :
    ∃ u, hangGo B e (B.obj.length - 1) 1 zset = some u ∧ u.length = 4 ∧ ∀ x, tb u x = true ↔ ∃ g, Hung B g ∧ x = hAt B g := by
  have := i.even.2.1.1
  refine inv_hangGo i he _ 1 zset (by omega) (Nat.le_refl _) rfl (fun x => ?_)
  rw [tb_zset]
  exact ⟨fun h => Bool.noConfusion h, fun ⟨g, a, b, _⟩ => by have := a.1; omega⟩
end
end Go.Proofs.YgcfaaGreat
