import Derived.Test.YgcfaaGreatInvBite
import Derived.Test.YgcfaaGreatBiteW
namespace Go.Proofs.YgcfaaGreat
open Go.RowKit Bits Bd
set_option linter.unusedVariables false

/-- A handle that hangs looks at. -/
def Act1 (B : Bld) (e : List Nat) (x : Nat) : Prop := ¬ (tb e x = true ∨ B.dead.getD x false = true)

theorem hang1_some {B : Bld} {s s' : List Nat} {h : Nat} (hh : hang1 B s h = some s') : ∃ a got, slotB B (B.up.getD h 0) (B.via.getD h 0) = some a ∧ ¬ tb s a = true ∧ resolveN B.A a = some got ∧ sameObj (B.o h) got ∧ s' = putS s a := by
  unfold hang1 at hh
  split at hh
  · cases hh
  · rename_i a ha
    split at hh
    · cases hh
    · rename_i hb
      split at hh
      · cases hh
      · rename_i got hg
        split at hh
        · rename_i hs
          cases hh
          exact ⟨a, got, ha, fun hx => hb (.inr hx), hg, hs, rfl⟩
        · cases hh

theorem hangGo_act {B : Bld} {e : List Nat} (hA : B.A.length ≤ 256) : ∀ (k h : Nat) (s u : List Nat), s.length = 4 → hangGo B e k h s = some u →
    (∀ x, h ≤ x → x < h + k → Act1 B e x → ∃ a got, slotB B (B.up.getD x 0) (B.via.getD x 0) = some a ∧ ¬ tb s a = true ∧ resolveN B.A a = some got ∧ sameObj (B.o x) got) ∧
    (∀ x, tb u x = true → tb s x = true ∨ ∃ got, resolveN B.A x = some got) ∧
    (∀ g x, h ≤ g → g < x → x < h + k → Act1 B e g → Act1 B e x → slotB B (B.up.getD g 0) (B.via.getD g 0) ≠ slotB B (B.up.getD x 0) (B.via.getD x 0))
  | 0, h, s, u, h4, hu => by
    rw [hangGo] at hu
    cases hu
    exact ⟨fun x a b => by omega, fun x hx => .inl hx, fun g x a b c => by omega⟩
  | k + 1, h, s, u, h4, hu => by
    by_cases hskip : tb e h = true ∨ B.dead.getD h false = true
    · rw [hangGo_skip hskip] at hu
      obtain ⟨r1, r2, r3⟩ := hangGo_act hA k (h + 1) s u h4 hu
      refine ⟨fun x a b c => ?_, r2, fun g x a b c d f => ?_⟩
      · by_cases hx : x = h
        · subst hx; exact absurd hskip c
        · exact r1 x (by omega) (by omega) c
      · by_cases hx : g = h
        · subst hx; exact absurd hskip d
        · exact r3 g x (by omega) b (by omega) d f
    · cases hh : hang1 B s h with
      | none => rw [hangGo_none hskip hh] at hu; cases hu
      | some s' =>
        rw [hangGo_some hskip hh] at hu
        obtain ⟨a, got, q1, q2, q3, q4, rfl⟩ := hang1_some hh
        have hal : a < 256 := by have := slotB_lt q1; omega
        obtain ⟨r1, r2, r3⟩ := hangGo_act hA k (h + 1) (putS s a) u (by rw [putS_len]; exact h4) hu
        refine ⟨fun x hx1 hx2 c => ?_, fun x hx => ?_, fun g x hg hgx hx d f => ?_⟩
        · by_cases hx : x = h
          · subst hx; exact ⟨a, got, q1, q2, q3, q4⟩
          · obtain ⟨b, got', p1, p2, p3, p4⟩ := r1 x (by omega) (by omega) c
            refine ⟨b, got', p1, fun hb => p2 ?_, p3, p4⟩
            rw [tb_putS s a b h4 hal, hb]; rfl
        · rcases r2 x hx with h1 | h1
          · rw [tb_putS s a x h4 hal, Bool.or_eq_true, decide_eq_true_eq] at h1
            rcases h1 with h1 | h1
            · exact .inl h1
            · subst h1; exact .inr ⟨got, q3⟩
          · exact .inr h1
        · by_cases hgh : g = h
          · subst hgh
            obtain ⟨b, got', p1, p2, p3, p4⟩ := r1 x (by omega) (by omega) f
            rw [q1, p1]
            intro heq
            cases heq
            refine p2 ?_
            rw [tb_putS s a a h4 hal]; simp
          · exact r3 g x (by omega) hgx (by omega) d f

theorem slotsQ_not {p : Ptr} (hS : ¬ isSt p) : (slotsQ p).2.1 = nsl p ∧ ∀ k, k < nsl p → (slotsQ p).1 + k = sAt p k := by
  unfold slotsQ nsl sAt
  by_cases h1 : p.kind = 1
  · simp only [if_pos h1]
    exact ⟨trivial, fun k _ => trivial⟩
  · simp only [if_neg h1]
    by_cases h6 : p.kind = 2 ∧ p.code = 6
    · simp only [if_pos h6]
      exact ⟨trivial, fun k _ => trivial⟩
    · have h7 : ¬ (p.kind = 2 ∧ p.code = 7) := hS
      simp only [if_neg h6, if_neg h7]
      exact ⟨trivial, fun k hk => by omega⟩

section
variable {B : Bld}
theorem inv_slotFit (i : InvC B) {h : Nat} (hn : h < B.obj.length) : SlotFit B h := by
  have hg : h = 0 ∨ GoodP (B.o h) := by
    by_cases h0 : h = 0
    · exact .inl h0
    · exact .inr (i.good h (by omega) hn)
  have hA := i.even.1
  by_cases hS : isSt (B.o h)
  · refine ⟨hn, ?_, fun hx => absurd hS hx, fun hx => absurd hS hx, fun hx => absurd hS hx⟩
    obtain ⟨s1, s2⟩ := hS
    unfold slotsQ
    rw [if_neg (by omega), if_neg (by omega), if_pos ⟨s1, s2⟩]
    dsimp only
    rcases hg with rfl | hg
    · rw [i.root.1] at s1; exact absurd s1 (by decide)
    · have hb : (B.o h).count ≤ 128 ∧ (B.o h).ptrs ≤ 8 := by rcases hg with h | h | h <;> omega
      have := Nat.mul_le_mul hb.1 hb.2
      omega
  · obtain ⟨q1, q2⟩ := slotsQ_not hS
    have hc : nsl (B.o h) ≤ 128 := by
      rcases hg with rfl | hg
      · rw [(inv_o0 i).2.2.1]; omega
      · unfold nsl
        split
        · rcases hg with h | h | h <;> omega
        · split
          · rcases hg with h | h | h <;> omega
          · omega
    refine ⟨hn, by omega, fun _ => by omega, fun _ => ?_, fun _ h0 => ?_⟩
    · by_cases h0 : nsl (B.o h) = 0
      · rw [q1, h0]
        unfold slotsQ
        have hhi := inv_hi i hn
        by_cases h1 : (B.o h).kind = 1
        · rw [if_pos h1]
          dsimp only
          have hw : hi (B.o h) = (B.o h).at_ + words (B.o h) := (lo_struct h1).2
          rcases hg with rfl | hg
          · rw [i.root.1]; have : (firstPtr.at_ + firstPtr.data + 0) = 0 := rfl
            omega
          · rw [(good_words hg).1 h1] at hw
            omega
        · rw [if_neg h1]
          split
          · dsimp only
            unfold hi at hhi
            rw [if_neg hS] at hhi
            omega
          · split
            · rename_i h7; exact absurd h7 hS
            · dsimp only; omega
      · have := inv_slot_lt i hn (k := nsl (B.o h) - 1) (by omega)
        have := q2 (nsl (B.o h) - 1) (by omega)
        omega
    · unfold slotsQ
      by_cases h1 : (B.o h).kind = 1
      · rw [if_pos h1]
        dsimp only
        refine .inl ⟨rfl, ?_⟩
        rcases hg with rfl | hg
        · rw [i.root.1]; decide
        · rcases hg with h | h | h <;> omega
      · rw [if_neg h1]
        split
        · exact .inr ⟨rfl, rfl⟩
        · exfalso
          rename_i h6
          rw [q1] at h0
          unfold nsl at h0
          rw [if_neg h1, if_neg h6] at h0
          omega
end
end Go.Proofs.YgcfaaGreat
