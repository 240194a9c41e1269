import Derived.Test.YgcfaaGreatMk
import Derived.Test.YgcfaaGreatLive2
import Derived.Test.YgcfaaGreatOwnW
import Derived.Test.YgcfaaGreatInvDrop
import Derived.Test.YgcfaaGreatPackA
namespace Go.Proofs.YgcfaaGreat
open Go.RowKit Bits Bd
set_option linter.unusedVariables false
set_option maxRecDepth 100000
set_option linter.unusedSimpArgs false
attribute [local go_sem] World.cell?_ext World.frozen?_ext

/-- The words of a slice. -/
structure RawAt (w : World) (sa : Option Addr) (n : Nat) : Prop where
  le : n ≤ 256
  words : 0 < n → ∃ b o, sa = some ⟨b, o, none⟩ ∧ WordsAt w b o n
theorem RawAt.below {w w' : World} {sa : Option Addr} {n : Nat} (h : RawAt w sa n) (hb : Below w.heap.size w w') : RawAt w' sa n :=
  ⟨h.le, fun h0 => by obtain ⟨b, o, e, hw⟩ := h.words h0; exact ⟨b, o, e, hw.below hb⟩⟩
theorem RawAt.list {w : World} {sa : Option Addr} {n : Nat} (h : RawAt w sa n) : ∃ cs : List Value, cs.length = n ∧ (∀ u ∈ cs, u.oneCell' = true) ∧ (0 < n → ∃ ad, sa = some ad ∧ ∀ j v, cs[j]? = some v → w.cell? (ad.add j) = some v) := by
  rcases Nat.eq_zero_or_pos n with h0 | h0
  · exact ⟨[], h0.symm, fun u hu => (by cases hu), fun h1 => (by omega)⟩
  · obtain ⟨b, o, e, hw⟩ := h.words h0
    have : ∀ m, m ≤ n → ∃ cs : List Value, cs.length = m ∧ (∀ u ∈ cs, u.oneCell' = true) ∧ ∀ j v, cs[j]? = some v → w.cell? ⟨b, o + j, none⟩ = some v := by
      intro m
      induction m with
      | zero => exact fun _ => ⟨[], rfl, fun u hu => (by cases hu), fun j v hv => (by simp at hv)⟩
      | succ m ih =>
        intro hm
        obtain ⟨cs, c1, c2, c3⟩ := ih (by omega)
        obtain ⟨v, v1, v2⟩ := hw m (by omega)
        refine ⟨cs ++ [.int .u64 (v : Int)], by simp [c1], fun u hu => ?_, fun j x hx => ?_⟩
        · rcases List.mem_append.1 hu with hu | hu
          · exact c2 u hu
          · rw [List.mem_singleton.1 hu]; rfl
        · by_cases hj : j < cs.length
          · rw [List.getElem?_append_left hj] at hx
            exact c3 j x hx
          · rw [List.getElem?_append_right (by omega)] at hx
            have : j = m := by
              rcases Nat.lt_or_ge (j - cs.length) 1 with q | q
              · omega
              · rw [List.getElem?_eq_none (by simpa using q)] at hx; cases hx
            subst this
            rw [c1, Nat.sub_self] at hx
            cases hx
            exact v1
    obtain ⟨cs, c1, c2, c3⟩ := this n (Nat.le_refl _)
    exact ⟨cs, c1, c2, fun _ => ⟨_, e, fun j v hv => by rw [Addr.add_mid]; exact c3 j v hv⟩⟩

section
variable {B : Bld}
theorem inv_inside (i : InvC B) {h : Nat} (h1 : 1 ≤ h) (hn : h < B.obj.length) : insideP B.A.length (B.o h) := by
  have hg := i.good h h1 hn
  have hf := ext_fit i h1 hn
  have hl := inv_lo1 i h1 hn
  refine ⟨i.even.1.2, by rcases hg with q | q | q <;> omega, ?_⟩
  by_cases hS : isSt (B.o h)
  · have hat := i.at1 h h1 hn hS
    rw [(lo_st hS).1] at hf hl
    exact .inl ⟨hS.1, hS.2, by omega, .inr (by omega)⟩
  · right
    refine ⟨?_, ?_⟩
    · by_cases hk : (B.o h).kind = 2
      · exact .inr (fun hc => hS ⟨hk, hc⟩)
      · exact .inl hk
    · unfold lo at hf hl
      rw [if_neg hS] at hf hl
      exact ⟨hf, .inr hl⟩
end
/-- The hurts of a Ptr. -/
theorem out_long (p : Ptr) : ¬ insideP 257 p := fun h => absurd h.1 (by decide)
theorem out_kind {n : Nat} {p : Ptr} (h : ¬ (p.kind = 1 ∨ p.kind = 2)) : ¬ insideP n p := fun q => h q.2.1
theorem out_high {n : Nat} {p : Ptr} (hS : isSt p → n + 1 < p.at_ + words p) (hN : ¬ isSt p → n < p.at_ + words p) : ¬ insideP n p := fun h => by
  rcases h.2.2 with ⟨q1, q2, q3, _⟩ | ⟨q1, q2, _⟩
  · have := hS ⟨q1, q2⟩; omega
  · have : ¬ isSt p := fun hs => q1.elim (fun q => q hs.1) (fun q => q hs.2)
    have := hN this; omega
theorem out_low {n : Nat} {p : Ptr} (hw : ¬ words p = 0) (hS : p.at_ < 2) (hN : ¬ isSt p → p.at_ = 0) : ¬ insideP n p := fun h => by
  rcases h.2.2 with ⟨q1, q2, _, q4⟩ | ⟨q1, _, q3⟩
  · rcases q4 with q | q
    · exact hw q
    · omega
  · have : ¬ isSt p := fun hs => q1.elim (fun q => q hs.1) (fun q => q hs.2)
    have := hN this
    rcases q3 with q | q
    · exact hw q
    · omega
end Go.Proofs.YgcfaaGreat
