import Derived.Test.YgcfaaGreatTreeC
import Derived.Test.YgcfaaGreatWkMid
namespace Go.Proofs.YgcfaaGreat
open Go.RowKit Bits Bd
set_option linter.unusedVariables false
set_option maxRecDepth 100000
set_option linter.unusedSimpArgs false
attribute [local go_sem] World.cell?_ext World.frozen?_ext

namespace Bd
def Mo.kd (M : Mo) (i j : Nat) : Int := (M.nd i).kids.getD j 0
/-- Kid j of node i is a place of the tree. -/
def Mo.at_ (M : Mo) (i j : Nat) : Prop := i < M.N.length ∧ j < (M.nd i).kids.length
def befor (i j a b : Nat) : Prop := a < i ∨ (a = i ∧ b < j)
/-- What Check has seen before kid j of node i. -/
def okB (M : Mo) (i j : Nat) : Prop :=
  (∀ a b, M.at_ a b → befor i j a b → ¬ M.kd a b = -1 → ¬ M.kd a b = M.root) ∧
  (∀ a b c d, M.at_ a b → M.at_ c d → befor i j a b → befor i j c d → ¬ M.kd a b = -1 → M.kd a b = M.kd c d → a = c ∧ b = d)
def seenB (M : Mo) (i j : Nat) (x : Nat) : Prop := ∃ a b, M.at_ a b ∧ befor i j a b ∧ M.kd a b = (x : Int)
def onceP (M : Mo) : Prop :=
  (∀ a b, M.at_ a b → ¬ M.kd a b = -1 → ¬ M.kd a b = M.root) ∧ (∀ a b c d, M.at_ a b → M.at_ c d → ¬ M.kd a b = -1 → M.kd a b = M.kd c d → a = c ∧ b = d)
def preT (M : Mo) : Prop := (-1 ≤ M.root ∧ M.root < M.N.length) ∧ M.N.length ≤ 512 ∧ (∀ i, i < M.N.length → shapedP M i) ∧ onceP M
end Bd
section
variable {M : Mo}
theorem okB_row {i : Nat} (hk : okB M i (M.nd i).kids.length) : okB M (i + 1) 0 := by
  have e : ∀ a b, M.at_ a b → befor (i + 1) 0 a b → befor i (M.nd i).kids.length a b := fun a b ha hb => by
    rcases hb with hb | hb
    · by_cases hai : a = i
      · subst hai; exact .inr ⟨rfl, ha.2⟩
      · exact .inl (by omega)
    · omega
  exact ⟨fun a b ha hb => hk.1 a b ha (e a b ha hb), fun a b c d ha hc hb hd => hk.2 a b c d ha hc (e a b ha hb) (e c d hc hd)⟩
theorem seenB_row {i x : Nat} : seenB M (i + 1) 0 x ↔ seenB M i (M.nd i).kids.length x := by
  constructor
  · rintro ⟨a, b, h1, h2, h3⟩
    refine ⟨a, b, h1, ?_, h3⟩
    rcases h2 with h2 | h2
    · by_cases hai : a = i
      · subst hai; exact .inr ⟨rfl, h1.2⟩
      · exact .inl (by omega)
    · omega
  · rintro ⟨a, b, h1, h2, h3⟩
    refine ⟨a, b, h1, .inl ?_, h3⟩
    rcases h2 with h2 | h2 <;> omega
theorem okB_skip {i j : Nat} (hk : okB M i j) (hm : M.kd i j = -1) : okB M i (j + 1) := by
  refine ⟨fun a b ha hb hn => ?_, fun a b c d ha hc hb hd hn he => ?_⟩
  · by_cases h : a = i ∧ b = j
    · obtain ⟨rfl, rfl⟩ := h; exact absurd hm hn
    · exact hk.1 a b ha (by unfold befor at *; omega) hn
  · by_cases h : a = i ∧ b = j
    · obtain ⟨rfl, rfl⟩ := h; exact absurd hm hn
    · by_cases h' : c = i ∧ d = j
      · obtain ⟨rfl, rfl⟩ := h'; rw [hm] at he; exact absurd he hn
      · exact hk.2 a b c d ha hc (by unfold befor at *; omega) (by unfold befor at *; omega) hn he
theorem seenB_skip {i j x : Nat} (hm : M.kd i j = -1) : seenB M i (j + 1) x ↔ seenB M i j x := by
  constructor
  · rintro ⟨a, b, h1, h2, h3⟩
    refine ⟨a, b, h1, ?_, h3⟩
    by_cases h : a = i ∧ b = j
    · obtain ⟨rfl, rfl⟩ := h; rw [hm] at h3; omega
    · unfold befor at *; omega
  · rintro ⟨a, b, h1, h2, h3⟩
    exact ⟨a, b, h1, by unfold befor at *; omega, h3⟩
theorem okB_more {i j k : Nat} (hat : M.at_ i j) (hk : okB M i j) (hm : M.kd i j = (k : Int)) (hs : ¬ seenB M i j k) (hr : ¬ (k : Int) = M.root) : okB M i (j + 1) := by
  refine ⟨fun a b ha hb hn => ?_, fun a b c d ha hc hb hd hn he => ?_⟩
  · by_cases h : a = i ∧ b = j
    · obtain ⟨rfl, rfl⟩ := h; rw [hm]; exact hr
    · exact hk.1 a b ha (by unfold befor at *; omega) hn
  · by_cases h : a = i ∧ b = j
    · by_cases h' : c = i ∧ d = j
      · exact ⟨by omega, by omega⟩
      · obtain ⟨rfl, rfl⟩ := h
        exact absurd ⟨c, d, hc, by unfold befor at *; omega, by rw [← he, hm]⟩ hs
    · by_cases h' : c = i ∧ d = j
      · obtain ⟨rfl, rfl⟩ := h'
        exact absurd ⟨a, b, ha, by unfold befor at *; omega, by rw [he, hm]⟩ hs
      · exact hk.2 a b c d ha hc (by unfold befor at *; omega) (by unfold befor at *; omega) hn he
theorem seenB_more {i j k x : Nat} (hat : M.at_ i j) (hm : M.kd i j = (k : Int)) : seenB M i (j + 1) x ↔ seenB M i j x ∨ x = k := by
  constructor
  · rintro ⟨a, b, h1, h2, h3⟩
    by_cases h : a = i ∧ b = j
    · obtain ⟨rfl, rfl⟩ := h; rw [hm] at h3; right; omega
    · exact .inl ⟨a, b, h1, by unfold befor at *; omega, h3⟩
  · rintro (⟨a, b, h1, h2, h3⟩ | rfl)
    · exact ⟨a, b, h1, by unfold befor at *; omega, h3⟩
    · exact ⟨i, j, hat, .inr ⟨rfl, by omega⟩, hm⟩
theorem once_bad {i j k : Nat} (hat : M.at_ i j) (hm : M.kd i j = (k : Int)) (hb : seenB M i j k ∨ (k : Int) = M.root) : ¬ onceP M := fun ho => by
  rcases hb with ⟨a, b, h1, h2, h3⟩ | hb
  · have := ho.2 a b i j h1 hat (by omega) (by rw [h3, hm])
    unfold befor at h2; omega
  · exact ho.1 i j hat (by omega) (by rw [hm]; exact hb)
theorem once_end (hk : okB M M.N.length 0) : onceP M :=
  ⟨fun a b ha hn => hk.1 a b ha (.inl ha.1) hn, fun a b c d ha hc hn he => hk.2 a b c d ha hc (.inl ha.1) (.inl hc.1) hn he⟩
theorem okB_zero : okB M 0 0 := ⟨fun a b ha hb => by unfold befor at hb; omega, fun a b c d ha hc hb => by unfold befor at hb; omega⟩
theorem seenB_zero (x : Nat) : ¬ seenB M 0 0 x := fun ⟨a, b, _, h, _⟩ => by unfold befor at h; omega
end

/-- A set of places below 512, in memory. -/
structure Set8 (w : World) (b : Nat) (s : List Nat) : Prop where
  row : RowAt w b 0 (U s)
  eight : s.length = 8
  lt : ∀ i, s.getD i 0 < 18446744073709551616
theorem tb_put8 (s : List Nat) (i x : Nat) (hs : s.length = 8) (hi : i < 512) : tb (putS s i) x = (tb s x || decide (x = i)) := by
  unfold putS
  rw [tb_orAt _ _ _ _ (by omega), Nat.testBit_two_pow]
  congr 1
  rw [Bool.eq_iff_iff, Bool.and_eq_true, decide_eq_true_iff, decide_eq_true_iff, decide_eq_true_iff]
  omega
theorem put8_at {w : World} {b i : Nat} {s : List Nat} (h : Set8 w b s) (hi : i < 512) : Set8 (w.setCell ⟨b, i / 64, none⟩ (.int .u64 ((s.getD (i / 64) 0 ||| 2 ^ (i % 64) : Nat) : Int))) b (putS s i) := by
  have h1 : (2 : Nat) ^ (i % 64) < 18446744073709551616 := Nat.pow_lt_pow_right (a := 2) (by omega) (show i % 64 < 64 by omega)
  refine ⟨?_, by unfold putS; rw [orAt_length]; exact h.eight, fun j => ?_⟩
  · have := h.row.set (i := i / 64) (by rw [U_length, h.eight]; omega) (.int .u64 ((s.getD (i / 64) 0 ||| 2 ^ (i % 64) : Nat) : Int))
    rw [Nat.zero_add, U_set] at this
    exact this
  · unfold putS orAt
    rw [getD_set _ _ _ _ (by rw [h.eight]; omega)]
    split
    · exact or_lt (h.lt _) h1
    · exact h.lt _
theorem Set8.below {w w' : World} {b : Nat} {s : List Nat} (h : Set8 w b s) (hb : Below w.heap.size w w') : Set8 w' b s :=
  ⟨h.row.keeps (Keeps.of_below hb) (fun h1 h2 => by have : w.heap.size ≤ b := h2; omega), h.eight, h.lt⟩
def z8 : List Nat := [0, 0, 0, 0, 0, 0, 0, 0]
theorem tb_z8 (x : Nat) : tb z8 x = false := by
  unfold tb
  have : z8.getD (x / 64) 0 = 0 := by
    match x / 64 with
    | 0 => rfl
    | 1 => rfl
    | 2 => rfl
    | 3 => rfl
    | 4 => rfl
    | 5 => rfl
    | 6 => rfl
    | 7 => rfl
    | n + 8 => rfl
  rw [this]; simp
end Go.Proofs.YgcfaaGreat
