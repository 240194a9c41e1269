import Derived.Test.YgcfaaGreatOrph
namespace Go.Proofs.YgcfaaGreat
open Go.RowKit Bits Bd
set_option linter.unusedVariables false

namespace Bd
/-- The chain at Root, with its first node cut off. -/
def Mo.cut (M : Mo) : Mo := { (M.ch 10).setK M.N.length 0 (-1) with root := ((M.N.length + 1 : Nat) : Int) }
def CutI (n i wd : Nat) (dA : List Nat) (eA : List Bool) : Prop :=
  dA.length = 512 ∧ eA.length = 512 ∧ (∀ x, dA.getD x 0 ≤ 8) ∧ ∃ t, t ≤ 7 ∧ i = n + 1 + t ∧ wd ≤ 1 + t ∧ dA.getD i 0 = t + 1 ∧ eA.getD i false = false
end Bd
section
variable {M : Mo}
theorem cut_len : M.cut.N.length = M.N.length + 10 := by
  show ((M.ch 10).setK M.N.length 0 (-1)).N.length = _
  rw [setK_len, ch_len]
theorem cut_nd {i : Nat} (h0 : 0 < i) (h : i < 10) : M.cut.nd (M.N.length + i) = chN M.N.length i := by
  have hn : M.N.length < (M.ch 10).N.length := by rw [ch_len]; omega
  have := nd_set (M := M.ch 10) hn { (M.ch 10).nd M.N.length with kids := ((M.ch 10).nd M.N.length).kids.set 0 (-1) } (M.N.length + i)
  rw [if_neg (by omega)] at this
  rw [← ch_new (M := M) h, ← this]
  rfl
theorem cut_pre {n0 : Nat} {own : Nat → Nat × Nat} {dp wd : Nat → Nat} {nm : Nat → Bool} (t : InvT M n0 own dp wd nm) (hn : M.N.length + 10 ≤ 512) (hn0 : n0 = M.N.length) : preT M.cut := by
  have t' := inv_chain t hn hn0 (C := (M.ch 10).setK M.N.length 0 (-1)) (.inr rfl)
  obtain ⟨_, a2, a3, a4, a5⟩ := invT_pre t'
  have hlt : M.N.length < (M.ch 10).N.length := by rw [ch_len]; omega
  have hk1 : ((M.ch 10).nd M.N.length).kids.length = 1 := by
    have := ch_new (M := M) (t := 10) (i := 0) (by omega); rw [Nat.add_zero] at this; rw [this]; rfl
  have hcl := cut_len (M := M)
  refine ⟨⟨?_, ?_⟩, a2, a3, fun a b hat hm he => ?_, a5⟩
  · show -1 ≤ ((M.N.length + 1 : Nat) : Int); omega
  · show ((M.N.length + 1 : Nat) : Int) < _; rw [hcl]; omega
  · have he' : ((M.ch 10).setK M.N.length 0 (-1)).kd a b = ((M.N.length + 1 : Nat) : Int) := he
    have := t'.kid a b (M.N.length + 1) hat he'
    rw [if_neg (by omega)] at this
    have e1 := congrArg Prod.fst this
    have e2 := congrArg Prod.snd this
    dsimp only at e1 e2
    have hkd := setK_kd (M := M.ch 10) hlt (show 0 < ((M.ch 10).nd M.N.length).kids.length by omega) (-1) a b
    rw [if_pos ⟨by omega, by omega⟩] at hkd
    rw [hkd] at he'
    omega
theorem cut_bin (hn : M.N.length + 10 ≤ 512) : BIn M.cut false (fun _ => 1) (CutI M.N.length) := by
  have hcl := cut_len (M := M)
  have hrep : ∀ x, (List.replicate 512 0).getD x 0 = (0 : Nat) := fun x => by rw [List.getD_eq_getElem?_getD, List.getElem?_replicate]; split <;> rfl
  have hnd : ∀ t, t ≤ 7 → M.cut.nd (M.N.length + 1 + t) = ⟨1, 0, [], [((M.N.length + 1 + t + 1 : Nat) : Int)]⟩ := fun t ht => by
    rw [show M.N.length + 1 + t = M.N.length + (1 + t) by omega, cut_nd (by omega) (by omega), chN, if_neg (by omega)]
  refine ⟨fun r hr => ?_, fun i wd dA eA h => ?_, fun i wd dA eA h hi h0 => ?_, fun i wd dA eA h hi h0 he => ?_, fun i wd wd' dA eA h hi h0 hw => ?_, fun i wd dA eA h hi => ?_⟩
  · have hr' : ((M.N.length + 1 : Nat) : Int) = (r : Int) := hr
    have e : r = M.N.length + 1 := by omega
    subst e
    refine ⟨by rw [List.length_set, List.length_replicate], List.length_replicate, fun x => ?_, 0, by omega, by omega, by omega, ?_, ?_⟩
    · by_cases hx : x = M.N.length + 1
      · subst hx
        rw [List.getD_eq_getElem?_getD, List.getElem?_set_self (by rw [List.length_replicate]; omega)]; decide
      · rw [List.getD_eq_getElem?_getD, List.getElem?_set_ne (fun e => hx e.symm), ← List.getD_eq_getElem?_getD, hrep]; omega
    · rw [List.getD_eq_getElem?_getD, List.getElem?_set_self (by rw [List.length_replicate]; omega)]; rfl
    · rw [List.getD_eq_getElem?_getD, List.getElem?_replicate]; split <;> rfl
  · obtain ⟨h1, h2, h3, t, ht, _, hw, _, _⟩ := h
    exact ⟨h1, h2, by omega, h3⟩
  · obtain ⟨h1, h2, h3, t, ht, _, hw, hd, _⟩ := h
    omega
  · obtain ⟨h1, h2, h3, t, ht, rfl, hw, hd, _⟩ := h
    refine ⟨0, 0, ?_, by omega, fun hk => ?_⟩
    · rw [hnd t ht]; exact Nat.le_refl 1
    · rw [hnd t ht] at hk; exact absurd rfl hk
  · obtain ⟨h1, h2, h3, t, ht, rfl, hwd, hd, he⟩ := h
    have hN := hnd t ht
    have hinl : inl (M.cut.nd (M.N.length + 1 + t)) = false := by rw [hN]; rfl
    have hbel : bel (M.cut.nd (M.N.length + 1 + t)) (t + 1) = t + 2 := by unfold bel; rw [hinl]; rfl
    have hk : hasK (M.cut.nd (M.N.length + 1 + t)) := ⟨0, by rw [hN]; show 0 < 1; omega, by
      rw [hN]
      show ¬ ((M.N.length + 1 + t + 1 : Nat) : Int) = -1
      omega⟩
    rw [he] at hw
    rw [hd, hbel, hinl]
    refine ⟨fun _ => rfl, fun hno => ?_⟩
    have ht6 : t ≤ 6 := by
      by_cases h7 : t = 7
      · exact absurd ⟨hk, by omega⟩ hno
      · omega
    have hks : (M.cut.nd (M.N.length + 1 + t)).kids = [((M.N.length + 1 + t + 1 : Nat) : Int)] := by rw [hN]
    rw [hks]
    have hput : putK (t + 2) false [((M.N.length + 1 + t + 1 : Nat) : Int)] (dA, eA) = (dA.set (M.N.length + 1 + t + 1) (t + 2), eA.set (M.N.length + 1 + t + 1) false) := by
      rw [putK, putK, if_neg (by omega)]; rfl
    rw [hput]
    have hw' : wd' ≤ wd + 1 := hw
    refine ⟨by rw [List.length_set]; exact h1, by rw [List.length_set]; exact h2, fun x => ?_, t + 1, by omega, by omega, by omega, ?_, ?_⟩
    · by_cases hx : x = M.N.length + 1 + t + 1
      · subst hx
        rw [List.getD_eq_getElem?_getD, List.getElem?_set_self (by omega)]; show t + 2 ≤ 8; omega
      · rw [List.getD_eq_getElem?_getD, List.getElem?_set_ne (fun e => hx e.symm), ← List.getD_eq_getElem?_getD]; exact h3 x
    · rw [List.getD_eq_getElem?_getD, List.getElem?_set_self (by omega)]; rfl
    · rw [List.getD_eq_getElem?_getD, List.getElem?_set_self (by omega)]; rfl
  · obtain ⟨h1, h2, h3, t, ht, rfl, hw, hd, _⟩ := h
    omega
end
/-- The chain at Root does not pass. -/
theorem cut_no {w : World} {p : Nat} {h : Nat → Value} {M : Mo} {n0 : Nat} {own : Nat → Nat × Nat} {dp wd : Nat → Nat} {nm : Nat → Bool} (m : HM false w p h M.cut) (t : InvT M n0 own dp wd nm) (hn : M.N.length + 10 ≤ 512) (hn0 : n0 = M.N.length) :
    Calls Faag.prog 10 #[.pointer (some ⟨p, 0, none⟩)] w fun e w' => e = .returned (.bool false) ∧ Below w.heap.size w w' :=
  tcheck_bin m (cut_pre t hn hn0) (by show ¬ ((M.N.length + 1 : Nat) : Int) = -1; omega) (cut_bin hn)
end Go.Proofs.YgcfaaGreat
