import Derived.Test.YgcfaaGreatInvBite
namespace Go.Proofs.YgcfaaGreat
open Go.RowKit Bits Bd
set_option linter.unusedVariables false

section
variable {B : Bld}
/-- A word that is no pointer, no tag and of no dead object may be written, if the padding stays. -/
theorem inv_setA (i : InvC B) {x v : Nat} (hslot : ∀ u k, u < B.obj.length → B.dead.getD u false = false → k < nsl (B.o u) → ¬ sAt (B.o u) k = x)
    (htag : ∀ h, 1 ≤ h → h < B.obj.length → B.dead.getD h false = false → isSt (B.o h) → ¬ (B.o h).at_ - 1 = x)
    (hdead : ∀ h, 1 ≤ h → h < B.obj.length → B.dead.getD h false = true → lo (B.o h) ≤ x → ¬ x < hi (B.o h))
    (hpad : ∀ h, 1 ≤ h → h < B.obj.length → B.dead.getD h false = false → paddedP (B.A.set x v) (B.o h)) : InvC (setA B x v) := by
  have hl : (setA B x v).A.length = B.A.length := List.length_set
  have hne : ∀ y, ¬ y = x → (setA B x v).A.getD y 0 = B.A.getD y 0 := fun y hy => getD_set_ne (fun h => hy h.symm)
  refine ⟨⟨by rw [hl]; exact i.even.1, i.even.2⟩, i.root, i.good, ⟨fun h => by rw [hl]; exact i.row1.1 h, i.row1.2⟩, fun h h1 hn hE => ?_, i.at1, i.elems, i.inE, i.up, i.deep, fun h h1 hn hd hE => ?_, i.uniq, fun u k hu hd hk hno => ?_, i.slot, fun h h1 hn hd y h2 h3 => ?_, fun h h1 hn hd hS => ?_, hpad⟩
  · have := i.row h h1 hn hE
    rw [hl]
    exact this
  · obtain ⟨c1, c2, c3⟩ := i.hang h h1 hn hd hE
    refine ⟨c1, c2, ?_⟩
    have hu := i.up h h1 hn
    have hn' : h < B.obj.length := hn
    have := hne _ (hslot _ _ (by omega) c1 c2)
    exact this.trans c3
  · have := hne _ (hslot u k hu hd hk)
    exact this.trans (i.null u k hu hd hk hno)
  · have hy : ¬ y = x := fun e => by subst e; exact hdead h h1 hn hd h2 h3
    exact (hne y hy).trans (i.zero h h1 hn hd y h2 h3)
  · exact (hne _ (htag h h1 hn hd hS)).trans (i.tag h h1 hn hd hS)
end
end Go.Proofs.YgcfaaGreat
