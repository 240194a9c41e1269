import Derived.Test.YgcfaaGreatInvC
import Derived.Test.YgcfaaGreatNew
namespace Go.Proofs.YgcfaaGreat
open Go.RowKit Bits Bd
set_option linter.unusedVariables false

theorem new_slot : ((List.range 256).all fun y => y == 0 || !tb newB.slot y) = true := by kernel_rfl
theorem inv_newB : InvC newB := by
  have hl : newB.obj.length = 1 := rfl
  have hA : newB.A.length = 1 := rfl
  refine ⟨⟨⟨by rw [hA]; omega, by rw [hA]; omega⟩, ⟨by rw [hl]; omega, by rw [hl]; omega⟩, rfl, rfl, rfl, rfl⟩, ⟨rfl, rfl, rfl, rfl, rfl⟩, fun h h1 hn => by omega, ⟨fun _ => rfl, fun h => by omega⟩,
    fun h h1 hn => by omega, fun h h1 hn => by omega, fun h h1 hn => by omega, fun h h1 hn => by omega, fun h h1 hn => by omega, fun h h1 hn => by omega, fun h h1 hn => by omega, fun h g h1 hn => by omega,
    fun u i hu hd hi _ => ?_, fun x hx => ?_, fun h h1 hn => by omega, fun h h1 hn => by omega, fun h h1 hn => by omega⟩
  · have hu0 : u = 0 := by omega
    subst hu0
    have : i = 0 := by
      have h2 : nsl (newB.o 0) = 1 := rfl
      omega
    subst this
    rfl
  · constructor
    · intro h
      by_cases h0 : x = 0
      · subst h0; exact ⟨0, 0, by omega, rfl, by decide, rfl⟩
      · exfalso
        revert h
        have hb := List.all_eq_true.1 new_slot x (List.mem_range.2 hx)
        rw [Bool.or_eq_true, beq_iff_eq, Bool.not_eq_true'] at hb
        rw [hb.resolve_left h0]
        intro h; cases h
    · rintro ⟨u, i, hu, hd, hi, rfl⟩
      have hu0 : u = 0 := by omega
      subst hu0
      have : i = 0 := by
        have h2 : nsl (newB.o 0) = 1 := rfl
        omega
      subst this
      rfl
end Go.Proofs.YgcfaaGreat
