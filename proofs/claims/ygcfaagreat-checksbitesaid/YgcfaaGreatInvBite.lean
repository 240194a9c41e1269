import Derived.Test.YgcfaaGreatInvCheck
import Derived.Test.YgcfaaGreatBiteB
namespace Go.Proofs.YgcfaaGreat
open Go.RowKit Bits Bd
set_option linter.unusedVariables false

theorem getD_set_eq {α : Type} {l : List α} {i : Nat} {v d : α} (h : i < l.length) : (l.set i v).getD i d = v := by
  rw [List.getD_eq_getElem?_getD, List.getElem?_set]; simp [h]
theorem getD_set_ne {α : Type} {l : List α} {i k : Nat} {v d : α} (h : ¬ i = k) : (l.set i v).getD k d = l.getD k d := by
  rw [List.getD_eq_getElem?_getD, List.getElem?_set, if_neg h, List.getD_eq_getElem?_getD]

section
variable {B : Bld}
theorem inv_bites (i : InvC B) : Bites B := by
  obtain ⟨⟨a1, a2⟩, ⟨a3, a4⟩, a5, a6, a7, a8⟩ := i.even
  refine ⟨i.even, i.up, fun hc => ?_, fun h hn hd hc => ?_, fun h h1 hn hS hc => ?_, fun h1 => ?_⟩
  · have h1 := hc.2.1.1.1
    have h2 : (B.setObj 0 { B.o 0 with data := 1 }).o 0 = { B.o 0 with data := 1 } := getD_set_eq (by omega)
    rw [h2] at h1
    have := congrArg Ptr.data h1
    unfold firstPtr at this
    dsimp only at this
    omega
  · have h0 : h ≠ 0 := fun h0 => by subst h0; rw [i.root.2.2.2.2] at hd; cases hd
    obtain ⟨hev, hro, e, he, _⟩ := hc
    have hs := rowGo_sound hev.1.2 hev.2.1.2 _ _ _ _ _ rfl (Nat.le_refl 1) he
    have hl : (B.setObj h { B.o h with at_ := 300 }).obj.length = B.obj.length := List.length_set
    have := (hs.2.1 h (by omega) (by rw [hl]; exact hn)).at_
    have h2 : (B.setObj h { B.o h with at_ := 300 }).o h = { B.o h with at_ := 300 } := getD_set_eq hn
    rw [h2] at this
    dsimp only at this
    omega
  · have hel : B.dead.getD h false = B.dead.getD (B.up.getD h 0) false := by
      obtain ⟨e1, e2, e3⟩ := i.inE h h1 hn hS
      have hu := i.up h h1 hn
      have := (i.elems _ e1 (by omega) hS _ e2).2.2.2.2
      rw [← e3] at this
      exact this
    obtain ⟨hev, hro, e, he, hdp, _⟩ := hc
    have hs := rowGo_sound hev.1.2 hev.2.1.2 _ _ _ _ _ rfl (Nat.le_refl 1) he
    have hu := i.up h h1 hn
    cases ht : tb e h with
    | true =>
      rcases (hs.2.2 h).1 ht with hz | ⟨L, j, l1, l2, l3, l4, l5, l6⟩
      · rw [tb_zset] at hz; cases hz
      · have k1 : B.up.getD h 0 = L := by have := l5.2.1; rw [← l4] at this; exact this
        have k2 := l5.2.2.2.2
        rw [← l4] at k2
        have k3 : (B.setDead h (!B.dead.getD h false)).dead.getD h false = !B.dead.getD h false := getD_set_eq (by omega)
        have k4 : (B.setDead h (!B.dead.getD h false)).dead.getD L false = B.dead.getD L false := getD_set_ne (by omega)
        rw [k3, k4, ← k1, ← hel] at k2
        cases hx : B.dead.getD h false <;> rw [hx] at k2 <;> cases k2
    | false => exact (hdp h h1 hn ht).1 hS
  · have hl1 : 1 ≤ B.obj.length - 1 := by omega
    have hln : B.obj.length - 1 < B.obj.length := by omega
    have hu := i.up _ hl1 hln
    have main : ∀ v, (v = 255 ∨ v = 0) → ¬ checkP (B.setDepth (B.obj.length - 1) v) := by
      intro v hv hc
      obtain ⟨hev, hro, e, he, hdp, _⟩ := hc
      have hs := rowGo_sound hev.1.2 hev.2.1.2 _ _ _ _ _ rfl (Nat.le_refl 1) he
      have k3 : (B.setDepth (B.obj.length - 1) v).depth.getD (B.obj.length - 1) 0 = v := getD_set_eq (by omega)
      cases ht : tb e (B.obj.length - 1) with
      | true =>
        rcases (hs.2.2 _).1 ht with hz | ⟨L, j, l1, l2, l3, l4, l5, l6⟩
        · rw [tb_zset] at hz; cases hz
        · have k2 := l5.2.2.2.1
          rw [← l4, k3] at k2
          have k4 : (B.setDepth (B.obj.length - 1) v).depth.getD L 0 = B.depth.getD L 0 := getD_set_ne (by omega)
          rw [k4] at k2
          have hLn : L < B.obj.length := by omega
          have hdl := i.deep L l1 hLn (st_notE i l1 hLn l2)
          omega
      | false =>
        obtain ⟨d1, d2, d3⟩ := hdp _ hl1 hln ht
        rw [k3] at d2 d3
        omega
    exact ⟨main 255 (.inl rfl), main 0 (.inr rfl)⟩
end
end Go.Proofs.YgcfaaGreat
