import Derived.Test.YgcfaaGreatInvMk1
namespace Go.Proofs.YgcfaaGreat
open Go.RowKit Bits Bd
set_option linter.unusedVariables false

theorem clearGo_spec : ∀ (k f : Nat) (l : List Nat), (clearGo k f l).length = l.length ∧ ∀ y, (clearGo k f l).getD y 0 = if f ≤ y ∧ y < f + k then 0 else l.getD y 0
  | 0, f, l => ⟨rfl, fun y => by rw [if_neg (by omega)]; rfl⟩
  | k + 1, f, l => by
    obtain ⟨h1, h2⟩ := clearGo_spec k (f + 1) (l.set f 0)
    rw [clearGo]
    refine ⟨h1.trans List.length_set, fun y => ?_⟩
    rw [h2 y]
    by_cases hy : y = f
    · subst hy
      rw [if_neg (by omega), if_pos (by omega)]
      by_cases hl : y < l.length
      · exact getD_set_eq hl
      · rw [List.getD_eq_getElem?_getD, List.getElem?_eq_none (by rw [List.length_set]; omega)]; rfl
    · by_cases hc : f + 1 ≤ y ∧ y < f + 1 + k
      · rw [if_pos hc, if_pos (by omega)]
      · rw [if_neg hc, if_neg (by omega), getD_set_ne (by omega)]

section
variable {B : Bld}
theorem ext_fit (i : InvC B) {h : Nat} (h1 : 1 ≤ h) (hn : h < B.obj.length) : lo (B.o h) + words (B.o h) ≤ B.A.length := by
  by_cases hE : isE B h
  · obtain ⟨a1, a2, a3⟩ := i.inE h h1 hn hE
    have hu := i.up h h1 hn
    have hel := i.elems _ a1 (by omega) hE _ a2
    unfold elemP at hel
    rw [← a3] at hel
    have hk : (B.o h).kind = 1 := by rw [hel.1]
    have := inv_hi i hn
    rw [(lo_struct hk).2] at this
    rw [(lo_struct hk).1]; exact this
  · exact inv_fit i h1 hn hE

structure DStage (B : Bld) (oh oi m : Nat) (d : Drp) : Prop where
  glen : d.gone.length = 256
  g1 : ∀ x, d.gone.getD x false = true → 1 ≤ x ∧ x < m
  gw : ∀ x, 1 ≤ x → x < m → (d.gone.getD x false = true ↔ B.dead.getD x false = false ∧ ((B.up.getD x 0 = oh ∧ B.via.getD x 0 = oi) ∨ d.gone.getD (B.up.getD x 0) false = true))
  found : d.found = true → ∃ y, d.gone.getD y false = true ∧ B.up.getD y 0 = oh ∧ B.via.getD y 0 = oi
  flds : d.B.obj = B.obj ∧ d.B.up = B.up ∧ d.B.via = B.via ∧ d.B.depth = B.depth
  deadl : d.B.dead.length = B.dead.length
  dead : ∀ x, x < B.obj.length → (d.B.dead.getD x false = true ↔ B.dead.getD x false = true ∨ d.gone.getD x false = true)
  Al : d.B.A.length = B.A.length
  A0 : ∀ y x, d.gone.getD x false = true → lo (B.o x) ≤ y → y < lo (B.o x) + words (B.o x) → d.B.A.getD y 0 = 0
  A1 : ∀ y, (∀ x, d.gone.getD x false = true → lo (B.o x) ≤ y → ¬ y < lo (B.o x) + words (B.o x)) → d.B.A.getD y 0 = B.A.getD y 0
  s4 : d.B.slot.length = 4
  sb : ∀ j, d.B.slot.getD j 0 < 18446744073709551616
  sl : ∀ y, (tb d.B.slot y = true ↔ tb B.slot y = true ∧ ∀ x, d.gone.getD x false = true → lo (B.o x) ≤ y → ¬ y < lo (B.o x) + words (B.o x))

theorem getD_set_bool {l : List Bool} {m x : Nat} (hm : m < l.length) : ((l.set m true).getD x false = true ↔ x = m ∨ l.getD x false = true) := by
  by_cases hx : x = m
  · subst hx; rw [getD_set_eq hm]; exact ⟨fun _ => .inl rfl, fun _ => rfl⟩
  · rw [getD_set_ne (fun h => hx h.symm)]
    exact ⟨.inr, fun h => h.resolve_left hx⟩

theorem dstage_step (i : InvC B) {oh oi m : Nat} {d : Drp} (hS : ¬ isSt (B.o oh)) (s : DStage B oh oi m d) (m1 : 1 ≤ m) (hm : m < B.obj.length) : DStage B oh oi (m + 1) (dropStep oh oi m d) := by
  have hn := i.even.2.1.2
  obtain ⟨e1, e2, e3, e4⟩ := i.even.2.2
  have hu := i.up m m1 hm
  have hgm : ¬ d.gone.getD m false = true := fun h => by have := s.g1 m h; omega
  obtain ⟨f1, f2, f3, f4⟩ := s.flds
  have hdm : d.B.dead.getD m false = false ↔ B.dead.getD m false = false := by
    have := s.dead m hm
    cases h1 : d.B.dead.getD m false <;> cases h2 : B.dead.getD m false <;> simp_all
  unfold dropStep
  rw [f2, f3]
  by_cases hc : d.B.dead.getD m false = false ∧ ((d.found = false ∧ B.up.getD m 0 = oh ∧ B.via.getD m 0 = oi) ∨ d.gone.getD (B.up.getD m 0) false = true)
  · rw [if_pos hc]
    have hml : m < d.gone.length := by rw [s.glen]; omega
    have hset : ∀ x, (d.gone.set m true).getD x false = true ↔ x = m ∨ d.gone.getD x false = true := fun x => getD_set_bool hml
    have ho : d.B.o m = B.o m := by unfold Bld.o; rw [f1]
    have hfit := ext_fit i m1 hm
    have h256 := i.even.1.2
    have hat : (B.o m).at_ ≤ 60000 := by
      have := inv_hi i hm
      unfold hi at this
      split at this <;> omega
    have hfst : first (B.o m) = lo (B.o m) := InvC.first_lo i m1 hm hat
    rw [ho]
    have hk1 : min (first (B.o m) + words (B.o m)) d.B.A.length - first (B.o m) = words (B.o m) := by rw [hfst, s.Al]; omega
    have hcl := clearGo_spec (words (B.o m)) (lo (B.o m)) d.B.A
    have hmk := tb_markGo false (words (B.o m)) (lo (B.o m)) d.B.slot s.s4 s.sb (by omega)
    have hk2 : (first (B.o m) + words (B.o m)) % 65536 - first (B.o m) = words (B.o m) := by rw [hfst]; omega
    have hwA : (wipeB { d.B with dead := d.B.dead.set m true } (B.o m)).A = clearGo (words (B.o m)) (lo (B.o m)) d.B.A := by
      simp only [wipeB, markB, hk1]; rw [hfst]
    have hwS : (wipeB { d.B with dead := d.B.dead.set m true } (B.o m)).slot = markGo false (words (B.o m)) (lo (B.o m)) d.B.slot := by
      simp only [wipeB, markB, hk2]; rw [hfst]
    have hor : B.dead.getD m false = false ∧ ((B.up.getD m 0 = oh ∧ B.via.getD m 0 = oi) ∨ d.gone.getD (B.up.getD m 0) false = true) := by
      refine ⟨hdm.1 hc.1, ?_⟩
      rcases hc.2 with h | h
      · exact .inl h.2
      · exact .inr h
    constructor
    · show (d.gone.set m true).length = 256
      rw [List.length_set]; exact s.glen
    · intro x hx
      rcases (hset x).1 hx with h | h
      · omega
      · have := s.g1 x h; omega
    · intro x x1 xm
      show (d.gone.set m true).getD x false = true ↔ _ ∧ (_ ∨ (d.gone.set m true).getD (B.up.getD x 0) false = true)
      rw [hset, hset]
      by_cases hx : x = m
      · subst hx
        refine ⟨fun _ => ⟨hor.1, ?_⟩, fun _ => .inl rfl⟩
        rcases hor.2 with h | h
        · exact .inl h
        · exact .inr (.inr h)
      · have hxn : x < B.obj.length := by omega
        have hux := i.up x x1 hxn
        have := s.gw x x1 (by omega)
        constructor
        · rintro (h | h)
          · exact absurd h hx
          · obtain ⟨a1, a2⟩ := this.1 h
            refine ⟨a1, ?_⟩
            rcases a2 with a | a
            · exact .inl a
            · exact .inr (.inr a)
        · rintro ⟨a1, a2⟩
          right
          refine this.2 ⟨a1, ?_⟩
          rcases a2 with a | a | a
          · exact .inl a
          · omega
          · exact .inr a
    · intro _
      show ∃ y, (d.gone.set m true).getD y false = true ∧ _
      rcases hc.2 with h | h
      · exact ⟨m, (hset m).2 (.inl rfl), h.2⟩
      · cases hf : d.found
        · -- nothing is gone before anything is found: the parent went, so it was found
          rcases hor.2 with h' | h'
          · exact ⟨m, (hset m).2 (.inl rfl), h'⟩
          · -- walk up from the parent
            have key : ∀ n x, x ≤ n → d.gone.getD x false = true → ∃ y, d.gone.getD y false = true ∧ B.up.getD y 0 = oh ∧ B.via.getD y 0 = oi := by
              intro n
              induction n with
              | zero => intro x hx hg; have := s.g1 x hg; omega
              | succ n ih =>
                intro x hx hg
                obtain ⟨x1, xm⟩ := s.g1 x hg
                have hxn : x < B.obj.length := by omega
                have hux := i.up x x1 hxn
                rcases ((s.gw x x1 xm).1 hg).2 with a | a
                · exact ⟨x, hg, a⟩
                · exact ih _ (by omega) a
            obtain ⟨y, y1, y2⟩ := key _ _ (Nat.le_refl _) h'
            exact ⟨y, (hset y).2 (.inr y1), y2⟩
        · obtain ⟨y, y1, y2⟩ := s.found hf
          exact ⟨y, (hset y).2 (.inr y1), y2⟩
    · exact ⟨f1, f2, f3, f4⟩
    · show (d.B.dead.set m true).length = _
      rw [List.length_set]; exact s.deadl
    · intro x hx
      show (d.B.dead.set m true).getD x false = true ↔ _ ∨ (d.gone.set m true).getD x false = true
      rw [getD_set_bool (by rw [s.deadl, e4]; exact hm), hset, s.dead x hx]
      constructor
      · rintro (h | h | h)
        · exact .inr (.inl h)
        · exact .inl h
        · exact .inr (.inr h)
      · rintro (h | h | h)
        · exact .inr (.inl h)
        · exact .inl h
        · exact .inr (.inr h)
    · show (wipeB _ _).A.length = _
      rw [hwA, hcl.1]; exact s.Al
    · intro y x hx a1 a2
      show (wipeB _ _).A.getD y 0 = 0
      rw [hwA, hcl.2]
      split
      · rfl
      · rename_i hcc
        rcases (hset x).1 hx with h | h
        · subst h; exact absurd ⟨a1, a2⟩ hcc
        · exact s.A0 y x h a1 a2
    · intro y hy
      show (wipeB _ _).A.getD y 0 = _
      rw [hwA, hcl.2, if_neg]
      · exact s.A1 y (fun x hx => hy x ((hset x).2 (.inr hx)))
      · rintro ⟨a1, a2⟩
        exact hy m ((hset m).2 (.inl rfl)) a1 a2
    · show (wipeB _ _).slot.length = 4
      rw [hwS]; exact hmk.2.1
    · show ∀ j, (wipeB _ _).slot.getD j 0 < _
      rw [hwS]; exact hmk.2.2
    · intro y
      show tb (wipeB _ _).slot y = true ↔ _
      rw [hwS, hmk.1 y]
      by_cases hcc : lo (B.o m) ≤ y ∧ y < lo (B.o m) + words (B.o m)
      · rw [if_pos hcc]
        refine ⟨fun h => (by cases h), fun h => absurd hcc.2 (h.2 m ((hset m).2 (.inl rfl)) hcc.1)⟩
      · rw [if_neg hcc, s.sl y]
        refine and_congr Iff.rfl ⟨fun h x hx => ?_, fun h x hx => h x ((hset x).2 (.inr hx))⟩
        rcases (hset x).1 hx with h' | h'
        · subst h'; exact fun a1 a2 => hcc ⟨a1, a2⟩
        · exact h x h'
  · rw [if_neg hc]
    refine ⟨s.glen, fun x hx => by have := s.g1 x hx; omega, fun x x1 xm => ?_, s.found, s.flds, s.deadl, s.dead, s.Al, s.A0, s.A1, s.s4, s.sb, s.sl⟩
    by_cases hx : x = m
    · subst hx
      refine ⟨fun h => absurd h hgm, fun ⟨a1, a2⟩ => ?_⟩
      exfalso
      refine hc ⟨hdm.2 a1, ?_⟩
      rcases a2 with a | a
      · cases hf : d.found
        · exact .inl ⟨rfl, a⟩
        · obtain ⟨y, y1, y2, y3⟩ := s.found hf
          obtain ⟨yy1, yy2⟩ := s.g1 y y1
          have hyd := ((s.gw y yy1 yy2).1 y1).1
          have hEx : ¬ isE B x := by unfold isE; rw [a.1]; exact hS
          have hEy : ¬ isE B y := by unfold isE; rw [y2]; exact hS
          have := i.uniq x y x1 hm yy1 (by omega) a1 hyd hEx hEy (by rw [a.1, y2]) (by rw [a.2, y3])
          omega
      · exact .inr a
    · exact s.gw x x1 (by omega)

theorem dstage_go (i : InvC B) {oh oi : Nat} (hS : ¬ isSt (B.o oh)) : ∀ (k m : Nat) (d : Drp), DStage B oh oi m d → 1 ≤ m → m + k = B.obj.length → DStage B oh oi B.obj.length (dropGo oh oi k m d)
  | 0, m, d, s, h1, h2 => by rw [← h2]; exact s
  | k + 1, m, d, s, h1, h2 => by
    rw [dropGo]
    exact dstage_go i hS k (m + 1) _ (dstage_step i hS s h1 (by omega)) (by omega) (by omega)

theorem rep_false (x : Nat) : (List.replicate 256 false).getD x false = false := by
  rw [List.getD_eq_getElem?_getD, List.getElem?_replicate]
  split <;> rfl
theorem dstage_start (ok : B.Ok) (oh oi : Nat) : DStage B oh oi 1 ⟨false, List.replicate 256 false, B⟩ := by
  have hr : ∀ x, ¬ (List.replicate 256 false).getD x false = true := fun x h => by rw [rep_false] at h; cases h
  refine ⟨List.length_replicate, fun x hx => absurd hx (hr x), fun x x1 xm => (by omega), fun h => (by cases h), ⟨rfl, rfl, rfl, rfl⟩, rfl, fun x _ => ⟨.inl, fun h => h.resolve_right (hr x)⟩, rfl, fun y x hx => absurd hx (hr x), fun _ _ => rfl, ok.four, ok.slot, fun y => ⟨fun h => ⟨h, fun x hx => absurd hx (hr x)⟩, fun h => h.1⟩⟩
end
end Go.Proofs.YgcfaaGreat
