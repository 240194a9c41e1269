import Derived.Test.YgcfaaGreatInvDrop
import Derived.Test.YgcfaaGreatInvMake
namespace Go.Proofs.YgcfaaGreat
open Go.RowKit Bits Bd
set_option linter.unusedVariables false

section
variable {B : Bld}
theorem inv_drop (i : InvC B) (ok : B.Ok) {op : Opn} {B' : Bld} (hH : op.h < B.obj.length) (hd : B.dead.getD op.h false = false) (h : dropB B op = some B') : InvC B' := by
  unfold dropB at h
  split at h
  · cases h
  · rename_i a ha
    split at h
    · cases h
    · rename_i hz
      cases h
      obtain ⟨hI, ha'⟩ := inv_slot_some i hH ha
      have hS : ¬ isSt (B.o op.h) := nsl_notSt (by omega)
      have hn1 := i.even.2.1.1
      obtain ⟨e1, e2, e3, e4⟩ := i.even.2.2
      have st := dstage_go i hS _ _ _ (dstage_start ok op.h op.i) (Nat.le_refl 1) (by omega : 1 + (B.obj.length - 1) = B.obj.length)
      obtain ⟨d, hdd⟩ : ∃ d, d = dropGo op.h op.i (B.obj.length - 1) 1 ⟨false, List.replicate 256 false, B⟩ := ⟨_, rfl⟩
      rw [← hdd] at st ⊢
      obtain ⟨f1, f2, f3, f4⟩ := st.flds
      obtain ⟨G, hG⟩ : ∃ G : Nat → Prop, G = fun x => d.gone.getD x false = true := ⟨_, rfl⟩
      have g1 : ∀ x, G x → 1 ≤ x ∧ x < B.obj.length := fun x hx => st.g1 x (by rw [hG] at hx; exact hx)
      have gw : ∀ x, 1 ≤ x → x < B.obj.length → (G x ↔ B.dead.getD x false = false ∧ ((B.up.getD x 0 = op.h ∧ B.via.getD x 0 = op.i) ∨ G (B.up.getD x 0))) := fun x h1 h2 => by rw [hG]; exact st.gw x h1 h2
      have gdead : ∀ x, x < B.obj.length → (d.B.dead.getD x false = false ↔ B.dead.getD x false = false ∧ ¬ G x) := fun x hx => by
        have := st.dead x hx
        rw [hG]
        dsimp only
        cases h1 : d.B.dead.getD x false
        · rw [h1] at this
          refine ⟨fun _ => ⟨?_, fun h => absurd (this.2 (.inr h)) (by decide)⟩, fun _ => rfl⟩
          cases h2 : B.dead.getD x false
          · rfl
          · exact absurd (this.2 (.inl h2)) (by decide)
        · rw [h1] at this
          refine ⟨fun h => absurd h (by decide), fun h => ?_⟩
          rcases this.1 rfl with h2 | h2
          · rw [h.1] at h2; exact h2.symm
          · exact absurd h2 h.2
      have A0 : ∀ y x, G x → lo (B.o x) ≤ y → y < lo (B.o x) + words (B.o x) → d.B.A.getD y 0 = 0 := fun y x hx => st.A0 y x (by rw [hG] at hx; exact hx)
      have A1 : ∀ y, (∀ x, G x → lo (B.o x) ≤ y → ¬ y < lo (B.o x) + words (B.o x)) → d.B.A.getD y 0 = B.A.getD y 0 := fun y hy => st.A1 y (fun x hx => hy x (by rw [hG]; exact hx))
      have sl : ∀ y, (tb d.B.slot y = true ↔ tb B.slot y = true ∧ ∀ x, G x → lo (B.o x) ≤ y → ¬ y < lo (B.o x) + words (B.o x)) := fun y => by rw [hG]; exact st.sl y
      clear hG
      have hown := inv_slot_own i hH hI
      rw [← ha'] at hown
      have hal : a < B.A.length := by rw [ha']; exact inv_slot_lt i hH hI
      -- an element dies with its list
      have gel : ∀ L j, 1 ≤ L → L < B.obj.length → isSt (B.o L) → j < (B.o L).count → (G (L + 1 + j) ↔ G L) := fun L j L1 Ln LS hj => by
        have hel := i.elems L L1 Ln LS j hj
        have hnx := (i.row L L1 Ln (st_notE i L1 Ln LS)).1
        unfold nxt at hnx
        rw [if_pos LS] at hnx
        rw [gw (L + 1 + j) (by omega) (by omega), hel.2.1, hel.2.2.2.2]
        constructor
        · rintro ⟨a1, a2 | a2⟩
          · exfalso; rw [a2.1] at LS; exact hS LS
          · exact a2
        · intro hg
          exact ⟨((gw L L1 Ln).1 hg).1, .inr hg⟩
      -- a wiped word is an own word of one that dies
      have gown : ∀ y x, G x → lo (B.o x) ≤ y → y < lo (B.o x) + words (B.o x) → ∃ g, G g ∧ lo (B.o g) ≤ y ∧ y < hi (B.o g) := fun y x hx y1 y2 => by
        obtain ⟨x1, xn⟩ := g1 x hx
        by_cases hs : isSt (B.o x)
        · have hw := st_words i x1 xn hs
          have hat := i.at1 x x1 xn hs
          have hl := lo_st hs
          by_cases hy : y < (B.o x).at_
          · exact ⟨x, hx, y1, by rw [hl.2]; exact hy⟩
          · obtain ⟨s, hs'⟩ : ∃ s, s = (B.o x).data + (B.o x).ptrs := ⟨_, rfl⟩
            rw [← hs'] at hw
            have hsp : 0 < s := by
              rcases Nat.eq_zero_or_pos s with h | h
              · rw [h, Nat.mul_zero] at hw; omega
              · exact h
            have hj : (y - (B.o x).at_) / s < (B.o x).count := (Nat.div_lt_iff_lt_mul hsp).2 (by omega)
            have hdm := Nat.div_add_mod (y - (B.o x).at_) s
            have hml := Nat.mod_lt (y - (B.o x).at_) hsp
            rw [Nat.mul_comm] at hdm
            obtain ⟨j, hjd⟩ : ∃ j, j = (y - (B.o x).at_) / s := ⟨_, rfl⟩
            rw [← hjd] at hj hdm
            have hel := i.elems x x1 xn hs _ hj
            have hnx := (i.row x x1 xn (st_notE i x1 xn hs)).1
            unfold nxt at hnx
            rw [if_pos hs] at hnx
            have hkk : (B.o (x + 1 + j)).kind = 1 := by rw [hel.1]
            have hge := i.good (x + 1 + j) (by omega) (by omega)
            have hwe := (good_words hge).1 hkk
            refine ⟨x + 1 + j, (gel x _ x1 xn hs hj).2 hx, ?_, ?_⟩
            · rw [(lo_struct hkk).1, hel.1, ← hs']
              show (B.o x).at_ + j * s ≤ y
              omega
            · rw [(lo_struct hkk).2, hwe, hel.1, ← hs']
              show y < (B.o x).at_ + j * s + s
              omega
        · refine ⟨x, hx, y1, ?_⟩
          unfold hi
          rw [if_neg hs]
          unfold lo at y2
          rw [if_neg hs] at y2
          exact y2
      -- own words of one that stays are as they were
      have keep : ∀ x y, x < B.obj.length → ¬ G x → lo (B.o x) ≤ y → y < hi (B.o x) → ¬ y = a → (setA d.B a 0).A.getD y 0 = B.A.getD y 0 := fun x y xn hx y1 y2 hy => by
        have : (setA d.B a 0).A.getD y 0 = d.B.A.getD y 0 := getD_set_ne (fun h => hy h.symm)
        rw [this]
        refine A1 y (fun g hg b1 b2 => ?_)
        obtain ⟨g', c1, c2, c3⟩ := gown y g hg b1 b2
        have := own_one i xn (g1 g' c1).2 y1 y2 c2 c3
        subst this
        exact hx c1
      have wiped : ∀ x y, G x → lo (B.o x) ≤ y → y < hi (B.o x) → (setA d.B a 0).A.getD y 0 = 0 := fun x y hx y1 y2 => by
        by_cases hy : y = a
        · subst hy
          exact getD_set_eq (by rw [st.Al]; exact hal)
        · have : (setA d.B a 0).A.getD y 0 = d.B.A.getD y 0 := getD_set_ne (fun h => hy h.symm)
          rw [this]
          obtain ⟨x1, xn⟩ := g1 x hx
          refine A0 y x hx y1 ?_
          by_cases hs : isSt (B.o x)
          · have hw := st_words i x1 xn hs
            have hat := i.at1 x x1 xn hs
            rw [(lo_st hs).2] at y2
            rw [(lo_st hs).1]; omega
          · unfold hi at y2
            rw [if_neg hs] at y2
            unfold lo
            rw [if_neg hs]; exact y2
      have hAa : (setA d.B a 0).A.getD a 0 = 0 := getD_set_eq (by rw [st.Al]; exact hal)
      have hl : (setA d.B a 0).A.length = B.A.length := by
        show (d.B.A.set a 0).length = _
        rw [List.length_set]; exact st.Al
      have ho : ∀ x, (setA d.B a 0).o x = B.o x := fun x => by show d.B.obj.getD x zeroPtr = _; rw [f1]; rfl
      have hobj : (setA d.B a 0).obj.length = B.obj.length := by show d.B.obj.length = _; rw [f1]
      have hup : (setA d.B a 0).up = B.up := f2
      have hvia : (setA d.B a 0).via = B.via := f3
      have hdep : (setA d.B a 0).depth = B.depth := f4
      have hdl : ∀ x, x < B.obj.length → ((setA d.B a 0).dead.getD x false = false ↔ B.dead.getD x false = false ∧ ¬ G x) := gdead
      have hEq : ∀ x, isE (setA d.B a 0) x ↔ isE B x := fun x => by unfold isE; rw [hup, ho]
      have hnx : ∀ x, nxt (setA d.B a 0) x = nxt B x := fun x => by unfold nxt; rw [ho]
      have hslB : ∀ y, tb (setA d.B a 0).slot y = true ↔ tb B.slot y = true ∧ ∀ x, G x → lo (B.o x) ≤ y → ¬ y < lo (B.o x) + words (B.o x) := sl
      have hdlen : (setA d.B a 0).dead.length = B.obj.length := by show d.B.dead.length = _; rw [st.deadl, e4]
      obtain ⟨C, hC⟩ : ∃ C, C = setA d.B a 0 := ⟨_, rfl⟩
      rw [← hC] at keep wiped hAa hl ho hobj hup hvia hdep hdl hEq hnx hslB hdlen ⊢
      clear hC A0 A1 sl gdead f1 f2 f3 f4
      have hdt : ∀ x, x < B.obj.length → C.dead.getD x false = true → B.dead.getD x false = true ∨ G x := fun x hx h => by
        have := hdl x hx
        by_cases hg : G x
        · exact .inr hg
        · left
          cases hb : B.dead.getD x false
          · have := this.2 ⟨hb, hg⟩; rw [h] at this; cases this
          · rfl
      have gnot : ∀ x, 1 ≤ x → x < B.obj.length → B.dead.getD x false = false → ¬ G x → ¬ G (B.up.getD x 0) ∧ ¬ (B.up.getD x 0 = op.h ∧ B.via.getD x 0 = op.i) := fun x x1 xn xd hx =>
        ⟨fun h => hx ((gw x x1 xn).2 ⟨xd, .inr h⟩), fun h => hx ((gw x x1 xn).2 ⟨xd, .inl h⟩)⟩
      have g0 : ¬ G 0 := fun h => by have := (g1 0 h).1; omega
      have aOwn : ∀ x, x < B.obj.length → lo (B.o x) ≤ a → a < hi (B.o x) → x = op.h := fun x xn y1 y2 => own_one i xn hH y1 y2 hown.1 hown.2
      refine ⟨⟨by rw [hl]; exact i.even.1, by rw [hobj]; exact i.even.2.1, by rw [hup, hobj]; exact e1, by rw [hvia, hobj]; exact e2, by rw [hdep, hobj]; exact e3, by rw [hdlen, hobj]⟩, ?_, fun x x1 xn => ?_, ⟨fun h => ?_, fun h => ?_⟩, fun x x1 xn xE => ?_, fun x x1 xn xs => ?_, fun x x1 xn xs j xj => ?_, fun x x1 xn xE => ?_, fun x x1 xn => ?_, fun x x1 xn xE => ?_, fun x x1 xn xd xE => ?_, ?_, ?_, ?_, ?_, ?_, ?_⟩
      · rw [ho, hup, hvia, hdep]
        exact ⟨i.root.1, i.root.2.1, i.root.2.2.1, i.root.2.2.2.1, (hdl 0 hn1).2 ⟨i.root.2.2.2.2, g0⟩⟩
      · rw [hobj] at xn; rw [ho]; exact i.good x x1 xn
      · rw [hobj] at h; rw [hl]; exact i.row1.1 h
      · rw [hobj] at h; rw [ho, hEq]; exact i.row1.2 h
      · rw [hobj] at xn ⊢
        rw [hnx, ho, ho, hEq, hl]
        exact i.row x x1 xn (fun e => xE ((hEq x).2 e))
      · rw [hobj] at xn; rw [ho] at xs ⊢; exact i.at1 x x1 xn xs
      · rw [hobj] at xn
        rw [ho] at xs xj
        have hel := i.elems x x1 xn xs j xj
        have hnx := (i.row x x1 xn (st_notE i x1 xn xs)).1
        unfold nxt at hnx
        rw [if_pos xs] at hnx
        have hge := gel x j x1 xn xs xj
        unfold elemP at hel ⊢
        rw [ho, ho, hup, hvia, hdep]
        refine ⟨hel.1, hel.2.1, hel.2.2.1, hel.2.2.2.1, ?_⟩
        have d1 := hdl x xn
        have d2 := hdl (x + 1 + j) (by omega)
        rw [hel.2.2.2.2, hge, ← d1] at d2
        cases q1 : C.dead.getD (x + 1 + j) false
        · exact (d2.1 q1).symm
        · cases q2 : C.dead.getD x false
          · rw [q1] at d2; exact absurd (d2.2 q2) (by decide)
          · rfl
      · rw [hobj] at xn
        rw [hup, hvia, ho]
        exact i.inE x x1 xn ((hEq x).1 xE)
      · rw [hobj] at xn; rw [hup]; exact i.up x x1 xn
      · rw [hobj] at xn
        rw [hup, hdep]
        exact i.deep x x1 xn (fun e => xE ((hEq x).2 e))
      · rw [hobj] at xn
        have xE' : ¬ isE B x := fun e => xE ((hEq x).2 e)
        obtain ⟨xd1, xg⟩ := (hdl x xn).1 xd
        obtain ⟨c1, c2, c3⟩ := i.hang x x1 xn xd1 xE'
        obtain ⟨n1, n2⟩ := gnot x x1 xn xd1 xg
        have hu := i.up x x1 xn
        have hun : B.up.getD x 0 < B.obj.length := by omega
        have hso := inv_slot_own i hun c2
        rw [hup, hvia, ho, ho]
        refine ⟨(hdl _ hun).2 ⟨c1, n1⟩, c2, ?_⟩
        rw [keep _ _ hun n1 hso.1 hso.2 (fun e => ?_)]
        · exact c3
        · rw [ha'] at e
          exact n2 (inv_slot_inj i hun hH c2 hI e)
      · intro x g x1 xn y1 yn xd yd xE yE h1 h2
        rw [hobj] at xn yn
        rw [hup] at h1
        rw [hvia] at h2
        exact i.uniq x g x1 xn y1 yn ((hdl x xn).1 xd).1 ((hdl g yn).1 yd).1 (fun e => xE ((hEq x).2 e)) (fun e => yE ((hEq g).2 e)) h1 h2
      · intro u k hu ud hk hno
        rw [hobj] at hu
        rw [ho] at hk ⊢
        obtain ⟨ud1, ug⟩ := (hdl u hu).1 ud
        have hso := inv_slot_own i hu hk
        by_cases hs : sAt (B.o u) k = a
        · rw [hs]; exact hAa
        · rw [keep u _ hu ug hso.1 hso.2 hs]
          refine i.null u k hu ud1 hk (fun x x1 xn xd xE xu xv => ?_)
          by_cases hg : G x
          · rcases ((gw x x1 xn).1 hg).2 with q | q
            · apply hs
              rw [ha', ← q.1, ← q.2, xu, xv]
            · rw [xu] at q; exact ug q
          · exact hno x x1 (by rw [hobj]; exact xn) ((hdl x xn).2 ⟨xd, hg⟩) (fun e => xE ((hEq x).1 e)) (by rw [hup]; exact xu) (by rw [hvia]; exact xv)
      · intro x hx
        rw [hslB x, i.slot x hx, hobj]
        constructor
        · rintro ⟨⟨u, k, b1, b2, b3, b4⟩, b5⟩
          refine ⟨u, k, b1, (hdl u b1).2 ⟨b2, fun hg => ?_⟩, by rw [ho]; exact b3, by rw [ho]; exact b4⟩
          have hso := inv_slot_own i b1 b3
          have hSu : ¬ isSt (B.o u) := nsl_notSt (by omega)
          refine b5 u hg (by rw [b4]; exact hso.1) ?_
          have := hso.2
          unfold hi at this
          rw [if_neg hSu] at this
          unfold lo
          rw [if_neg hSu, b4]; exact this
        · rintro ⟨u, k, b1, b2, b3, b4⟩
          rw [ho] at b3 b4
          obtain ⟨ud1, ug⟩ := (hdl u b1).1 b2
          refine ⟨⟨u, k, b1, ud1, b3, b4⟩, fun g hg c1 c2 => ?_⟩
          obtain ⟨g', d1, d2, d3⟩ := gown x g hg c1 c2
          have hso := inv_slot_own i b1 b3
          rw [← b4] at hso
          have := own_one i b1 (g1 g' d1).2 hso.1 hso.2 d2 d3
          subst this
          exact ug d1
      · intro x x1 xn xd y y1 y2
        rw [hobj] at xn
        rw [ho] at y1 y2
        rcases hdt x xn xd with q | q
        · have hng : ¬ G x := fun hg => by
            have := ((gw x x1 xn).1 hg).1
            rw [q] at this; cases this
          by_cases hy : y = a
          · rw [hy]; exact hAa
          · rw [keep x y xn hng y1 y2 hy]
            exact i.zero x x1 xn q y y1 y2
        · exact wiped x y q y1 y2
      · intro x x1 xn xd xs
        rw [hobj] at xn
        rw [ho] at xs ⊢
        obtain ⟨xd1, xg⟩ := (hdl x xn).1 xd
        have ht := tag_own i x1 xn xs
        rw [keep x _ xn xg ht.1 ht.2 (fun e => ?_)]
        · exact i.tag x x1 xn xd1 xs
        · rw [e] at ht
          have := aOwn x xn ht.1 ht.2
          subst this
          exact hS xs
      · intro x x1 xn xd
        rw [hobj] at xn
        rw [ho]
        obtain ⟨xd1, xg⟩ := (hdl x xn).1 xd
        refine pad_of i x1 xn (by omega) (fun y y1 y2 _ _ hz0 => ?_) (i.pad x x1 xn xd1)
        refine keep x y xn xg y1 y2 (fun e => ?_)
        subst e
        have := aOwn x xn y1 y2
        subst this
        omega
end
end Go.Proofs.YgcfaaGreat
