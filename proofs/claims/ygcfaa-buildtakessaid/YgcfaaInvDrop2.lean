import Derived.Test.YgcfaaInvDrop
namespace Go.Proofs.Ygcfaa
open Go.RowKit Bits Bd Utf
set_option linter.unusedVariables false

theorem rep_false (n j : Nat) : (List.replicate n false).getD j false = false := by
  rw [List.getD_eq_getElem?_getD, List.getElem?_replicate]
  split <;> rfl

theorem DR.all {N : Nat} {B : Bld} {K K1 : Bk} (I : InvN N B K) {oh oi : Nat} (hl : ¬ l7 (B.o oh)) (huv : ∀ h, h < B.obj.length → (K1.at_ h).up = B.upp h ∧ (K1.at_ h).via = B.vi h) (hdd : ∀ h, h < B.obj.length → (K1.at_ h).dead = B.dd h) (hK1 : K1.e.length = B.obj.length) :
    ∀ k, k < B.obj.length → DR B K1 oh oi k (dropGo oh oi k 1 ⟨false, List.replicate 256 false, B⟩) (dropGoK oh oi k 1 ⟨List.replicate 256 false, K1⟩)
  | 0, _ => by
    refine ⟨rfl, List.length_replicate, Same.refl B, rfl, rfl, fun h => rfl, fun h hh => (hdd h hh).symm, fun h hh => ?_, fun h hg => ?_, fun hf => ?_, fun _ h => rep_false _ _, fun h h1 h2 => by omega, fun h h1 h2 => by omega, fun j _ => rfl⟩
    · show B.dd h = (B.dd h || (List.replicate 256 false).getD h false)
      rw [rep_false, Bool.or_false]
    · have hg' : (List.replicate 256 false).getD h false = true := hg
      rw [rep_false] at hg'
      cases hg'
    · have hf' : false = true := hf
      cases hf'
  | k + 1, hk => by
    rw [dropGo_succ, dropGoK_succ]
    exact (DR.all I hl huv hdd hK1 k (by omega)).step I hl huv hK1 hk

/-- The words that go with a handle. -/
theorem extent {N : Nat} {B : Bld} {K : Bk} (I : InvN N B K) {t h j : Nat} (ht : t < B.obj.length) (hh : h < B.obj.length) (hne : t ≠ h) (hj : j < nslots (B.o h)) (hx : first (B.o t) ≤ slotA (B.o h) j ∧ slotA (B.o h) j < first (B.o t) + words (B.o t)) : l7 (B.o t) ∧ B.upp h = t ∧ 0 < h := by
  have hs := I.sh t ht
  have sl := slot_lt (I.sh h hh) hj
  have hat := I.good.at_ t
  by_cases hl : l7 (B.o t)
  · refine ⟨hl, ?_⟩
    obtain ⟨x1, x2, x3, x4⟩ := I.els t ht hl
    have a2 := I.good.even.1.2
    have hfst : first (B.o t) = (B.o t).at_ - 1 := by
      rcases hs with ⟨h1, _⟩ | ⟨h1, h2, h3, _⟩ | ⟨h1, h2, h3, h4, h5, h6⟩
      · have := hl.1; omega
      · have := hl.2; omega
      · unfold first
        rw [if_pos (show (B.o t).kind = 2 ∧ (B.o t).code = 7 from hl)]
        omega
    have hlo : lo (B.o t) = (B.o t).at_ - 1 := by unfold lo; rw [if_pos (show (B.o t).kind = 2 ∧ (B.o t).code = 7 from hl)]
    have hw : words (B.o t) ≤ 1 + (B.o t).count * ((B.o t).data + (B.o t).ptrs) := by
      rcases hs with ⟨h1, _⟩ | ⟨h1, h2, h3, _⟩ | ⟨h1, h2, h3, h4, h5, h6⟩
      · have := hl.1; omega
      · have := hl.2; omega
      · unfold words
        rw [if_neg (by omega), if_neg (by omega), if_neg (by omega), if_neg (by omega), if_neg (by omega), if_pos ⟨h2, h4, h5⟩]
        exact Nat.min_le_left _ _
    have h1at : 1 ≤ (B.o t).at_ := by
      rcases hs with ⟨h1, _⟩ | ⟨h1, h2, h3, _⟩ | ⟨h1, h2, h3, h4, h5, h6⟩
      · have := hl.1; omega
      · have := hl.2; omega
      · exact h6
    rcases Nat.lt_trichotomy h t with l | l | l
    · have := I.rise h t l ht
      omega
    · omega
    · rcases Nat.lt_or_ge (t + (B.o t).count) h with g | g
      · have := x4 h g hh
        omega
      · exact ⟨x3 h l g hh, by omega⟩
  · exfalso
    have hfst : first (B.o t) = lo (B.o t) := by
      unfold first lo
      rw [if_neg (show ¬ ((B.o t).kind = 2 ∧ (B.o t).code = 7) from hl), if_neg (show ¬ ((B.o t).kind = 2 ∧ (B.o t).code = 7) from hl)]
    have hhi : first (B.o t) + words (B.o t) ≤ hi (B.o t) := by
      rcases hs with ⟨h1, h2, h3, h4, h5⟩ | ⟨h1, h2, h3, h4, h5, h6⟩ | ⟨h1, h2, h3, h4, h5, h6⟩
      · unfold hi first words
        rw [if_neg (by omega), if_neg (by omega), if_pos ⟨h1, h2, h3⟩, if_pos h1]
        omega
      · unfold hi first
        rw [if_neg (by omega), if_neg (by omega), if_neg (by omega)]
        exact Nat.le_refl _
      · exact absurd ⟨h1, h2⟩ hl
    rcases Nat.lt_or_ge t h with l | l
    · have := I.rise t h l hh
      omega
    · have := I.rise h t (by omega) ht
      omega

theorem drop_step {B : Bld} {K : Bk} (I : Inv B K) {op : Opn} (hop : op.Ok) (hh : op.h < B.obj.length) (hd : B.dd op.h = false) :
    (dropB B op).isSome = (dropK K op).isSome ∧ Inv ((dropB B op).getD B) ((dropK K op).getD K) := by
  have hsl := I.slotN hh hop.i
  have hset := I.set op.h hh
  have e0 : dropB B op = if op.i < nslots (B.o op.h) then (if B.A.getD (slotA (B.o op.h) op.i) 0 = 0 then none else some (Bd.setA (dropGo op.h op.i (B.obj.length - 1) 1 ⟨false, List.replicate 256 false, B⟩).B (slotA (B.o op.h) op.i) 0)) else none := by
    unfold dropB
    rw [hsl]
    by_cases c : op.i < nslots (B.o op.h)
    · rw [if_pos c, if_pos c]
    · rw [if_neg c, if_neg c]
  by_cases c1 : op.i < nslots (B.o op.h)
  · have hb := I.bit op.h hh hd op.i c1
    by_cases c2 : B.A.getD (slotA (B.o op.h) op.i) 0 = 0
    · have k0 : dropK K op = none := by
        unfold dropK
        rw [if_neg]
        rintro ⟨_, h2⟩
        exact (hb.1 h2) c2
      rw [e0, if_pos c1, if_pos c2, k0]
      exact ⟨rfl, I⟩
    · have hbt := hb.2 c2
      have k0 : dropK K op = some (dropGoK op.h op.i (K.e.length - 1) 1 ⟨List.replicate 256 false, K.putSet op.h ((K.at_ op.h).set.set op.i false)⟩).K := by
        unfold dropK
        rw [if_pos ⟨by rw [hset]; exact c1, hbt⟩]
      rw [e0, if_pos c1, if_neg c2, k0]
      refine ⟨rfl, ?_⟩
      have hHK : op.h < K.e.length := by rw [I.n]; exact hh
      have hl := slots_l7 c1
      have n1 := I.good.even.2.1.1
      obtain ⟨K1, hK1⟩ : ∃ K1, K1 = K.putSet op.h ((K.at_ op.h).set.set op.i false) := ⟨_, rfl⟩
      have at1 : ∀ h, K1.at_ h = if h = op.h then { K.at_ op.h with set := (K.at_ op.h).set.set op.i false } else K.at_ h := by rw [hK1]; exact putSet_at K hHK _
      have k1n : K1.e.length = B.obj.length := by rw [hK1, putSet_len]; exact I.n
      have k1l : K1.len = B.A.length := by rw [hK1]; exact I.len
      have at2 : ∀ h, h < B.obj.length → K1.at_ h = ⟨B.dd h, (B.o h).kind, (B.o h).code, (B.o h).data, (B.o h).ptrs, (B.o h).count, B.dp h, B.upp h, B.vi h, (K1.at_ h).set⟩ := fun h hh' => by
        rw [at1]
        split
        · rename_i e
          subst e
          have := I.ent op.h hh'
          generalize K.at_ op.h = z at *
          rw [this]
        · exact I.ent h hh'
      have R := DR.all (K1 := K1) I hl (fun h hh' => by rw [at2 h hh']; exact ⟨rfl, rfl⟩) (fun h hh' => by rw [at2 h hh']) k1n (oi := op.i) (B.obj.length - 1) (by omega)
      have hgood := drop_good I.good (B' := Bd.setA (dropGo op.h op.i (B.obj.length - 1) 1 ⟨false, List.replicate 256 false, B⟩).B (slotA (B.o op.h) op.i) 0) (by rw [e0, if_pos c1, if_neg c2])
      rw [← hK1, I.n]
      dsimp only [Option.getD]
      generalize dropGo op.h op.i (B.obj.length - 1) 1 ⟨false, List.replicate 256 false, B⟩ = d at *
      generalize dropGoK op.h op.i (B.obj.length - 1) 1 ⟨List.replicate 256 false, K1⟩ = e at *
      have oo : ∀ h, (Bd.setA d.B (slotA (B.o op.h) op.i) 0).o h = B.o h := fun h => same_o (B := B) (B' := Bd.setA d.B (slotA (B.o op.h) op.i) 0) R.same.obj h
      have on : (Bd.setA d.B (slotA (B.o op.h) op.i) 0).obj.length = B.obj.length := by show d.B.obj.length = _; rw [R.same.obj]
      have uu : ∀ h, (Bd.setA d.B (slotA (B.o op.h) op.i) 0).upp h = B.upp h := fun h => by show d.B.up.getD h 0 = _; rw [R.same.up]; rfl
      have vv : ∀ h, (Bd.setA d.B (slotA (B.o op.h) op.i) 0).vi h = B.vi h := fun h => by show d.B.via.getD h 0 = _; rw [R.same.via]; rfl
      have pp : ∀ h, (Bd.setA d.B (slotA (B.o op.h) op.i) 0).dp h = B.dp h := fun h => by show d.B.depth.getD h 0 = _; rw [R.same.depth]; rfl
      have dd : ∀ h, (Bd.setA d.B (slotA (B.o op.h) op.i) 0).dd h = d.B.dd h := fun h => rfl
      have lv : ∀ h, h < B.obj.length → d.B.dd h = false → B.dd h = false ∧ d.gone.getD h false = false := fun h hh' hx => by
        have := R.dg h hh'
        rw [hx] at this
        simpa using this.symm
      have es : ∀ h, (e.K.at_ h).set = (K1.at_ h).set := fun h => by rw [R.ents]
      have upn : ∀ h, 0 < h → h < B.obj.length → B.upp h < B.obj.length := fun h h0 hh' => by have := I.upl h h0 hh'; omega
      refine Inv.of (n := B.obj.length) ⟨hgood.1, ?_, ?_, fun h hh' => ?_, fun h hh' => ?_, fun h hh' hx j hj => ?_, fun h hh' => ?_, fun h h' hlt hh' => ?_, fun h hh' => ?_, fun h hh' hl' => ?_, fun h h0 hh' => ?_, fun h h0 hh' hx => ?_, fun h h0 hh' hx hl' => ?_, fun h h' h0 h0' hh' hh'' hx hx' eu ev hl' => ?_, fun h hh' => ?_, fun h hh' => ?_⟩ on
      · rw [on, R.elen]; exact k1n
      · rw [R.len, k1l, hgood.2]
      · rw [on] at hh'
        rw [oo, uu, vv, pp, dd, R.dead h hh', R.ents h, at2 h hh']
      · rw [on] at hh'
        rw [oo, es, at1]
        split
        · rename_i e'; subst e'
          show ((K.at_ op.h).set.set op.i false).length = _
          rw [List.length_set]; exact I.set _ hh'
        · exact I.set h hh'
      · rw [on] at hh'
        rw [oo] at hj ⊢
        rw [dd] at hx
        obtain ⟨x1, x2⟩ := lv h hh' hx
        rw [es, at1]
        have hA : ∀ (hne : ¬ (h = op.h ∧ j = op.i)), (Bd.setA d.B (slotA (B.o op.h) op.i) 0).A.getD (slotA (B.o h) j) 0 = B.A.getD (slotA (B.o h) j) 0 := fun hne => by
          show (d.B.A.set (slotA (B.o op.h) op.i) 0).getD (slotA (B.o h) j) 0 = _
          rw [getD_set_ne' (fun e' => hne (I.slot_inj hh' hh hj c1 e'))]
          refine R.wrd _ (fun t ht hg hin => ?_)
          have hth : t ≠ h := fun e' => by subst e'; rw [x2] at hg; cases hg
          obtain ⟨y1, y2, y3⟩ := extent I ht hh' hth hj hin
          have := R.cls h (by omega) (by omega) hh' x1 (by rw [y2]; exact hg)
          rw [x2] at this
          cases this
        by_cases e' : h = op.h
        · subst e'
          rw [if_pos rfl]
          by_cases ej : j = op.i
          · subst ej
            show ((K.at_ op.h).set.set op.i false).getD op.i false = true ↔ ¬ (d.B.A.set (slotA (B.o op.h) op.i) 0).getD (slotA (B.o op.h) op.i) 0 = 0
            rw [List.getD_eq_getElem?_getD, List.getElem?_set_self (by rw [hset]; exact c1), List.getD_eq_getElem?_getD, List.getElem?_set_self (by rw [R.same.A]; exact I.slot_top hh c1)]
            simp
          · rw [hA (fun x => ej x.2)]
            show ((K.at_ op.h).set.set op.i false).getD j false = true ↔ _
            rw [List.getD_eq_getElem?_getD, List.getElem?_set_ne (Ne.symm ej), ← List.getD_eq_getElem?_getD]
            exact I.bit _ hh' x1 j hj
        · rw [if_neg e', hA (fun x => e' x.1)]
          exact I.bit h hh' x1 j hj
      · rw [on] at hh'; rw [oo]; exact I.sh h hh'
      · rw [on] at hh'; rw [oo, oo]; exact I.rise h h' hlt hh'
      · rw [on] at hh'; rw [oo, hgood.2]; exact I.top h hh'
      · rw [on] at hh'
        rw [oo] at hl' ⊢
        obtain ⟨x1, x2, x3, x4⟩ := I.els h hh' hl'
        refine ⟨x1, by rw [hgood.2]; exact x2, fun h' b1 b2 b3 => ?_, fun h' b1 b2 => ?_⟩
        · rw [on] at b3; rw [uu]; exact x3 h' b1 b2 b3
        · rw [on] at b2; rw [oo]; exact x4 h' b1 b2
      · rw [on] at hh'; rw [uu]; exact I.upl h h0 hh'
      · rw [on] at hh'
        rw [dd] at hx
        rw [uu, dd]
        obtain ⟨x1, x2⟩ := lv h hh' hx
        rw [R.dg _ (upn h h0 hh'), I.live h h0 hh' x1, Bool.false_or]
        cases hg : d.gone.getD (B.upp h) false
        · rfl
        · have := R.cls h (by omega) (by omega) hh' x1 hg
          rw [x2] at this
          cases this
      · rw [on] at hh'
        rw [dd] at hx
        rw [uu, oo] at hl' ⊢
        rw [vv, es, at1]
        obtain ⟨x1, x2⟩ := lv h hh' hx
        obtain ⟨g1, g2⟩ := I.hang h h0 hh' x1 hl'
        refine ⟨g1, ?_⟩
        split
        · rename_i e'
          have hni : ¬ B.vi h = op.i := fun ei => by
            have := R.tp h (by omega) (by omega) hh' x1 e' ei
            rw [x2] at this
            cases this
          show ((K.at_ op.h).set.set op.i false).getD (B.vi h) false = true
          rw [List.getD_eq_getElem?_getD, List.getElem?_set_ne (fun z => hni z.symm), ← List.getD_eq_getElem?_getD, ← e']
          exact g2
        · exact g2
      · rw [on] at hh' hh''
        rw [dd] at hx hx'
        rw [uu, uu] at eu
        rw [vv, vv] at ev
        rw [uu, oo] at hl'
        exact I.one h h' h0 h0' hh' hh'' (lv h hh' hx).1 (lv h' hh'' hx').1 eu ev hl'
      · rw [on] at hh'; rw [pp]; exact I.deep h hh'
      · rw [on] at hh'; rw [uu, vv]; exact I.small h hh'
  · have k0 : dropK K op = none := by
      unfold dropK
      rw [if_neg]
      rintro ⟨h1, _⟩
      rw [hset] at h1
      exact c1 h1
    rw [e0, if_neg c1, k0]
    exact ⟨rfl, I⟩
end Go.Proofs.Ygcfaa
