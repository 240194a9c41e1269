import Derived.Test.YgcfaaTakes8
namespace Go.Proofs.Ygcfaa
open Go.RowKit Bits Bd Utf
set_option linter.unusedVariables false

namespace Bd
def nslots (o : Ptr) : Nat := if o.kind = 1 then o.ptrs else if o.kind = 2 ∧ o.code = 6 then o.count else 0
def slotA (o : Ptr) (i : Nat) : Nat := if o.kind = 1 then o.at_ + o.data + i else o.at_ + i
def lo (o : Ptr) : Nat := if o.kind = 2 ∧ o.code = 7 then o.at_ - 1 else o.at_
def hi (o : Ptr) : Nat := if o.kind = 1 then o.at_ + o.data + o.ptrs else if o.code = 7 then o.at_ else o.at_ + words o
def l7 (o : Ptr) : Prop := o.kind = 2 ∧ o.code = 7
def Sh (o : Ptr) : Prop := (o.kind = 1 ∧ o.data ≤ 8 ∧ o.ptrs ≤ 8 ∧ o.code = 0 ∧ o.count = 0) ∨ (o.kind = 2 ∧ 2 ≤ o.code ∧ o.code ≤ 6 ∧ o.count ≤ 128 ∧ o.data = 0 ∧ o.ptrs = 0) ∨ (o.kind = 2 ∧ o.code = 7 ∧ o.count ≤ 128 ∧ o.data ≤ 8 ∧ o.ptrs ≤ 8 ∧ 1 ≤ o.at_)
def Bld.dd (B : Bld) (h : Nat) : Bool := B.dead.getD h false
def Bld.upp (B : Bld) (h : Nat) : Nat := B.up.getD h 0
def Bld.vi (B : Bld) (h : Nat) : Nat := B.via.getD h 0
def Bld.dp (B : Bld) (h : Nat) : Nat := B.depth.getD h 0

end Bd

/-- Builder and book tell the same; N: how many handles there will be. -/
structure InvN (N : Nat) (B : Bld) (K : Bk) : Prop where
  good : Good B
  n : K.e.length = B.obj.length
  len : K.len = B.A.length
  ent : ∀ h, h < B.obj.length → K.at_ h = ⟨B.dd h, (B.o h).kind, (B.o h).code, (B.o h).data, (B.o h).ptrs, (B.o h).count, B.dp h, B.upp h, B.vi h, (K.at_ h).set⟩
  set : ∀ h, h < B.obj.length → (K.at_ h).set.length = nslots (B.o h)
  bit : ∀ h, h < B.obj.length → B.dd h = false → ∀ i, i < nslots (B.o h) → ((K.at_ h).set.getD i false = true ↔ ¬ B.A.getD (slotA (B.o h) i) 0 = 0)
  sh : ∀ h, h < B.obj.length → Sh (B.o h)
  rise : ∀ h h', h < h' → h' < B.obj.length → hi (B.o h) ≤ lo (B.o h')
  top : ∀ h, h < B.obj.length → hi (B.o h) ≤ B.A.length
  els : ∀ h, h < B.obj.length → l7 (B.o h) → h + (B.o h).count < N ∧ (B.o h).at_ + (B.o h).count * ((B.o h).data + (B.o h).ptrs) ≤ B.A.length ∧ (∀ h', h < h' → h' ≤ h + (B.o h).count → h' < B.obj.length → B.upp h' = h) ∧
    (∀ h', h + (B.o h).count < h' → h' < B.obj.length → (B.o h).at_ + (B.o h).count * ((B.o h).data + (B.o h).ptrs) ≤ lo (B.o h'))
  upl : ∀ h, 0 < h → h < B.obj.length → B.upp h < h
  live : ∀ h, 0 < h → h < B.obj.length → B.dd h = false → B.dd (B.upp h) = false
  hang : ∀ h, 0 < h → h < B.obj.length → B.dd h = false → ¬ l7 (B.o (B.upp h)) → B.vi h < nslots (B.o (B.upp h)) ∧ (K.at_ (B.upp h)).set.getD (B.vi h) false = true
  one : ∀ h h', 0 < h → 0 < h' → h < B.obj.length → h' < B.obj.length → B.dd h = false → B.dd h' = false → B.upp h = B.upp h' → B.vi h = B.vi h' → ¬ l7 (B.o (B.upp h)) → h = h'
  deep : ∀ h, h < B.obj.length → B.dp h ≤ 8
  small : ∀ h, h < B.obj.length → B.upp h < 256 ∧ B.vi h < 256

theorem slot_lt {o : Ptr} (hs : Sh o) {i : Nat} (hi' : i < nslots o) : lo o ≤ slotA o i ∧ slotA o i < hi o := by
  unfold nslots at hi'
  unfold lo slotA hi
  rcases hs with ⟨h1, h2, h3, h4, h5⟩ | ⟨h1, h2, h3, h4, h5, h6⟩ | ⟨h1, h2, h3, h4, h5, h6⟩
  · rw [if_pos h1] at hi'
    rw [if_neg (by omega), if_pos h1, if_pos h1]
    omega
  · rw [if_neg (by omega)] at hi'
    split at hi'
    · rename_i h6'
      rw [if_neg (by omega), if_neg (by omega), if_neg (by omega), if_neg (by omega)]
      have : words o = o.count := by
        unfold words
        rw [if_neg (by omega), if_neg (by omega), if_neg (by omega), if_neg (by omega), if_pos h6'.2]
      omega
    · omega
  · rw [if_neg (by omega), if_neg (by omega)] at hi'
    omega
theorem lo_hi {o : Ptr} (hs : Sh o) : lo o ≤ hi o := by
  unfold lo hi
  rcases hs with ⟨h1, h2, h3, h4, h5⟩ | ⟨h1, h2, h3, h4, h5, h6⟩ | ⟨h1, h2, h3, h4, h5, h6⟩
  · rw [if_neg (by omega), if_pos h1]; omega
  · rw [if_neg (by omega), if_neg (by omega), if_neg (by omega)]; omega
  · rw [if_pos ⟨h1, h2⟩, if_neg (by omega), if_pos h2]; omega

section
variable {N : Nat} {B : Bld} {K : Bk}
/-- Two slots at one word are one slot. -/
theorem InvN.slot_inj (I : InvN N B K) {h h' i i' : Nat} (hh : h < B.obj.length) (hh' : h' < B.obj.length) (hi1 : i < nslots (B.o h)) (hi2 : i' < nslots (B.o h')) (e : slotA (B.o h) i = slotA (B.o h') i') : h = h' ∧ i = i' := by
  have a1 := slot_lt (I.sh h hh) hi1
  have a2 := slot_lt (I.sh h' hh') hi2
  have : h = h' := by
    rcases Nat.lt_trichotomy h h' with l | l | l
    · have := I.rise h h' l hh'; omega
    · exact l
    · have := I.rise h' h l hh; omega
  subst this
  refine ⟨rfl, ?_⟩
  unfold slotA at e
  split at e <;> omega
theorem InvN.slot_top (I : InvN N B K) {h i : Nat} (hh : h < B.obj.length) (hi1 : i < nslots (B.o h)) : slotA (B.o h) i < B.A.length := by
  have a1 := slot_lt (I.sh h hh) hi1
  have := I.top h hh
  omega
/-- A word that is no live slot is written. -/
theorem InvN.setA (I : InvN N B K) (j v : Nat) (hj : ∀ h, h < B.obj.length → B.dd h = false → ∀ i, i < nslots (B.o h) → slotA (B.o h) i ≠ j) : InvN N (Bd.setA B j v) K :=
  ⟨setA_good I.good j v, I.n, by rw [I.len]; simp [Bd.setA], I.ent, I.set, fun h hh hd i hi' => by
    show _ ↔ ¬ (B.A.set j v).getD (slotA (B.o h) i) 0 = 0
    rw [getD_set_ne' (hj h hh hd i hi')]
    exact I.bit h hh hd i hi', I.sh, I.rise, fun h hh => by
    show hi (B.o h) ≤ (B.A.set _ v).length
    rw [List.length_set]
    exact I.top h hh, fun h hh hl => by
    obtain ⟨e1, e2, e3⟩ := I.els h hh hl
    refine ⟨e1, ?_, e3⟩
    show _ ≤ (B.A.set _ v).length
    rw [List.length_set]
    exact e2, I.upl, I.live, I.hang, I.one, I.deep, I.small⟩
theorem InvN.mark (I : InvN N B K) (a n : Nat) (on : Bool) : InvN N (markB B a n on) K :=
  ⟨⟨I.good.even, I.good.at_⟩, I.n, I.len, I.ent, I.set, I.bit, I.sh, I.rise, I.top, I.els, I.upl, I.live, I.hang, I.one, I.deep, I.small⟩
/-- Zero words are appended. -/
theorem InvN.grow (I : InvN N B K) (n : Nat) (hn : B.A.length + n ≤ 256) : InvN N (growB B n) { K with len := K.len + n } := by
  obtain ⟨⟨a1, a2⟩, a3⟩ := I.good.even
  refine ⟨⟨⟨⟨by simp [growB]; omega, by simp [growB]; omega⟩, a3⟩, I.good.at_⟩, I.n, by simp [growB, I.len], I.ent, I.set, fun h hh hd i hi' => ?_, I.sh, I.rise, fun h hh => ?_, fun h hh hl => ?_, I.upl, I.live, I.hang, I.one, I.deep, I.small⟩
  · have := I.bit h hh hd i hi'
    have ht := I.slot_top hh hi'
    show _ ↔ ¬ (B.A ++ List.replicate n 0).getD (slotA (B.o h) i) 0 = 0
    rw [getD_app ht]
    exact this
  · have := I.top h hh
    show hi (B.o h) ≤ (B.A ++ List.replicate n 0).length
    simp; omega
  · obtain ⟨e1, e2, e3⟩ := I.els h hh hl
    refine ⟨e1, ?_, e3⟩
    show _ ≤ (B.A ++ List.replicate n 0).length
    rw [List.length_append]
    exact Nat.le_trans e2 (Nat.le_add_right _ _)
/-- A slot is filled or emptied. -/
theorem InvN.fill (I : InvN N B K) {H i v : Nat} (b : Bool) (hH : H < B.obj.length) (hi' : i < nslots (B.o H)) (hv : b = true ↔ ¬ v = 0) (hno : b = false → ∀ h, 0 < h → h < B.obj.length → B.dd h = false → B.upp h = H → B.vi h = i → False) :
    InvN N (Bd.setA B (slotA (B.o H) i) v) (K.putSet H ((K.at_ H).set.set i b)) := by
  have hHK : H < K.e.length := by rw [I.n]; exact hH
  have hat : ∀ h, (K.putSet H ((K.at_ H).set.set i b)).at_ h = if h = H then { K.at_ H with set := (K.at_ H).set.set i b } else K.at_ h := putSet_at K hHK _
  refine ⟨setA_good I.good _ v, by rw [putSet_len]; exact I.n, by simp [Bk.putSet, Bd.setA, I.len], fun h hh => ?_, fun h hh => ?_, fun h hh hd j hj => ?_, I.sh, I.rise, fun h hh => by
    show hi (B.o h) ≤ (B.A.set _ v).length
    rw [List.length_set]
    exact I.top h hh, fun h hh hl => by
    obtain ⟨e1, e2, e3⟩ := I.els h hh hl
    refine ⟨e1, ?_, e3⟩
    show _ ≤ (B.A.set _ v).length
    rw [List.length_set]
    exact e2, I.upl, I.live, fun h h0 hh hd hl => ?_, I.one, I.deep, I.small⟩
  · rw [hat]
    split
    · rename_i e
      subst e
      have := I.ent h hh
      generalize K.at_ h = k at *
      rw [this]
      rfl
    · exact I.ent h hh
  · rw [hat]
    split
    · rename_i e
      subst e
      show ((K.at_ h).set.set i b).length = _
      rw [List.length_set]
      exact I.set h hh
    · exact I.set h hh
  · rw [hat]
    by_cases e : h = H
    · subst e
      rw [if_pos rfl]
      by_cases ej : j = i
      · subst ej
        have hl1 : j < (K.at_ h).set.length := by rw [I.set h hh]; exact hj
        have h1 : ((K.at_ h).set.set j b).getD j false = b := by
          rw [List.getD_eq_getElem?_getD, List.getElem?_set_self hl1]; rfl
        have h2 : (B.A.set (slotA (B.o h) j) v).getD (slotA (B.o h) j) 0 = v := by
          rw [List.getD_eq_getElem?_getD, List.getElem?_set_self (I.slot_top hh hj)]; rfl
        show ((K.at_ h).set.set j b).getD j false = true ↔ ¬ (B.A.set (slotA (B.o h) j) v).getD (slotA (B.o h) j) 0 = 0
        rw [h1, h2]
        exact hv
      · have h1 : ((K.at_ h).set.set i b).getD j false = (K.at_ h).set.getD j false := by
          rw [List.getD_eq_getElem?_getD, List.getElem?_set_ne (Ne.symm ej), ← List.getD_eq_getElem?_getD]
        show ((K.at_ h).set.set i b).getD j false = true ↔ ¬ (B.A.set (slotA (B.o h) i) v).getD (slotA (B.o h) j) 0 = 0
        rw [h1, getD_set_ne' (fun e => ej (I.slot_inj hh hh hj hi' e).2)]
        exact I.bit h hh hd j hj
    · rw [if_neg e]
      show _ ↔ ¬ (B.A.set (slotA (B.o H) i) v).getD (slotA (B.o h) j) 0 = 0
      rw [getD_set_ne' (fun e' => e (I.slot_inj hh hH hj hi' e').1)]
      exact I.bit h hh hd j hj
  · obtain ⟨g1, g2⟩ := I.hang h h0 hh hd hl
    refine ⟨g1, ?_⟩
    show ((K.putSet H ((K.at_ H).set.set i b)).at_ (B.upp h)).set.getD (B.vi h) false = true
    rw [hat]
    split
    · rename_i e
      by_cases ei : B.vi h = i
      · rw [ei]
        have hl1 : i < (K.at_ H).set.length := by rw [I.set H hH]; exact hi'
        have h1 : ((K.at_ H).set.set i b).getD i false = b := by
          rw [List.getD_eq_getElem?_getD, List.getElem?_set_self hl1]; rfl
        show ((K.at_ H).set.set i b).getD i false = true
        rw [h1]
        cases b
        · exact (hno rfl h h0 hh hd e ei).elim
        · rfl
      · show ((K.at_ H).set.set i b).getD (B.vi h) false = true
        rw [List.getD_eq_getElem?_getD, List.getElem?_set_ne (Ne.symm ei), ← List.getD_eq_getElem?_getD, ← e]
        exact g2
    · exact g2

theorem snoc_lt {α : Type} {l : List α} {x d : α} {j : Nat} (h : j < l.length) : (l ++ [x]).getD j d = l.getD j d := by
  rw [List.getD_eq_getElem?_getD, List.getElem?_append_left h, ← List.getD_eq_getElem?_getD]
theorem snoc_eq {α : Type} {l : List α} {x d : α} {j : Nat} (h : j = l.length) : (l ++ [x]).getD j d = x := by
  subst h
  simp

/-- A handle is hung. -/
theorem InvN.push (I : InvN N B K) {p : Ptr} {H i D : Nat} {m : Ent} (hN : B.obj.length < N) (h256 : B.obj.length + 1 ≤ 256) (hat : p.at_ ≤ 60000) (hs : Sh p)
    (hm : m = ⟨false, p.kind, p.code, p.data, p.ptrs, p.count, D, H, i, List.replicate (nslots p) false⟩)
    (hlo : ∀ h, h < B.obj.length → hi (B.o h) ≤ lo p) (htop : hi p ≤ B.A.length) (hzero : ∀ j, j < nslots p → B.A.getD (slotA p j) 0 = 0)
    (hl7 : l7 p → B.obj.length + p.count < N ∧ p.at_ + p.count * (p.data + p.ptrs) ≤ B.A.length)
    (hin : ∀ h, h < B.obj.length → l7 (B.o h) → (B.obj.length ≤ h + (B.o h).count → H = h) ∧ (h + (B.o h).count < B.obj.length → (B.o h).at_ + (B.o h).count * ((B.o h).data + (B.o h).ptrs) ≤ lo p))
    (hH : H < B.obj.length) (hHd : B.dd H = false) (hD : D ≤ 8) (hi8 : i < 256) (hH8 : H < 256)
    (hhang : ¬ l7 (B.o H) → i < nslots (B.o H) ∧ (K.at_ H).set.getD i false = true ∧ ∀ h, 0 < h → h < B.obj.length → B.dd h = false → B.upp h = H → B.vi h = i → False) :
    InvN N (hangB B p H i D) { K with e := K.e ++ [m] } := by
  obtain ⟨⟨a1, a2⟩, ⟨a3, a4⟩, a5, a6, a7, a8⟩ := I.good.even
  have en := I.n
  have olt : ∀ h, h < B.obj.length → (hangB B p H i D).o h = B.o h := fun h hh => snoc_lt hh
  have oeq : (hangB B p H i D).o B.obj.length = p := snoc_eq rfl
  have dlt : ∀ h, h < B.obj.length → (hangB B p H i D).dd h = B.dd h := fun h hh => snoc_lt (by rw [a8]; exact hh)
  have deq : (hangB B p H i D).dd B.obj.length = false := snoc_eq a8.symm
  have ult : ∀ h, h < B.obj.length → (hangB B p H i D).upp h = B.upp h := fun h hh => snoc_lt (by rw [a5]; exact hh)
  have ueq : (hangB B p H i D).upp B.obj.length = H := snoc_eq a5.symm
  have vlt : ∀ h, h < B.obj.length → (hangB B p H i D).vi h = B.vi h := fun h hh => snoc_lt (by rw [a6]; exact hh)
  have veq : (hangB B p H i D).vi B.obj.length = i := snoc_eq a6.symm
  have plt : ∀ h, h < B.obj.length → (hangB B p H i D).dp h = B.dp h := fun h hh => snoc_lt (by rw [a7]; exact hh)
  have peq : (hangB B p H i D).dp B.obj.length = D := snoc_eq a7.symm
  have klt : ∀ h, h < B.obj.length → ({ K with e := K.e ++ [m] } : Bk).at_ h = K.at_ h := fun h hh => snoc_lt (by rw [en]; exact hh)
  have keq : ({ K with e := K.e ++ [m] } : Bk).at_ B.obj.length = m := snoc_eq en.symm
  have hlen : (hangB B p H i D).obj.length = B.obj.length + 1 := by simp [hangB]
  have hA : (hangB B p H i D).A = B.A := rfl
  have cas : ∀ h, h < (hangB B p H i D).obj.length → h < B.obj.length ∨ h = B.obj.length := fun h hh => by rw [hlen] at hh; omega
  have hup : ∀ h, 0 < h → h < B.obj.length → B.upp h < B.obj.length := fun h h0 hh => by have := I.upl h h0 hh; omega
  refine ⟨⟨?_, hangB_at I.good.at_ hat⟩, ?_, I.len, fun h hh => ?_, fun h hh => ?_, fun h hh hd j hj => ?_, fun h hh => ?_, fun h h' hl hh => ?_, fun h hh => ?_, fun h hh hl => ?_, fun h h0 hh => ?_, fun h h0 hh hd => ?_, fun h h0 hh hd hl => ?_, fun h h' h0 h0' hh hh' hd hd' eu ev hl => ?_, fun h hh => ?_, fun h hh => ?_⟩
  · refine ⟨⟨a1, a2⟩, ⟨by rw [hlen]; omega, by rw [hlen]; omega⟩, ?_, ?_, ?_, ?_⟩ <;> simp [hangB] <;> assumption
  · simp [hangB, en]
  · rcases cas h hh with l | rfl
    · rw [klt h l, dlt h l, olt h l, plt h l, ult h l, vlt h l]; exact I.ent h l
    · rw [keq, deq, oeq, peq, ueq, veq, hm]
  · rcases cas h hh with l | rfl
    · rw [klt h l, olt h l]; exact I.set h l
    · rw [keq, oeq, hm]; simp
  · rcases cas h hh with l | rfl
    · rw [olt h l] at hj ⊢
      rw [dlt h l] at hd
      rw [klt h l]
      exact I.bit h l hd j hj
    · rw [oeq] at hj ⊢
      rw [keq, hm, hA, hzero j hj]
      have h0 : (List.replicate (nslots p) false).getD j false = false := by
        rw [List.getD_eq_getElem?_getD, List.getElem?_replicate]
        split <;> rfl
      show (List.replicate (nslots p) false).getD j false = true ↔ _
      rw [h0]
      simp
  · rcases cas h hh with l | rfl
    · rw [olt h l]; exact I.sh h l
    · rw [oeq]; exact hs
  · rcases cas h' hh with l | rfl
    · rw [olt h (by omega), olt h' l]; exact I.rise h h' hl l
    · rw [olt h hl, oeq]; exact hlo h hl
  · rcases cas h hh with l | rfl
    · rw [olt h l]; exact I.top h l
    · rw [oeq]; exact htop
  · rcases cas h hh with l | rfl
    · rw [olt h l] at hl ⊢
      obtain ⟨e1, e2, e3, e4⟩ := I.els h l hl
      refine ⟨e1, e2, fun h' b1 b2 b3 => ?_, fun h' b1 b2 => ?_⟩
      · rcases cas h' b3 with l' | rfl
        · rw [ult h' l']; exact e3 h' b1 b2 l'
        · rw [ueq]; exact (hin h l hl).1 b2
      · rcases cas h' b2 with l' | rfl
        · rw [olt h' l']; exact e4 h' b1 l'
        · rw [oeq]; exact (hin h l hl).2 b1
    · rw [oeq] at hl ⊢
      refine ⟨(hl7 hl).1, (hl7 hl).2, fun h' b1 b2 b3 => ?_, fun h' b1 b2 => ?_⟩
      · rw [hlen] at b3; omega
      · rw [hlen] at b2; omega
  · rcases cas h hh with l | rfl
    · rw [ult h l]; exact I.upl h h0 l
    · rw [ueq]; exact hH
  · rcases cas h hh with l | rfl
    · rw [ult h l, dlt _ (hup h h0 l)]
      rw [dlt h l] at hd
      exact I.live h h0 l hd
    · rw [ueq, dlt H hH]; exact hHd
  · rcases cas h hh with l | rfl
    · rw [dlt h l] at hd
      rw [ult h l, olt _ (hup h h0 l)] at hl ⊢
      rw [vlt h l, klt _ (hup h h0 l)]
      exact I.hang h h0 l hd hl
    · rw [ueq, olt H hH] at hl ⊢
      rw [veq, klt H hH]
      exact ⟨(hhang hl).1, (hhang hl).2.1⟩
  · rcases cas h hh with l | rfl
    · rw [ult h l, olt _ (hup h h0 l)] at hl
      rw [dlt h l] at hd
      rw [ult h l] at eu
      rw [vlt h l] at ev
      rcases cas h' hh' with l' | rfl
      · rw [dlt h' l'] at hd'
        rw [ult h' l'] at eu
        rw [vlt h' l'] at ev
        exact I.one h h' h0 h0' l l' hd hd' eu ev hl
      · rw [ueq] at eu
        rw [veq] at ev
        exact ((hhang (by rw [← eu]; exact hl)).2.2 h h0 l hd eu ev).elim
    · rw [ueq, olt H hH] at hl
      rw [ueq] at eu
      rw [veq] at ev
      rcases cas h' hh' with l' | rfl
      · rw [dlt h' l'] at hd'
        rw [ult h' l'] at eu
        rw [vlt h' l'] at ev
        exact ((hhang hl).2.2 h' h0' l' hd' eu.symm ev.symm).elim
      · rfl
  · rcases cas h hh with l | rfl
    · rw [plt h l]; exact I.deep h l
    · rw [peq]; exact hD
  · rcases cas h hh with l | rfl
    · rw [ult h l, vlt h l]; exact I.small h l
    · rw [ueq, veq]; exact ⟨hH8, hi8⟩
end
end Go.Proofs.Ygcfaa
