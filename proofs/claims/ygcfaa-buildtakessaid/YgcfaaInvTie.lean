import Derived.Test.YgcfaaInvDrop2
namespace Go.Proofs.Ygcfaa
open Go.RowKit Bits Bd Utf
set_option linter.unusedVariables false

/-- A word of a handle's own range that is none of its slots is no slot of another. -/
theorem own_word {N : Nat} {B : Bld} {K : Bk} (I : InvN N B K) {t j : Nat} (ht : t < B.obj.length) (h1 : lo (B.o t) ≤ j) (h2 : j < hi (B.o t)) (h3 : ∀ i, i < nslots (B.o t) → slotA (B.o t) i ≠ j) :
    ∀ h, h < B.obj.length → B.dd h = false → ∀ i, i < nslots (B.o h) → slotA (B.o h) i ≠ j := by
  intro h hh _ i hi' e
  by_cases eh : h = t
  · subst eh; exact h3 i hi' e
  · have sl := slot_lt (I.sh h hh) hi'
    rcases Nat.lt_or_ge h t with l | l
    · have := I.rise h t l ht; omega
    · have := I.rise t h (by omega) hh; omega

theorem data_step {B : Bld} {K : Bk} (I : Inv B K) {op : Opn} (hh : op.h < B.obj.length) (hd : B.dd op.h = false) :
    (setDataB B op).isSome = (if (op.x = 0 ∨ op.x = 3 ∨ op.x = 4 ∨ op.x = 5 ∨ op.x = 6) ∧ (K.at_ op.h).kind = 1 ∧ (op.n + 1) * 2 ^ op.x ≤ 64 * (K.at_ op.h).data then some K else none).isSome ∧
    Inv ((setDataB B op).getD B) ((if (op.x = 0 ∨ op.x = 3 ∨ op.x = 4 ∨ op.x = 5 ∨ op.x = 6) ∧ (K.at_ op.h).kind = 1 ∧ (op.n + 1) * 2 ^ op.x ≤ 64 * (K.at_ op.h).data then some K else none).getD K) := by
  have e := I.ent op.h hh
  have ek : (K.at_ op.h).kind = (B.o op.h).kind := by rw [e]
  have ed : (K.at_ op.h).data = (B.o op.h).data := by rw [e]
  rw [ek, ed]
  unfold setDataB
  dsimp only
  by_cases c1 : ¬ (B.o op.h).kind = 1 ∨ 6 < op.x ∨ op.x = 1 ∨ op.x = 2
  · rw [if_pos c1, if_neg (by omega)]
    exact ⟨rfl, I⟩
  · rw [if_neg c1]
    have hx : op.x = 0 ∨ op.x = 3 ∨ op.x = 4 ∨ op.x = 5 ∨ op.x = 6 := by omega
    have hk : (B.o op.h).kind = 1 := by omega
    have hhi : hi (B.o op.h) = (B.o op.h).at_ + (B.o op.h).data + (B.o op.h).ptrs := by unfold hi; rw [if_pos hk]
    have htop := I.top op.h hh
    have hiff : (op.n + 1) * 2 ^ op.x ≤ 64 * (B.o op.h).data ↔ ¬ (B.o op.h).data * 64 ≤ op.n * 2 ^ op.x := by
      rcases hx with e | e | e | e | e <;> rw [e] <;> omega
    by_cases c2 : (B.o op.h).data * 64 ≤ op.n * 2 ^ op.x
    · rw [if_pos (.inl c2), if_neg (fun h => (hiff.1 h.2.2) c2)]
      exact ⟨rfl, I⟩
    · have hlt : op.n * 2 ^ op.x / 64 < (B.o op.h).data := by omega
      rw [if_neg (by omega), if_pos ⟨hx, hk, hiff.2 c2⟩]
      refine ⟨rfl, ?_⟩
      refine I.setA _ _ (own_word I hh (by unfold lo; rw [if_neg (by omega)]; omega) (by omega) (fun i _ => ?_))
      unfold slotA
      rw [if_pos hk]
      omega

theorem elem_step {B : Bld} {K : Bk} (I : Inv B K) (h0 : B.o 0 = ⟨1, 0, 0, 1, 0, 0⟩) {op : Opn} (hh : op.h < B.obj.length) (hd : B.dd op.h = false) (c : Bool) (hc : c = true ↔ insideP B.A.length (B.o op.h)) :
    (setElemB B op c).isSome = (if (K.at_ op.h).kind = 2 ∧ 2 ≤ (K.at_ op.h).code ∧ (K.at_ op.h).code ≤ 5 ∧ op.n < (K.at_ op.h).count then some K else none).isSome ∧
    Inv ((setElemB B op c).getD B) ((if (K.at_ op.h).kind = 2 ∧ 2 ≤ (K.at_ op.h).code ∧ (K.at_ op.h).code ≤ 5 ∧ op.n < (K.at_ op.h).count then some K else none).getD K) := by
  have e := I.ent op.h hh
  have ek : (K.at_ op.h).kind = (B.o op.h).kind := by rw [e]
  have ec : (K.at_ op.h).code = (B.o op.h).code := by rw [e]
  have en : (K.at_ op.h).count = (B.o op.h).count := by rw [e]
  rw [ek, ec, en]
  unfold setElemB
  dsimp only
  by_cases c1 : (B.o op.h).kind = 2 ∧ 2 ≤ (B.o op.h).code ∧ (B.o op.h).code ≤ 5 ∧ op.n < (B.o op.h).count
  · obtain ⟨k1, k2, k3, k4⟩ := c1
    have hcount : (B.o op.h).count ≤ 128 := by
      rcases I.sh op.h hh with ⟨h1, _⟩ | ⟨h1, h2, h3, h4, _⟩ | ⟨h1, h2, _⟩ <;> omega
    have hwid : 1 ≤ width (B.o op.h).code := by
      unfold width; rw [if_neg (by omega)]; exact Nat.one_le_two_pow
    have hw : words (B.o op.h) = ((B.o op.h).count * width (B.o op.h).code + 7) / 8 := by
      unfold words
      rw [if_neg (by omega), if_neg (by omega), if_neg (by omega), if_pos ⟨k2, k3⟩]
    have hhi : hi (B.o op.h) = (B.o op.h).at_ + words (B.o op.h) := by unfold hi; rw [if_neg (by omega), if_neg (by omega)]
    have hlo : lo (B.o op.h) = (B.o op.h).at_ := by unfold lo; rw [if_neg (by omega)]
    have htop := I.top op.h hh
    have hpos : 1 ≤ (B.o op.h).at_ := by
      have hne : 0 < op.h := by
        rcases Nat.eq_zero_or_pos op.h with z | z
        · rw [z, h0] at k1; cases k1
        · exact z
      have := I.rise 0 op.h hne hh
      rw [h0, hlo] at this
      have h1 : hi ⟨1, 0, 0, 1, 0, 0⟩ = 1 := rfl
      omega
    have hin : c = true := hc.2 ⟨I.good.even.1.2, .inr k1, .inr ⟨.inr (by omega), by omega, .inr hpos⟩⟩
    rw [if_neg (by rw [hin]; simp; omega), if_pos ⟨k1, k2, k3, k4⟩]
    refine ⟨rfl, ?_⟩
    have hmul : op.n * width (B.o op.h).code + width (B.o op.h).code ≤ (B.o op.h).count * width (B.o op.h).code := by
      rw [← Nat.succ_mul]
      exact Nat.mul_le_mul_right _ (by omega)
    refine I.setA _ _ (own_word I hh (by omega) (by omega) (fun i hi' => ?_))
    unfold nslots at hi'
    rw [if_neg (by omega), if_neg (by omega)] at hi'
    omega
  · rw [if_neg c1]
    have : ¬ (B.o op.h).kind = 2 ∨ width (B.o op.h).code = 0 ∨ (B.o op.h).count ≤ op.n ∨ c = false := by
      by_cases z : (B.o op.h).kind = 2
      · by_cases y : 2 ≤ (B.o op.h).code ∧ (B.o op.h).code ≤ 5
        · exact .inr (.inr (.inl (by omega)))
        · refine .inr (.inl ?_)
          unfold width
          rw [if_pos (by omega)]
      · exact .inl z
    rw [if_pos this]
    exact ⟨rfl, I⟩

/-- Handles are never changed, only added. -/
theorem hang_zero {B : Bld} (h1 : 1 ≤ B.obj.length) (q : Ptr) (u v d : Nat) : (hangB B q u v d).o 0 = B.o 0 := snoc_lt h1
theorem elems_zero (L d t D : Nat) : ∀ (k i a : Nat) (B : Bld), 1 ≤ B.obj.length → (elems L d t D k i a B).o 0 = B.o 0
  | 0, _, _, _, _ => rfl
  | k + 1, i, a, B, h => by
    rw [elems, elems_zero L d t D k _ _ _ (by simp [hangB, markB])]
    exact hang_zero (B := markB B (a + d) t true) h _ _ _ _
theorem newStruct_zero {B B' : Bld} {op : Opn} (h1 : 1 ≤ B.obj.length) (h : newStructB B op = some B') : B'.o 0 = B.o 0 := by
  unfold newStructB at h
  dsimp only at h
  split at h
  · cases h
  · cases h
    exact snoc_lt h1
theorem newList_zero {B B' : Bld} {op : Opn} (h1 : 1 ≤ B.obj.length) (h : newListB B op = some B') : B'.o 0 = B.o 0 := by
  unfold newListB at h
  split at h
  · unfold newStructsB at h
    dsimp only at h
    split at h
    · cases h
    split at h
    · cases h
    · cases h
      rw [elems_zero _ _ _ _ _ _ _ _ (by simp [hangB])]
      exact snoc_lt h1
  · dsimp only at h
    split at h
    · cases h
    · cases h
      by_cases h6 : op.x = 6
      · rw [if_pos h6]; exact snoc_lt h1
      · rw [if_neg h6]; exact snoc_lt h1
theorem doB_zero {B B' : Bld} {op : Opn} {c1 c2 : Bool} (h1 : 1 ≤ B.obj.length) (h : doB B op c1 c2 = some B') : B'.o 0 = B.o 0 := by
  unfold doB at h
  split at h
  · split at h
    · exact newStruct_zero h1 h
    split at h
    · exact newList_zero h1 h
    split at h
    · unfold setTextB at h
      split at h
      · split at h
        · cases h
        · rename_i B1 hB1
          cases h
          rw [same_o (bytesGo_rest _ _ _ _ _).1]
          exact newList_zero h1 hB1
      · cases h
    split at h
    · unfold setDataB at h
      dsimp only at h
      split at h
      · cases h
      split at h
      · cases h
      · cases h; rfl
    split at h
    · unfold setElemB at h
      dsimp only at h
      split at h
      · cases h
      · cases h; rfl
    split at h
    · unfold dropB at h
      split at h
      · cases h
      split at h
      · cases h
      · cases h
        exact same_o (B := B) (B' := Bd.setA _ _ 0) (dropGo_same op.h op.i (B.obj.length - 1) 1 ⟨false, List.replicate 256 false, B⟩).1.obj 0
    · cases h
  · cases h

/-- Builder and book. -/
def Inv0 (B : Bld) (K : Bk) : Prop := Inv B K ∧ B.o 0 = ⟨1, 0, 0, 1, 0, 0⟩

theorem do_step {B : Bld} {K : Bk} {op : Opn} {c1 c2 : Bool} (I : Inv0 B K) (hop : op.Ok) (hc1 : c1 = true ↔ contentP op.s) (hc2 : c2 = true ↔ insideP B.A.length (B.o op.h)) :
    (doB B op c1 c2).isSome = (takesK K op c1).isSome ∧ Inv ((doB B op c1 c2).getD B) ((takesK K op c1).getD K) := by
  obtain ⟨I, h0⟩ := I
  have hn := I.n
  by_cases hl : op.h < B.obj.length ∧ B.dead.getD op.h false = false
  · obtain ⟨hh, hd⟩ := hl
    have e := I.ent op.h hh
    have edd : (K.at_ op.h).dead = B.dead.getD op.h false := by rw [e]; rfl
    have hl2 : op.h < K.e.length ∧ (K.at_ op.h).dead = false := ⟨by rw [hn]; exact hh, by rw [edd]; exact hd⟩
    by_cases k0 : op.kind = 0
    · have a : doB B op c1 c2 = newStructB B op := by
        unfold doB
        rw [if_pos ⟨hh, hd⟩, if_pos k0]
      have b : takesK K op c1 = (if 8 < op.x ∨ 8 < op.y then none else makeK K op ⟨false, 1, 0, op.x, op.y, 0, 0, 0, 0, List.replicate op.y false⟩ (op.x + op.y) 0) := by
        unfold takesK
        rw [if_pos hl2, if_pos k0]
      rw [a, b]
      exact newStruct_step I hop hh hd
    by_cases k1 : op.kind = 1
    · have a : doB B op c1 c2 = newListB B op := by
        unfold doB
        rw [if_pos ⟨hh, hd⟩, if_neg k0, if_pos k1]
      have b : takesK K op c1 = listK K op := by
        unfold takesK
        rw [if_pos hl2, if_neg k0, if_pos k1]
      rw [a, b]
      exact newList_step I hop hh hd
    by_cases k2 : op.kind = 2
    · have a : doB B op c1 c2 = setTextB B op c1 (zOf op.s) := by
        unfold doB
        rw [if_pos ⟨hh, hd⟩, if_neg k0, if_neg k1, if_pos k2]
      have b : takesK K op c1 = (if c1 = true then makeK K op ⟨false, 2, 2, 0, 0, op.s.size + 1, 0, 0, 0, []⟩ ((op.s.size + 1 + 7) / 8) 0 else none) := by
        unfold takesK
        rw [if_pos hl2, if_neg k0, if_neg k1, if_pos k2]
      rw [a, b]
      exact text_step I hop hh hd c1 hc1
    by_cases k3 : op.kind = 3
    · have a : doB B op c1 c2 = setDataB B op := by
        unfold doB
        rw [if_pos ⟨hh, hd⟩, if_neg k0, if_neg k1, if_neg k2, if_pos k3]
      have b : takesK K op c1 = (if (op.x = 0 ∨ op.x = 3 ∨ op.x = 4 ∨ op.x = 5 ∨ op.x = 6) ∧ (K.at_ op.h).kind = 1 ∧ (op.n + 1) * 2 ^ op.x ≤ 64 * (K.at_ op.h).data then some K else none) := by
        unfold takesK
        rw [if_pos hl2, if_neg k0, if_neg k1, if_neg k2, if_pos k3]
      rw [a, b]
      exact data_step I hh hd
    by_cases k4 : op.kind = 4
    · have a : doB B op c1 c2 = setElemB B op c2 := by
        unfold doB
        rw [if_pos ⟨hh, hd⟩, if_neg k0, if_neg k1, if_neg k2, if_neg k3, if_pos k4]
      have b : takesK K op c1 = (if (K.at_ op.h).kind = 2 ∧ 2 ≤ (K.at_ op.h).code ∧ (K.at_ op.h).code ≤ 5 ∧ op.n < (K.at_ op.h).count then some K else none) := by
        unfold takesK
        rw [if_pos hl2, if_neg k0, if_neg k1, if_neg k2, if_neg k3, if_pos k4]
      rw [a, b]
      exact elem_step I h0 hh hd c2 hc2
    by_cases k5 : op.kind = 5
    · have a : doB B op c1 c2 = dropB B op := by
        unfold doB
        rw [if_pos ⟨hh, hd⟩, if_neg k0, if_neg k1, if_neg k2, if_neg k3, if_neg k4, if_pos k5]
      have b : takesK K op c1 = dropK K op := by
        unfold takesK
        rw [if_pos hl2, if_neg k0, if_neg k1, if_neg k2, if_neg k3, if_neg k4, if_pos k5]
      rw [a, b]
      exact drop_step I hop hh hd
    have a : doB B op c1 c2 = none := by
      unfold doB
      rw [if_pos ⟨hh, hd⟩, if_neg k0, if_neg k1, if_neg k2, if_neg k3, if_neg k4, if_neg k5]
    have b : takesK K op c1 = none := by
      unfold takesK
      rw [if_pos hl2, if_neg k0, if_neg k1, if_neg k2, if_neg k3, if_neg k4, if_neg k5]
    rw [a, b]
    exact ⟨rfl, I⟩
  · have a : doB B op c1 c2 = none := by
      unfold doB
      rw [if_neg hl]
    have b : takesK K op c1 = none := by
      unfold takesK
      rw [if_neg]
      rintro ⟨x1, x2⟩
      rw [hn] at x1
      have e := I.ent op.h x1
      rw [e] at x2
      exact hl ⟨x1, x2⟩
    rw [a, b]
    exact ⟨rfl, I⟩

theorem new_inv : Inv0 newB newK := by
  refine ⟨?_, rfl⟩
  have z : ∀ h, h < newB.obj.length → h = 0 := fun h hh => by simp [newB] at hh; exact hh
  refine ⟨newB_good, rfl, rfl, fun h hh => ?_, fun h hh => ?_, fun h hh hd i hi' => ?_, fun h hh => ?_, fun h h' hl hh => ?_, fun h hh => ?_, fun h hh hl => ?_, fun h h0 hh => ?_, fun h h0 hh => ?_, fun h h0 hh => ?_, fun h h' h0 h0' hh hh' => ?_, fun h hh => ?_, fun h hh => ?_⟩
  · have := z h hh; subst this; rfl
  · have := z h hh; subst this; rfl
  · have := z h hh; subst this
    have hi0 : i = 0 := by
      have : i < 1 := hi'
      omega
    subst hi0
    constructor
    · intro e; cases e
    · intro e; exact absurd rfl e
  · have := z h hh; subst this; exact .inl ⟨rfl, by show (0 : Nat) ≤ 8; omega, by show (1 : Nat) ≤ 8; omega, rfl, rfl⟩
  · have := z h' hh; omega
  · have := z h hh; subst this; exact Nat.le_refl 1
  · have := z h hh; subst this; cases hl.1
  · have := z h hh; omega
  · have := z h hh; omega
  · have := z h hh; omega
  · have := z h hh; omega
  · have := z h hh; subst this; exact Nat.zero_le _
  · have := z h hh; subst this; exact ⟨by show (0 : Nat) < 256; omega, by show (0 : Nat) < 256; omega⟩

theorem tie : Tie Inv0 where
  new := new_inv
  good := fun I => I.1.good
  len := fun {B K} I => ⟨I.1.len.symm, I.1.n.symm, fun h hh => by rw [I.1.ent h (by rw [← I.1.n]; exact hh)]; rfl⟩
  fit := fun {B K} I => by
    obtain ⟨I, _⟩ := I
    have out : ∀ i, ¬ i < B.obj.length → K.at_ i = ent0 := fun i hi' => by
      unfold Bk.at_
      rw [List.getD_eq_getElem?_getD, List.getElem?_eq_none (by rw [I.n]; omega)]
      rfl
    have hsh : ∀ i, i < B.obj.length → (B.o i).kind < 256 ∧ (B.o i).code < 256 ∧ (B.o i).data ≤ 255 ∧ (B.o i).count ≤ 65536 ∧ nslots (B.o i) ≤ 256 := fun i hi' => by
      unfold nslots
      rcases I.sh i hi' with ⟨h1, h2, h3, h4, h5⟩ | ⟨h1, h2, h3, h4, h5, h6⟩ | ⟨h1, h2, h3, h4, h5, h6⟩
      · rw [if_pos h1]; omega
      · rw [if_neg (by omega)]; refine ⟨by omega, by omega, by omega, by omega, ?_⟩; split <;> omega
      · rw [if_neg (by omega), if_neg (by omega)]; omega
    refine ⟨⟨?_, ?_, fun i => ?_, fun i => ?_⟩, ⟨fun i => ?_, fun i => ?_⟩, ⟨fun i => ?_, fun i => ?_, fun i => ?_, fun i => ?_⟩⟩
    · rw [I.n]; exact I.good.even.2.1.2
    · rw [I.len]; exact I.good.even.1.2
    · by_cases hi' : i < B.obj.length
      · rw [I.set i hi']; exact (hsh i hi').2.2.2.2
      · rw [out i hi']; exact Nat.zero_le _
    · by_cases hi' : i < B.obj.length
      · rw [I.ent i hi']; exact Nat.le_trans (I.deep i hi') (by omega)
      · rw [out i hi']; exact Nat.zero_le _
    · by_cases hi' : i < B.obj.length
      · rw [I.ent i hi']; exact (I.small i hi').1
      · rw [out i hi']; exact Nat.zero_lt_succ _
    · by_cases hi' : i < B.obj.length
      · rw [I.ent i hi']; exact Nat.lt_trans (I.small i hi').2 (by omega)
      · rw [out i hi']; exact Nat.zero_lt_succ _
    · by_cases hi' : i < B.obj.length
      · rw [I.ent i hi']; exact (hsh i hi').1
      · rw [out i hi']; exact Nat.zero_lt_succ _
    · by_cases hi' : i < B.obj.length
      · rw [I.ent i hi']; exact (hsh i hi').2.1
      · rw [out i hi']; exact Nat.zero_lt_succ _
    · by_cases hi' : i < B.obj.length
      · rw [I.ent i hi']; exact (hsh i hi').2.2.1
      · rw [out i hi']; exact Nat.zero_le _
    · by_cases hi' : i < B.obj.length
      · rw [I.ent i hi']; exact (hsh i hi').2.2.2.1
      · rw [out i hi']; exact Nat.zero_le _
  step := fun {B K op c1 c2} I _ hop hc1 hc2 => by
    obtain ⟨s1, s2⟩ := do_step I hop hc1 hc2
    refine ⟨s1, s2, ?_⟩
    cases hR : doB B op c1 c2 with
    | none => exact I.2
    | some B' =>
      show B'.o 0 = _
      rw [doB_zero I.1.good.even.2.1.1 hR]
      exact I.2
end Go.Proofs.Ygcfaa
