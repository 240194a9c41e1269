import Derived.Test.YgcfaaGreatTreeI
namespace Go.Proofs.YgcfaaGreat
open Go.RowKit Bits Bd
set_option linter.unusedVariables false

namespace Bd
/-- Node number i of the chain that is laid behind n nodes. -/
def chN (n i : Nat) : Nd := ⟨1, 0, [], [if i = 9 then -1 else ((n + i + 1 : Nat) : Int)]⟩
def chL (n : Nat) : Nat → List Nd
  | 0 => []
  | t + 1 => chL n t ++ [chN n t]
def Mo.ch (M : Mo) (t : Nat) : Mo := { M with N := M.N ++ chL M.N.length t }
end Bd
theorem chL_len (n : Nat) : ∀ t, (chL n t).length = t
  | 0 => rfl
  | t + 1 => by rw [chL, List.length_append, chL_len n t]; rfl
theorem chL_get (n : Nat) : ∀ (t i : Nat), i < t → (chL n t)[i]? = some (chN n i)
  | 0, i, h => by omega
  | t + 1, i, h => by
    rw [chL]
    by_cases hi : i < t
    · rw [List.getElem?_append_left (by rw [chL_len]; exact hi)]; exact chL_get n t i hi
    · have : i = t := by omega
      subst this
      rw [List.getElem?_append_right (by rw [chL_len]; omega), chL_len, Nat.sub_self]; rfl
section
variable {M : Mo}
theorem ch_len (t : Nat) : (M.ch t).N.length = M.N.length + t := by
  show (M.N ++ chL M.N.length t).length = _
  rw [List.length_append, chL_len]
theorem ch_old {t i : Nat} (h : i < M.N.length) : (M.ch t).nd i = M.nd i := by
  show (M.N ++ chL M.N.length t).getD i zNd = M.N.getD i zNd
  rw [List.getD_eq_getElem?_getD, List.getElem?_append_left h, List.getD_eq_getElem?_getD]
theorem ch_new {t i : Nat} (h : i < t) : (M.ch t).nd (M.N.length + i) = chN M.N.length i := by
  show (M.N ++ chL M.N.length t).getD (M.N.length + i) zNd = _
  rw [List.getD_eq_getElem?_getD, List.getElem?_append_right (by omega), Nat.add_sub_cancel_left, chL_get _ _ _ h]; rfl
theorem ch_succ (t : Nat) : M.ch (t + 1) = { M.ch t with N := (M.ch t).N ++ [chN M.N.length t] } := by
  unfold Mo.ch
  rw [chL, List.append_assoc]

variable {n0 : Nat} {own : Nat → Nat × Nat} {dp wd : Nat → Nat} {nm : Nat → Bool}
/-- The chain under an orphan; v: the first kid of the chain, or none. -/
theorem inv_chain (t : InvT M n0 own dp wd nm) (hn : M.N.length + 10 ≤ 512) (hn0 : n0 = M.N.length) {C : Mo} (hC : C = M.ch 10 ∨ C = (M.ch 10).setK M.N.length 0 (-1)) : InvT C n0 (fun k => if k < M.N.length then own k else (k, 0)) dp wd nm := by
  have hl10 : (M.ch 10).N.length = M.N.length + 10 := ch_len 10
  have hnn : M.N.length < (M.ch 10).N.length := by omega
  have hnew : ∀ i, i < 10 → (M.ch 10).nd (M.N.length + i) = chN M.N.length i := fun i hi => ch_new hi
  have hk1 : ((M.ch 10).nd M.N.length).kids.length = 1 := by
    have := hnew 0 (by omega); rw [Nat.add_zero] at this; rw [this]; rfl
  have hlen : C.N.length = M.N.length + 10 := by
    rcases hC with h | h
    · rw [h]; exact hl10
    · rw [h, setK_len]; exact hl10
  have hroot : C.root = M.root := by rcases hC with h | h <;> rw [h] <;> rfl
  have hold : ∀ i, i < M.N.length → C.nd i = M.nd i := fun i hi => by
    rcases hC with h | h
    · rw [h]; exact ch_old hi
    · rw [h]
      have := nd_set hnn { (M.ch 10).nd M.N.length with kids := ((M.ch 10).nd M.N.length).kids.set 0 (-1) } i
      unfold Mo.setK
      rw [this, if_neg (by omega)]
      exact ch_old hi
  -- a node of the chain: a struct of one kid, that is none or the next
  have hch : ∀ i, i < 10 → (C.nd (M.N.length + i)).kind = 1 ∧ (C.nd (M.N.length + i)).code = 0 ∧ (C.nd (M.N.length + i)).data = [] ∧ (C.nd (M.N.length + i)).kids.length = 1 ∧ (C.kd (M.N.length + i) 0 = -1 ∨ (C.kd (M.N.length + i) 0 = ((M.N.length + i + 1 : Nat) : Int) ∧ i < 9)) := fun i hi => by
    have base : (M.ch 10).kd (M.N.length + i) 0 = if i = 9 then -1 else ((M.N.length + i + 1 : Nat) : Int) := by
      unfold Mo.kd; rw [hnew i hi]; rfl
    rcases hC with h | h
    · rw [h, hnew i hi]
      refine ⟨rfl, rfl, rfl, rfl, ?_⟩
      rw [base]
      by_cases h9 : i = 9
      · rw [if_pos h9]; exact .inl rfl
      · rw [if_neg h9]; exact .inr ⟨rfl, by omega⟩
    · rw [h]
      have hkd := setK_kd (M := M.ch 10) hnn (show 0 < ((M.ch 10).nd M.N.length).kids.length by omega) (-1) (M.N.length + i) 0
      have hkl := setK_kids (M := M.ch 10) hnn 0 (-1) (M.N.length + i)
      have hnd := nd_set (M := M.ch 10) hnn { (M.ch 10).nd M.N.length with kids := ((M.ch 10).nd M.N.length).kids.set 0 (-1) } (M.N.length + i)
      have hf : ((M.ch 10).setK M.N.length 0 (-1)).nd (M.N.length + i) = if M.N.length + i = M.N.length then { (M.ch 10).nd M.N.length with kids := ((M.ch 10).nd M.N.length).kids.set 0 (-1) } else (M.ch 10).nd (M.N.length + i) := hnd
      refine ⟨?_, ?_, ?_, ?_, ?_⟩
      · rw [hf]; split
        · have := hnew 0 (by omega); rw [Nat.add_zero] at this; rw [this]; rfl
        · rw [hnew i hi]; rfl
      · rw [hf]; split
        · have := hnew 0 (by omega); rw [Nat.add_zero] at this; rw [this]; rfl
        · rw [hnew i hi]; rfl
      · rw [hf]; split
        · have := hnew 0 (by omega); rw [Nat.add_zero] at this; rw [this]; rfl
        · rw [hnew i hi]; rfl
      · rw [hkl, hnew i hi]; rfl
      · rw [hkd]
        split
        · exact .inl rfl
        · rw [base]
          by_cases h9 : i = 9
          · rw [if_pos h9]; exact .inl rfl
          · rw [if_neg h9]; exact .inr ⟨rfl, by omega⟩
  have hkdo : ∀ i j, i < M.N.length → C.kd i j = M.kd i j := fun i j hi => by unfold Mo.kd; rw [hold i hi]
  have hcase : ∀ i, i < C.N.length → i < M.N.length ∨ ∃ q, q < 10 ∧ i = M.N.length + q := fun i hi => by
    by_cases h : i < M.N.length
    · exact .inl h
    · exact .inr ⟨i - M.N.length, by omega, by omega⟩
  refine ⟨⟨by omega, by omega⟩, fun i hi => ?_, fun i j k hat hk => ?_, ?_, fun i j k hat hin hk => ?_, fun k hk hnm => ?_, t.sum⟩
  · rcases hcase i hi with hi' | ⟨q, hq, rfl⟩
    · obtain ⟨s1, s2⟩ := t.shp i hi'
      unfold shapedP
      rw [hold i hi']
      refine ⟨fun j hj => ?_, ?_⟩
      · rcases s1 j hj with z | z
        · exact .inl z
        · exact .inr ⟨z.1, by have := z.2; omega⟩
      · by_cases k1 : (M.nd i).kind = 1
        · rw [if_pos k1] at s2 ⊢; exact s2
        · rw [if_neg k1] at s2 ⊢
          obtain ⟨u1, u2, u3, u4⟩ := s2
          refine ⟨u1, u2, u3, ?_⟩
          by_cases c25 : 2 ≤ (M.nd i).code ∧ (M.nd i).code ≤ 5
          · rw [if_pos c25] at u4 ⊢; exact u4
          · rw [if_neg c25] at u4 ⊢
            by_cases c7 : (M.nd i).code = 7
            · rw [if_pos c7] at u4 ⊢
              refine ⟨fun j hj => ?_, u4.2⟩
              obtain ⟨k, e1, e2⟩ := u4.1 j hj
              have hkn : k < M.N.length := by
                rcases s1 j hj with z | z
                · omega
                · omega
              exact ⟨k, e1, by rw [hold k hkn]; exact e2⟩
            · rw [if_neg c7] at u4 ⊢; exact u4
    · obtain ⟨z1, z2, z3, z4, z5⟩ := hch q hq
      refine ⟨fun j hj => ?_, ?_⟩
      · rw [z4] at hj
        have : j = 0 := by omega
        subst this
        rcases z5 with z | ⟨z, _⟩
        · exact .inl z
        · refine .inr ⟨?_, ?_⟩
          · show ((M.N.length + q : Nat) : Int) < C.kd (M.N.length + q) 0
            rw [z]; omega
          · show C.kd (M.N.length + q) 0 < _
            rw [z, hlen]; omega
      · rw [if_pos z1, z2, z3, z4]
        exact ⟨rfl, by decide, by decide⟩
  · rcases hcase i hat.1 with hi' | ⟨q, hq, rfl⟩
    · have hat' : M.at_ i j := ⟨hi', by have := hat.2; rw [hold i hi'] at this; exact this⟩
      rw [hkdo i j hi'] at hk
      have hkn : k < M.N.length := by
        rcases (t.shp i hi').1 j hat'.2 with z | z
        · have hz : M.kd i j = -1 := z; omega
        · have hz : M.kd i j < (M.N.length : Int) := z.2; omega
      rw [if_pos hkn]
      exact t.kid i j k hat' hk
    · obtain ⟨z1, z2, z3, z4, z5⟩ := hch q hq
      have hj : j = 0 := by have := hat.2; omega
      subst hj
      rcases z5 with z | ⟨z, _⟩
      · rw [z] at hk; omega
      · rw [z] at hk
        have : k = M.N.length + q + 1 := by omega
        subst this
        rw [if_neg (by omega)]
  · rw [hroot]
    rcases t.rt with q | ⟨r, q1, q2, q3, q4⟩
    · exact .inl q
    · exact .inr ⟨r, q1, q2, by rw [if_pos (by omega)]; exact q3, q4⟩
  · have hi' : i < M.N.length := by omega
    have hat' : M.at_ i j := ⟨hi', by have := hat.2; rw [hold i hi'] at this; exact this⟩
    rw [hkdo i j hi'] at hk
    rw [hold i hi']
    exact t.main i j k hat' hin hk
  · have hk' : k < M.N.length := by omega
    obtain ⟨D, Q, b1, b2⟩ := t.wds k hk hnm
    refine ⟨D, Q, by rw [hold k hk']; exact b1, ?_⟩
    rw [hold k hk']
    intro h1 h2 j hj
    obtain ⟨x, e1, e2, e3, e4⟩ := b2 h1 h2 j hj
    exact ⟨x, e1, by omega, by rw [hold x e2]; exact e3, by rw [hold x e2]; exact e4⟩
end
end Go.Proofs.YgcfaaGreat
