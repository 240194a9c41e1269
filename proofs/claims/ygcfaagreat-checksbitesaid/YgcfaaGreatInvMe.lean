import Derived.Test.YgcfaaGreatInvMh
namespace Go.Proofs.YgcfaaGreat
open Go.RowKit Bits Bd
set_option linter.unusedVariables false

section
variable {M : Mo}
theorem elem_nd {l : Nat} (hl : l < M.N.length) (d q i : Nat) : (M.elem l d q).nd i = if i = M.N.length then stN d q else if i = l then { M.nd l with kids := (M.nd l).kids ++ [(M.N.length : Int)] } else M.nd i := by
  show ((M.N.set l { M.nd l with kids := (M.nd l).kids ++ [(M.N.length : Int)] }) ++ [stN d q]).getD i zNd = _
  rw [nd_app, List.length_set]
  by_cases h : i = M.N.length
  · rw [if_pos h, if_pos h]
  · rw [if_neg h, if_neg h]
    exact nd_set hl _ i
theorem elem_more {l : Nat} (hl : l < M.N.length) (d q : Nat) : More M (M.elem l d q) (stN d q) ⟨(M.N.length : Int), l + 1, (M.nd l).kids.length, (M.hd (l + 1)).depth, false, false, 0⟩ := by
  refine ⟨?_, ?_, ?_, fun i hi => ?_, ?_, fun i hi => ?_⟩
  · show ((M.N.set l _) ++ [stN d q]).length = _
    rw [List.length_append, List.length_set]; rfl
  · show (M.H ++ _).length = _
    rw [List.length_append]; rfl
  · rw [elem_nd hl, if_pos rfl]
  · rw [elem_nd hl, if_neg (by omega)]
    split
    · rename_i e; rw [e]; exact ⟨rfl, rfl, rfl⟩
    · exact ⟨rfl, rfl, rfl⟩
  · exact (hd_app _ _).trans (if_pos rfl)
  · exact (hd_app _ _).trans (if_neg (by omega))
theorem elem_kl {l : Nat} (hl : l < M.N.length) (d q : Nat) {i : Nat} (hi : i < M.N.length) : ((M.elem l d q).nd i).kids.length = (M.nd i).kids.length + if i = l then 1 else 0 := by
  rw [elem_nd hl, if_neg (by omega)]
  by_cases e : i = l
  · rw [if_pos e, if_pos e, e, List.length_append]; rfl
  · rw [if_neg e, if_neg e]; rfl
theorem elem_kd {l : Nat} (hl : l < M.N.length) (d q : Nat) {i : Nat} (hi : i < M.N.length) (j : Nat) (hj : j < ((M.elem l d q).nd i).kids.length) : (M.elem l d q).kd i j = if i = l ∧ j = (M.nd l).kids.length then (M.N.length : Int) else M.kd i j := by
  rw [elem_kl hl d q hi] at hj
  unfold Mo.kd
  rw [elem_nd hl, if_neg (by omega)]
  by_cases e : i = l
  · subst e
    rw [if_pos rfl] at hj ⊢
    show ((M.nd i).kids ++ [(M.N.length : Int)]).getD j 0 = _
    by_cases hj2 : j = (M.nd i).kids.length
    · rw [if_pos ⟨rfl, hj2⟩, hj2, List.getD_eq_getElem?_getD, List.getElem?_append_right (Nat.le_refl _), Nat.sub_self]; rfl
    · rw [if_neg (fun q => hj2 q.2), List.getD_eq_getElem?_getD, List.getElem?_append_left (by omega), List.getD_eq_getElem?_getD]
  · rw [if_neg e, if_neg (fun q => e q.1)]
theorem stN_kid (d q j : Nat) (hj : j < (stN d q).kids.length) : (stN d q).kids.getD j 0 = -1 := by
  show (List.replicate q (-1 : Int)).getD j 0 = -1
  have hj' : j < (List.replicate q (-1 : Int)).length := hj
  rw [List.length_replicate] at hj'
  rw [List.getD_eq_getElem?_getD, List.getElem?_replicate, if_pos hj']; rfl
/-- One element more of the code 7 list at node l. -/
theorem invM_elem (v : InvM M) {l d q cnt : Nat} (hl : l < M.N.length) (hk2 : (M.nd l).kind = 2) (hc7 : (M.nd l).code = 7) (hnmd : (M.hd (l + 1)).named = true) (hcnt : (M.nd l).kids.length < cnt) (hc128 : cnt ≤ 128) (hw : 1 + cnt * (d + q) ≤ (M.hd (l + 1)).words) (hdq : 1 ≤ d + q) (hd8 : d ≤ 8) (hq8 : q ≤ 8)
    (hE : ∀ j, j < (M.nd l).kids.length → ∃ x : Nat, (M.nd l).kids.getD j 0 = (x : Int) ∧ x < M.N.length ∧ (M.nd x).data.length ≤ d ∧ (M.nd x).kids.length ≤ q) (hn : M.H.length + 1 ≤ 256) : InvM (M.elem l d q) := by
  have m := elem_more hl d q
  have hnh := v.nh
  have hkl := fun {i : Nat} (hi : i < M.N.length) => elem_kl hl d q hi
  have hkd := fun {i : Nat} (hi : i < M.N.length) (j : Nat) hj => elem_kd hl d q hi j hj
  have hold1 : ∀ i, i < M.N.length + 1 → (M.elem l d q).hd i = M.hd i := fun i hi => m.hold i (by omega)
  have hnew1 : (M.elem l d q).hd (M.N.length + 1) = ⟨(M.N.length : Int), l + 1, (M.nd l).kids.length, (M.hd (l + 1)).depth, false, false, 0⟩ := by rw [← hnh]; exact m.hnew
  have hinl : ∀ i, i < M.N.length → inl ((M.elem l d q).nd i) = inl (M.nd i) := fun i hi => by unfold inl; rw [(m.old i hi).1, (m.old i hi).2.1]
  have hinll : inl (M.nd l) = true := by unfold inl; rw [hk2, hc7]; rfl
  have okd : ∀ i j, i < M.N.length → j < (M.nd i).kids.length → M.kd i j = -1 ∨ ((i : Int) < M.kd i j ∧ M.kd i j < (M.N.length : Int)) := fun i j hi hj => (v.shp i hi).1 j hj
  have hlk : (M.nd l).kids.length ≤ 128 := by omega
  have hcase : ∀ i j, i < M.N.length → j < ((M.elem l d q).nd i).kids.length → (i = l ∧ j = (M.nd l).kids.length) ∨ (j < (M.nd i).kids.length ∧ ¬ (i = l ∧ j = (M.nd l).kids.length)) := fun i j hi hj => by
    rw [hkl hi] at hj
    by_cases e : i = l
    · subst e; rw [if_pos rfl] at hj
      by_cases hj2 : j = (M.nd i).kids.length
      · exact .inl ⟨rfl, hj2⟩
      · exact .inr ⟨by omega, fun q => hj2 q.2⟩
    · rw [if_neg e] at hj
      exact .inr ⟨by omega, fun q => e q.1⟩
  have hnewk : ∀ j k : Nat, (M.elem l d q).at_ M.N.length j → ¬ (M.elem l d q).kd M.N.length j = (k : Int) := fun j k h e => by
    have h2 := h.2
    unfold Mo.kd at e
    rw [m.new] at h2 e
    rw [stN_kid d q j h2] at e
    omega
  refine ⟨by rw [m.nh, m.n, hnh], by rw [m.n]; omega, fun i hi => ?_, ?_, fun i hi => ?_, fun i hi => ?_, fun i hi => ?_, fun i j k h1 h2 => ?_, ?_, fun i j k h1 h2 => ?_, fun k hk' hnm => ?_, sum_more v m (by have := v.sum; exact this)⟩
  · rw [m.n] at hi
    by_cases e : i = M.N.length
    · subst e; rw [hnew1]
    · rw [hold1 (i + 1) (by omega)]; exact v.node i (by omega)
  · rw [hold1 0 (by omega)]; exact v.d0
  · rw [m.n] at hi
    by_cases e : i = M.N.length
    · subst e; rw [hnew1]; show l + 1 ≤ _; omega
    · rw [hold1 (i + 1) (by omega)]; exact v.up i (by omega)
  · rw [m.n] at hi
    by_cases e : i = M.N.length
    · subst e; rw [hnew1]; exact v.dep l hl
    · rw [hold1 (i + 1) (by omega)]; exact v.dep i (by omega)
  · rw [m.n] at hi
    by_cases e : i = M.N.length
    · subst e
      unfold shapedP
      rw [m.new]
      refine ⟨fun j hj => .inl (stN_kid d q j hj), ?_⟩
      rw [if_pos (show (stN d q).kind = 1 from rfl)]
      refine ⟨rfl, ?_, ?_⟩
      · show (List.replicate d 0).length ≤ 8; rw [List.length_replicate]; exact hd8
      · show (List.replicate q (-1 : Int)).length ≤ 8; rw [List.length_replicate]; exact hq8
    · have hi' : i < M.N.length := by omega
      obtain ⟨s1, s2⟩ := v.shp i hi'
      obtain ⟨e1, e2, e3⟩ := m.old i hi'
      refine ⟨fun j hj => ?_, ?_⟩
      · show (M.elem l d q).kd i j = -1 ∨ ((i : Int) < (M.elem l d q).kd i j ∧ (M.elem l d q).kd i j < _)
        rw [hkd hi' j hj, m.n]
        rcases hcase i j hi' hj with z | z
        · rw [if_pos z]; right; omega
        · rw [if_neg z.2]
          rcases okd i j hi' z.1 with q | q
          · exact .inl q
          · right; omega
      · rw [e1, e2, e3]
        by_cases k1 : (M.nd i).kind = 1
        · have hne : ¬ i = l := fun e => by rw [e, hk2] at k1; omega
          have e4 := hkl hi'
          rw [if_neg hne, Nat.add_zero] at e4
          rw [if_pos k1] at s2 ⊢; rw [e4]; exact s2
        · rw [if_neg k1] at s2 ⊢
          by_cases hil : i = l
          · subst hil
            have e4 := hkl hi'
            rw [if_pos rfl] at e4
            refine ⟨hk2, s2.2.1, by rw [e4]; omega, ?_⟩
            have h3 := s2.2.2.2
            rw [if_neg (by omega), if_pos hc7] at h3 ⊢
            refine ⟨fun j hj => ?_, h3.2⟩
            rcases hcase i j hi' hj with z | z
            · refine ⟨M.N.length, ?_, by rw [m.new]; rfl⟩
              show (M.elem i d q).kd i j = _
              rw [hkd hi' j hj, if_pos z]
            · obtain ⟨k, x1, x2⟩ := h3.1 j z.1
              have hkn : k < M.N.length := by
                rcases okd i j hi' z.1 with q | q
                · have q' : (M.nd i).kids.getD j 0 = -1 := q
                  omega
                · have q' : (M.nd i).kids.getD j 0 < (M.N.length : Int) := q.2
                  omega
              refine ⟨k, ?_, by rw [(m.old k hkn).1]; exact x2⟩
              show (M.elem i d q).kd i j = _
              rw [hkd hi' j hj, if_neg z.2]; exact x1
          · have e4 := hkl hi'
            rw [if_neg hil, Nat.add_zero] at e4
            refine ⟨s2.1, s2.2.1, by rw [e4]; exact s2.2.2.1, ?_⟩
            have h3 := s2.2.2.2
            by_cases c25 : 2 ≤ (M.nd i).code ∧ (M.nd i).code ≤ 5
            · rw [if_pos c25] at h3 ⊢; rw [e4]; exact h3
            · rw [if_neg c25] at h3 ⊢
              by_cases c7 : (M.nd i).code = 7
              · rw [if_pos c7] at h3 ⊢
                refine ⟨fun j hj => ?_, h3.2⟩
                have hj0 := hj
                rw [e4] at hj
                obtain ⟨k, x1, x2⟩ := h3.1 j hj
                have hkn : k < M.N.length := by
                  rcases okd i j hi' hj with q | q
                  · have q' : (M.nd i).kids.getD j 0 = -1 := q
                    omega
                  · have q' : (M.nd i).kids.getD j 0 < (M.N.length : Int) := q.2
                    omega
                refine ⟨k, ?_, by rw [(m.old k hkn).1]; exact x2⟩
                show (M.elem l d q).kd i j = _
                rw [hkd hi' j hj0, if_neg (fun z => hil z.1)]; exact x1
              · rw [if_neg c7] at h3 ⊢; exact h3
  · have hi1 := h1.1
    rw [m.n] at hi1
    by_cases e : i = M.N.length
    · subst e; exact absurd h2 (hnewk j k h1)
    · have hi' : i < M.N.length := by omega
      rw [hkd hi' j h1.2] at h2
      rcases hcase i j hi' h1.2 with z | z
      · rw [if_pos z] at h2
        have : k = M.N.length := by omega
        subst this
        rw [hnew1]
        exact ⟨by show l + 1 = i + 1; omega, z.2.symm⟩
      · rw [if_neg z.2] at h2
        have hkn : k < M.N.length := by rcases okd i j hi' z.1 with q | q <;> omega
        rw [hold1 (k + 1) (by omega)]
        exact v.kid i j k ⟨hi', z.1⟩ h2
  · show M.root = -1 ∨ _
    rcases v.rt with h | ⟨r, x1, x2, x3, x4, x5, x6⟩
    · exact .inl h
    · exact .inr ⟨r, x1, by rw [m.n]; omega, by rw [hold1 (r + 1) (by omega)]; exact ⟨x3, x4, x5, x6⟩⟩
  · have hi1 := h1.1
    rw [m.n] at hi1
    by_cases e : i = M.N.length
    · subst e; exact absurd h2 (hnewk j k h1)
    · have hi' : i < M.N.length := by omega
      rw [hkd hi' j h1.2] at h2
      unfold bel
      rw [hinl i hi', hold1 (i + 1) (by omega)]
      rcases hcase i j hi' h1.2 with z | z
      · rw [if_pos z] at h2
        have : k = M.N.length := by omega
        subst this
        rw [hnew1, z.1, hinll]
        exact ⟨rfl, rfl⟩
      · rw [if_neg z.2] at h2
        have hkn : k < M.N.length := by rcases okd i j hi' z.1 with q | q <;> omega
        rw [hold1 (k + 1) (by omega)]
        exact v.main i j k ⟨hi', z.1⟩ h2
  · rw [m.n] at hk'
    by_cases e : k = M.N.length
    · subst e
      rw [hnew1] at hnm
      cases hnm
    · have hk2' : k < M.N.length := by omega
      rw [hold1 (k + 1) (by omega)] at hnm ⊢
      obtain ⟨e1, e2, e3⟩ := m.old k hk2'
      by_cases hil : k = l
      · subst hil
        have e4 := hkl hk2'
        rw [if_pos rfl] at e4
        refine ⟨d, q, ?_, fun h1 h2 j hj => ?_⟩
        · unfold twB
          rw [e1, e2, e4, hk2, hc7, if_neg (by omega), if_neg (by omega), if_pos rfl, Nat.max_eq_left hdq]
          have : ((M.nd k).kids.length + 1) * (d + q) ≤ cnt * (d + q) := Nat.mul_le_mul_right _ (by omega)
          omega
        · rcases hcase k j hk2' hj with z | z
          · refine ⟨M.N.length, ?_, by rw [m.n]; omega, ?_, ?_⟩
            · show (M.elem k d q).kd k j = _
              rw [hkd hk2' j hj, if_pos z]
            · rw [m.new]; show (List.replicate d 0).length ≤ d; rw [List.length_replicate]; exact Nat.le_refl _
            · rw [m.new]; show (List.replicate q (-1 : Int)).length ≤ q; rw [List.length_replicate]; exact Nat.le_refl _
          · obtain ⟨x, x1, x2, x3, x4⟩ := hE j z.1
            have hxk : ¬ x = k := fun e => by
              rcases okd k j hk2' z.1 with q | q
              · have q' : (M.nd k).kids.getD j 0 = -1 := q
                omega
              · have q' : (k : Int) < (M.nd k).kids.getD j 0 := q.1
                omega
            have e5 := hkl x2
            rw [if_neg hxk, Nat.add_zero] at e5
            refine ⟨x, ?_, by rw [m.n]; omega, by rw [(m.old x x2).2.2]; exact x3, by rw [e5]; exact x4⟩
            show (M.elem k d q).kd k j = _
            rw [hkd hk2' j hj, if_neg z.2]; exact x1
      · have e4 := hkl hk2'
        rw [if_neg hil, Nat.add_zero] at e4
        obtain ⟨D, Q, b1, b2⟩ := v.wds k hk2' hnm
        refine ⟨D, Q, by unfold twB at b1 ⊢; rw [e1, e2, e3, e4]; exact b1, fun h1 h2 j hj => ?_⟩
        rw [e1] at h1
        rw [e2] at h2
        have hj0 := hj
        rw [e4] at hj
        obtain ⟨x, x1, x2, x3, x4⟩ := b2 h1 h2 j hj
        have hxl : ¬ x = l := fun e => by
          have h4 := (v.shp k hk2').2
          rw [if_neg h1] at h4
          have h5 := h4.2.2.2
          rw [if_neg (by omega), if_pos h2] at h5
          obtain ⟨y, y1, y2⟩ := h5.1 j hj
          have : y = x := by omega
          rw [this, e, hk2] at y2
          omega
        have e5 := hkl x2
        rw [if_neg hxl, Nat.add_zero] at e5
        refine ⟨x, ?_, by rw [m.n]; omega, by rw [(m.old x x2).2.2]; exact x3, by rw [e5]; exact x4⟩
        show (M.elem l d q).kd k j = _
        rw [hkd hk2' j hj0, if_neg (fun z => hil z.1)]; exact x1
end
end Go.Proofs.YgcfaaGreat
