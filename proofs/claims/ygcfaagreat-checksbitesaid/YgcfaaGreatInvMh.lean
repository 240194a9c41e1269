import Derived.Test.YgcfaaGreatInvM
namespace Go.Proofs.YgcfaaGreat
open Go.RowKit Bits Bd
set_option linter.unusedVariables false

namespace Bd
/-- A node that may be hung: it has no kid yet. -/
def NewN (nd : Nd) : Prop :=
  (∀ j, j < nd.kids.length → nd.kids.getD j 0 = -1) ∧
  (if nd.kind = 1 then nd.code = 0 ∧ nd.data.length ≤ 8 ∧ nd.kids.length ≤ 8
   else nd.kind = 2 ∧ nd.data.length ≤ 128 ∧ nd.kids.length ≤ 128 ∧
    (if 2 ≤ nd.code ∧ nd.code ≤ 5 then (∀ j, j < nd.data.length → nd.data.getD j 0 ≤ limC nd.code) ∧ nd.kids.length = 0
     else if nd.code = 7 then nd.kids.length = 0 ∧ nd.data.length = 0
     else nd.code = 6 ∧ nd.data.length = 0))
/-- M' is M, its node l perhaps with other kids, and one node and one handle more. -/
structure More (M M' : Mo) (nd : Nd) (x : Hd) : Prop where
  n : M'.N.length = M.N.length + 1
  nh : M'.H.length = M.H.length + 1
  new : M'.nd M.N.length = nd
  old : ∀ i, i < M.N.length → (M'.nd i).kind = (M.nd i).kind ∧ (M'.nd i).code = (M.nd i).code ∧ (M'.nd i).data = (M.nd i).data
  hnew : M'.hd M.H.length = x
  hold : ∀ i, i < M.H.length → M'.hd i = M.hd i
end Bd
section
variable {M : Mo}
theorem hd_app (x : Hd) (i : Nat) : ({ M with H := M.H ++ [x] } : Mo).hd i = if i = M.H.length then x else M.hd i := by
  show (M.H ++ [x]).getD i zHd = _
  by_cases h : i = M.H.length
  · subst h; rw [if_pos rfl, List.getD_eq_getElem?_getD, List.getElem?_append_right (Nat.le_refl _), Nat.sub_self]; rfl
  · rw [if_neg h]
    by_cases hl : i < M.H.length
    · rw [List.getD_eq_getElem?_getD, List.getElem?_append_left hl]; unfold Mo.hd; rw [List.getD_eq_getElem?_getD]
    · rw [List.getD_eq_getElem?_getD, List.getElem?_eq_none (by simp; omega)]; unfold Mo.hd; rw [List.getD_eq_getElem?_getD, List.getElem?_eq_none (by omega)]
theorem nd_app (l : List Nd) (nd : Nd) (i : Nat) : (l ++ [nd]).getD i zNd = if i = l.length then nd else l.getD i zNd := by
  by_cases h : i = l.length
  · subst h; rw [if_pos rfl, List.getD_eq_getElem?_getD, List.getElem?_append_right (Nat.le_refl _), Nat.sub_self]; rfl
  · rw [if_neg h]
    by_cases hl : i < l.length
    · rw [List.getD_eq_getElem?_getD, List.getElem?_append_left hl, List.getD_eq_getElem?_getD]
    · rw [List.getD_eq_getElem?_getD, List.getElem?_eq_none (by simp; omega), List.getD_eq_getElem?_getD, List.getElem?_eq_none (by omega)]
theorem setP_len (H I : Nat) (v : Int) : (M.setP H I v).N.length = M.N.length := by
  unfold Mo.setP; split
  · rfl
  · exact setK_len ..
theorem setP_nd {H I : Nat} (hp : M.plc H I) (v : Int) (i : Nat) : ((M.setP H I v).nd i).kind = (M.nd i).kind ∧ ((M.setP H I v).nd i).code = (M.nd i).code ∧ ((M.setP H I v).nd i).data = (M.nd i).data ∧ ((M.setP H I v).nd i).kids.length = (M.nd i).kids.length := by
  unfold Mo.setP
  by_cases h0 : H = 0
  · rw [if_pos h0]; exact ⟨rfl, rfl, rfl, rfl⟩
  · rw [if_neg h0]
    rcases hp with q | ⟨q1, q2, q3, q4⟩
    · omega
    · have hl : H - 1 < M.N.length := by omega
      refine ⟨?_, ?_, ?_, setK_kids hl I v i⟩
      all_goals
        unfold Mo.setK
        rw [nd_set hl]
        split
        · rename_i e; rw [e]
        · rfl
theorem setP_kd {H I : Nat} (hp : M.plc H I) (v : Int) (i j : Nat) : (M.setP H I v).kd i j = if H = i + 1 ∧ j = I then v else M.kd i j := by
  unfold Mo.setP
  by_cases h0 : H = 0
  · rw [if_pos h0, if_neg (by omega)]; rfl
  · rw [if_neg h0]
    rcases hp with q | ⟨q1, q2, q3, q4⟩
    · omega
    · rw [setK_kd (by omega) q4]
      by_cases h : i = H - 1 ∧ j = I
      · rw [if_pos h, if_pos ⟨by omega, h.2⟩]
      · rw [if_neg h, if_neg (fun e => h ⟨by omega, e.2⟩)]
theorem hang_more {H I : Nat} (hp : M.plc H I) (nd : Nd) (wd : Nat) : More M (M.hang H I nd wd) nd ⟨(M.N.length : Int), H, I, (M.hd H).depth + 1, false, true, wd⟩ := by
  have hl := setP_len (M := M) H I (M.N.length : Int)
  have e : ∀ i, (M.hang H I nd wd).nd i = if i = M.N.length then nd else (M.setP H I (M.N.length : Int)).nd i := fun i => by
    show ((M.setP H I (M.N.length : Int)).N ++ [nd]).getD i zNd = _
    rw [nd_app, hl]; rfl
  refine ⟨?_, ?_, ?_, fun i hi => ?_, ?_, fun i hi => ?_⟩
  · show ((M.setP H I (M.N.length : Int)).N ++ [nd]).length = _
    rw [List.length_append, hl]; rfl
  · show (M.H ++ _).length = _
    rw [List.length_append]; rfl
  · rw [e, if_pos rfl]
  · rw [e, if_neg (by omega)]
    have := setP_nd hp (M.N.length : Int) i
    exact ⟨this.1, this.2.1, this.2.2.1⟩
  · exact (hd_app _ _).trans (if_pos rfl)
  · exact (hd_app _ _).trans (if_neg (by omega))
theorem hang_kd {H I : Nat} (hp : M.plc H I) (nd : Nd) (wd : Nat) {i : Nat} (hi : i < M.N.length) (j : Nat) : (M.hang H I nd wd).kd i j = (if H = i + 1 ∧ j = I then (M.N.length : Int) else M.kd i j) ∧ ((M.hang H I nd wd).nd i).kids.length = (M.nd i).kids.length := by
  have e : (M.hang H I nd wd).nd i = (M.setP H I (M.N.length : Int)).nd i := by
    show ((M.setP H I (M.N.length : Int)).N ++ [nd]).getD i zNd = _
    rw [nd_app, setP_len, if_neg (by omega)]; rfl
  constructor
  · unfold Mo.kd
    rw [e]
    exact setP_kd hp _ i j
  · rw [e]; exact (setP_nd hp _ i).2.2.2
theorem sum_more {M' : Mo} {nd : Nd} {x : Hd} (v : InvM M) (m : More M M' nd x) (hs : 1 + sumW (fun k => (M.hd k).words) M.H.length + x.words ≤ 256) : 1 + sumW (fun k => (M'.hd k).words) M'.H.length ≤ 256 := by
  rw [m.nh]
  show 1 + (sumW (fun k => (M'.hd k).words) M.H.length + (M'.hd M.H.length).words) ≤ 256
  rw [sumW_congr M.H.length (f := fun k => (M'.hd k).words) (g := fun k => (M.hd k).words) (fun k hk => by rw [m.hold k hk]), m.hnew]
  omega
theorem inv_hang (v : InvM M) {H I wd : Nat} {nd : Nd} (hp : M.plc H I) (hv : M.pv H I = -1) (hdp : (M.hd H).depth < 8) (hn : M.H.length + 1 ≤ 256) (hs : 1 + sumW (fun k => (M.hd k).words) M.H.length + wd ≤ 256) (hnd : NewN nd) (htw : twB nd 0 0 ≤ wd) : InvM (M.hang H I nd wd) := by
  have m := hang_more hp nd wd
  have hk := fun {i : Nat} (hi : i < M.N.length) j => hang_kd hp nd wd hi j
  have hnh := v.nh
  have hHle : H ≤ M.N.length := by rcases hp with q | q <;> omega
  -- kids of the new state
  have hat : ∀ i j, (M.hang H I nd wd).at_ i j → (i < M.N.length ∧ M.at_ i j) ∨ i = M.N.length := fun i j h => by
    have h1 := h.1
    rw [m.n] at h1
    by_cases hi : i = M.N.length
    · exact .inr hi
    · have hi' : i < M.N.length := by omega
      exact .inl ⟨hi', hi', by rw [← (hk hi' j).2]; exact h.2⟩
  have hnewk : ∀ j k : Nat, (M.hang H I nd wd).at_ M.N.length j → ¬ (M.hang H I nd wd).kd M.N.length j = (k : Int) := fun j k h e => by
    have h2 := h.2
    unfold Mo.kd at e
    rw [m.new] at h2 e
    rw [hnd.1 j h2] at e
    omega
  have hold1 : ∀ i, i < M.N.length + 1 → (M.hang H I nd wd).hd i = M.hd i := fun i hi => m.hold i (by omega)
  have hnew1 : (M.hang H I nd wd).hd (M.N.length + 1) = ⟨(M.N.length : Int), H, I, (M.hd H).depth + 1, false, true, wd⟩ := by rw [← hnh]; exact m.hnew
  have hinl : ∀ i, i < M.N.length → inl ((M.hang H I nd wd).nd i) = inl (M.nd i) := fun i hi => by unfold inl; rw [(m.old i hi).1, (m.old i hi).2.1]
  have okd : ∀ i j, i < M.N.length → M.at_ i j → M.kd i j = -1 ∨ ((i : Int) < M.kd i j ∧ M.kd i j < (M.N.length : Int)) := fun i j hi hat => (v.shp i hi).1 j hat.2
  have hplc : ∀ i, H = i + 1 → inl (M.nd i) = false ∧ ¬ ((M.nd i).kind = 2 ∧ (M.nd i).code = 7) := fun i hi => by
    rcases hp with q | ⟨q1, q2, q3, q4⟩
    · omega
    · rw [show H - 1 = i by omega] at q3
      have : ¬ ((M.nd i).kind = 2 ∧ (M.nd i).code = 7) := fun e => q3 ⟨e.1, by omega⟩
      exact ⟨by unfold inl; simpa using this, this⟩
  refine ⟨by rw [m.nh, m.n, hnh], by rw [m.n]; omega, fun i hi => ?_, ?_, fun i hi => ?_, fun i hi => ?_, fun i hi => ?_, fun i j k h1 h2 => ?_, ?_, fun i j k h1 h2 => ?_, fun k hk' hnm => ?_, sum_more v m hs⟩
  · rw [m.n] at hi
    by_cases e : i = M.N.length
    · subst e; rw [hnew1]
    · rw [hold1 (i + 1) (by omega)]; exact v.node i (by omega)
  · rw [hold1 0 (by omega)]; exact v.d0
  · rw [m.n] at hi
    by_cases e : i = M.N.length
    · subst e; rw [hnew1]; exact hHle
    · rw [hold1 (i + 1) (by omega)]; exact v.up i (by omega)
  · rw [m.n] at hi
    by_cases e : i = M.N.length
    · subst e; rw [hnew1]; show (M.hd H).depth + 1 ≤ 8; omega
    · rw [hold1 (i + 1) (by omega)]; exact v.dep i (by omega)
  · rw [m.n] at hi
    by_cases e : i = M.N.length
    · subst e
      unfold shapedP
      rw [m.new]
      refine ⟨fun j hj => .inl (hnd.1 j hj), ?_⟩
      have h2 := hnd.2
      by_cases k1 : nd.kind = 1
      · rw [if_pos k1] at h2 ⊢; exact h2
      · rw [if_neg k1] at h2 ⊢
        refine ⟨h2.1, h2.2.1, h2.2.2.1, ?_⟩
        have h3 := h2.2.2.2
        by_cases c25 : 2 ≤ nd.code ∧ nd.code ≤ 5
        · rw [if_pos c25] at h3 ⊢; exact h3
        · rw [if_neg c25] at h3 ⊢
          by_cases c7 : nd.code = 7
          · rw [if_pos c7] at h3 ⊢
            exact ⟨fun j hj => by omega, h3.2⟩
          · rw [if_neg c7] at h3 ⊢; exact h3
    · have hi' : i < M.N.length := by omega
      obtain ⟨s1, s2⟩ := v.shp i hi'
      obtain ⟨e1, e2, e3⟩ := m.old i hi'
      have e4 := (hk hi' 0).2
      refine ⟨fun j hj => ?_, ?_⟩
      · rw [e4] at hj
        show (M.hang H I nd wd).kd i j = -1 ∨ ((i : Int) < (M.hang H I nd wd).kd i j ∧ (M.hang H I nd wd).kd i j < _)
        rw [(hk hi' j).1, m.n]
        split
        · right; omega
        · rcases okd i j hi' ⟨hi', hj⟩ with q | q
          · exact .inl q
          · right; omega
      · rw [e1, e2, e3, e4]
        by_cases k1 : (M.nd i).kind = 1
        · rw [if_pos k1] at s2 ⊢; exact s2
        · rw [if_neg k1] at s2 ⊢
          refine ⟨s2.1, s2.2.1, s2.2.2.1, ?_⟩
          have h3 := s2.2.2.2
          by_cases c25 : 2 ≤ (M.nd i).code ∧ (M.nd i).code ≤ 5
          · rw [if_pos c25] at h3 ⊢; exact h3
          · rw [if_neg c25] at h3 ⊢
            by_cases c7 : (M.nd i).code = 7
            · rw [if_pos c7] at h3 ⊢
              refine ⟨fun j hj => ?_, h3.2⟩
              obtain ⟨k, x1, x2⟩ := h3.1 j hj
              have hkn : k < M.N.length := by
                rcases okd i j hi' ⟨hi', hj⟩ with q | q
                · have q' : (M.nd i).kids.getD j 0 = -1 := q
                  omega
                · have q' : (M.nd i).kids.getD j 0 < (M.N.length : Int) := q.2
                  omega
              refine ⟨k, ?_, by rw [(m.old k hkn).1]; exact x2⟩
              show (M.hang H I nd wd).kd i j = (k : Int)
              rw [(hk hi' j).1, if_neg (fun q => (hplc i q.1).2 ⟨s2.1, c7⟩)]
              exact x1
            · rw [if_neg c7] at h3 ⊢; exact h3
  · rcases hat i j h1 with ⟨hi', ha⟩ | rfl
    · rw [(hk hi' j).1] at h2
      by_cases q : H = i + 1 ∧ j = I
      · rw [if_pos q] at h2
        have : k = M.N.length := by omega
        subst this
        rw [hnew1]
        exact ⟨q.1, q.2.symm⟩
      · rw [if_neg q] at h2
        have hkn : k < M.N.length := by rcases okd i j hi' ha with z | z <;> omega
        rw [hold1 (k + 1) (by omega)]
        exact v.kid i j k ha h2
    · exact absurd h2 (hnewk j k h1)
  · by_cases h0 : H = 0
    · right
      refine ⟨M.N.length, ?_, by rw [m.n]; omega, ?_⟩
      · show (M.setP H I (M.N.length : Int)).root = _
        unfold Mo.setP
        rw [if_pos h0]
      · rw [hnew1]
        have hI : I = 0 := by rcases hp with q | q <;> omega
        refine ⟨h0, hI, ?_, rfl⟩
        show (M.hd H).depth + 1 = 1
        rw [h0, v.d0]
    · have hr : (M.hang H I nd wd).root = M.root := by
        show (M.setP H I (M.N.length : Int)).root = _
        unfold Mo.setP
        rw [if_neg h0]; rfl
      rw [hr]
      rcases v.rt with h | ⟨r, x1, x2, x3, x4, x5, x6⟩
      · exact .inl h
      · exact .inr ⟨r, x1, by rw [m.n]; omega, by rw [hold1 (r + 1) (by omega)]; exact ⟨x3, x4, x5, x6⟩⟩
  · rcases hat i j h1 with ⟨hi', ha⟩ | rfl
    · rw [(hk hi' j).1] at h2
      by_cases q : H = i + 1 ∧ j = I
      · rw [if_pos q] at h2
        have : k = M.N.length := by omega
        subst this
        rw [hnew1, hold1 (i + 1) (by omega)]
        unfold bel
        rw [hinl i hi', (hplc i q.1).1, ← q.1]
        exact ⟨rfl, rfl⟩
      · rw [if_neg q] at h2
        have hkn : k < M.N.length := by rcases okd i j hi' ha with z | z <;> omega
        rw [hold1 (k + 1) (by omega), hold1 (i + 1) (by omega)]
        unfold bel
        rw [hinl i hi']
        exact v.main i j k ha h2
    · exact absurd h2 (hnewk j k h1)
  · rw [m.n] at hk'
    by_cases e : k = M.N.length
    · subst e
      rw [hnew1, m.new]
      refine ⟨0, 0, htw, fun h1 h2 j hj => ?_⟩
      have h3 := hnd.2
      rw [if_neg h1] at h3
      have h4 := h3.2.2.2
      rw [if_neg (by omega), if_pos h2] at h4
      omega
    · have hk2 : k < M.N.length := by omega
      rw [hold1 (k + 1) (by omega)] at hnm ⊢
      obtain ⟨D, Q, b1, b2⟩ := v.wds k hk2 hnm
      obtain ⟨e1, e2, e3⟩ := m.old k hk2
      have e4 := (hk hk2 0).2
      refine ⟨D, Q, by unfold twB at b1 ⊢; rw [e1, e2, e3, e4]; exact b1, fun h1 h2 j hj => ?_⟩
      rw [e1] at h1
      rw [e2] at h2
      rw [e4] at hj
      obtain ⟨x, x1, x2, x3, x4⟩ := b2 h1 h2 j hj
      have hk2' : (M.nd k).kind = 2 := by
        have := (v.shp k hk2).2
        rw [if_neg h1] at this
        exact this.1
      refine ⟨x, ?_, by rw [m.n]; omega, by rw [(m.old x x2).2.2]; exact x3, by rw [(hk x2 0).2]; exact x4⟩
      show (M.hang H I nd wd).kd k j = (x : Int)
      rw [(hk hk2 j).1, if_neg (fun q => (hplc k q.1).2 ⟨hk2', h2⟩)]
      exact x1
end
end Go.Proofs.YgcfaaGreat
