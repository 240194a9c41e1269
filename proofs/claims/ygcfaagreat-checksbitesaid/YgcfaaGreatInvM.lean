import Derived.Test.YgcfaaGreatCopW
namespace Go.Proofs.YgcfaaGreat
open Go.RowKit Bits Bd
set_option linter.unusedVariables false

namespace Bd
/-- What every model that is played holds. -/
structure InvM (M : Mo) : Prop where
  nh : M.H.length = M.N.length + 1
  n2 : M.N.length ≤ 255
  node : ∀ i, i < M.N.length → (M.hd (i + 1)).node = (i : Int)
  d0 : (M.hd 0).depth = 0
  up : ∀ i, i < M.N.length → (M.hd (i + 1)).up ≤ i
  dep : ∀ i, i < M.N.length → (M.hd (i + 1)).depth ≤ 8
  shp : ∀ i, i < M.N.length → shapedP M i
  kid : ∀ i j k : Nat, M.at_ i j → M.kd i j = (k : Int) → (M.hd (k + 1)).up = i + 1 ∧ (M.hd (k + 1)).via = j
  rt : M.root = -1 ∨ ∃ r : Nat, M.root = (r : Int) ∧ r < M.N.length ∧ (M.hd (r + 1)).up = 0 ∧ (M.hd (r + 1)).via = 0 ∧ (M.hd (r + 1)).depth = 1 ∧ (M.hd (r + 1)).named = true
  main : ∀ i j k : Nat, M.at_ i j → M.kd i j = (k : Int) → (M.hd (k + 1)).depth = bel (M.nd i) (M.hd (i + 1)).depth ∧ (M.hd (k + 1)).named = !inl (M.nd i)
  wds : ∀ k, k < M.N.length → (M.hd (k + 1)).named = true → ∃ D Q, twB (M.nd k) D Q ≤ (M.hd (k + 1)).words ∧ (¬ (M.nd k).kind = 1 → (M.nd k).code = 7 → ∀ j, j < (M.nd k).kids.length → ∃ x : Nat, (M.nd k).kids.getD j 0 = (x : Int) ∧ x < M.N.length ∧ (M.nd x).data.length ≤ D ∧ (M.nd x).kids.length ≤ Q)
  sum : 1 + sumW (fun k => (M.hd k).words) M.H.length ≤ 256
def Mo.pv (M : Mo) (H I : Nat) : Int := if H = 0 then M.root else M.kd (H - 1) I
def Mo.setP (M : Mo) (H I : Nat) (v : Int) : Mo := if H = 0 then { M with root := v } else M.setK (H - 1) I v
/-- Pointer I of handle H is a place. -/
def Mo.plc (M : Mo) (H I : Nat) : Prop := (H = 0 ∧ I = 0) ∨ (1 ≤ H ∧ H ≤ M.N.length ∧ ¬ ((M.nd (H - 1)).kind = 2 ∧ ¬ (M.nd (H - 1)).code = 6) ∧ I < (M.nd (H - 1)).kids.length)
def Mo.hang (M : Mo) (H I : Nat) (nd : Nd) (wd : Nat) : Mo :=
  { N := (M.setP H I (M.N.length : Int)).N ++ [nd], root := (M.setP H I (M.N.length : Int)).root, H := M.H ++ [⟨(M.N.length : Int), H, I, (M.hd H).depth + 1, false, true, wd⟩] }
def stN (d q : Nat) : Nd := ⟨1, 0, List.replicate d 0, List.replicate q (-1)⟩
def Mo.elem (M : Mo) (l d q : Nat) : Mo :=
  { N := (M.N.set l { M.nd l with kids := (M.nd l).kids ++ [(M.N.length : Int)] }) ++ [stN d q], root := M.root, H := M.H ++ [⟨(M.N.length : Int), l + 1, (M.nd l).kids.length, (M.hd (l + 1)).depth, false, false, 0⟩] }
end Bd
theorem sumW_shift (f : Nat → Nat) : ∀ n, sumW f (n + 1) = f 0 + sumW (fun k => f (k + 1)) n
  | 0 => by show 0 + f 0 = f 0 + 0; omega
  | n + 1 => by
    show sumW f (n + 1) + f (n + 1) = f 0 + (sumW (fun k => f (k + 1)) n + f (n + 1))
    rw [sumW_shift f n]; omega
theorem sumW_congr {f g : Nat → Nat} : ∀ n, (∀ k, k < n → f k = g k) → sumW f n = sumW g n
  | 0, _ => rfl
  | n + 1, h => by
    show sumW f n + f n = sumW g n + g n
    rw [sumW_congr n (fun k hk => h k (by omega)), h n (by omega)]
section
variable {M M' : Mo}
theorem invM_T (v : InvM M) : InvT ⟨M.N, M.root, []⟩ M.N.length (fun k => ((M.hd (k + 1)).up, (M.hd (k + 1)).via)) (fun k => (M.hd (k + 1)).depth) (fun k => (M.hd (k + 1)).words) (fun k => (M.hd (k + 1)).named) := by
  have hn2 := v.n2
  have hk : ∀ i j k : Nat, M.at_ i j → M.kd i j = (k : Int) → k < M.N.length := fun i j k hat hk => by
    rcases (v.shp i hat.1).1 j hat.2 with z | z
    · have hz : M.kd i j = -1 := z; omega
    · have hz : M.kd i j < (M.N.length : Int) := z.2; omega
  refine ⟨⟨by show M.N.length ≤ 512; omega, Nat.le_refl _⟩, v.shp, fun i j k hat hkd => ?_, ?_, fun i j k hat _ hkd => ?_, v.wds, ?_⟩
  · have := v.kid i j k hat hkd
    show ((M.hd (k + 1)).up, (M.hd (k + 1)).via) = _
    rw [this.1, this.2]
  · rcases v.rt with h | ⟨r, h1, h2, h3, h4, h5, h6⟩
    · exact .inl h
    · exact .inr ⟨r, h1, h2, by show ((M.hd (r + 1)).up, (M.hd (r + 1)).via) = _; rw [h3, h4], h5, h6⟩
  · have h1 := v.main i j k hat hkd
    have h2 := hk i j k hat hkd
    exact ⟨h2, h1.1, v.dep k h2, h1.2⟩
  · have := v.sum
    rw [v.nh, sumW_shift] at this
    omega
/-- The same model but for data, and for kids that are none now. -/
structure Like (M M' : Mo) : Prop where
  n : M'.N.length = M.N.length
  nh : M'.H.length = M.H.length
  nd : ∀ i, (M'.nd i).kind = (M.nd i).kind ∧ (M'.nd i).code = (M.nd i).code ∧ (M'.nd i).data.length = (M.nd i).data.length ∧ (M'.nd i).kids.length = (M.nd i).kids.length
  lim : ∀ i, i < M.N.length → (M.nd i).kind = 2 → 2 ≤ (M.nd i).code → (M.nd i).code ≤ 5 → ∀ j, j < (M.nd i).data.length → (M'.nd i).data.getD j 0 ≤ limC (M.nd i).code
  kd : ∀ i j, M.at_ i j → M'.kd i j = M.kd i j ∨ (M'.kd i j = -1 ∧ ¬ ((M.nd i).kind = 2 ∧ ¬ (M.nd i).code = 6))
  root : M'.root = M.root ∨ M'.root = -1
  hd : ∀ i, (M'.hd i).node = (M.hd i).node ∧ (M'.hd i).up = (M.hd i).up ∧ (M'.hd i).via = (M.hd i).via ∧ (M'.hd i).depth = (M.hd i).depth ∧ (M'.hd i).named = (M.hd i).named ∧ (M'.hd i).words = (M.hd i).words
theorem inv_like (v : InvM M) (L : Like M M') : InvM M' := by
  have hat : ∀ i j, M'.at_ i j → M.at_ i j := fun i j h => ⟨by rw [← L.n]; exact h.1, by rw [← (L.nd i).2.2.2]; exact h.2⟩
  have hkd : ∀ i j k : Nat, M'.at_ i j → M'.kd i j = (k : Int) → M.kd i j = (k : Int) := fun i j k h1 h2 => by
    rcases L.kd i j (hat i j h1) with q | q
    · rw [← q]; exact h2
    · rw [q.1] at h2; omega
  have hinl : ∀ i, inl (M'.nd i) = inl (M.nd i) := fun i => by unfold inl; rw [(L.nd i).1, (L.nd i).2.1]
  refine ⟨by rw [L.nh, L.n]; exact v.nh, by rw [L.n]; exact v.n2, fun i hi => ?_, ?_, fun i hi => ?_, fun i hi => ?_, fun i hi => ?_, fun i j k h1 h2 => ?_, ?_, fun i j k h1 h2 => ?_, fun k hk hn => ?_, ?_⟩
  · rw [(L.hd (i + 1)).1]; exact v.node i (by rw [← L.n]; exact hi)
  · rw [(L.hd 0).2.2.2.1]; exact v.d0
  · rw [(L.hd (i + 1)).2.1]; exact v.up i (by rw [← L.n]; exact hi)
  · rw [(L.hd (i + 1)).2.2.2.1]; exact v.dep i (by rw [← L.n]; exact hi)
  · rw [L.n] at hi
    obtain ⟨s1, s2⟩ := v.shp i hi
    obtain ⟨e1, e2, e3, e4⟩ := L.nd i
    have kcase : ∀ j, j < (M.nd i).kids.length → (M'.nd i).kids.getD j 0 = (M.nd i).kids.getD j 0 ∨ ((M'.nd i).kids.getD j 0 = -1 ∧ ¬ ((M.nd i).kind = 2 ∧ ¬ (M.nd i).code = 6)) := fun j hj => L.kd i j ⟨hi, hj⟩
    refine ⟨fun j hj => ?_, ?_⟩
    · rw [e4] at hj
      rw [L.n]
      rcases kcase j hj with q | q
      · rw [q]; exact s1 j hj
      · exact .inl q.1
    · rw [e1]
      by_cases k1 : (M.nd i).kind = 1
      · rw [if_pos k1] at s2 ⊢; rw [e2, e3, e4]; exact s2
      · rw [if_neg k1] at s2 ⊢
        rw [e2, e3, e4]
        obtain ⟨u1, u2, u3, u4⟩ := s2
        refine ⟨u1, u2, u3, ?_⟩
        by_cases c25 : 2 ≤ (M.nd i).code ∧ (M.nd i).code ≤ 5
        · rw [if_pos c25] at u4 ⊢
          exact ⟨L.lim i hi u1 c25.1 c25.2, u4.2⟩
        · rw [if_neg c25] at u4 ⊢
          by_cases c7 : (M.nd i).code = 7
          · rw [if_pos c7] at u4 ⊢
            refine ⟨fun j hj => ?_, u4.2⟩
            rcases kcase j hj with q | q
            · rw [q]
              obtain ⟨k, h1, h2⟩ := u4.1 j hj
              exact ⟨k, h1, by rw [(L.nd k).1]; exact h2⟩
            · exact absurd ⟨u1, by omega⟩ q.2
          · rw [if_neg c7] at u4 ⊢; exact u4
  · have := v.kid i j k (hat i j h1) (hkd i j k h1 h2)
    rw [(L.hd (k + 1)).2.1, (L.hd (k + 1)).2.2.1]; exact this
  · rcases L.root with q | q
    · rw [q, L.n]
      rcases v.rt with h | ⟨r, h1, h2, h3, h4, h5, h6⟩
      · exact .inl h
      · obtain ⟨a1, a2, a3, a4, a5, a6⟩ := L.hd (r + 1)
        exact .inr ⟨r, h1, h2, by rw [a2]; exact h3, by rw [a3]; exact h4, by rw [a4]; exact h5, by rw [a5]; exact h6⟩
    · exact .inl q
  · have := v.main i j k (hat i j h1) (hkd i j k h1 h2)
    rw [(L.hd (k + 1)).2.2.2.1, (L.hd (k + 1)).2.2.2.2.1, (L.hd (i + 1)).2.2.2.1, hinl]
    refine ⟨?_, this.2⟩
    rw [this.1]; unfold bel; rw [hinl]
  · rw [L.n] at hk
    rw [(L.hd (k + 1)).2.2.2.2.1] at hn
    obtain ⟨D, Q, b1, b2⟩ := v.wds k hk hn
    obtain ⟨e1, e2, e3, e4⟩ := L.nd k
    refine ⟨D, Q, ?_, fun h1 h2 j hj => ?_⟩
    · rw [(L.hd (k + 1)).2.2.2.2.2]
      unfold twB at b1 ⊢
      rw [e1, e2, e3, e4]; exact b1
    · rw [e1] at h1
      rw [e2] at h2
      rw [e4] at hj
      obtain ⟨x, x1, x2, x3, x4⟩ := b2 h1 h2 j hj
      have hk2 : (M.nd k).kind = 2 := by
        have := (v.shp k hk).2
        rw [if_neg h1] at this
        exact this.1
      rcases L.kd k j ⟨hk, hj⟩ with q | q
      · have q' : (M'.nd k).kids.getD j 0 = (M.nd k).kids.getD j 0 := q
        exact ⟨x, by rw [q']; exact x1, by rw [L.n]; exact x2, by rw [(L.nd x).2.2.1]; exact x3, by rw [(L.nd x).2.2.2]; exact x4⟩
      · exact absurd ⟨hk2, by omega⟩ q.2
  · rw [L.nh, sumW_congr M.H.length (f := fun k => (M'.hd k).words) (g := fun k => (M.hd k).words) (fun k _ => (L.hd k).2.2.2.2.2)]
    exact v.sum
end
end Go.Proofs.YgcfaaGreat
