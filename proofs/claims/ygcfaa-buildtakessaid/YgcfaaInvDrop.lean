import Derived.Test.YgcfaaInvStructs
namespace Go.Proofs.Ygcfaa
open Go.RowKit Bits Bd Utf
set_option linter.unusedVariables false

theorem getD_setB (l : List Bool) (h j : Nat) (hh : h < l.length) : (l.set h true).getD j false = if j = h then true else l.getD j false := by
  rw [List.getD_eq_getElem?_getD, List.getElem?_set]
  by_cases e : h = j
  · subst e; simp [hh]
  · rw [if_neg e, if_neg (Ne.symm e), List.getD_eq_getElem?_getD]
theorem clearGo_get : ∀ (k i : Nat) (l : List Nat) (j : Nat), (j < i ∨ i + k ≤ j) → (clearGo k i l).getD j 0 = l.getD j 0
  | 0, i, l, j, _ => rfl
  | k + 1, i, l, j, h => by
    rw [clearGo, clearGo_get k (i + 1) _ j (by omega), getD_set_ne' (by omega)]
theorem wipe_get (B : Bld) (p : Ptr) (j : Nat) (h : ¬ (first p ≤ j ∧ j < first p + words p)) : (wipeB B p).A.getD j 0 = B.A.getD j 0 := by
  show (clearGo _ _ B.A).getD j 0 = _
  refine clearGo_get _ _ _ _ ?_
  rcases Nat.lt_or_ge j (first p) with h1 | h1
  · exact .inl h1
  · right
    have : first p + words p ≤ j := by omega
    omega

/-- Builder's and book's drop, in step. -/
structure DR (B : Bld) (K1 : Bk) (oh oi k : Nat) (d : Drp) (e : Dk) : Prop where
  gone : d.gone = e.under
  glen : d.gone.length = 256
  same : Same B d.B
  len : e.K.len = K1.len
  elen : e.K.e.length = K1.e.length
  ents : ∀ h, e.K.at_ h = { K1.at_ h with dead := (e.K.at_ h).dead }
  dead : ∀ h, h < B.obj.length → d.B.dd h = (e.K.at_ h).dead
  dg : ∀ h, h < B.obj.length → d.B.dd h = (B.dd h || d.gone.getD h false)
  low : ∀ h, d.gone.getD h false = true → 1 ≤ h ∧ h ≤ k ∧ B.dd h = false
  fnd : d.found = true → ∃ t, 1 ≤ t ∧ t ≤ k ∧ t < B.obj.length ∧ B.dd t = false ∧ B.upp t = oh ∧ B.vi t = oi
  nof : d.found = false → ∀ h, d.gone.getD h false = false
  cls : ∀ h, 1 ≤ h → h ≤ k → h < B.obj.length → B.dd h = false → d.gone.getD (B.upp h) false = true → d.gone.getD h false = true
  tp : ∀ h, 1 ≤ h → h ≤ k → h < B.obj.length → B.dd h = false → B.upp h = oh → B.vi h = oi → d.gone.getD h false = true
  wrd : ∀ j, (∀ t, t < B.obj.length → d.gone.getD t false = true → ¬ (first (B.o t) ≤ j ∧ j < first (B.o t) + words (B.o t))) → d.B.A.getD j 0 = B.A.getD j 0

theorem DR.step {N : Nat} {B : Bld} {K K1 : Bk} (I : InvN N B K) {oh oi k : Nat} (hl : ¬ l7 (B.o oh)) (huv : ∀ h, h < B.obj.length → (K1.at_ h).up = B.upp h ∧ (K1.at_ h).via = B.vi h) (hK1 : K1.e.length = B.obj.length) {d : Drp} {e : Dk} (R : DR B K1 oh oi k d e) (hk : k + 1 < B.obj.length) :
    DR B K1 oh oi (k + 1) (dropStep oh oi (1 + k) d) (dropStepK oh oi (1 + k) e) := by
  have h256 := I.good.even.2.1.2
  have a8 := I.good.even.2.2.2.2.2
  rw [show 1 + k = k + 1 by omega]
  have eup : (e.K.at_ (k + 1)).up = B.upp (k + 1) := by rw [R.ents]; exact (huv _ hk).1
  have evi : (e.K.at_ (k + 1)).via = B.vi (k + 1) := by rw [R.ents]; exact (huv _ hk).2
  have dup : d.B.up.getD (k + 1) 0 = B.upp (k + 1) := by rw [R.same.up]; rfl
  have dvi : d.B.via.getD (k + 1) 0 = B.vi (k + 1) := by rw [R.same.via]; rfl
  have ddd : d.B.dead.getD (k + 1) false = (e.K.at_ (k + 1)).dead := R.dead _ hk
  have gk : d.gone.getD (k + 1) false = false := by
    cases hg : d.gone.getD (k + 1) false
    · rfl
    · have := (R.low _ hg).2.1; omega
  have ddB : d.B.dead.getD (k + 1) false = B.dd (k + 1) := by
    have := R.dg (k + 1) hk
    rw [gk, Bool.or_false] at this
    exact this
  have hupl := I.upl (k + 1) (by omega) hk
  -- both ask the same
  have hiff : (d.B.dead.getD (k + 1) false = false ∧ ((d.found = false ∧ d.B.up.getD (k + 1) 0 = oh ∧ d.B.via.getD (k + 1) 0 = oi) ∨ d.gone.getD (d.B.up.getD (k + 1) 0) false = true)) ↔
      (B.dd (k + 1) = false ∧ ((B.upp (k + 1) = oh ∧ B.vi (k + 1) = oi) ∨ d.gone.getD (B.upp (k + 1)) false = true)) := by
    rw [ddB, dup, dvi]
    refine ⟨fun h => ⟨h.1, (match h.2 with | .inl x => .inl x.2 | .inr x => .inr x)⟩, fun h => ⟨h.1, ?_⟩⟩
    rcases h.2 with ⟨u, v⟩ | g
    · by_cases hf : d.found = false
      · exact .inl ⟨hf, u, v⟩
      · have hf' : d.found = true := by simpa using hf
        obtain ⟨t, t1, t2, t3, t4, t5, t6⟩ := R.fnd hf'
        have := I.one t (k + 1) (by omega) (by omega) t3 hk t4 h.1 (by rw [t5, u]) (by rw [t6, v]) (by rw [t5]; exact hl)
        omega
    · exact .inr g
  by_cases hy : B.dd (k + 1) = false ∧ ((B.upp (k + 1) = oh ∧ B.vi (k + 1) = oi) ∨ d.gone.getD (B.upp (k + 1)) false = true)
  · -- it dies
    have e1 : dropStep oh oi (k + 1) d = ⟨true, d.gone.set (k + 1) true, wipeB { d.B with dead := d.B.dead.set (k + 1) true } (d.B.o (k + 1))⟩ := by
      unfold dropStep; rw [if_pos (hiff.2 hy)]
    have e2 : dropStepK oh oi (k + 1) e = ⟨e.under.set (k + 1) true, e.K.putDead (k + 1) true⟩ := by
      unfold dropStepK
      rw [if_pos]
      rw [eup, evi, ← R.gone, ← ddd, ddB]
      exact hy
    have hstep := dropStep_same oh oi (k + 1) d
    rw [e1] at hstep ⊢
    rw [e2]
    have hgl : k + 1 < d.gone.length := by rw [R.glen]; omega
    have gg : ∀ j, (d.gone.set (k + 1) true).getD j false = if j = k + 1 then true else d.gone.getD j false := fun j => getD_setB _ _ _ hgl
    have hkK : k + 1 < e.K.e.length := by rw [R.elen, hK1]; exact hk
    have da : ∀ h, (e.K.putDead (k + 1) true).at_ h = if h = k + 1 then { e.K.at_ (k + 1) with dead := true } else e.K.at_ h := putDead_at e.K hkK true
    have db : ∀ h, h < B.obj.length → (wipeB { d.B with dead := d.B.dead.set (k + 1) true } (d.B.o (k + 1))).dd h = if h = k + 1 then true else d.B.dd h := fun h hh => by
      show (d.B.dead.set (k + 1) true).getD h false = _
      exact getD_setB _ _ _ (by rw [R.same.dead]; omega)
    refine ⟨by rw [R.gone], by simp [R.glen], R.same.trans hstep.1, R.len, by rw [putDead_len]; exact R.elen, fun h => ?_, fun h hh => ?_, fun h hh => ?_, fun h hg => ?_, fun _ => ?_, (fun hf => by cases hf), fun h h1 h2 h3 h4 h5 => ?_, fun h h1 h2 h3 h4 h5 h6 => ?_, fun j hj => ?_⟩
    · show (e.K.putDead (k + 1) true).at_ h = { K1.at_ h with dead := ((e.K.putDead (k + 1) true).at_ h).dead }
      rw [da]
      split
      · rename_i eh
        subst eh
        have := R.ents (k + 1)
        generalize e.K.at_ (k + 1) = z at *
        rw [this]
      · exact R.ents h
    · show _ = ((e.K.putDead (k + 1) true).at_ h).dead
      rw [da, db h hh]
      split
      · rfl
      · exact R.dead h hh
    · rw [db h hh, gg]
      split
      · simp
      · exact R.dg h hh
    · rw [gg] at hg
      split at hg
      · rename_i eh; subst eh; exact ⟨by omega, Nat.le_refl _, hy.1⟩
      · have := R.low h hg; exact ⟨this.1, by omega, this.2.2⟩
    · by_cases hf : d.found = true
      · obtain ⟨t, t1, t2, t3⟩ := R.fnd hf; exact ⟨t, t1, by omega, t3⟩
      · have hf' : d.found = false := by simpa using hf
        rcases hy.2 with ⟨u, v⟩ | g
        · exact ⟨k + 1, by omega, Nat.le_refl _, hk, hy.1, u, v⟩
        · rw [R.nof hf'] at g; cases g
    · rw [gg] at h5 ⊢
      split
      · rfl
      · rename_i eh
        have hu := I.upl h (by omega) h3
        rw [if_neg (by omega)] at h5
        exact R.cls h h1 (by omega) h3 h4 h5
    · rw [gg]
      split
      · rfl
      · exact R.tp h h1 (by omega) h3 h4 h5 h6
    · have ho : d.B.o (k + 1) = B.o (k + 1) := same_o R.same.obj _
      rw [ho, wipe_get _ _ _ (hj (k + 1) hk (by rw [gg, if_pos rfl]))]
      exact R.wrd j (fun t ht hg => hj t ht (by rw [gg]; split <;> first | rfl | exact hg))
  · have e1 : dropStep oh oi (k + 1) d = d := by
      unfold dropStep; rw [if_neg (fun h => hy (hiff.1 h))]
    have e2 : dropStepK oh oi (k + 1) e = e := by
      unfold dropStepK
      rw [if_neg]
      rw [eup, evi, ← R.gone, ← ddd, ddB]
      exact hy
    rw [e1, e2]
    refine ⟨R.gone, R.glen, R.same, R.len, R.elen, R.ents, R.dead, R.dg, fun h hg => ?_, fun hf => ?_, R.nof, fun h h1 h2 h3 h4 h5 => ?_, fun h h1 h2 h3 h4 h5 h6 => ?_, R.wrd⟩
    · have := R.low h hg; exact ⟨this.1, by omega, this.2.2⟩
    · obtain ⟨t, t1, t2, t3⟩ := R.fnd hf; exact ⟨t, t1, by omega, t3⟩
    · by_cases eh : h = k + 1
      · subst eh; exact absurd ⟨h4, .inr h5⟩ hy
      · exact R.cls h h1 (by omega) h3 h4 h5
    · by_cases eh : h = k + 1
      · subst eh; exact absurd ⟨h4, .inl ⟨h5, h6⟩⟩ hy
      · exact R.tp h h1 (by omega) h3 h4 h5 h6
end Go.Proofs.Ygcfaa
