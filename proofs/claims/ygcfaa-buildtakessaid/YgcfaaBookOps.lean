import Derived.Test.YgcfaaNamed
namespace Go.Proofs.Ygcfaa
open Go.RowKit Bits Bd
set_option linter.unusedVariables false
set_option maxRecDepth 100000
set_option linter.unusedSimpArgs false

namespace Bd
/-- Entry h with another set. -/
def Bk.putSet (K : Bk) (h : Nat) (x : List Bool) : Bk := { K with e := K.e.set h { K.at_ h with set := x } }
def Bk.putDead (K : Bk) (h : Nat) (x : Bool) : Bk := { K with e := K.e.set h { K.at_ h with dead := x } }
/-- The elements of a new list of structs. -/
def elemsK (m : Ent) (list : Nat) : Nat → Nat → List Ent → List Ent
  | 0, _, l => l
  | k + 1, i, l => elemsK m list k (i + 1) (l ++ [⟨false, 1, 0, m.data, m.ptrs, 0, m.depth, list, i, List.replicate m.ptrs false⟩])
/-- book.make -/
def makeK (K : Bk) (op : Opn) (made : Ent) (words elements : Nat) : Option Bk :=
  if op.i < (K.at_ op.h).set.length ∧ (K.at_ op.h).set.getD op.i false = false ∧ (K.at_ op.h).depth + 1 ≤ 8 ∧ K.len + words ≤ 256 ∧ K.e.length + 1 + elements ≤ 256 then
    let K1 := K.putSet op.h ((K.at_ op.h).set.set op.i true)
    let m : Ent := { made with depth := (K.at_ op.h).depth + 1, up := op.h, via := op.i }
    some ⟨elemsK m K.e.length elements 0 (K1.e ++ [m]), K.len + words⟩
  else none
end Bd

theorem getD_set_ent (l : List Ent) (h j : Nat) (x : Ent) (hh : h < l.length) : (l.set h x).getD j ent0 = if j = h then x else l.getD j ent0 := by
  rw [List.getD_eq_getElem?_getD, List.getElem?_set]
  by_cases e : h = j
  · subst e; simp [hh]
  · rw [if_neg e, if_neg (Ne.symm e), List.getD_eq_getElem?_getD]
theorem putSet_at (K : Bk) {h : Nat} (hh : h < K.e.length) (x : List Bool) (j : Nat) : (K.putSet h x).at_ j = if j = h then { K.at_ h with set := x } else K.at_ j := getD_set_ent _ _ _ _ hh
theorem putDead_at (K : Bk) {h : Nat} (hh : h < K.e.length) (x : Bool) (j : Nat) : (K.putDead h x).at_ j = if j = h then { K.at_ h with dead := x } else K.at_ j := getD_set_ent _ _ _ _ hh
theorem putSet_len (K : Bk) (h : Nat) (x : List Bool) : (K.putSet h x).e.length = K.e.length := by simp [Bk.putSet]
theorem putDead_len (K : Bk) (h : Nat) (x : Bool) : (K.putDead h x).e.length = K.e.length := by simp [Bk.putDead]

section
variable {w w' : World} {b : Nat} {r : Value} {s : Nat → Value} {K : Bk}

theorem rowB_set (l : List Bool) (i : Nat) (v : Bool) : (rowB l).set i (.bool v) = rowB (l.set i v) := by simp [rowB, List.map_set]

/-- A bit of a set is written. -/
theorem HK.setBit (hb : HK w b r s K) {h g c m i : Nat} (hh : h < K.e.length) (hs : s h = .slice (some ⟨g, 0, none⟩) m c) (v : Bool) :
    HK (w.setCell ⟨g, i, none⟩ (.bool v)) b r s (K.putSet h ((K.at_ h).set.set i v)) ∧ MvK b r s K.e.length r s K.e.length w (w.setCell ⟨g, i, none⟩ (.bool v)) := by
  have hk : blksK b r s K.e.length (h + 2) = some g := by simp only [blksK, if_pos hh, hs, Value.ownBlock]
  have kp : Keeps (fun k => k = g) w (w.setCell ⟨g, i, none⟩ (.bool v)) := (Keeps.refl (fun k => k = g) w).setCell (p := ⟨g, i, none⟩) (fun _ => rfl) _
  refine ⟨⟨?_, ?_, ?_, ?_⟩, .of_keeps (kp.mono (fun k _ e => by subst e; exact ⟨h + 2, hk⟩))⟩
  · exact hb.row.keeps kp (fun _ e => by have := hb.apart 0 (h + 2) g (by rw [← e]; rfl) hk; omega)
  · rw [putSet_len]
    have : entsC (K.putSet h ((K.at_ h).set.set i v)).e s 0 = entsC K.e s 0 := entsC_set _ _ _ _ _
    rw [this]
    exact own_keeps hb.own kp (fun k hk' e => by subst e; have := hb.apart 1 (h + 2) k hk' hk; omega)
  · intro j hj
    rw [putSet_len] at hj
    rw [putSet_at K hh]
    by_cases e : j = h
    · subst e
      rw [if_pos rfl]
      have ho := hb.sets j hj
      rw [hs] at ho ⊢
      have := own_set ho i (.bool v)
      rw [rowB_set] at this
      simpa using this
    · rw [if_neg e]
      exact own_keeps (hb.sets j hj) kp (fun k hk' e' => by
        subst e'
        have := hb.apart (j + 2) (h + 2) k (by simp only [blksK, if_pos hj]; exact hk') hk
        omega)
  · rw [putSet_len]
    exact hb.apart
/-- An entry dies. -/
theorem HK.setDead (hb : HK w b r s K) {h g c m : Nat} (hh : h < K.e.length) (hr : r = .slice (some ⟨g, 0, none⟩) m c) (v : Bool) :
    HK (w.setCell ⟨g, h * 10, none⟩ (.bool v)) b r s (K.putDead h v) ∧ MvK b r s K.e.length r s K.e.length w (w.setCell ⟨g, h * 10, none⟩ (.bool v)) := by
  have hk : blksK b r s K.e.length 1 = some g := by rw [hr]; rfl
  have kp : Keeps (fun k => k = g) w (w.setCell ⟨g, h * 10, none⟩ (.bool v)) := (Keeps.refl (fun k => k = g) w).setCell (p := ⟨g, h * 10, none⟩) (fun _ => rfl) _
  refine ⟨⟨?_, ?_, ?_, ?_⟩, .of_keeps (kp.mono (fun k _ e => by subst e; exact ⟨1, hk⟩))⟩
  · exact hb.row.keeps kp (fun _ e => by have := hb.apart 0 1 g (by rw [← e]; rfl) hk; omega)
  · rw [putDead_len]
    have : entsC (K.putDead h v).e s 0 = (entsC K.e s 0).set (h * 10) (.bool v) := entsC_dead _ _ _ _ _
    rw [this]
    have ho := hb.own
    rw [hr] at ho ⊢
    exact own_set ho (h * 10) (.bool v)
  · intro j hj
    rw [putDead_len] at hj
    rw [putDead_at K hh]
    have e : (if j = h then { K.at_ h with dead := v } else K.at_ j).set = (K.at_ j).set := by
      split
      · rename_i e; rw [e]
      · rfl
    rw [e]
    exact own_keeps (hb.sets j hj) kp (fun k hk' e' => by
      subst e'
      have := hb.apart (j + 2) 1 k (by simp only [blksK, if_pos hj]; exact hk') hk
      omega)
  · rw [putDead_len]
    exact hb.apart
/-- The book's length is written. -/
theorem HK.setLen (hb : HK w b r s K) (m : Nat) :
    HK (w.setCell ⟨b, 1, none⟩ (.int .i64 (m : Int))) b r s { K with len := m } ∧ MvK b r s K.e.length r s K.e.length w (w.setCell ⟨b, 1, none⟩ (.int .i64 (m : Int))) := by
  have kp : Keeps (fun k => k = b) w (w.setCell ⟨b, 1, none⟩ (.int .i64 (m : Int))) := (Keeps.refl (fun k => k = b) w).setCell (p := ⟨b, 1, none⟩) (fun _ => rfl) _
  refine ⟨⟨?_, ?_, ?_, hb.apart⟩, .of_keeps (kp.mono (fun k _ e => by subst e; exact ⟨0, rfl⟩))⟩
  · have := hb.row.set (i := 1) (by simp) (.int .i64 (m : Int))
    simpa using this
  · exact own_keeps hb.own kp (fun k hk' e => by subst e; have := hb.apart 1 0 k hk' rfl; omega)
  · intro j hj
    exact own_keeps (hb.sets j hj) kp (fun k hk' e' => by
      subst e'
      have := hb.apart (j + 2) 0 k (by simp only [blksK, if_pos hj]; exact hk') rfl
      omega)

/-- What holds of the blocks of a book that took in a set from elsewhere. -/
structure MvS (b : Nat) (r : Value) (s : Nat → Value) (n : Nat) (sv : Value) (r' : Value) (s' : Nat → Value) (n' : Nat) (w w' : World) : Prop where
  keeps : Keeps (blkK b r s n) w w'
  fresh : ∀ k, blkK b r' s' n' k → blkK b r s n k ∨ sv.ownBlock = some k ∨ w.heap.size ≤ k

/-- An entry is appended, and the new slice stored. -/
theorem HK.push (hb : HK w b r s K) {e : Ent} {sv v : Value} (k : Keeps (fun k => some k = r.ownBlock) w w') (hv : w'.ownsRow 0 70 10 v (K.e.length + 1) (entsC K.e s 0 ++ entC e sv)) (hbk : BlkOf w r v)
    (hsv : w.ownsRow 0 4 1 sv e.set.length (rowB e.set)) (hnew : ∀ j, sv.ownBlock = some j → ¬ blkK b r s K.e.length j) :
    HK (w'.setCell ⟨b, 0, none⟩ v) b v (upd s K.e.length sv) { K with e := K.e ++ [e] } ∧ MvS b r s K.e.length sv v (upd s K.e.length sv) (K.e.length + 1) w (w'.setCell ⟨b, 0, none⟩ v) := by
  have hblt : b < w.heap.size := hb.lt ⟨0, rfl⟩
  have hrb : r.ownBlock ≠ some b := fun e => by
    have := hb.apart 1 0 b e rfl
    omega
  have hr1 : ∀ k, v.ownBlock = some k → r.ownBlock = some k ∨ w.heap.size ≤ k := fun k hk => by
    rcases hbk k hk with h1 | h1
    · exact .inl h1
    · exact .inr (by omega)
  have hvb : v.ownBlock ≠ some b := fun e => by
    rcases hr1 b e with h1 | h1
    · exact hrb h1
    · omega
  have hsvlt : ∀ j, sv.ownBlock = some j → j < w.heap.size := fun j hj => (hsv.lt j hj).2
  have hset : ∀ i, i < K.e.length → upd s K.e.length sv i = s i := fun i hi => by simp only [upd]; rw [if_neg (by omega)]
  have hupd : upd s K.e.length sv K.e.length = sv := by simp [upd]
  have kp2 : Keeps (fun k => k = b) w' (w'.setCell ⟨b, 0, none⟩ v) := (Keeps.refl (fun k => k = b) w').setCell (p := ⟨b, 0, none⟩) (fun _ => rfl) v
  -- where its blocks lie
  have hcls : ∀ i j, blksK b v (upd s K.e.length sv) (K.e.length + 1) i = some j → (i = 0 ∧ j = b) ∨ (i = 1 ∧ v.ownBlock = some j) ∨ (∃ i', i = i' + 2 ∧ i' < K.e.length ∧ (s i').ownBlock = some j) ∨ (i = K.e.length + 2 ∧ sv.ownBlock = some j) := by
    intro i j e
    match i with
    | 0 => simp only [blksK, Option.some.injEq] at e; exact .inl ⟨rfl, e.symm⟩
    | 1 => exact .inr (.inl ⟨rfl, e⟩)
    | i + 2 =>
      simp only [blksK] at e
      split at e
      · rename_i hi
        by_cases h1 : i < K.e.length
        · rw [hset i h1] at e
          exact .inr (.inr (.inl ⟨i, rfl, h1, e⟩))
        · have : i = K.e.length := by omega
          subst this
          rw [hupd] at e
          exact .inr (.inr (.inr ⟨rfl, e⟩))
      · cases e
  have old : ∀ i' j, i' < K.e.length → (s i').ownBlock = some j → blksK b r s K.e.length (i' + 2) = some j := fun i' j h1 h2 => by simp only [blksK, if_pos h1]; exact h2
  refine ⟨⟨?_, ?_, ?_, ?_⟩, ⟨?_, ?_⟩⟩
  · have h1 := hb.row.keeps k (fun _ e => hrb e.symm)
    have := h1.set (i := 0) (by simp) v
    simpa using this
  · have e1 : entsC (K.e ++ [e]) (upd s K.e.length sv) 0 = entsC K.e s 0 ++ entC e sv := by
      rw [entsC_append, Nat.zero_add]
      congr 1
      · exact entsC_congr _ _ _ _ (fun i _ hi => hset i (by omega))
      · simp only [entsC, hupd, List.append_nil]
    show (w'.setCell ⟨b, 0, none⟩ v).ownsRow 0 70 10 v (K.e ++ [e]).length (entsC (K.e ++ [e]) (upd s K.e.length sv) 0)
    rw [e1, List.length_append]
    exact own_keeps hv kp2 (fun k hk' e => by subst e; exact hvb hk')
  · intro i hi
    have hi' : i < K.e.length + 1 := by simpa using hi
    show (w'.setCell ⟨b, 0, none⟩ v).ownsRow 0 4 1 (upd s K.e.length sv i) ((K.e ++ [e]).getD i ent0).set.length (rowB ((K.e ++ [e]).getD i ent0).set)
    by_cases h1 : i < K.e.length
    · have e2 : (K.e ++ [e]).getD i ent0 = K.at_ i := by
        rw [List.getD_eq_getElem?_getD, List.getElem?_append_left h1, ← List.getD_eq_getElem?_getD]; rfl
      rw [e2, hset i h1]
      have h2 := own_keeps (hb.sets i h1) k (fun j hj e => by
        have := hb.apart (i + 2) 1 j (old i j h1 hj) e.symm
        omega)
      exact own_keeps h2 kp2 (fun j hj e => by
        subst e
        have := hb.apart (i + 2) 0 j (old i j h1 hj) rfl
        omega)
    · have : i = K.e.length := by omega
      subst this
      have e2 : (K.e ++ [e]).getD K.e.length ent0 = e := by simp
      rw [e2, hupd]
      have h2 := own_keeps hsv k (fun j hj e => hnew j hj ⟨1, e.symm⟩)
      exact own_keeps h2 kp2 (fun j hj e => by subst e; exact hnew j hj ⟨0, rfl⟩)
  · have hlen : (K.e ++ [e]).length = K.e.length + 1 := by simp
    show ∀ i j k, blksK b v (upd s K.e.length sv) (K.e ++ [e]).length i = some k → blksK b v (upd s K.e.length sv) (K.e ++ [e]).length j = some k → i = j
    rw [hlen]
    intro i j k' h1 h2
    have nv : ∀ i', i' < K.e.length → (s i').ownBlock = some k' → v.ownBlock = some k' → False := fun i' a1 a2 a3 => by
      rcases hr1 k' a3 with h | h
      · have := hb.apart (i' + 2) 1 k' (old i' k' a1 a2) h
        omega
      · have := blksK_lt hb (i' + 2) k' (old i' k' a1 a2)
        omega
    have nsv : sv.ownBlock = some k' → v.ownBlock = some k' → False := fun a1 a2 => by
      rcases hr1 k' a2 with h | h
      · exact hnew k' a1 ⟨1, h⟩
      · have := hsvlt k' a1
        omega
    rcases hcls i k' h1 with ⟨rfl, e1⟩ | ⟨rfl, e1⟩ | ⟨i', rfl, l1, e1⟩ | ⟨rfl, e1⟩ <;> rcases hcls j k' h2 with ⟨rfl, e2⟩ | ⟨rfl, e2⟩ | ⟨j', rfl, l2, e2⟩ | ⟨rfl, e2⟩
    · rfl
    · subst e1; exact absurd e2 hvb
    · subst e1; have := hb.apart (j' + 2) 0 k' (old j' k' l2 e2) rfl; omega
    · subst e1; exact absurd ⟨0, rfl⟩ (hnew k' e2)
    · subst e2; exact absurd e1 hvb
    · rfl
    · exact (nv j' l2 e2 e1).elim
    · exact (nsv e2 e1).elim
    · subst e2; have := hb.apart (i' + 2) 0 k' (old i' k' l1 e1) rfl; omega
    · exact (nv i' l1 e1 e2).elim
    · exact hb.apart _ _ k' (old i' k' l1 e1) (old j' k' l2 e2)
    · exact absurd ⟨i' + 2, old i' k' l1 e1⟩ (hnew k' e2)
    · subst e2; exact absurd ⟨0, rfl⟩ (hnew k' e1)
    · exact (nsv e1 e2).elim
    · exact absurd ⟨j' + 2, old j' k' l2 e2⟩ (hnew k' e1)
    · rfl
  · exact (k.mono (fun j _ e => ⟨1, e.symm⟩)).setCell (p := ⟨b, 0, none⟩) (fun _ => ⟨0, rfl⟩) v
  · rintro j ⟨i, e1⟩
    rcases hcls i j e1 with ⟨rfl, e2⟩ | ⟨rfl, e2⟩ | ⟨i', rfl, l1, e2⟩ | ⟨rfl, e2⟩
    · exact .inl ⟨0, by rw [e2]; rfl⟩
    · rcases hr1 j e2 with h | h
      · exact .inl ⟨1, h⟩
      · exact .inr (.inr h)
    · exact .inl ⟨i' + 2, old i' j l1 e2⟩
    · exact .inr (.inl e2)
end
end Go.Proofs.Ygcfaa
