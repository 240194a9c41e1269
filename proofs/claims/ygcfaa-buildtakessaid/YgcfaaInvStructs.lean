import Derived.Test.YgcfaaInvList
namespace Go.Proofs.Ygcfaa
open Go.RowKit Bits Bd Utf
set_option linter.unusedVariables false

theorem words7_eq {a d q n : Nat} (hn : n ≤ 128) (hd : d ≤ 8) (hq : q ≤ 8) : words ⟨2, a, d, q, 7, n⟩ = min (1 + n * (d + q)) 257 := by
  unfold words
  rw [if_neg (by simp), if_neg (by simp), if_neg (by dsimp only; omega), if_neg (by simp), if_neg (by simp), if_pos ⟨rfl, hd, hq⟩]
theorem words7_bad {a d q n : Nat} (h : 128 < n ∨ 8 < d ∨ 8 < q) : words ⟨2, a, d, q, 7, n⟩ = 257 := by
  unfold words
  rw [if_neg (by simp), if_neg (by simp)]
  split
  · rfl
  · rename_i hx
    rw [if_neg (by simp), if_neg (by simp), if_neg]
    rintro ⟨_, h1, h2⟩
    dsimp only at *
    omega

theorem structs_step {B : Bld} {K : Bk} (I : Inv B K) {op : Opn} (hop : op.Ok) (hh : op.h < B.obj.length) (hd : B.dd op.h = false) (hx7 : op.x = 7) :
    (newStructsB B op).isSome = (listK K op).isSome ∧ Inv ((newStructsB B op).getD B) ((listK K op).getD K) := by
  have a1 := I.good.even.1
  have a2 := I.good.even.2.1
  have hy := hop.y
  obtain ⟨d, hdd⟩ : ∃ d, d = op.y / 16 := ⟨_, rfl⟩
  obtain ⟨q, hqq⟩ : ∃ q, q = op.y % 16 := ⟨_, rfl⟩
  have hlist : listK K op = if 128 < op.n ∨ 8 < d ∨ 8 < q ∨ (0 < op.n ∧ op.y = 0) then none else makeK K op ⟨false, 2, 7, d, q, op.n, 0, 0, 0, []⟩ (1 + op.n * (d + q)) op.n := by
    unfold listK
    rw [← hdd, ← hqq, hx7]
    by_cases hn : 128 < op.n
    · rw [if_pos hn, if_pos (.inl hn)]
    · rw [if_neg hn, if_neg (by omega), if_neg (by omega), if_pos rfl]
      by_cases hb : 8 < d ∨ 8 < q ∨ (0 < op.n ∧ op.y = 0)
      · rw [if_pos hb, if_pos (.inr hb)]
      · rw [if_neg hb, if_neg (fun h => h.elim hn hb)]
  rw [hlist]
  unfold newStructsB
  dsimp only
  rw [← hdd, ← hqq]
  by_cases hz : d + q = 0 ∧ 0 < op.n
  · rw [if_pos hz, if_pos (by omega)]
    exact ⟨rfl, I⟩
  rw [if_neg hz]
  by_cases hb : 128 < op.n ∨ 8 < d ∨ 8 < q ∨ (0 < op.n ∧ op.y = 0)
  · rw [if_pos hb, words7_bad (by omega), roomB_big (by omega)]
    exact ⟨rfl, I⟩
  rw [if_neg hb, words7_eq (by omega) (by omega) (by omega)]
  by_cases hbig : 1 + op.n * (d + q) ≤ 256
  · rw [Nat.min_eq_left (by omega)]
    rcases I.room hop hh hd (1 + op.n * (d + q)) op.n ⟨false, 2, 7, d, q, op.n, 0, 0, 0, []⟩ with ⟨K', hK, hR, b1, b2, b3, b4, b5, hK'⟩ | ⟨hK, hR⟩
    · rw [hK, hR]
      refine ⟨rfl, ?_⟩
      dsimp only [Option.getD]
      have hsl := I.slot_top hh b1
      have hv : ¬ mkList (slotA (B.o op.h) op.i) B.A.length 7 (op.n * (d + q)) = 0 := mkList_ne (by omega) (by omega) (by omega) (by omega) (by omega) (fun h => absurd rfl h)
      generalize mkList (slotA (B.o op.h) op.i) B.A.length 7 (op.n * (d + q)) = v at hv
      generalize mkTag op.n d q = tg
      have I2 := (I.filled (v := v) hh b1 hv b4).more (show B.obj.length ≤ B.obj.length + 1 + op.n by omega)
      have I3 := I2.setA B.A.length tg (fun h hh' hd' i hi' => by
        have := I.slot_top (h := h) hh' (i := i) hi'
        show slotA (B.o h) i ≠ B.A.length
        omega)
      obtain ⟨B3, hB3⟩ : ∃ B3, B3 = Bd.setA (growB (Bd.setA B (slotA (B.o op.h) op.i) v) (1 + op.n * (d + q))) B.A.length tg := ⟨_, rfl⟩
      rw [← hB3] at I3 ⊢
      have eo : ∀ h, B3.o h = B.o h := fun h => by rw [hB3]; rfl
      have en : B3.obj.length = B.obj.length := by rw [hB3]; rfl
      have ed : ∀ h, B3.dd h = B.dd h := fun h => by rw [hB3]; rfl
      have eu : ∀ h, B3.upp h = B.upp h := fun h => by rw [hB3]; rfl
      have ev : ∀ h, B3.vi h = B.vi h := fun h => by rw [hB3]; rfl
      have eA : B3.A.length = B.A.length + (1 + op.n * (d + q)) := by rw [hB3]; simp [Bd.setA, growB]
      have eZ : ∀ i, B.A.length + 1 ≤ i → B3.A.getD i 0 = 0 := fun i hi' => by
        rw [hB3]
        simp only [Bd.setA, growB]
        rw [getD_set_ne' (by omega)]
        exact getD_zeros (by rw [List.length_set]; omega)
      clear hB3
      have hHK : op.h < K.e.length := by rw [I.n]; exact hh
      have hst : op.i < (K.at_ op.h).set.length := by rw [I.set _ hh]; exact b1
      have hD0 : B.depth.getD op.h 0 = B.dp op.h := rfl
      rw [hD0]
      have I4 := I3.push (p := ⟨2, B.A.length + 1, d, q, 7, op.n⟩) (H := op.h) (i := op.i) (D := B.dp op.h + 1) (m := ⟨false, 2, 7, d, q, op.n, B.dp op.h + 1, op.h, op.i, []⟩)
        (by rw [en]; omega) (by rw [en]; omega) (by dsimp only; omega) (.inr (.inr ⟨rfl, rfl, by dsimp only; omega, by dsimp only; omega, by dsimp only; omega, by dsimp only; omega⟩)) (by simp [nslots])
        (fun h hh' => by rw [en] at hh'; rw [eo]; exact I.top h hh') (by rw [eA]; show B.A.length + 1 ≤ _; omega) (fun j hj => by simp [nslots] at hj)
        (fun _ => ⟨by rw [en]; dsimp only; omega, by rw [eA]; dsimp only; omega⟩)
        (fun h hh' hl => by
          rw [en] at hh' ⊢
          rw [eo] at hl ⊢
          obtain ⟨x1, x2, _⟩ := I.els h hh' hl
          exact ⟨fun h' => by omega, fun _ => x2⟩)
        (by rw [en]; exact hh) (by rw [ed]; exact hd) b3 hop.i hop.h
        (fun hl => by
          rw [eo] at hl ⊢
          refine ⟨b1, put_bit hHK hst true, fun h h0 hh' hd' hu hv' => ?_⟩
          rw [en] at hh'
          exact I.empty b2 hh hl h h0 hh' (by rw [← ed]; exact hd') (by rw [← eu]; exact hu) (by rw [← ev]; exact hv'))
      obtain ⟨B4, hB4⟩ : ∃ B4, B4 = hangB B3 ⟨2, B.A.length + 1, d, q, 7, op.n⟩ op.h op.i (B.dp op.h + 1) := ⟨_, rfl⟩
      rw [← hB4] at I4 ⊢
      have fo : ∀ h, h < B.obj.length → B4.o h = B.o h := fun h hh' => by rw [hB4, ← eo]; exact snoc_lt (by rw [en]; exact hh')
      have fe : B4.o B.obj.length = ⟨2, B.A.length + 1, d, q, 7, op.n⟩ := by rw [hB4]; exact snoc_eq en.symm
      have fn : B4.obj.length = B.obj.length + 1 := by rw [hB4]; simp [hangB, en]
      have fA : B4.A = B3.A := by rw [hB4]; rfl
      have fd : B4.dd B.obj.length = false := by rw [hB4]; exact snoc_eq (by have := I3.good.even.2.2.2.2.2; rw [← en]; exact this.symm)
      clear hB4
      have hfin := elems_inv (N := B.obj.length + 1 + op.n) (L := B.obj.length) (d := d) (q := q) (D := B.dp op.h + 1) (A0 := B.A.length) (by omega) (by omega) b3 (by omega) (by omega) ⟨false, 2, 7, d, q, op.n, B.dp op.h + 1, op.h, op.i, []⟩ rfl rfl rfl op.n 0 B4 _ _ I4 (by omega) (by omega) (by rw [fe]; exact ⟨rfl, rfl⟩) (by rw [fe]; simp) (by rw [fe]) fd
        (fun h hh' => by
          rw [fn] at hh'
          rcases (show h < B.obj.length ∨ h = B.obj.length by omega) with l' | rfl
          · rw [fo h l']; have := I.top h l'; omega
          · rw [fe]; show B.A.length + 1 ≤ _; omega)
        (fun i hi' => by rw [fA]; exact eZ i hi') (by rw [fA, eA, Nat.zero_add]; omega) (by rw [fA, eA]; omega)
        (fun h hh' hl => by
          rw [fn] at hh'
          rcases (show h < B.obj.length ∨ h = B.obj.length by omega) with l' | rfl
          · rw [fo h l'] at hl ⊢
            obtain ⟨x1, x2, _⟩ := I.els h l' hl
            exact .inr ⟨x1, x2⟩
          · exact .inl rfl)
      rw [hK']
      rw [Nat.zero_mul, Nat.add_zero] at hfin
      refine Inv.of hfin ?_
      rw [(elems_len _ _ _ _ _ _ _ _).1, fn]
    · rw [hK, hR]
      exact ⟨rfl, I⟩
  · rw [Nat.min_eq_right (by omega), roomB_big (by omega)]
    rcases I.room hop hh hd (1 + op.n * (d + q)) op.n ⟨false, 2, 7, d, q, op.n, 0, 0, 0, []⟩ with ⟨K', hK, hR, b1, b2, b3, b4, b5, hK'⟩ | ⟨hK, hR⟩
    · omega
    · rw [hK]
      exact ⟨rfl, I⟩

theorem newList_step {B : Bld} {K : Bk} (I : Inv B K) {op : Opn} (hop : op.Ok) (hh : op.h < B.obj.length) (hd : B.dd op.h = false) :
    (newListB B op).isSome = (listK K op).isSome ∧ Inv ((newListB B op).getD B) ((listK K op).getD K) := by
  by_cases hx : op.x = 7
  · have : newListB B op = newStructsB B op := by unfold newListB; rw [if_pos hx]
    rw [this]
    exact structs_step I hop hh hd hx
  · exact plainList_step I hop hh hd hx

theorem bytes_inv {N : Nat} (z : Nat → Nat) (to : Nat) : ∀ (k i : Nat) (B : Bld) (K : Bk), InvN N B K → (∀ h, h < B.obj.length → ∀ j, j < nslots (B.o h) → slotA (B.o h) j < to) → InvN N (bytesGo z to k i B) K
  | 0, i, B, K, I, _ => I
  | k + 1, i, B, K, I, hs => by
    rw [bytesGo]
    exact bytes_inv z to k (i + 1) _ K (I.setA _ _ (fun h hh hd j hj => by have := hs h hh j hj; omega)) hs

theorem text_step {B : Bld} {K : Bk} (I : Inv B K) {op : Opn} (hop : op.Ok) (hh : op.h < B.obj.length) (hd : B.dd op.h = false) (c : Bool) (hc : c = true ↔ contentP op.s) :
    (setTextB B op c (zOf op.s)).isSome = (if c = true then makeK K op ⟨false, 2, 2, 0, 0, op.s.size + 1, 0, 0, 0, []⟩ ((op.s.size + 1 + 7) / 8) 0 else none).isSome ∧
    Inv ((setTextB B op c (zOf op.s)).getD B) ((if c = true then makeK K op ⟨false, 2, 2, 0, 0, op.s.size + 1, 0, 0, 0, []⟩ ((op.s.size + 1 + 7) / 8) 0 else none).getD K) := by
  unfold setTextB
  by_cases h : c = true
  · rw [if_pos h, if_pos h]
    have hsz := (hc.1 h).1
    have hst := newList_step (op := ⟨1, op.h, op.i, 2, 0, op.s.size + 1, 0, ByteArray.empty⟩) I ⟨by dsimp only; omega, hop.h, hop.i, by dsimp only; omega, by dsimp only; omega, by dsimp only; omega, by dsimp only; omega⟩ hh hd
    have hl : listK K ⟨1, op.h, op.i, 2, 0, op.s.size + 1, 0, ByteArray.empty⟩ = makeK K op ⟨false, 2, 2, 0, 0, op.s.size + 1, 0, 0, 0, []⟩ ((op.s.size + 1 + 7) / 8) 0 := by
      unfold listK
      rw [if_neg (by dsimp only; omega), if_pos ⟨by dsimp only; omega, by dsimp only; omega⟩]
      have : ((op.s.size + 1) * (8 * 2 ^ (2 - 2)) + 63) / 64 = (op.s.size + 1 + 7) / 8 := by omega
      dsimp only
      rw [this]
      rfl
    rw [hl] at hst
    cases hB : newListB B ⟨1, op.h, op.i, 2, 0, op.s.size + 1, 0, ByteArray.empty⟩ with
    | none =>
      rw [hB] at hst
      exact hst
    | some B1 =>
      rw [hB] at hst
      refine ⟨hst.1, ?_⟩
      dsimp only [Option.getD] at hst ⊢
      obtain ⟨r1, r2, r3, r4, r5, r6⟩ := bytesGo_rest (zOf op.s) B.A.length op.s.size 0 B1
      refine Inv.of (bytes_inv _ _ _ _ _ _ hst.2 ?_) (by rw [r1])
      -- the new list has no slots, the others lie below
      unfold newListB at hB
      rw [if_neg (by simp)] at hB
      dsimp only at hB
      split at hB
      · cases hB
      · rename_i a ha
        cases hB
        intro h' hh' j hj
        have hlen : h' < B.obj.length ∨ h' = B.obj.length := by
          have : h' < (B.obj ++ [(⟨2, B.A.length, 0, 0, 2, op.s.size + 1⟩ : Ptr)]).length := hh'
          simp at this
          omega
        rcases hlen with l | rfl
        · have e : (hangB (growB (Bd.setA B a (mkList a B.A.length 2 (op.s.size + 1))) (words ⟨2, B.A.length, 0, 0, 2, op.s.size + 1⟩)) ⟨2, B.A.length, 0, 0, 2, op.s.size + 1⟩ op.h op.i (B.depth.getD op.h 0 + 1)).o h' = B.o h' := snoc_lt l
          have hj' : j < nslots (B.o h') := by rw [← e]; exact hj
          show slotA ((hangB (growB (Bd.setA B a (mkList a B.A.length 2 (op.s.size + 1))) (words ⟨2, B.A.length, 0, 0, 2, op.s.size + 1⟩)) ⟨2, B.A.length, 0, 0, 2, op.s.size + 1⟩ op.h op.i (B.depth.getD op.h 0 + 1)).o h') j < B.A.length
          rw [e]
          exact I.slot_top l hj'
        · have e : (hangB (growB (Bd.setA B a (mkList a B.A.length 2 (op.s.size + 1))) (words ⟨2, B.A.length, 0, 0, 2, op.s.size + 1⟩)) ⟨2, B.A.length, 0, 0, 2, op.s.size + 1⟩ op.h op.i (B.depth.getD op.h 0 + 1)).o B.obj.length = ⟨2, B.A.length, 0, 0, 2, op.s.size + 1⟩ := snoc_eq rfl
          have hj' : j < nslots ⟨2, B.A.length, 0, 0, 2, op.s.size + 1⟩ := by rw [← e]; exact hj
          simp [nslots] at hj'
  · rw [if_neg h, if_neg h]
    exact ⟨rfl, I⟩
end Go.Proofs.Ygcfaa
