import Derived.Test.YgcfaaMakeNo
namespace Go.Proofs.Ygcfaa
open Go.RowKit Bits Bd
set_option linter.unusedVariables false
set_option maxRecDepth 100000
set_option linter.unusedSimpArgs false

/-- From w to w' only what X holds, and new blocks, was touched; the book's blocks now are among those. -/
structure MvX (X : Nat → Prop) (b : Nat) (r' : Value) (s' : Nat → Value) (n' : Nat) (w w' : World) : Prop where
  keeps : Keeps X w w'
  fresh : ∀ k, blkK b r' s' n' k → X k ∨ w.heap.size ≤ k

/-- A book, and two boxes outside it. -/
structure KS (X : Nat → Prop) (w : World) (b o m : Nat) (vo vm : List Value) (W : World) (r' : Value) (s' : Nat → Value) (K' : Bk) : Prop where
  hk : HK W b r' s' K'
  mv : MvX X b r' s' K'.e.length w W
  ro : RowAt W o 0 vo
  rm : RowAt W m 0 vm
  no : ¬ blkK b r' s' K'.e.length o
  nm : ¬ blkK b r' s' K'.e.length m
  om : o ≠ m
  lo : w.heap.size ≤ o
  lm : w.heap.size ≤ m
  vo : 0 < vo.length
  vm : 0 < vm.length
section
variable {X : Nat → Prop} {w W W' : World} {b o m : Nat} {vo vm : List Value} {r r' r'' : Value} {s s' s'' : Nat → Value} {K K' K'' : Bk}

theorem KS.lto (st : KS X w b o m vo vm W r' s' K') : o < W.heap.size := st.ro.lt st.vo
theorem KS.ltm (st : KS X w b o m vo vm W r' s' K') : m < W.heap.size := st.rm.lt st.vm

theorem KS.step (st : KS X w b o m vo vm W r' s' K') (hk : HK W' b r'' s'' K'') (mv : MvX (blkK b r' s' K'.e.length) b r'' s'' K''.e.length W W') : KS X w b o m vo vm W' r'' s'' K'' := by
  have h1 := st.lto
  have h2 := st.ltm
  refine ⟨hk, ⟨⟨mv.keeps.os.trans st.mv.keeps.os, mv.keeps.tape.trans st.mv.keeps.tape, mv.keeps.output.trans st.mv.keeps.output, Nat.le_trans st.mv.keeps.size mv.keeps.size, fun k hk' hx => ?_⟩, fun k hk' => ?_⟩,
    st.ro.keeps mv.keeps (fun _ => st.no), st.rm.keeps mv.keeps (fun _ => st.nm), fun h => ?_, fun h => ?_, st.om, st.lo, st.lm, st.vo, st.vm⟩
  · rw [mv.keeps.block k (Nat.lt_of_lt_of_le hk' st.mv.keeps.size) (fun hb => ?_)]
    · exact st.mv.keeps.block k hk' hx
    · rcases st.mv.fresh k hb with h | h
      · exact hx h
      · omega
  · rcases mv.fresh k hk' with h | h
    · exact st.mv.fresh k h
    · exact .inr (Nat.le_trans st.mv.keeps.size h)
  · rcases mv.fresh o h with h | h
    · exact st.no h
    · omega
  · rcases mv.fresh m h with h | h
    · exact st.nm h
    · omega
theorem MvK.x {n n' : Nat} (h : MvK b r s n r' s' n' w W) : MvX (blkK b r s n) b r' s' n' w W := ⟨h.keeps, h.fresh⟩
theorem KS.stepK (st : KS X w b o m vo vm W r' s' K') (h : HK W' b r'' s'' K'' ∧ MvK b r' s' K'.e.length r'' s'' K''.e.length W W') : KS X w b o m vo vm W' r'' s'' K'' := st.step h.1 h.2.x
theorem KS.below (st : KS X w b o m vo vm W r' s' K') (h : Below W.heap.size W W') : KS X w b o m vo vm W' r' s' K' := st.step (st.hk.below h) (MvK.of_below h).x
theorem KS.ext (st : KS X w b o m vo vm W r' s' K') (x : World) : KS X w b o m vo vm (W.ext x) r' s' K' := st.below (World.below_ext _ _)
theorem KS.drew (st : KS X w b o m vo vm W r' s' K') : KS X w b o m vo vm W.drew r' s' K' := st.below ⟨rfl, rfl, rfl, Nat.le_refl _, fun _ _ => rfl⟩
theorem KS.weaken {Y : Nat → Prop} (st : KS X w b o m vo vm W r' s' K') (h : ∀ k, X k → Y k) : KS Y w b o m vo vm W r' s' K' :=
  ⟨st.hk, ⟨st.mv.keeps.mono (fun k _ hk => h k hk), fun k hk => (match st.mv.fresh k hk with | .inl z => .inl (h k z) | .inr z => .inr z)⟩, st.ro, st.rm, st.no, st.nm, st.om, st.lo, st.lm, st.vo, st.vm⟩
/-- A cell of the second box is written. -/
theorem KS.putm (st : KS X w b o m vo vm W r' s' K') {i : Nat} (hi : i < vm.length) (v : Value) : KS X w b o m vo (vm.set i v) (W.setCell ⟨m, i, none⟩ v) r' s' K' := by
  have kp : Keeps (fun k => k = m) W (W.setCell ⟨m, i, none⟩ v) := (Keeps.refl (fun k => k = m) W).setCell (p := ⟨m, i, none⟩) (fun _ => rfl) v
  have kp2 : Keeps X w (W.setCell ⟨m, i, none⟩ v) := st.mv.keeps.setCell (p := ⟨m, i, none⟩) (fun h => absurd st.lm (by have h' : m < w.heap.size := h; omega)) v
  refine ⟨st.hk.keeps kp (fun j hj e => by subst e; exact st.nm hj), ⟨kp2, st.mv.fresh⟩, st.ro.keeps kp (fun _ e => st.om e), ?_, st.no, st.nm, st.om, st.lo, st.lm, st.vo, by simpa using st.vm⟩
  have := st.rm.set hi v
  rwa [Nat.zero_add] at this
/-- An entry is taken in. -/
theorem KS.push (st : KS X w b o m vo vm W r' s' K') {sv v : Value} {e : Ent} {n'' : Nat} (hn : (K'.e ++ [e]).length = n'') (hk : HK W' b v (upd s' K'.e.length sv) { K' with e := K'.e ++ [e] }) (mv : MvS b r' s' K'.e.length sv v (upd s' K'.e.length sv) (K'.e.length + 1) W W')
    (hX : ∀ k, sv.ownBlock = some k → X k ∨ w.heap.size ≤ k) (ho : sv.ownBlock ≠ some o) (hm : sv.ownBlock ≠ some m) : KS X w b o m vo vm W' v (upd s' K'.e.length sv) { K' with e := K'.e ++ [e] } := by
  have h1 := st.lto
  have h2 := st.ltm
  have hl : (K'.e ++ [e]).length = K'.e.length + 1 := by simp
  have fr : ∀ k, blkK b v (upd s' K'.e.length sv) (K'.e ++ [e]).length k → blkK b r' s' K'.e.length k ∨ sv.ownBlock = some k ∨ W.heap.size ≤ k := by rw [hl]; exact mv.fresh
  refine ⟨hk, ⟨⟨mv.keeps.os.trans st.mv.keeps.os, mv.keeps.tape.trans st.mv.keeps.tape, mv.keeps.output.trans st.mv.keeps.output, Nat.le_trans st.mv.keeps.size mv.keeps.size, fun k hk' hx => ?_⟩, fun k hk' => ?_⟩,
    st.ro.keeps mv.keeps (fun _ => st.no), st.rm.keeps mv.keeps (fun _ => st.nm), fun h => ?_, fun h => ?_, st.om, st.lo, st.lm, st.vo, st.vm⟩
  · rw [mv.keeps.block k (Nat.lt_of_lt_of_le hk' st.mv.keeps.size) (fun hb => ?_)]
    · exact st.mv.keeps.block k hk' hx
    · rcases st.mv.fresh k hb with h | h
      · exact hx h
      · omega
  · rcases fr k hk' with h | h | h
    · exact st.mv.fresh k h
    · exact hX k h
    · exact .inr (Nat.le_trans st.mv.keeps.size h)
  · rcases fr o h with h | h | h
    · exact st.no h
    · exact ho h
    · omega
  · rcases fr m h with h | h | h
    · exact st.nm h
    · exact hm h
    · omega
/-- Two boxes are laid. -/
theorem KS.two (hb : HK w b r s K) (vo : List Value) (to : TypeId) (vm : List Value) (tm : TypeId) (h1 : 0 < vo.length) (h2 : 0 < vm.length) :
    KS (blkK b r s K.e.length) w b w.heap.size (w.heap.size + 1) vo vm ((w.alloc (.cells vo.toArray to)).alloc (.cells vm.toArray tm)) r s K := by
  have k : Keeps (fun _ => False) w ((w.alloc (.cells vo.toArray to)).alloc (.cells vm.toArray tm)) := ((Keeps.refl _ _).alloc _).alloc _
  have nn : ∀ j, w.heap.size ≤ j → ¬ blkK b r s K.e.length j := fun j hj h => by have := hb.lt h; omega
  refine ⟨(hb.alloc _).alloc _, ⟨k.mono (fun _ _ h => h.elim), fun k hk => .inl hk⟩, ?_, ?_, nn _ (Nat.le_refl _), nn _ (by omega), by omega, Nat.le_refl _, by omega, h1, h2⟩
  · exact (RowAt.of_alloc w vo to).alloc _
  · have := RowAt.of_alloc (w.alloc (.cells vo.toArray to)) vm tm
    simpa using this
end
end Go.Proofs.Ygcfaa
