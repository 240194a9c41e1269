import Derived.Test.YgcfaaInvNew
namespace Go.Proofs.Ygcfaa
open Go.RowKit Bits Bd Utf
set_option linter.unusedVariables false

def Inv (B : Bld) (K : Bk) : Prop := InvN B.obj.length B K

theorem InvN.more {N N' : Nat} {B : Bld} {K : Bk} (I : InvN N B K) (h : N ≤ N') : InvN N' B K :=
  ⟨I.good, I.n, I.len, I.ent, I.set, I.bit, I.sh, I.rise, I.top, fun x hx hl => by
    obtain ⟨e1, e2⟩ := I.els x hx hl
    exact ⟨by omega, e2⟩, I.upl, I.live, I.hang, I.one, I.deep, I.small⟩

theorem getD_zeros {l : List Nat} {n j : Nat} (h : l.length ≤ j) : (l ++ List.replicate n 0).getD j 0 = 0 := by
  rw [List.getD_eq_getElem?_getD, List.getElem?_append_right h, List.getElem?_replicate]
  split <;> rfl

theorem put_bit {K : Bk} {H i : Nat} (hH : H < K.e.length) (hi' : i < (K.at_ H).set.length) (b : Bool) : ((K.putSet H ((K.at_ H).set.set i b)).at_ H).set.getD i false = b := by
  rw [putSet_at K hH, if_pos rfl]
  show ((K.at_ H).set.set i b).getD i false = b
  rw [List.getD_eq_getElem?_getD, List.getElem?_set_self hi']
  rfl

section
variable {N : Nat} {B : Bld} {K : Bk}
/-- The slot is filled, the arena grown. -/
theorem InvN.filled (I : InvN N B K) {op : Opn} {W v : Nat} (hh : op.h < B.obj.length) (hi' : op.i < nslots (B.o op.h)) (hv : ¬ v = 0) (hW : B.A.length + W ≤ 256) :
    InvN N (growB (Bd.setA B (slotA (B.o op.h) op.i) v) W) ⟨(K.putSet op.h ((K.at_ op.h).set.set op.i true)).e, B.A.length + W⟩ := by
  have I1 := I.fill (v := v) true hh hi' (by simp [hv]) (fun e => by cases e)
  have I2 := I1.grow W (by simpa [Bd.setA] using hW)
  rw [show (K.putSet op.h ((K.at_ op.h).set.set op.i true)).len = B.A.length from I.len] at I2
  exact I2

/-- One object, no elements. -/
theorem InvN.make1 (I : InvN B.obj.length B K) {op : Opn} (hop : op.Ok) {W v : Nat} (hh : op.h < B.obj.length) (hd : B.dd op.h = false) (hi' : op.i < nslots (B.o op.h)) (hb : (K.at_ op.h).set.getD op.i false = false) (hD : B.dp op.h + 1 ≤ 8)
    (hW : B.A.length + W ≤ 256) (hn : B.obj.length + 1 ≤ 256) (hv : ¬ v = 0) {p : Ptr} (hs : Sh p) (hp : ¬ l7 p) (hat : p.at_ = B.A.length) (htop : hi p ≤ B.A.length + W) {B3 : Bld}
    (hB3 : ∃ a b on, B3 = growB (Bd.setA B (slotA (B.o op.h) op.i) v) W ∨ B3 = markB (growB (Bd.setA B (slotA (B.o op.h) op.i) v) W) a b on) (made : Ent) (hm : ({ made with depth := B.dp op.h + 1, up := op.h, via := op.i } : Ent) = ⟨false, p.kind, p.code, p.data, p.ptrs, p.count, B.dp op.h + 1, op.h, op.i, List.replicate (nslots p) false⟩) :
    InvN (B.obj.length + 1) (hangB B3 p op.h op.i (B.depth.getD op.h 0 + 1)) ⟨(K.putSet op.h ((K.at_ op.h).set.set op.i true)).e ++ [{ made with depth := B.dp op.h + 1, up := op.h, via := op.i }], B.A.length + W⟩ := by
  have I2 := (I.filled hh hi' hv hW).more (Nat.le_succ _)
  have I3 : InvN (B.obj.length + 1) B3 ⟨(K.putSet op.h ((K.at_ op.h).set.set op.i true)).e, B.A.length + W⟩ ∧ B3.obj = B.obj ∧ B3.dead = B.dead ∧ B3.up = B.up ∧ B3.via = B.via ∧ B3.A = B.A.set (slotA (B.o op.h) op.i) v ++ List.replicate W 0 := by
    obtain ⟨a, b, on, h | h⟩ := hB3
    · rw [h]; exact ⟨I2, rfl, rfl, rfl, rfl, rfl⟩
    · rw [h]; exact ⟨I2.mark a b on, rfl, rfl, rfl, rfl, rfl⟩
  obtain ⟨I3, e1, e2, e3, e4, e5⟩ := I3
  have oo : ∀ h, B3.o h = B.o h := fun h => same_o e1 h
  have lo' : lo p = B.A.length := by unfold lo; rw [if_neg (show ¬ (p.kind = 2 ∧ p.code = 7) from hp), hat]
  have hHK : op.h < K.e.length := by rw [I.n]; exact hh
  have hst : op.i < (K.at_ op.h).set.length := by rw [I.set _ hh]; exact hi'
  have hal : p.at_ ≤ 60000 := by rw [hat]; have := I.good.even.1.2; omega
  have := I3.push (p := p) (H := op.h) (i := op.i) (D := B.depth.getD op.h 0 + 1) (by rw [e1]; omega) (by rw [e1]; omega) hal hs hm
    (fun h hh' => by rw [e1] at hh'; rw [oo, lo']; exact I.top h hh') (by rw [e5]; simp; exact htop)
    (fun j hj => by
      rw [e5]
      refine getD_zeros ?_
      have := (slot_lt hs hj).1
      rw [List.length_set]
      omega)
    (fun h => absurd h hp)
    (fun h hh' hl => by
      rw [e1] at hh' ⊢
      rw [oo] at hl ⊢
      obtain ⟨x1, x2, _⟩ := I.els h hh' hl
      exact ⟨fun h' => by omega, fun _ => by rw [lo']; exact x2⟩)
    (by rw [e1]; exact hh) (by unfold Bld.dd; rw [e2]; exact hd) (by have : B.depth.getD op.h 0 = B.dp op.h := rfl; omega) hop.i hop.h
    (fun hl => by
      rw [oo] at hl ⊢
      refine ⟨hi', put_bit hHK hst true, fun h h0 hh' hd' hu hv' => ?_⟩
      rw [e1] at hh'
      exact I.empty hb hh hl h h0 hh' (by unfold Bld.dd at hd' ⊢; rw [e2] at hd'; exact hd') (by unfold Bld.upp at hu ⊢; rw [e3] at hu; exact hu) (by unfold Bld.vi at hv' ⊢; rw [e4] at hv'; exact hv'))
  exact this
end

theorem roomB_big {B : Bld} {x i W E : Nat} (h : 256 < B.A.length + W) : roomB B x i W E = none := by
  cases hr : roomB B x i W E with
  | none => rfl
  | some a => have := (roomB_lt hr).2.1; omega

theorem newStruct_step {B : Bld} {K : Bk} (I : Inv B K) {op : Opn} (hop : op.Ok) (hh : op.h < B.obj.length) (hd : B.dd op.h = false) :
    (newStructB B op).isSome = (if 8 < op.x ∨ 8 < op.y then none else makeK K op ⟨false, 1, 0, op.x, op.y, 0, 0, 0, 0, List.replicate op.y false⟩ (op.x + op.y) 0).isSome ∧
    Inv ((newStructB B op).getD B) ((if 8 < op.x ∨ 8 < op.y then none else makeK K op ⟨false, 1, 0, op.x, op.y, 0, 0, 0, 0, List.replicate op.y false⟩ (op.x + op.y) 0).getD K) := by
  have a1 := I.good.even.1
  unfold newStructB
  dsimp only
  by_cases h8 : 8 < op.x ∨ 8 < op.y
  · rw [if_pos h8]
    have hw : words ⟨1, B.A.length, op.x, op.y, 0, 0⟩ = 257 := by
      unfold words
      rw [if_neg (by simp), if_neg (by dsimp only; omega), if_pos (by simp)]
    rw [hw, roomB_big (by omega)]
    exact ⟨rfl, I⟩
  · rw [if_neg h8]
    have hw : words ⟨1, B.A.length, op.x, op.y, 0, 0⟩ = op.x + op.y := by
      unfold words
      rw [if_neg (by simp), if_pos ⟨rfl, by dsimp only; omega⟩]
    rw [hw]
    rcases I.room hop hh hd (op.x + op.y) 0 ⟨false, 1, 0, op.x, op.y, 0, 0, 0, 0, List.replicate op.y false⟩ with ⟨K', hK, hR, b1, b2, b3, b4, b5, hK'⟩ | ⟨hK, hR⟩
    · rw [hK, show (1 : Nat) = 1 + 0 from rfl, hR]
      refine ⟨rfl, ?_⟩
      have hsl := I.slot_top hh b1
      have := InvN.make1 (v := mkStruct (slotA (B.o op.h) op.i) B.A.length op.x op.y) (p := ⟨1, B.A.length, op.x, op.y, 0, 0⟩) (B3 := markB (growB (Bd.setA B (slotA (B.o op.h) op.i) (mkStruct (slotA (B.o op.h) op.i) B.A.length op.x op.y)) (op.x + op.y)) (B.A.length + op.x) op.y true) I hop hh hd b1 b2 b3 b4 (by omega) (mkStruct_ne (by omega) (by omega) (by omega) (by omega)) (.inl ⟨rfl, by dsimp only; omega, by dsimp only; omega, rfl, rfl⟩) (fun h => by cases h.1) rfl (by simp [hi]; omega) ⟨B.A.length + op.x, op.y, true, .inr rfl⟩ ⟨false, 1, 0, op.x, op.y, 0, 0, 0, 0, List.replicate op.y false⟩ rfl
      rw [hK']
      show InvN _ _ _
      have hl : (hangB (markB (growB (Bd.setA B (slotA (B.o op.h) op.i) (mkStruct (slotA (B.o op.h) op.i) B.A.length op.x op.y)) (op.x + op.y)) (B.A.length + op.x) op.y true) ⟨1, B.A.length, op.x, op.y, 0, 0⟩ op.h op.i (B.depth.getD op.h 0 + 1)).obj.length = B.obj.length + 1 := by simp [hangB, markB, growB, Bd.setA]
      show InvN (hangB (markB (growB (Bd.setA B (slotA (B.o op.h) op.i) (mkStruct (slotA (B.o op.h) op.i) B.A.length op.x op.y)) (op.x + op.y)) (B.A.length + op.x) op.y true) ⟨1, B.A.length, op.x, op.y, 0, 0⟩ op.h op.i (B.depth.getD op.h 0 + 1)).obj.length _ _
      rw [hl]
      exact this
    · rw [hK, show (1 : Nat) = 1 + 0 from rfl, hR]
      exact ⟨rfl, I⟩
end Go.Proofs.Ygcfaa
