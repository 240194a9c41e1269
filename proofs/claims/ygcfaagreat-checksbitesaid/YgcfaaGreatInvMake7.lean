import Derived.Test.YgcfaaGreatInvMk7
import Derived.Test.YgcfaaGreatInvMake
namespace Go.Proofs.YgcfaaGreat
open Go.RowKit Bits Bd
set_option linter.unusedVariables false

section
variable {B : Bld}
theorem inv_newStructs (i : InvC B) (ok : B.Ok) {op : Opn} {B' : Bld} (hH : op.h < B.obj.length) (hd : B.dead.getD op.h false = false) (h : newStructsB B op = some B') : InvC B' := by
  unfold newStructsB at h
  dsimp only at h
  obtain ⟨d, hd'⟩ : ∃ d, d = op.y / 16 := ⟨_, rfl⟩
  obtain ⟨q, hq'⟩ : ∃ q, q = op.y % 16 := ⟨_, rfl⟩
  rw [← hd', ← hq'] at h
  split at h
  · cases h
  · rename_i hz
    split at h
    · cases h
    · rename_i a ha
      cases h
      obtain ⟨r1, r2, r3, r4, r5, r6⟩ := inv_room i hH ha
      obtain ⟨p, hp⟩ : ∃ p : Ptr, p = ⟨2, B.A.length + 1, d, q, 7, op.n⟩ := ⟨_, rfl⟩
      have h12 : op.n ≤ 128 ∧ d ≤ 8 ∧ q ≤ 8 := by
        by_cases hc : op.n ≤ 128 ∧ d ≤ 8 ∧ q ≤ 8
        · exact hc
        · unfold words at r5
          dsimp only at r5
          rw [if_neg (by omega), if_neg (by omega)] at r5
          split at r5
          · omega
          · rw [if_neg (by omega), if_neg (by omega), if_neg (by omega)] at r5
            omega
      have h2 := h12.2
      have h1 := h12.1
      have hg : GoodP p := by
        refine .inr (.inr ?_)
        rw [hp]
        dsimp only
        omega
      have hS : isSt p := by rw [hp]; exact ⟨rfl, rfl⟩
      rw [← hp] at r5 ⊢
      have hw : words p = 1 + op.n * (d + q) := by
        have := (good_words hg).2.1 hS
        rw [this]
        rw [this] at r5
        have e : p.count * (p.data + p.ptrs) = op.n * (d + q) := by rw [hp]
        rw [e] at r5 ⊢
        omega
      have hal : a < B.A.length := by rw [r2]; exact inv_slot_lt i hH r1
      obtain ⟨W, hW⟩ : ∃ W, W = mkList a B.A.length 7 (op.n * (d + q)) := ⟨_, rfl⟩
      obtain ⟨T, hT⟩ : ∃ T, T = mkTag op.n d q := ⟨_, rfl⟩
      rw [← hW, ← hT]
      obtain ⟨C, hC⟩ : ∃ C, C = hangB (setA (growB (setA B a W) (words p)) B.A.length T) p op.h op.i (B.depth.getD op.h 0 + 1) := ⟨_, rfl⟩
      rw [← hC]
      have hl := i.even.2.2
      obtain ⟨e1, e2, e3, e4⟩ := i.even.2.2
      have hap := apnd_hang (B := B) hl p op.h op.i (B.depth.getD op.h 0 + 1)
      have hCap : Apnd B C p op.h op.i (B.depth.getD op.h 0 + 1) := by rw [hC]; exact ⟨hap.len, hap.old, hap.new⟩
      have hCs : C.slot = B.slot := by rw [hC]; rfl
      have hCl : C.up.length = C.obj.length ∧ C.via.length = C.obj.length ∧ C.depth.length = C.obj.length ∧ C.dead.length = C.obj.length := by
        rw [hC]; simp only [hangB, growB, setA, List.length_append, List.length_singleton]; omega
      have hCA : C.A.length = B.A.length + words p := by
        rw [hC]; simp only [hangB, growB, setA, List.length_append, List.length_set, List.length_replicate]
      have hCg : ∀ y, C.A.getD y 0 = if y = a then W else if y = B.A.length then T else B.A.getD y 0 := fun y => by
        have : C.A = ((B.A.set a W) ++ List.replicate (words p) 0).set B.A.length T := by rw [hC]; rfl
        rw [this]
        by_cases hy : y = a
        · subst hy
          rw [if_pos rfl, getD_set_ne (by omega), getD_grow, getD_set_eq hal]
        · rw [if_neg hy]
          by_cases hz : y = B.A.length
          · subst hz
            rw [if_pos rfl, getD_set_eq (by simp only [List.length_append, List.length_set, List.length_replicate]; omega)]
          · rw [if_neg hz, getD_set_ne (fun h => hz h.symm), getD_grow, getD_set_ne (fun h => hy h.symm)]
      have hlen := hCap.len
      have hsp := elems_spec B.obj.length d q (B.depth.getD op.h 0 + 1) op.n 0 (B.A.length + 1) C hCl (by rw [hCs]; exact ok.four) (by rw [hCs]; exact ok.slot) (by omega)
      dsimp only at hsp
      obtain ⟨s1, s2, s3, s4, s5, s6⟩ := hsp
      have hpc : p.count = op.n ∧ p.data = d ∧ p.ptrs = q ∧ p.at_ = B.A.length + 1 := by rw [hp]; exact ⟨rfl, rfl, rfl, rfl⟩
      have hev1 := i.even.1
      have hev2 := i.even.2.1
      refine inv_mk7 i hH hd r1 r2 r3 r4 (p := p) ⟨?_, ?_, s3⟩ hg hS hpc.2.2.2 ⟨?_, fun h hh => ?_, ?_, fun j hj => ?_⟩ ?_ (fun y => ?_) (fun x hx => ?_)
      · rw [s1, hCA]; omega
      · rw [s2, hlen]; omega
      · rw [s2, hlen, hpc.1]
      · have a1 := s4 h (by omega)
        rw [a1.1, a1.2.1, a1.2.2.1, a1.2.2.2.1, a1.2.2.2.2]; exact hCap.old h hh
      · have a1 := s4 B.obj.length (by omega)
        rw [a1.1, a1.2.1, a1.2.2.1, a1.2.2.2.1, a1.2.2.2.2]; exact hCap.new
      · rw [hpc.1] at hj
        have := s5 j hj
        rw [hlen, Nat.zero_add] at this
        rw [hpc.2.1, hpc.2.2.1, hpc.2.2.2]
        exact this
      · rw [s1, hCA]
      · rw [s1, hCg, hpc.1, hpc.2.1, hpc.2.2.1, ← hT]
        have : ptrW a p = W := by
          unfold ptrW
          rw [if_neg (by have := hS.1; omega), if_pos hS.2, hpc.1, hpc.2.1, hpc.2.2.1, hpc.2.2.2, hW]
          rfl
        rw [this]
      · rw [s6 x, hCs, hpc.1, hpc.2.1, hpc.2.2.1, hpc.2.2.2]

theorem inv_newList7 (i : InvC B) (ok : B.Ok) {op : Opn} {B' : Bld} (hH : op.h < B.obj.length) (hd : B.dead.getD op.h false = false) (h : newListB B op = some B') : InvC B' := by
  by_cases h7 : op.x = 7
  · unfold newListB at h
    rw [if_pos h7] at h
    exact inv_newStructs i ok hH hd h
  · exact inv_newList i ok h7 hH hd h

theorem inv_bytesGo (z : Nat → Nat) (hz : ∀ k, z k < 256) (H to c : Nat) : ∀ (k m : Nat) (B : Bld), InvC B → 1 ≤ H → H < B.obj.length → B.dead.getD H false = false → B.o H = ⟨2, to, 0, 0, 2, c⟩ → m + k ≤ c → InvC (bytesGo z to k m B)
  | 0, m, B, i, h1, hn, hd, ho, hc => i
  | k + 1, m, B, i, h1, hn, hd, ho, hc => by
    rw [bytesGo]
    have := inv_byte i (j := m) (z := z m) h1 hn hd (by rw [ho]) (by rw [ho]) (by rw [ho]; show m < c; omega) (hz m)
    rw [ho] at this
    exact inv_bytesGo z hz H to c k (m + 1) _ this h1 hn hd ho (by omega)

theorem newList_new {op : Opn} {B' : Bld} (hl : B.dead.length = B.obj.length) (h7 : ¬ op.x = 7) (h : newListB B op = some B') : B'.obj.length = B.obj.length + 1 ∧ B'.o B.obj.length = ⟨2, B.A.length, 0, 0, op.x, op.n⟩ ∧ B'.dead.getD B.obj.length false = false := by
  unfold newListB at h
  rw [if_neg h7] at h
  dsimp only at h
  split at h
  · cases h
  · rename_i a ha
    cases h
    have hx : ∀ C : Bld, C.obj = B.obj → C.dead = B.dead → ∀ (p : Ptr) (u v d : Nat), (hangB C p u v d).obj.length = B.obj.length + 1 ∧ (hangB C p u v d).o B.obj.length = p ∧ (hangB C p u v d).dead.getD B.obj.length false = false := fun C e1 e2 p u v d => by
      refine ⟨by simp [hangB, e1], ?_, ?_⟩
      · simp only [Bld.o, hangB, e1]; exact getD_app_new
      · simp only [hangB, e2, ← hl]; exact getD_app_new
    by_cases h6 : op.x = 6
    · rw [if_pos h6]
      exact hx (markB (growB (setA B a (mkList a B.A.length op.x op.n)) (words ⟨2, B.A.length, 0, 0, op.x, op.n⟩)) B.A.length op.n true) rfl rfl ⟨2, B.A.length, 0, 0, op.x, op.n⟩ op.h op.i (B.depth.getD op.h 0 + 1)
    · rw [if_neg h6]
      exact hx (growB (setA B a (mkList a B.A.length op.x op.n)) (words ⟨2, B.A.length, 0, 0, op.x, op.n⟩)) rfl rfl ⟨2, B.A.length, 0, 0, op.x, op.n⟩ op.h op.i (B.depth.getD op.h 0 + 1)

theorem inv_setText (i : InvC B) (ok : B.Ok) {op : Opn} {c : Bool} {z : Nat → Nat} {B' : Bld} (hz : ∀ k, z k < 256) (hH : op.h < B.obj.length) (hd : B.dead.getD op.h false = false) (h : setTextB B op c z = some B') : InvC B' := by
  unfold setTextB at h
  split at h
  · split at h
    · cases h
    · rename_i B1 hB1
      cases h
      have i1 := inv_newList (op := ⟨1, op.h, op.i, 2, 0, op.s.size + 1, 0, ByteArray.empty⟩) i ok (show ¬ (2 : Nat) = 7 by decide) hH hd hB1
      obtain ⟨n1, n2, n3⟩ := newList_new (op := ⟨1, op.h, op.i, 2, 0, op.s.size + 1, 0, ByteArray.empty⟩) i.even.2.2.2.2.2 (show ¬ (2 : Nat) = 7 by decide) hB1
      exact inv_bytesGo z hz B.obj.length B.A.length (op.s.size + 1) _ _ B1 i1 i.even.2.1.1 (by omega) n3 n2 (by omega)
  · cases h
end
end Go.Proofs.YgcfaaGreat
