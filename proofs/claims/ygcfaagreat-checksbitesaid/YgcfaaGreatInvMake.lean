import Derived.Test.YgcfaaGreatInvMk2
namespace Go.Proofs.YgcfaaGreat
open Go.RowKit Bits Bd
set_option linter.unusedVariables false

section
variable {B : Bld}
theorem slotN_lt {p : Ptr} {i a : Nat} (h : slotN p i = some a) : i < nsl p := by
  unfold slotN at h
  unfold nsl
  split at h
  · rename_i h1; rw [if_pos h1.1]; exact h1.2
  · split at h
    · rename_i h1 h2
      rw [if_neg (by omega), if_pos ⟨h2.1, h2.2.1⟩]; exact h2.2.2
    · cases h
theorem inv_slot_some (i : InvC B) {H I a : Nat} (hH : H < B.obj.length) (h : slotB B H I = some a) : I < nsl (B.o H) ∧ a = sAt (B.o H) I := by
  have hI : I < nsl (B.o H) := by
    unfold slotB at h
    split at h
    · cases h
    · rename_i a' ha'
      exact slotN_lt ha'
  have := inv_slotB i hH hI
  rw [h] at this
  exact ⟨hI, Option.some.inj this⟩
theorem inv_room (i : InvC B) {H I w n a : Nat} (hH : H < B.obj.length) (h : roomB B H I w n = some a) :
    I < nsl (B.o H) ∧ a = sAt (B.o H) I ∧ B.A.getD a 0 = 0 ∧ B.depth.getD H 0 < 8 ∧ B.A.length + w ≤ 256 ∧ B.obj.length + n ≤ 256 := by
  unfold roomB at h
  split at h
  · cases h
  · rename_i a' ha'
    split at h
    · rename_i hc
      cases h
      obtain ⟨h1, h2⟩ := inv_slot_some i hH ha'
      exact ⟨h1, h2, hc⟩
    · cases h
theorem mark_tb (ok : B.Ok) {a n : Nat} (hn : a + n ≤ 256) : (∀ x, tb (markB B a n true).slot x = true ↔ tb B.slot x = true ∨ (a ≤ x ∧ x < a + n)) ∧ (markB B a n true).slot.length = 4 ∧ ∀ j, (markB B a n true).slot.getD j 0 < 18446744073709551616 := by
  have e : (a + n) % 65536 - a = n := by omega
  have := tb_markGo true n a B.slot ok.four ok.slot hn
  unfold markB
  rw [e]
  refine ⟨fun x => ?_, this.2⟩
  show tb (markGo true n a B.slot) x = true ↔ _
  rw [this.1 x]
  split
  · rename_i h; exact ⟨fun _ => .inr h, fun _ => rfl⟩
  · rename_i h; exact ⟨fun h => .inl h, fun h1 => h1.resolve_right h⟩

theorem words_st (a x y : Nat) : words ⟨1, a, x, y, 0, 0⟩ = if x ≤ 8 ∧ y ≤ 8 then x + y else 257 := by
  unfold words
  dsimp only
  rw [if_neg (by omega)]
  by_cases h : x ≤ 8 ∧ y ≤ 8
  · rw [if_pos ⟨rfl, h⟩, if_pos h]
  · rw [if_neg (fun e => h e.2), if_neg h, if_pos (.inl (by omega))]
theorem words_li {a c n : Nat} (h7 : ¬ c = 7) (h : words ⟨2, a, 0, 0, c, n⟩ ≤ 256) : n ≤ 128 ∧ 2 ≤ c ∧ c ≤ 6 := by
  unfold words at h
  dsimp only at h
  rw [if_neg (by omega), if_neg (by omega)] at h
  split at h
  · omega
  · split at h
    · omega
    · split at h
      · omega
      · rw [if_neg (fun e => h7 e.1)] at h
        omega

theorem inv_newStruct (i : InvC B) (ok : B.Ok) {op : Opn} {B' : Bld} (hH : op.h < B.obj.length) (hd : B.dead.getD op.h false = false) (h : newStructB B op = some B') : InvC B' := by
  unfold newStructB at h
  dsimp only at h
  split at h
  · cases h
  · rename_i a ha
    cases h
    obtain ⟨r1, r2, r3, r4, r5, r6⟩ := inv_room i hH ha
    have hw : op.x ≤ 8 ∧ op.y ≤ 8 := by
      by_cases hc : op.x ≤ 8 ∧ op.y ≤ 8
      · exact hc
      · rw [words_st, if_neg hc] at r5
        omega
    have hww : words ⟨1, B.A.length, op.x, op.y, 0, 0⟩ = op.x + op.y := by
      rw [words_st, if_pos hw]
    obtain ⟨p, hp⟩ : ∃ p : Ptr, p = ⟨1, B.A.length, op.x, op.y, 0, 0⟩ := ⟨_, rfl⟩
    obtain ⟨W, hW⟩ : ∃ W, W = mkStruct a B.A.length op.x op.y := ⟨_, rfl⟩
    have hpW : ptrW a p = W := by
      rw [hp, hW]; unfold ptrW; rw [if_pos rfl]
    have hpn : nsl p = op.y := by rw [hp]; unfold nsl; rw [if_pos rfl]
    have hps : ∀ k, sAt p k = B.A.length + op.x + k := fun k => by rw [hp]; unfold sAt; rw [if_pos rfl]
    have hg : GoodP p := by rw [hp]; exact .inl ⟨rfl, hw.1, hw.2, rfl, rfl⟩
    have hS : ¬ isSt p := by rw [hp]; exact fun h => absurd h.1 (show ¬ (1 : Nat) = 2 by decide)
    have hpa : p.at_ = B.A.length := by rw [hp]
    rw [← hp] at hww r5 ⊢
    rw [← hW]
    clear hW hp
    obtain ⟨e1, e2, e3, e4⟩ := i.even.2.2
    have hal : a < B.A.length := by rw [r2]; exact inv_slot_lt i hH r1
    have hmk := mark_tb ok (a := B.A.length + op.x) (n := op.y) (by omega)
    have hap := apnd_hang (B := B) ⟨e1, e2, e3, e4⟩ p op.h op.i (B.depth.getD op.h 0 + 1)
    have hev1 := i.even.1
    have hev2 := i.even.2.1
    have hA : ∀ y, (growB (setA B a W) (words p)).A.getD y 0 = if y = a then ptrW a p else B.A.getD y 0 := fun y => by
      simp only [growB, setA]
      rw [getD_grow]
      by_cases hy : y = a
      · subst hy; rw [if_pos rfl, getD_set_eq hal, hpW]
      · rw [if_neg hy, getD_set_ne (fun h => hy h.symm)]
    refine inv_mk1 i hH hd r1 r2 r3 r4 (p := p) ⟨?_, ?_, ?_⟩ hg hS hpa ⟨hap.len, hap.old, hap.new⟩ ?_ hA ?_
    · simp only [hangB, markB, growB, setA, List.length_append, List.length_set, List.length_replicate]; omega
    · simp only [hangB, markB, growB, setA, List.length_append, List.length_singleton]; omega
    · simp only [hangB, markB, growB, setA, List.length_append, List.length_singleton]; omega
    · simp only [hangB, markB, growB, setA, List.length_append, List.length_set, List.length_replicate]
    · intro x hx
      refine (hmk.1 x).trans (or_congr Iff.rfl ⟨fun h => ⟨x - (B.A.length + op.x), by rw [hpn]; omega, by rw [hps]; omega⟩, ?_⟩)
      rintro ⟨k, k1, k2⟩
      rw [hpn] at k1
      rw [hps] at k2
      omega

theorem inv_newList (i : InvC B) (ok : B.Ok) {op : Opn} {B' : Bld} (h7 : ¬ op.x = 7) (hH : op.h < B.obj.length) (hd : B.dead.getD op.h false = false) (h : newListB B op = some B') : InvC B' := by
  unfold newListB at h
  rw [if_neg h7] at h
  dsimp only at h
  split at h
  · cases h
  · rename_i a ha
    cases h
    obtain ⟨r1, r2, r3, r4, r5, r6⟩ := inv_room i hH ha
    obtain ⟨p, hp⟩ : ∃ p : Ptr, p = ⟨2, B.A.length, 0, 0, op.x, op.n⟩ := ⟨_, rfl⟩
    have hg : GoodP p := by
      refine .inr (.inl ?_)
      rw [hp]
      dsimp only
      have := words_li h7 (show words ⟨2, B.A.length, 0, 0, op.x, op.n⟩ ≤ 256 by omega)
      omega
    have hS : ¬ isSt p := fun hs => by rw [hp] at hs; exact h7 hs.2
    have hpa : p.at_ = B.A.length := by rw [hp]
    have hpW : ptrW a p = mkList a B.A.length op.x op.n := by
      rw [hp]; unfold ptrW; dsimp only; rw [if_neg (by omega), if_neg h7]
    have hpn : nsl p = if op.x = 6 then op.n else 0 := by
      rw [hp]; unfold nsl; dsimp only; rw [if_neg (by omega)]; simp
    have hps : ∀ k, sAt p k = B.A.length + k := fun k => by rw [hp]; unfold sAt; dsimp only; rw [if_neg (by omega)]
    have hp6 : op.x = 6 → words p = op.n := fun h6 => by
      have := (good_words hg).2.2 (by rw [hp]) (by rw [hp]; exact h6)
      rw [this, hp]
    rw [← hp] at r5 ⊢
    obtain ⟨e1, e2, e3, e4⟩ := i.even.2.2
    have hal : a < B.A.length := by rw [r2]; exact inv_slot_lt i hH r1
    have hap := apnd_hang (B := B) ⟨e1, e2, e3, e4⟩ p op.h op.i (B.depth.getD op.h 0 + 1)
    have hev1 := i.even.1
    have hev2 := i.even.2.1
    have hA : ∀ y, (growB (setA B a (mkList a B.A.length op.x op.n)) (words p)).A.getD y 0 = if y = a then ptrW a p else B.A.getD y 0 := fun y => by
      simp only [growB, setA]
      rw [getD_grow]
      by_cases hy : y = a
      · subst hy; rw [if_pos rfl, getD_set_eq hal, hpW]
      · rw [if_neg hy, getD_set_ne (fun h => hy h.symm)]
    by_cases h6 : op.x = 6
    · rw [if_pos h6]
      rw [if_pos h6] at hpn
      have hmk := mark_tb ok (a := B.A.length) (n := op.n) (by rw [hp6 h6] at r5; exact r5)
      refine inv_mk1 i hH hd r1 r2 r3 r4 (p := p) ⟨?_, ?_, ?_⟩ hg hS hpa ⟨hap.len, hap.old, hap.new⟩ ?_ hA ?_
      · simp only [hangB, markB, growB, setA, List.length_append, List.length_set, List.length_replicate]; omega
      · simp only [hangB, markB, growB, setA, List.length_append, List.length_singleton]; omega
      · simp only [hangB, markB, growB, setA, List.length_append, List.length_singleton]; omega
      · simp only [hangB, markB, growB, setA, List.length_append, List.length_set, List.length_replicate]
      · intro x hx
        refine (hmk.1 x).trans (or_congr Iff.rfl ⟨fun h => ⟨x - B.A.length, by rw [hpn]; omega, by rw [hps]; omega⟩, ?_⟩)
        rintro ⟨k, k1, k2⟩
        rw [hpn] at k1
        rw [hps] at k2
        omega
    · rw [if_neg h6]
      rw [if_neg h6] at hpn
      refine inv_mk1 i hH hd r1 r2 r3 r4 (p := p) ⟨?_, ?_, ?_⟩ hg hS hpa ⟨hap.len, hap.old, hap.new⟩ ?_ hA ?_
      · simp only [hangB, growB, setA, List.length_append, List.length_set, List.length_replicate]; omega
      · simp only [hangB, growB, setA, List.length_append, List.length_singleton]; omega
      · simp only [hangB, growB, setA, List.length_append, List.length_singleton]; omega
      · simp only [hangB, growB, setA, List.length_append, List.length_set, List.length_replicate]
      · intro x hx
        refine ⟨fun h => .inl h, fun h => h.resolve_right ?_⟩
        rintro ⟨k, k1, k2⟩
        rw [hpn] at k1; omega
end
end Go.Proofs.YgcfaaGreat
