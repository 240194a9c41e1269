import Derived.Test.YgcfaaDo
import Derived.Test.YgcfaaNew
namespace Go.Proofs.Ygcfaa
open Go.RowKit Bits Bd Utf
set_option linter.unusedVariables false

theorem hangB_at {B : Bld} {q : Ptr} {u v d : Nat} (hB : ∀ x, (B.o x).at_ ≤ 60000) (hq : q.at_ ≤ 60000) (x : Nat) : ((hangB B q u v d).o x).at_ ≤ 60000 := by
  have h0 := hB x
  simp only [hangB, Bld.o, List.getD_eq_getElem?_getD, List.getElem?_append] at h0 ⊢
  split
  · exact h0
  · rcases Nat.lt_or_ge (x - B.obj.length) 1 with h1 | h1
    · rw [show x - B.obj.length = 0 by omega]; simpa using hq
    · rw [List.getElem?_eq_none (by simpa using h1)]
      simp [zeroPtr]
theorem same_o {B B' : Bld} (h : B'.obj = B.obj) (x : Nat) : B'.o x = B.o x := by unfold Bld.o; rw [h]

/-- What a taken Op that is no Drop leaves: handles are in step, objects low, words below the old end as they were but for word a. -/
structure Grew (B B' : Bld) (a : Nat) : Prop where
  good : Good B'
  len : B.A.length ≤ B'.A.length
  words : ∀ i, i < B.A.length → i ≠ a → B'.A.getD i 0 = B.A.getD i 0

theorem getD_set_ne' {l : List Nat} {a v i : Nat} (h : i ≠ a) : (l.set a v).getD i 0 = l.getD i 0 := by
  rw [List.getD_eq_getElem?_getD, List.getElem?_set_ne (Ne.symm h), ← List.getD_eq_getElem?_getD]
theorem getD_app {l r : List Nat} {i : Nat} (h : i < l.length) : (l ++ r).getD i 0 = l.getD i 0 := by
  rw [List.getD_eq_getElem?_getD, List.getElem?_append_left h, ← List.getD_eq_getElem?_getD]

theorem newStruct_grew {B B' : Bld} {op : Opn} (hG : Good B) (h : newStructB B op = some B') : ∃ a, slotB B op.h op.i = some a ∧ Grew B B' a := by
  unfold newStructB at h
  dsimp only at h
  split at h
  · cases h
  · rename_i a ha
    obtain ⟨r1, r2, r3, r4, r5⟩ := roomB_lt ha
    cases h
    obtain ⟨⟨a1, a2⟩, ⟨a3, a4⟩, a5, a6, a7, a8⟩ := hG.even
    refine ⟨a, ?_, ⟨⟨?_, ?_⟩, ?_, ?_⟩⟩
    · unfold roomB at ha
      split at ha
      · cases ha
      · rename_i b hb
        split at ha
        · rw [← ha]; exact hb
        · cases ha
    · simp [evenP, hangB, markB, growB, setA]
      omega
    · exact hangB_at (fun x => hG.at_ x) (by dsimp only; omega)
    · simp [hangB, markB, growB, setA]
    · intro i hi hne
      simp only [hangB, markB, growB, setA]
      rw [getD_app (by simpa using hi), getD_set_ne' hne]
theorem roomB_slot {B : Bld} {x i m n a : Nat} (ha : roomB B x i m n = some a) : slotB B x i = some a := by
  unfold roomB at ha
  split at ha
  · cases ha
  · rename_i b hb
    split at ha
    · rw [← ha]; exact hb
    · cases ha
theorem elems_A (L d t D : Nat) : ∀ (k i a : Nat) (B : Bld), (elems L d t D k i a B).A = B.A
  | 0, _, _, _ => rfl
  | k + 1, i, a, B => by rw [elems, elems_A L d t D k]; rfl
theorem elems_at (L d t D : Nat) : ∀ (k i a : Nat) (B : Bld), (∀ x, (B.o x).at_ ≤ 60000) → a + k * (d + t) ≤ 60000 → ∀ x, ((elems L d t D k i a B).o x).at_ ≤ 60000
  | 0, _, _, _, h, _, x => h x
  | k + 1, i, a, B, h, hk, x => by
    rw [elems]
    rw [Nat.succ_mul] at hk
    exact elems_at L d t D k (i + 1) (a + (d + t)) _ (hangB_at (B := markB B (a + d) t true) (q := ⟨1, a, d, t, 0, 0⟩) (fun x => h x) (show a ≤ 60000 by omega)) (by omega) x
theorem newStructs_grew {B B' : Bld} {op : Opn} (hG : Good B) (h : newStructsB B op = some B') : ∃ a, slotB B op.h op.i = some a ∧ Grew B B' a := by
  unfold newStructsB at h
  dsimp only at h
  split at h
  · cases h
  split at h
  · cases h
  · rename_i a ha
    obtain ⟨r1, r2, r3, r4, r5⟩ := roomB_lt ha
    cases h
    obtain ⟨⟨a1, a2⟩, ⟨a3, a4⟩, a5, a6, a7, a8⟩ := hG.even
    obtain ⟨w1, w2, w3, w4⟩ := words7 (a := B.A.length + 1) (d := op.y / 16) (t := op.y % 16) (n := op.n) (by omega)
    rw [w4] at r2 ⊢
    have hl := elems_len B.obj.length (op.y / 16) (op.y % 16) (B.depth.getD op.h 0 + 1) op.n 0 (B.A.length + 1) (hangB (setA (growB (setA B a (mkList a B.A.length 7 (op.n * (op.y / 16 + op.y % 16)))) (1 + op.n * (op.y / 16 + op.y % 16))) B.A.length (mkTag op.n (op.y / 16) (op.y % 16))) ⟨2, B.A.length + 1, op.y / 16, op.y % 16, 7, op.n⟩ op.h op.i (B.depth.getD op.h 0 + 1))
    refine ⟨a, roomB_slot ha, ⟨⟨?_, ?_⟩, ?_, ?_⟩⟩
    · simp [hangB, growB, setA] at hl
      simp [evenP, elems_A, hangB, growB, setA, hl]
      omega
    · refine elems_at _ _ _ _ _ _ _ _ (hangB_at (fun x => hG.at_ x) (by dsimp only; omega)) (by omega)
    · simp [elems_A, hangB, growB, setA]
    · intro i hi hne
      simp only [elems_A, hangB, growB, setA]
      rw [getD_set_ne' (by omega), getD_app (by simpa using hi), getD_set_ne' hne]
theorem newList_grew {B B' : Bld} {op : Opn} (hG : Good B) (h : newListB B op = some B') : ∃ a, slotB B op.h op.i = some a ∧ Grew B B' a := by
  unfold newListB at h
  split at h
  · exact newStructs_grew hG h
  dsimp only at h
  split at h
  · cases h
  · rename_i a ha
    obtain ⟨r1, r2, r3, r4, r5⟩ := roomB_lt ha
    cases h
    obtain ⟨⟨a1, a2⟩, ⟨a3, a4⟩, a5, a6, a7, a8⟩ := hG.even
    have e : ∀ (b : Bool) (X : Bld) (n : Nat), (if b = true then markB X B.A.length n true else X).A = X.A ∧ (if b = true then markB X B.A.length n true else X).obj = X.obj ∧ (if b = true then markB X B.A.length n true else X).up = X.up ∧ (if b = true then markB X B.A.length n true else X).via = X.via ∧ (if b = true then markB X B.A.length n true else X).depth = X.depth ∧ (if b = true then markB X B.A.length n true else X).dead = X.dead := by
      intro b X n
      cases b <;> exact ⟨rfl, rfl, rfl, rfl, rfl, rfl⟩
    have e2 := e (decide (op.x = 6)) (growB (setA B a (mkList a B.A.length op.x op.n)) (words ⟨2, B.A.length, 0, 0, op.x, op.n⟩)) op.n
    simp only [decide_eq_true_eq] at e2
    obtain ⟨e3, e4, e5, e6, e7, e8⟩ := e2
    generalize (if op.x = 6 then _ else _) = X at *
    refine ⟨a, roomB_slot ha, ⟨⟨?_, ?_⟩, ?_, ?_⟩⟩
    · simp [evenP, hangB, e3, e4, e5, e6, e7, e8, growB, setA]
      omega
    · exact hangB_at (fun x => by rw [same_o e4]; exact hG.at_ x) (by dsimp only; omega)
    · simp [hangB, e3, growB, setA]
    · intro i hi hne
      simp only [hangB, e3, growB, setA]
      rw [getD_app (by simpa using hi), getD_set_ne' hne]
theorem bytesGo_rest (z : Nat → Nat) (to : Nat) : ∀ (k i : Nat) (B : Bld), (bytesGo z to k i B).obj = B.obj ∧ (bytesGo z to k i B).up = B.up ∧ (bytesGo z to k i B).via = B.via ∧ (bytesGo z to k i B).depth = B.depth ∧ (bytesGo z to k i B).dead = B.dead ∧ (∀ j, j < to → (bytesGo z to k i B).A.getD j 0 = B.A.getD j 0)
  | 0, i, B => ⟨rfl, rfl, rfl, rfl, rfl, fun _ _ => rfl⟩
  | k + 1, i, B => by
    rw [bytesGo]
    obtain ⟨h1, h2, h3, h4, h5, h6⟩ := bytesGo_rest z to k (i + 1) (setA B (to + i / 8) (B.A.getD (to + i / 8) 0 ||| z i * 2 ^ (i % 8 * 8)))
    refine ⟨h1, h2, h3, h4, h5, fun j hj => ?_⟩
    rw [h6 j hj]
    exact getD_set_ne' (by omega)
theorem setText_grew {B B' : Bld} {op : Opn} {c : Bool} {z : Nat → Nat} (hG : Good B) (h : setTextB B op c z = some B') : ∃ a, slotB B op.h op.i = some a ∧ Grew B B' a := by
  unfold setTextB at h
  split at h
  · split at h
    · cases h
    · rename_i B1 h1
      obtain ⟨a, ha, g1, g2, g3⟩ := newList_grew hG h1
      cases h
      obtain ⟨b1, b2, b3, b4, b5, b6⟩ := bytesGo_rest z B.A.length op.s.size 0 B1
      have b7 := bytesGo_len z B.A.length op.s.size 0 B1
      refine ⟨a, ha, ⟨⟨?_, ?_⟩, ?_, ?_⟩⟩
      · have := g1.even
        simp only [evenP, b1, b2, b3, b4, b5, b7] at this ⊢
        exact this
      · intro x; rw [same_o b1]; exact g1.at_ x
      · rw [b7]; exact g2
      · intro i hi hne
        rw [b6 i hi]
        exact g3 i hi hne
  · cases h
theorem setA_good {B : Bld} (hG : Good B) (a v : Nat) : Good (setA B a v) := by
  refine ⟨?_, fun x => hG.at_ x⟩
  have := hG.even
  simp only [evenP, setA, List.length_set] at this ⊢
  exact this
theorem setA_grew {B : Bld} (hG : Good B) (a v : Nat) : Grew B (setA B a v) a :=
  ⟨setA_good hG a v, by simp [setA], fun i hi hne => getD_set_ne' hne⟩
theorem drop_good {B B' : Bld} {op : Opn} (hG : Good B) (h : dropB B op = some B') : Good B' ∧ B'.A.length = B.A.length := by
  unfold dropB at h
  split at h
  · cases h
  split at h
  · cases h
  · cases h
    obtain ⟨s1, s2, s3, s4, s5, s6⟩ := (dropGo_same op.h op.i (B.obj.length - 1) 1 ⟨false, List.replicate 256 false, B⟩).1
    have := hG.even
    generalize (dropGo op.h op.i (B.obj.length - 1) 1 ⟨false, List.replicate 256 false, B⟩).B = X at *
    dsimp only at s1 s2 s3 s4 s5 s6
    refine ⟨⟨?_, ?_⟩, ?_⟩
    · simp only [evenP, setA, List.length_set] at this ⊢
      rw [s1, s2, s3, s4, s5, s6]
      exact this
    · intro x
      rw [same_o (B := B) (B' := setA X _ 0) s2]
      exact hG.at_ x
    · simp only [setA, List.length_set]
      exact s1

/-- Where may's word and mask lie. -/
structure MayIs (q : Ptr) (op : Opn) (a m : Nat) : Prop where
  slot : op.kind ≠ 3 → op.kind ≠ 4 → (q.kind = 1 ∨ q.kind = 2) ∧ a = q.at_ + (if q.kind = 1 then q.data else 0) + op.i ∧ m = 18446744073709551615
  data : op.kind = 3 → (op.x = 0 ∨ op.x = 3 ∨ op.x = 4 ∨ op.x = 5 ∨ op.x = 6) ∧ a = q.at_ + op.n * 2 ^ op.x / 64 ∧ m = ones (2 ^ op.x) (op.n * 2 ^ op.x % 64)
  elem : op.kind = 4 → (q.code = 2 ∨ q.code = 3 ∨ q.code = 4 ∨ q.code = 5) ∧ a = q.at_ + op.n * width q.code / 8 ∧ m = ones (width q.code * 8) (op.n * width q.code % 8 * 8)

/-- x and y differ in the mask's bits only. -/
def InMask (x y m : Nat) : Prop := (x ^^^ y) &&& (18446744073709551615 - m) = 0
theorem inMask_full {x y : Nat} : InMask x y 18446744073709551615 := by unfold InMask; simp
theorem inMask_put {x v a n : Nat} (hx : x < 18446744073709551616) (h : a + n ≤ 64) : InMask x (putN x v a n) (ones n a) := by
  unfold InMask
  apply Nat.eq_of_testBit_eq
  intro i
  rw [Nat.testBit_and, Nat.testBit_xor, comp_testBit _ _ (ones_lt h), putN_testBit _ _ _ _ _ hx h, ones_testBit, Nat.zero_testBit]
  by_cases hi : a ≤ i ∧ i < a + n
  · simp [hi]
  · simp [hi]

theorem slot_may {B : Bld} {op : Opn} {a : Nat} (hop : op.Ok) (hok : (B.o op.h).Ok) (hat : (B.o op.h).at_ ≤ 60000) (h : slotB B op.h op.i = some a) :
    ((B.o op.h).kind = 1 ∨ (B.o op.h).kind = 2) ∧ a = (B.o op.h).at_ + (if (B.o op.h).kind = 1 then (B.o op.h).data else 0) + op.i := by
  unfold slotB at h
  generalize B.o op.h = q at *
  obtain ⟨q1, q2, q3, q4, q5, q6⟩ := hok
  have := hop.i
  split at h
  · cases h
  · rename_i b hb
    split at h
    · cases h
      unfold slotN at hb
      split at hb
      · rename_i h1
        cases hb
        refine ⟨.inl h1.1, ?_⟩
        rw [if_pos h1.1]
        omega
      · split at hb
        · rename_i h1
          cases hb
          refine ⟨.inr h1.1, ?_⟩
          rw [if_neg (by omega)]
          omega
        · cases hb
    · cases h

theorem grows {B B' : Bld} {op : Opn} {c1 c2 : Bool} (hop : op.Ok) (ok : B.Ok) (hG : Good B) (h5 : op.kind ≠ 5) (h : doB B op c1 c2 = some B') :
    ∃ a m, MayIs (B.o op.h) op a m ∧ Grew B B' a ∧ InMask (B.A.getD a 0) (B'.A.getD a 0) m ∧ op.h < B.obj.length := by
  unfold doB at h
  split at h
  · rename_i hlive
    have hok := ok.obj op.h
    change (B.o op.h).Ok at hok
    have hat := hG.at_ op.h
    have fin : ∀ a, op.kind ≠ 3 → op.kind ≠ 4 → slotB B op.h op.i = some a → Grew B B' a → ∃ a m, MayIs (B.o op.h) op a m ∧ Grew B B' a ∧ InMask (B.A.getD a 0) (B'.A.getD a 0) m ∧ op.h < B.obj.length := by
      intro a n3 n4 hs hg
      obtain ⟨e1, e2⟩ := slot_may hop hok hat hs
      exact ⟨a, _, ⟨fun _ _ => ⟨e1, e2, rfl⟩, fun e => absurd e n3, fun e => absurd e n4⟩, hg, inMask_full, hlive.1⟩
    split at h
    · obtain ⟨a, ha, g⟩ := newStruct_grew hG h
      exact fin a (by omega) (by omega) ha g
    split at h
    · obtain ⟨a, ha, g⟩ := newList_grew hG h
      exact fin a (by omega) (by omega) ha g
    split at h
    · obtain ⟨a, ha, g⟩ := setText_grew hG h
      exact fin a (by omega) (by omega) ha g
    split at h
    · rename_i k3
      unfold setDataB at h
      dsimp only at h
      split at h
      · cases h
      rename_i h1
      split at h
      · cases h
      rename_i h2
      cases h
      have hx : op.x = 0 ∨ op.x = 3 ∨ op.x = 4 ∨ op.x = 5 ∨ op.x = 6 := by omega
      refine ⟨_, _, ⟨fun e => absurd k3 e, fun _ => ⟨hx, rfl, rfl⟩, fun e => by omega⟩, setA_grew hG _ _, ?_, hlive.1⟩
      have hA := ok.A ((B.o op.h).at_ + op.n * 2 ^ op.x / 64)
      have e : (setA B ((B.o op.h).at_ + op.n * 2 ^ op.x / 64) (putN (B.A.getD ((B.o op.h).at_ + op.n * 2 ^ op.x / 64) 0) op.v (op.n * 2 ^ op.x % 64) (2 ^ op.x))).A.getD ((B.o op.h).at_ + op.n * 2 ^ op.x / 64) 0 = putN (B.A.getD ((B.o op.h).at_ + op.n * 2 ^ op.x / 64) 0) op.v (op.n * 2 ^ op.x % 64) (2 ^ op.x) := by
        simp only [setA]
        rw [List.getD_eq_getElem?_getD, List.getElem?_set_self (by omega)]
        rfl
      rw [e]
      refine inMask_put hA ?_
      rcases hx with e | e | e | e | e <;> rw [e] <;> omega
    split at h
    · rename_i k4
      unfold setElemB at h
      dsimp only at h
      split at h
      · cases h
      rename_i h1
      cases h
      have hx : (B.o op.h).code = 2 ∨ (B.o op.h).code = 3 ∨ (B.o op.h).code = 4 ∨ (B.o op.h).code = 5 := by
        have : ¬ width (B.o op.h).code = 0 := by omega
        unfold width at this
        split at this <;> omega
      refine ⟨_, _, ⟨fun _ e => absurd k4 e, fun e => by omega, fun _ => ⟨hx, rfl, rfl⟩⟩, setA_grew hG _ _, ?_, hlive.1⟩
      generalize (B.o op.h).at_ + op.n * width (B.o op.h).code / 8 = j
      have hA := ok.A j
      rcases Nat.lt_or_ge j B.A.length with hj | hj
      · have e : (setA B j (putN (B.A.getD j 0) op.v (op.n * width (B.o op.h).code % 8 * 8) (width (B.o op.h).code * 8))).A.getD j 0 = putN (B.A.getD j 0) op.v (op.n * width (B.o op.h).code % 8 * 8) (width (B.o op.h).code * 8) := by
          simp only [setA]
          rw [List.getD_eq_getElem?_getD, List.getElem?_set_self hj]
          rfl
        rw [e]
        refine inMask_put hA ?_
        rcases hx with e | e | e | e <;> rw [e] <;> simp [width] <;> omega
      · have e : (setA B j (putN (B.A.getD j 0) op.v (op.n * width (B.o op.h).code % 8 * 8) (width (B.o op.h).code * 8))).A = B.A := by
          simp only [setA]
          exact List.set_eq_of_length_le hj
        rw [e]
        simp [InMask]
    cases h
  · cases h

theorem doB_good {B B' : Bld} {op : Opn} {c1 c2 : Bool} (hop : op.Ok) (ok : B.Ok) (hG : Good B) (h : doB B op c1 c2 = some B') : Good B' := by
  by_cases h5 : op.kind = 5
  · unfold doB at h
    split at h
    · rw [if_neg (by omega), if_neg (by omega), if_neg (by omega), if_neg (by omega), if_neg (by omega)] at h
      exact (drop_good hG h).1
    · cases h
  · obtain ⟨a, m, _, g, _⟩ := grows hop ok hG h5 h
    exact g.good
theorem doB_len {B B' : Bld} {op : Opn} {c1 c2 : Bool} (hop : op.Ok) (ok : B.Ok) (hG : Good B) (h : doB B op c1 c2 = some B') : B.A.length ≤ B'.A.length := by
  by_cases h5 : op.kind = 5
  · unfold doB at h
    split at h
    · rw [if_neg (by omega), if_neg (by omega), if_neg (by omega), if_neg (by omega), if_neg (by omega)] at h
      exact Nat.le_of_eq (drop_good hG h).2.symm
    · cases h
  · obtain ⟨a, m, _, g, _⟩ := grows hop ok hG h5 h
    exact g.len
theorem newB_good : Good newB := by
  refine ⟨by simp [evenP, newB], fun x => ?_⟩
  match x with
  | 0 => simp [newB, Bld.o]
  | x + 1 => simp [newB, Bld.o, zeroPtr]
end Go.Proofs.Ygcfaa
