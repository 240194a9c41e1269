import Derived.StillTail
import Derived.Deep.Quiet
import Derived.BigQuiet
import Derived.WalkKit
import Derived.WalkSpells
import Derived.KernelRfl
namespace Go
open Go.RowKit

/-! ### A region that draws its order: operations 0 .. n-1 are quiet in a class C of worlds (in whatever order), the rest comes up one by one behind them. -/
section
variable {P : Program} {ops : Array Oper} {md : Region.Mode} {C : World → Prop}

def segQ (P : Program) (md : Region.Mode) (ops : Array Oper) (C : World → Prop) (n : Nat) (L : Array Bool → Act → Prop) : Nat → Array Bool → Act → Prop
  | 0, listed, a => L listed a
  | f + 1, listed, a =>
    Region.ready md ops listed ≠ [] ∧ ∀ i ∈ Region.ready md ops listed, i < n ∧ qOp P ops C i (segQ P md ops C n L f (listed.setIfInBounds i true)) a

theorem wpAny_of_segQ {n g : Nat} {L : Array Bool → Act → Prop} {Q' : Exit → Act → World → Prop} (hL : ∀ listed a w, C w → L listed a → wpAny P md ops Q' g listed a w) :
    ∀ (f : Nat) (listed : Array Bool) (a : Act) (w : World), C w → segQ P md ops C n L f listed a → wpAny P md ops Q' (f + g) listed a w
  | 0, listed, a, w, hw, h => by rw [Nat.zero_add]; exact hL _ _ _ hw h
  | f + 1, listed, a, w, hw, h => by
    rw [show f + 1 + g = (f + g) + 1 by omega]
    exact ⟨fun h0 => absurd h0 h.1, fun i hi => wpOp_of_qOp hw (fun a' w' hw' h' => wpAny_of_segQ hL f _ a' w' hw' h') (h.2 i hi).2⟩

theorem segQ_first {n i : Nat} {oi : Oper} {v : Value} {L : Array Bool → Act → Prop} (hi : ops[i]? = some oi) (hsel : ∀ (j : Nat) (o : Oper) cs b, ops[j]? = some o → o.op ≠ .select cs b)
    (hs : Region.sinkB md ops n = true) (hc : Region.chainB md ops n = true) (hn : n < ops.size) (hin : i < n)
    (hdone : ∀ listed a, L listed a → ∀ j ∈ Region.ready md ops listed, n ≤ j) :
    ∀ (f : Nat) (listed : Array Bool) (a : Act), HeadInv md ops n listed →
      (∀ j oj, ops[j]? = some oj → j ≠ i → listed.getD j true = false → (∀ e ∈ oj.after, Region.binds md e = true → e.on ≠ i) → oi.apart ops oj = true) →
      i ∈ Region.ready md ops listed → YieldsIn P ops C oi v a →
      segQ P md ops C n L f (listed.setIfInBounds i true) (a.put oi.dst v) → segQ P md ops C n L (f + 1) listed a := by
  intro f
  induction f with
  | zero =>
    intro listed a inv _ hr hy H
    have hun := (mem_ready.1 hr).1
    refine ⟨fun h => (by rw [h] at hr; cases hr), fun j hj => ?_⟩
    have hjn : j < n := by
      rcases Nat.lt_or_ge j n with h | h
      · exact h
      · exact absurd hj (tail_waits hs hc hn inv _ i rfl hin hun j h)
    refine ⟨hjn, ?_⟩
    by_cases hji : j = i
    · subst hji; exact hy.qOp hi H
    · have := hdone _ _ H j (ready_mono hj hji)
      omega
  | succ f ih =>
    intro listed a inv hfree hr hy H
    have hun := (mem_ready.1 hr).1
    refine ⟨fun h => (by rw [h] at hr; cases hr), fun j hj => ?_⟩
    have hjn : j < n := by
      rcases Nat.lt_or_ge j n with h | h
      · exact h
      · exact absurd hj (tail_waits hs hc hn inv _ i rfl hin hun j h)
    refine ⟨hjn, ?_⟩
    by_cases hji : j = i
    · subst hji; exact hy.qOp hi H
    · have h1 := (H.2 j (ready_mono hj hji)).2
      obtain ⟨hjun, oj, hoj, hall⟩ := mem_ready.1 hj
      have hnot : ∀ e ∈ oj.after, Region.binds md e = true → e.on ≠ i := fun e he hb heq => by
        have h1 := hall e he hb
        rw [heq, getD_both hun] at h1
        cases h1
      have h2 := qOp_put hoj (hfree j oj hoj hji hjun hnot) (fun cs b => hsel i oi cs b hi) (fun cs b => hsel j oj cs b hoj) hy h1
      have hfree' : ∀ k ok, ops[k]? = some ok → k ≠ i → (listed.setIfInBounds j true).getD k true = false →
          (∀ e ∈ ok.after, Region.binds md e = true → e.on ≠ i) → oi.apart ops ok = true := fun k ok hk hki hun hno => by
        refine hfree k ok hk hki ?_ hno
        by_cases hjk : j = k
        · subst hjk; exact hjun
        · rw [getD_set_ne true hjk] at hun; exact hun
      refine qOp_mono (fun a' h3 => ih (listed.setIfInBounds j true) a' (inv.set hj hjn) hfree' (ready_mono hr (Ne.symm hji)) h3.1 ?_) h2
      rw [Array.setIfInBounds_comm _ _ hji]
      exact h3.2

theorem segQ_lex {n g : Nat} {Lq : Act → Prop} (hsel : Region.noSelect ops = true) (hs : Region.sinkB md ops n = true) (hc : Region.chainB md ops n = true) (hn : n < ops.size) :
    ∀ (l : List Oper) (k : Nat) (listed : Array Bool) (a : Act), (∀ j, j < l.length → l[j]? = ops[k + j]?) → k + l.length = n → HeadInv md ops n listed →
    Region.lexHead md ops g l.length k listed = true → wpQuiet P ops C Lq l a →
    segQ P md ops C n (fun listed' a' => Region.seqB md ops g n listed' = true ∧ Lq a') l.length listed a
  | [], k, listed, a, _, hk, _, hB, h => by
    have : k = n := by simpa using hk
    subst this
    exact ⟨by simpa [Region.lexHead] using hB, h⟩
  | o :: l, k, listed, a, hl, hk, inv, hB, h => by
    have h0 : ops[k]? = some o := by simpa using (hl 0 (by simp)).symm
    simp only [List.length_cons, Region.lexHead, Bool.and_eq_true] at hB
    obtain ⟨⟨hr, hf⟩, hB'⟩ := hB
    have hkn : k < n := by simp only [List.length_cons] at hk; omega
    have hr' : k ∈ Region.ready md ops listed := by simpa using hr
    have hst : qOp P ops C k (wpQuiet P ops C Lq l) a := by unfold qOp; simp only [h0]; exact h
    obtain ⟨v, hy, hK⟩ := yieldsIn_of_qOp h0 hst
    exact segQ_first h0 (Region.noSelect_spec hsel) hs hc hn hkn (fun listed' a' hL => seqB_ready hL.1) l.length listed a inv (Region.free_spec h0 hf) hr' hy
      (segQ_lex hsel hs hc hn l (k + 1) _ _ (fun j hj => by have := hl (j + 1) (by simp; omega); simpa [Nat.add_assoc, Nat.add_comm 1 j] using this) (by simp only [List.length_cons] at hk; omega) (inv.set hr' hkn) hB' hK)

/-- QUIET FIRST, THEN THE TAIL. -/
theorem wp_region_qt {id : Nat} {Q : Exit → Act → World → Prop} {a : Act} {w : World} {l : List Oper} (n : Nat) (hm : P.follows .mixedOrders = true) (hB : Region.lexTailB .any l.toArray n = true)
    (hC : C { w with drawn := w.drawn + 1 })
    (h : wpQuiet P l.toArray C (fun a' => ∀ w', C w' → wpList P l.toArray Q (l.drop n) a' w') (l.take n) a) : (Code.region id l.toArray true).wp P Q a w := by
  simp only [Region.lexTailB, Bool.and_eq_true, decide_eq_true_eq] at hB
  obtain ⟨⟨⟨⟨hsel, hn⟩, hs⟩, hc⟩, hlex⟩ := hB
  have hn' : n < l.length := by simpa using hn
  have htl : (l.take n).length = n := by simp; omega
  have hdl : (l.drop n).length = l.toArray.size - n := by simp
  have inv0 : HeadInv .any l.toArray n (Array.replicate l.toArray.size false) :=
    ⟨by simp, fun j oj _ hl => (by rw [getD_replicate_false] at hl; cases hl), fun t _ ht => getD_in (by simpa using ht) (getD_replicate_false _ _)⟩
  have H := segQ_lex (md := .any) (g := l.toArray.size - n) hsel hs hc hn (l.take n) 0 _ a (fun j hj => by
    have hj' : j < n := by rw [htl] at hj; exact hj
    simp [hj']) (by simpa using htl) inv0 (by rw [htl]; exact hlex) h
  refine wp_region_any hm ?_
  have := wpAny_of_segQ (Q' := Q) (g := l.toArray.size - n) (fun listed a' w' hw' hL => by
    have := wpAny_of_seq (md := .any) (Q' := Q) (l.drop n) n listed a' w' (fun j => by simp [List.getElem?_drop]) (by rw [hdl]; exact hL.1) (hL.2 w' hw')
    rwa [hdl] at this) _ _ _ _ hC H
  rw [htl, show n + (l.toArray.size - n) = l.toArray.size by omega] at this
  exact this

/-- .. at the class 'w after some draws'. -/
theorem wp_region_qd {id : Nat} {Q : Exit → Act → World → Prop} {a : Act} {w : World} {l : List Oper} (n : Nat) (hm : P.follows .mixedOrders = true) (hB : Region.lexTailB .any l.toArray n = true)
    (h : wpQuiet P l.toArray (fun w' => ∃ n, w' = w.drewN n) (fun a' => ∀ w', (∃ n, w' = w.drewN n) → wpList P l.toArray Q (l.drop n) a' w') (l.take n) a) : (Code.region id l.toArray true).wp P Q a w :=
  wp_region_qt n hm hB ⟨1, rfl⟩ h
end

/-! ### What a call leaves alone -/
/-- Below the heap's size, every block outside X is as it was. -/
structure Keeps (X : Nat → Prop) (w w' : World) : Prop where
  os : w'.os = w.os
  tape : w'.tape = w.tape
  output : w'.output = w.output
  size : w.heap.size ≤ w'.heap.size
  block : ∀ k, k < w.heap.size → ¬ X k → w'.heap[k]? = w.heap[k]?

namespace Keeps
variable {X Y : Nat → Prop} {w w' w'' : World}
theorem refl (X : Nat → Prop) (w : World) : Keeps X w w := ⟨rfl, rfl, rfl, Nat.le_refl _, fun _ _ _ => rfl⟩
theorem trans (h : Keeps X w w') (k : Keeps X w' w'') : Keeps X w w'' :=
  ⟨k.os.trans h.os, k.tape.trans h.tape, k.output.trans h.output, Nat.le_trans h.size k.size, fun j hj hx => (k.block j (Nat.lt_of_lt_of_le hj h.size) hx).trans (h.block j hj hx)⟩
theorem mono (h : Keeps X w w') (hx : ∀ k, k < w.heap.size → X k → Y k) : Keeps Y w w' := ⟨h.os, h.tape, h.output, h.size, fun j hj hy => h.block j hj (fun x => hy (hx j hj x))⟩
theorem drew (h : Keeps X w w') : Keeps X w w'.drew := ⟨h.os, h.tape, h.output, h.size, h.block⟩
theorem drewN (h : Keeps X w w') (n : Nat) : Keeps X w (w'.drewN n) := ⟨h.os, h.tape, h.output, h.size, h.block⟩
theorem alloc (h : Keeps X w w') (o : Obj) : Keeps X w (w'.alloc o) :=
  ⟨h.os, h.tape, h.output, by rw [World.size_alloc]; exact Nat.le_succ_of_le h.size, fun k hk hx => (Below.heap_alloc _ _ _ (Nat.lt_of_lt_of_le hk h.size)).trans (h.block k hk hx)⟩
theorem setCell (h : Keeps X w w') {p : Addr} (hp : p.block < w.heap.size → X p.block) (u : Value) : Keeps X w (w'.setCell p u) :=
  ⟨h.os, h.tape, h.output, by simp [World.setCell]; exact h.size, fun k hk hx => (Below.heap_setCell _ _ _ _ (fun e => by subst e; exact hx (hp hk))).trans (h.block k hk hx)⟩
theorem cell (h : Keeps X w w') {p : Addr} (hp : p.block < w.heap.size) (hx : ¬ X p.block) : w'.cell? p = w.cell? p := World.cell?_of_block (w := w) (h.block p.block hp hx)
theorem frozen (h : Keeps X w w') {p : Addr} (hp : p.block < w.heap.size) (hx : ¬ X p.block) : w'.frozen? p = w.frozen? p := World.frozen?_of_block (w := w) (h.block p.block hp hx)
theorem below {B : Nat} (h : Keeps X w w') (hB : B ≤ w.heap.size) (hx : ∀ k, k < B → ¬ X k) : Below B w w' := ⟨h.os, h.tape, h.output, h.size, fun k hk => h.block k (Nat.lt_of_lt_of_le hk hB) (hx k hk)⟩
theorem of_below {B : Nat} (h : Below B w w') : Keeps (fun k => B ≤ k) w w' := ⟨h.os, h.tape, h.output, h.size, fun k _ hx => h.block k (Nat.lt_of_not_le hx)⟩
end Keeps

/-- A row of cells that may be written, at an offset of a block. -/
structure RowAt (w : World) (b o : Nat) (vs : List Value) : Prop where
  cell : ∀ i (h : i < vs.length), w.cell? ⟨b, o + i, none⟩ = some vs[i]
  live : ∀ i, i < vs.length → w.frozen? ⟨b, o + i, none⟩ = false

theorem lt_of_cell {w : World} {p : Addr} {v : Value} (h : w.cell? p = some v) : p.block < w.heap.size := World.block_lt_of_cell? w p h

namespace RowAt
variable {w w' : World} {b o : Nat} {vs : List Value}
theorem at_ (h : RowAt w b o vs) {i : Nat} {v : Value} (hv : vs[i]? = some v) : w.cell? ⟨b, o + i, none⟩ = some v := by
  obtain ⟨hi, e⟩ := List.getElem?_eq_some_iff.1 hv
  rw [h.cell i hi, e]
theorem lt (h : RowAt w b o vs) (h0 : 0 < vs.length) : b < w.heap.size := lt_of_cell (h.cell 0 h0)
theorem set (h : RowAt w b o vs) {i : Nat} (hi : i < vs.length) (v : Value) : RowAt (w.setCell ⟨b, o + i, none⟩ v) b o (vs.set i v) := by
  constructor
  · intro j hj
    have hj' : j < vs.length := by simpa using hj
    by_cases e : j = i
    · subst e
      rw [World.cell?_setCell_same _ _ _ (h.cell j hj')]
      simp
    · rw [World.cell?_setCell_other _ _ _ _ (by intro e2; have e3 := congrArg Addr.off e2; dsimp only at e3; omega), h.cell j hj', List.getElem_set_ne (by omega)]
  · intro j hj
    rw [World.frozen?_setCell]
    exact h.live j (by simpa using hj)
theorem other (h : RowAt w b o vs) {p : Addr} (hp : p.block ≠ b ∨ p.off < o ∨ o + vs.length ≤ p.off) (v : Value) : RowAt (w.setCell p v) b o vs := by
  constructor
  · intro j hj
    rw [World.cell?_setCell_other _ _ _ _ (by intro e'; subst e'; simp at hp; try omega), h.cell j hj]
  · intro j hj
    rw [World.frozen?_setCell]
    exact h.live j hj
theorem keeps {X : Nat → Prop} (h : RowAt w b o vs) (k : Keeps X w w') (hx : b < w.heap.size → ¬ X b) : RowAt w' b o vs := by
  constructor
  · intro j hj
    have hb : b < w.heap.size := lt_of_cell (h.cell j hj)
    rw [k.cell (p := ⟨b, o + j, none⟩) hb (hx hb), h.cell j hj]
  · intro j hj
    have hb : b < w.heap.size := lt_of_cell (h.cell j hj)
    rw [k.frozen (p := ⟨b, o + j, none⟩) hb (hx hb), h.live j hj]
theorem drewN (h : RowAt w b o vs) (n : Nat) : RowAt (w.drewN n) b o vs := ⟨h.cell, h.live⟩
theorem alloc (h : RowAt w b o vs) (x : Obj) : RowAt (w.alloc x) b o vs := h.keeps ((Keeps.refl (fun _ => False) w).alloc x) (fun _ h => h)
end RowAt

theorem RowAt.of_alloc (w : World) (vs : List Value) (t : TypeId) : RowAt (w.alloc (.cells vs.toArray t)) w.heap.size 0 vs := by
  constructor
  · intro i hi
    have e : (w.alloc (.cells vs.toArray t)).heap[w.heap.size]? = some (.cells vs.toArray t) := by unfold World.alloc; simp
    simp only [World.cell?, e, Nat.zero_add, List.getElem?_toArray]
    simp [hi]
  · intro i hi
    have e : (w.alloc (.cells vs.toArray t)).heap[w.heap.size]? = some (.cells vs.toArray t) := by unfold World.alloc; simp
    simp only [World.frozen?, e]
    simp

theorem hide {p : Prop} (h : p) : Hid p := h

theorem u16_quo (x c : Int) (h0 : 0 ≤ x) (h1 : x ≤ 65535) (hc : 1 ≤ c) : IntKind.u16.wrap (x.tdiv c) = x / c := by
  rw [Int.tdiv_eq_ediv_of_nonneg h0, IntKind.wrap_u16]
  have h2 : 0 ≤ x / c := Int.ediv_nonneg h0 (by omega)
  have h3 : x / c ≤ x := Int.ediv_le_self _ h0
  omega

/-- A row of words. -/
def U (l : List Nat) : List Value := l.map fun (n : Nat) => Value.int .u64 (n : Int)
theorem U_length (l : List Nat) : (U l).length = l.length := by simp [U]
theorem U_get {l : List Nat} {i : Nat} (h : i < l.length) : (U l)[i]? = some (Value.int .u64 (l.getD i 0 : Nat)) := by simp [U, h]
theorem U_set (l : List Nat) (i n : Nat) : (U l).set i (.int .u64 (n : Int)) = U (l.set i n) := by simp [U, List.map_set]


/-! ### A world with blocks laid on top: 'w.ext x' -/
/-- 'w' with the blocks of 'x' laid on top, and x's count of draws. -/
def World.ext (w x : World) : World := { w with heap := w.heap ++ x.heap, drawn := x.drawn }

section
variable (w : World) (x y : World) (a : Addr)
theorem World.heap_ext : (w.ext x).heap = w.heap ++ x.heap := rfl
theorem World.size_ext : (w.ext x).heap.size = w.heap.size + x.heap.size := by rw [World.heap_ext, Array.size_append]
theorem World.block_ext {k : Nat} (h : k < w.heap.size) : (w.ext x).heap[k]? = w.heap[k]? := by rw [World.heap_ext, Array.getElem?_append_left h]
theorem World.cell?_ext (h : (w.cell? a).isSome = true) : (w.ext x).cell? a = w.cell? a := by
  obtain ⟨u, hu⟩ := Option.isSome_iff_exists.1 h
  exact World.cell?_of_block (w := w) (World.block_ext w x (lt_of_cell hu))
theorem World.frozen?_ext (h : (w.cell? a).isSome = true) : (w.ext x).frozen? a = w.frozen? a := by
  obtain ⟨u, hu⟩ := Option.isSome_iff_exists.1 h
  exact World.frozen?_of_block (w := w) (World.block_ext w x (lt_of_cell hu))
theorem World.below_ext : Below w.heap.size w (w.ext x) := ⟨rfl, rfl, rfl, by rw [World.size_ext]; omega, fun _ h => World.block_ext w x h⟩
theorem World.ext_ext : (w.ext x).ext y = w.ext { y with heap := x.heap ++ y.heap } := by simp [World.ext]
end
theorem World.ext_of_below {w w' : World} (h : Below w.heap.size w w') : ∃ x, w' = w.ext x := by
  refine ⟨{ w' with heap := w'.heap.extract w.heap.size w'.heap.size }, ?_⟩
  have e : w'.heap = w.heap ++ w'.heap.extract w.heap.size w'.heap.size := by
    apply Array.ext_getElem?
    intro k
    by_cases hk : k < w.heap.size
    · rw [Array.getElem?_append_left hk, h.block k hk]
    · rw [Array.getElem?_append_right (by omega), Array.getElem?_extract]
      have := h.size
      by_cases hk2 : k < w'.heap.size
      · rw [if_pos (by omega), show w.heap.size + (k - w.heap.size) = k by omega]
      · rw [if_neg (by omega), Array.getElem?_eq_none (by omega)]
  cases w with
  | mk heap tape drawn os output =>
    cases w' with
    | mk heap' tape' drawn' os' output' =>
      have h1 := h.os; have h2 := h.tape; have h3 := h.output
      simp only [World.ext] at *
      subst h1; subst h2; subst h3
      rw [← e]
theorem World.ext_iff {w w' : World} : Below w.heap.size w w' ↔ ∃ x, w' = w.ext x := ⟨World.ext_of_below, fun ⟨x, hx⟩ => hx ▸ World.below_ext w x⟩

theorem RowKit.Below.step {w a b : World} (h : Below w.heap.size w a) (k : Below a.heap.size a b) : Below w.heap.size w b := h.trans (k.mono h.size)
theorem RowKit.Below.ext {w a b : World} (h : Below w.heap.size w a) (k : ∃ x, b = a.ext x) : Below w.heap.size w b := h.step (World.ext_iff.2 k)

/-- A callee that only lays blocks, met in a world with blocks laid on top. -/
theorem Calls.ext_of {P : Program} {f : FuncId} {args : Array Value} {w x : World} {v : Value}
    (h : Calls P f args (w.ext x) fun e w' => e = .returned v ∧ Below (w.ext x).heap.size (w.ext x) w') : Calls P f args (w.ext x) fun e w'' => e = .returned v ∧ ∃ y, w'' = w.ext y :=
  h.mono fun _ _ ⟨he, hb⟩ => by
    obtain ⟨y, hy⟩ := World.ext_of_below hb
    exact ⟨he, _, by rw [hy, World.ext_ext]⟩
theorem Calls.ext_of_same {P : Program} {f : FuncId} {args : Array Value} {w x : World} {v : Value}
    (h : Calls P f args (w.ext x) fun e w' => e = .returned v ∧ w' = w.ext x) : Calls P f args (w.ext x) fun e w'' => e = .returned v ∧ ∃ y, w'' = w.ext y :=
  h.mono fun _ _ ⟨he, hb⟩ => ⟨he, _, hb⟩

/-- QUIET FIRST, THEN THE TAIL, at the class 'w with blocks laid on top'. -/
theorem wp_region_qx {P : Program} {id : Nat} {Q : Exit → Act → World → Prop} {a : Act} {w : World} {l : List Oper} (n : Nat) (hm : P.follows .mixedOrders = true) (hB : Region.lexTailB .any l.toArray n = true)
    (h : wpQuiet P l.toArray (fun w' => ∃ x, w' = w.ext x) (fun a' => ∀ w', (∃ x, w' = w.ext x) → wpList P l.toArray Q (l.drop n) a' w') (l.take n) a) : (Code.region id l.toArray true).wp P Q a w :=
  wp_region_qt n hm hB ⟨{ w with heap := #[], drawn := w.drawn + 1 }, by simp [World.ext]⟩ h

end Go
