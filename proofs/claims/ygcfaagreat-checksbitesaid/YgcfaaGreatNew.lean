import Derived.Test.YgcfaaGreatHang
namespace Go.Proofs.YgcfaaGreat
open Go.RowKit Bits Bd
set_option linter.unusedVariables false
set_option maxRecDepth 100000
set_option linter.unusedSimpArgs false
attribute [local go_sem] World.cell?_ext World.frozen?_ext

/-- The builder of New. -/
def newB : Bld := ⟨[0], [1, 0, 0, 0], [⟨1, 0, 0, 1, 0, 0⟩], [0], [0], [0], [false]⟩
def bareB : Bld := ⟨[0], [1, 0, 0, 0], [], [], [], [], []⟩
def bareH (g : Nat) : Nat → Value
  | 0 => .slice (some ⟨g, 0, none⟩) 1 1
  | _ => .slice none 0 0
theorem getD_nil_lt (m : Nat) (hm : 0 < m) : ∀ i, ([] : List Nat).getD i 0 < m := fun i => by simpa using hm

theorem bare_blks {p g : Nat} (i k : Nat) (e : blks p (bareH g) i = some k) : (i = 0 ∧ k = p) ∨ (i = 1 ∧ k = g) := by
  match i with
  | 0 => simp only [blks, Option.some.injEq] at e; exact .inl ⟨rfl, e.symm⟩
  | 1 => simp [blks, bareH, Value.ownBlock] at e; exact .inr ⟨rfl, e.symm⟩
  | i + 2 =>
    simp only [blks, bareH, Value.ownBlock] at e
    split at e <;> cases e
theorem bare_hb {w : World} {g p : Nat} (hgp : g ≠ p) (hg : w.heap[g]? = some (.cells #[.int .u64 0] 31 (0, 0))) (hp : RowAt w p 0 (fields (bareH g) [1, 0, 0, 0])) : HB w p (bareH g) bareB := by
  refine ⟨hp, fun i hi => ?_, ?_, ?_⟩
  · match i, hi with
    | 0, _ => exact ⟨rfl, .inr ⟨g, 1, _, rfl, Nat.zero_le _, hg, Nat.le_refl 1, by unfold maxLen; omega, rfl, rfl⟩⟩
    | 1, _ => exact ⟨rfl, .inl ⟨rfl, rfl⟩⟩
    | 2, _ => exact ⟨rfl, .inl ⟨rfl, rfl⟩⟩
    | 3, _ => exact ⟨rfl, .inl ⟨rfl, rfl⟩⟩
    | 4, _ => exact ⟨rfl, .inl ⟨rfl, rfl⟩⟩
    | 5, _ => exact ⟨rfl, .inl ⟨rfl, rfl⟩⟩
  · have := @bare_blks p g
    intro i j k h1 h2
    rcases this i k h1 with ⟨a, b⟩ | ⟨a, b⟩ <;> rcases this j k h2 with ⟨c, d⟩ | ⟨c, d⟩ <;> omega
  · refine ⟨fun i => ?_, fun i => ?_, rfl, fun i => ?_, getD_nil_lt _ (by omega), getD_nil_lt _ (by omega), getD_nil_lt _ (by omega)⟩
    · match i with
      | 0 => simp [bareB]
      | i + 1 => simp [bareB]
    · match i with
      | 0 => simp [bareB]
      | 1 => simp [bareB]
      | 2 => simp [bareB]
      | 3 => simp [bareB]
      | i + 4 => simp [bareB]
    · simp [bareB, zeroPtr, Ptr.Ok]

theorem mk_one (w : World) : (Instr.makeSlice 23 (.int .i64 1) (.int .i64 1)).run Faag.prog w = .ok (.slice (some ⟨w.heap.size, 0, none⟩) 1 1) (w.alloc (.cells #[.int .u64 0] 31)) := by kernel_rfl

set_option maxHeartbeats 4000000 in
theorem new_calls {w : World} : Calls Faag.prog 13 #[] w fun e w' => ∃ p h, e = .returned (.pointer (some ⟨p, 0, none⟩)) ∧ HB w' p h newB ∧ Below w.heap.size w w' ∧ (∀ k, blk p h k → w.heap.size ≤ k) := by
  go_enter Faag.func13, Faag.ntmps13
  go_wp2_with fail
  rw [mk_one]
  go_wp2_with fail
  have HB0 : HB ((w.alloc (.cells #[.int .u64 0] 31)).alloc (.cells (fields (bareH w.heap.size) [1, 0, 0, 0]).toArray 37)) (w.heap.size + 1) (bareH w.heap.size) bareB := by
    refine bare_hb (by omega) ?_ ?_
    · show ((w.heap.push (.cells #[.int .u64 0] 31)).push _)[w.heap.size]? = _
      rw [Array.getElem?_push, if_neg (by simp), Array.getElem?_push, if_pos rfl]
    · have := RowAt.of_alloc (w.alloc (.cells #[.int .u64 0] 31)) (fields (bareH w.heap.size) [1, 0, 0, 0]) 37
      simpa using this
  have BL : Below w.heap.size w ((w.alloc (.cells #[.int .u64 0] 31)).alloc (.cells (fields (bareH w.heap.size) [1, 0, 0, 0]).toArray 37)) := ((Below.refl _ w).alloc (Nat.le_refl _) _).alloc (by simp) _
  refine (hang_calls ⟨1, 0, 0, 1, 0, 0⟩ (by simp [Ptr.Ok]) 0 0 0 (by omega) (by omega) (by omega) HB0 (by simp [bareB]) (by simp [bareB]) (by simp [bareB]) (by simp [bareB]) (by simp [bareB])).mono ?_
  rintro e w1 ⟨rfl, h1, hb1, mv1⟩
  have HF := hide (And.intro hb1 mv1)
  have HL := hide BL
  clear hb1 mv1 BL HB0
  go_wp2_with fail
  go_ret
  have hold : ∀ k, blk (w.heap.size + 1) (bareH w.heap.size) k → w.heap.size ≤ k := by
    rintro k ⟨i, hi⟩
    rcases bare_blks i k hi with ⟨_, rfl⟩ | ⟨_, rfl⟩ <;> omega
  refine ⟨_, h1, rfl, HF.out.1, HL.out.trans (HF.out.2.below (by simp; omega) (fun k hk hb => by have := hold k hb; omega)), fun k hk => ?_⟩
  rcases HF.out.2.fresh k hk with h2 | h2
  · exact hold k h2
  · simp at h2
    omega
end Go.Proofs.YgcfaaGreat
