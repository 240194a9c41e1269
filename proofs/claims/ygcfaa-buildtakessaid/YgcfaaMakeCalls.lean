import Derived.Test.YgcfaaMakeYes
namespace Go.Proofs.Ygcfaa
open Go.RowKit Bits Bd
set_option linter.unusedVariables false
set_option maxRecDepth 100000
set_option linter.unusedSimpArgs false
attribute [local go_sem] World.cell?_ext World.frozen?_ext Kw.cell Kw.frozen

namespace Bd
/-- What fits of a book. -/
structure Bk.Fit (K : Bk) : Prop where
  n : K.e.length ≤ 256
  len : K.len ≤ 256
  set : ∀ i, (K.at_ i).set.length ≤ 256
  depth : ∀ i, (K.at_ i).depth ≤ 100
end Bd

def KOut (b : Nat) (r : Value) (s : Nat → Value) (K : Bk) (w : World) (R : Option Bk) (e : Ending) (w' : World) : Prop :=
  e = .returned (.bool R.isSome) ∧ ∃ r' s', HK w' b r' s' (R.getD K) ∧ MvK b r s K.e.length r' s' (R.getD K).e.length w w'

/-- make, from a world w1 that lies on w; the set is new. -/
theorem make_calls (op : Opn) (hop : op.Ok) (made : Ent) (sv : Value) (words elements : Nat) (hw : words ≤ 10000000) (hel : elements ≤ 65535) (hp8 : made.ptrs ≤ 255) {w w1 : World} {b : Nat} {r : Value} {s : Nat → Value} {K : Bk} (hb : HK w b r s K) (hlt : op.h < K.e.length) (fit : K.Fit)
    (bl : Below w.heap.size w w1) (hsv : w1.ownsRow 0 4 1 sv made.set.length (rowB made.set)) (hnew : ∀ j, sv.ownBlock = some j → w.heap.size ≤ j) :
    Calls Faag.prog 81 #[.pointer (some ⟨b, 0, none⟩), .agg (opC op).toArray, .agg (entC made sv).toArray, .int .i64 (words : Int), .int .i64 (elements : Int)] w1 (KOut b r s K w (makeK K op made words elements)) := by
  have hb1 := hb.below bl
  cases hR : makeK K op made words elements with
  | none =>
    refine (make_no op hop made sv words elements hw hel hb1 hlt fit.n (fit.set _) (fit.depth _) fit.len hR).mono ?_
    rintro e w' ⟨rfl, bl2⟩
    exact ⟨rfl, r, s, hb1.below bl2, MvK.of_below (bl.trans (bl2.mono bl.size))⟩
  | some K' =>
    refine (make_yes op hop made sv words elements hw hel hp8 hb1 hlt fit.n (fit.set _) (fit.depth _) fit.len hsv (fun j hj h => by have := hb.lt h; have := hnew j hj; omega) hR).mono ?_
    rintro e w' ⟨rfl, r', s', hk, mv⟩
    refine ⟨rfl, r', s', hk, ⟨⟨mv.keeps.os.trans bl.os, mv.keeps.tape.trans bl.tape, mv.keeps.output.trans bl.output, Nat.le_trans bl.size mv.keeps.size, fun k hk hx => ?_⟩, fun k hk => ?_⟩⟩
    · rw [mv.keeps.block k (Nat.lt_of_lt_of_le hk bl.size) (fun h => by
        rcases h with h | h
        · exact hx h
        · have := hnew k h; omega)]
      exact bl.block k hk
    · rcases mv.fresh k hk with (h | h) | h
      · exact .inl h
      · exact .inr (hnew k h)
      · exact .inr (Nat.le_trans bl.size h)

namespace Bd
/-- book.list -/
def listK (K : Bk) (op : Opn) : Option Bk :=
  if 128 < op.n then none
  else if 2 ≤ op.x ∧ op.x ≤ 5 then makeK K op ⟨false, 2, op.x, 0, 0, op.n, 0, 0, 0, []⟩ ((op.n * (8 * 2 ^ (op.x - 2)) + 63) / 64) 0
  else if op.x = 6 then makeK K op ⟨false, 2, op.x, 0, 0, op.n, 0, 0, 0, List.replicate op.n false⟩ op.n 0
  else if op.x = 7 then
    if 8 < op.y / 16 ∨ 8 < op.y % 16 ∨ (0 < op.n ∧ op.y = 0) then none
    else makeK K op ⟨false, 2, op.x, op.y / 16, op.y % 16, op.n, 0, 0, 0, []⟩ (1 + op.n * (op.y / 16 + op.y % 16)) op.n
  else none
end Bd

end Go.Proofs.Ygcfaa
