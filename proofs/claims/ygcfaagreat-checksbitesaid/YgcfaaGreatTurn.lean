import Derived.Test.YgcfaaGreatMoNew
import Derived.Test.YgcfaaGreatDo
import Derived.Test.YgcfaaGreatNew
import Derived.Test.YgcfaaGreatInvDo
import Derived.Test.YgcfaaGreatInvNewC
namespace Go.Proofs.YgcfaaGreat
open Go.RowKit Bits Bd
set_option linter.unusedVariables false
set_option maxRecDepth 100000
set_option linter.unusedSimpArgs false

/-- What a round of played begins with: a builder and a model, apart, both new since W; h, B, g, M as they lie. -/
structure TurnAt (W : World) (p q : Nat) (wr : World) (h : Nat → Value) (B : Bld) (g : Nat → Value) (M : Mo) : Prop where
  hb : HB wr p h B
  hm : HM true wr q g M
  ib : InvC B
  im : InvM M
  bl : Below W.heap.size W wr
  fb : ∀ k, blk p h k → W.heap.size ≤ k
  fm : ∀ k, mblk q g M.N.length k → W.heap.size ≤ k
  dj : ∀ k, blk p h k → ¬ mblk q g M.N.length k
def Turn4 (W : World) (p q : Nat) (wr : World) : Prop := ∃ h B g M, TurnAt W p q wr h B g M
/-- .. and a variable ob beside them. -/
def Turn5 (W : World) (p q ob : Nat) (row : List Value) (wr : World) : Prop :=
  ∃ h B g M, TurnAt W p q wr h B g M ∧ ob < wr.heap.size ∧ RowAt wr ob 0 row ∧ ¬ blk p h ob ∧ ¬ mblk q g M.N.length ob
section
variable {W wr w' : World} {p q ob : Nat} {row : List Value} {h g : Nat → Value} {B : Bld} {M : Mo}

theorem TurnAt.below (t : TurnAt W p q wr h B g M) (k : Below wr.heap.size wr w') : TurnAt W p q w' h B g M :=
  ⟨t.hb.below k, t.hm.below k, t.ib, t.im, t.bl.trans (k.mono t.bl.size), t.fb, t.fm, t.dj⟩
theorem Turn4.below (H : Turn4 W p q wr) (k : Below wr.heap.size wr w') : Turn4 W p q w' := by
  obtain ⟨h, B, g, M, t⟩ := H
  exact ⟨h, B, g, M, t.below k⟩
theorem Turn4.bl (H : Turn4 W p q wr) : Below W.heap.size W wr := by
  obtain ⟨h, B, g, M, t⟩ := H
  exact t.bl
theorem Turn5.below (H : Turn5 W p q ob row wr) (k : Below wr.heap.size wr w') : Turn5 W p q ob row w' := by
  obtain ⟨h, B, g, M, t, hl, r, n1, n2⟩ := H
  exact ⟨h, B, g, M, t.below k, Nat.lt_of_lt_of_le hl k.size, row_below r k, n1, n2⟩
theorem Turn5.rowAt (H : Turn5 W p q ob row wr) : RowAt wr ob 0 row := by
  obtain ⟨h, B, g, M, t, hl, r, n1, n2⟩ := H
  exact r
theorem Turn5.four (H : Turn5 W p q ob row wr) : Turn4 W p q wr := by
  obtain ⟨h, B, g, M, t, _⟩ := H
  exact ⟨h, B, g, M, t⟩
theorem Turn4.box (H : Turn4 W p q wr) (row : List Value) (ty : TypeId) : Turn5 W p q wr.heap.size row (wr.alloc (.cells row.toArray ty)) := by
  obtain ⟨h, B, g, M, t⟩ := H
  exact ⟨h, B, g, M, t.below ((Below.refl _ _).alloc (Nat.le_refl _) _), by rw [World.size_alloc]; omega, RowAt.of_alloc wr row ty, t.hb.not_new (Nat.le_refl _), fun e => by have := t.hm.blk_lt e; omega⟩

/-- The builder's Do. -/
theorem turn_do {op : Opn} (hop : op.Ok) (hs : op.s.size ≤ 9223372036854775807) (H : Turn5 W p q ob row wr) :
    Calls Faag.prog 15 #[.pointer (some ⟨p, 0, none⟩), .agg (opC op).toArray] wr (fun e w2 => (∃ rb : Bool, e = .returned (.bool rb)) ∧ Turn5 W p q ob row w2) := by
  obtain ⟨h, B, g, M, t, hl, r, n1, n2⟩ := H
  obtain ⟨c1, hc1⟩ : ∃ c : Bool, c = true ↔ contentP op.s := by
    by_cases hc : contentP op.s
    · exact ⟨true, by simp [hc]⟩
    · exact ⟨false, by simp [hc]⟩
  obtain ⟨c2, hc2⟩ : ∃ c : Bool, c = true ↔ insideP B.A.length (B.o op.h) := by
    by_cases hc : insideP B.A.length (B.o op.h)
    · exact ⟨true, by simp [hc]⟩
    · exact ⟨false, by simp [hc]⟩
  refine (do_calls op hop hs c1 c2 hc1 hc2 t.hb (inv_good t.ib)).mono ?_
  rintro e w2 ⟨he, h2, hb2, mv⟩
  have hsz := t.bl.size
  refine ⟨⟨_, he⟩, h2, _, g, M, ⟨hb2, t.hm.keeps mv.keeps (fun j hj hx => t.dj j hx hj), inv_doD t.ib t.hb.ok (zOf_lt op.s), t.im, t.bl.trans (mv.below hsz (fun k hk hx => by have := t.fb k hx; omega)), fun k hk => ?_, t.fm, fun k hk hx => ?_⟩, Nat.lt_of_lt_of_le hl mv.keeps.size, r.keeps mv.keeps (fun _ e => n1 e), fun e => ?_, n2⟩
  · rcases mv.fresh k hk with z | z
    · exact t.fb k z
    · omega
  · rcases mv.fresh k hk with z | z
    · exact t.dj k z hx
    · have := t.hm.blk_lt hx; omega
  · rcases mv.fresh ob e with z | z
    · exact n1 z
    · omega

theorem turn_new {w0 w1 : World} {p q : Nat} {h g : Nat → Value} (hb : HB w0 p h newB) (b0 : Below W.heap.size W w0) (f0 : ∀ k, blk p h k → W.heap.size ≤ k)
    (hm : HM true w1 q g newM) (b1 : Below w0.heap.size w0 w1) (f1 : ∀ k, mblk q g 0 k → w0.heap.size ≤ k) : Turn4 W p q w1 :=
  ⟨h, newB, g, newM, hb.below b1, hm, inv_newB, inv_newM, b0.trans (b1.mono b0.size), f0, fun k hk => Nat.le_trans b0.size (f1 k hk), fun k hk hx => by have := hb.lt hk; have := f1 k hx; omega⟩
end
end Go.Proofs.YgcfaaGreat
