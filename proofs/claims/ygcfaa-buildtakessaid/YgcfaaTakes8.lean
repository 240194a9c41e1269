import Derived.Test.YgcfaaTakes
import Derived.Test.YgcfaaSame
import Derived.Test.YgcfaaLaw
import Derived.Test.YgcfaaTwo
namespace Go.Proofs.Ygcfaa
open Go.RowKit Bits Bd Utf
set_option linter.unusedVariables false
set_option maxRecDepth 100000
set_option linter.unusedSimpArgs false
attribute [local go_sem] World.cell?_ext World.frozen?_ext Kw.cell Kw.frozen

def newK : Bk := ⟨[⟨false, 1, 0, 0, 1, 0, 0, 0, 0, [false]⟩], 1⟩

/-- What ties builder and book; what the walk needs of it. -/
structure Tie (Inv : Bld → Bk → Prop) : Prop where
  new : Inv newB newK
  good : ∀ {B K}, Inv B K → Good B
  fit : ∀ {B K}, Inv B K → K.Fit ∧ K.Fit2 ∧ K.Fit3
  len : ∀ {B K}, Inv B K → B.A.length = K.len ∧ B.obj.length = K.e.length ∧ ∀ h, h < K.e.length → B.dead.getD h false = (K.at_ h).dead
  step : ∀ {B K} {op : Opn} {c1 c2 : Bool}, Inv B K → B.Ok → op.Ok → (c1 = true ↔ contentP op.s) → (c2 = true ↔ insideP B.A.length (B.o op.h)) →
    (doB B op c1 c2).isSome = (takesK K op c1).isSome ∧ Inv ((doB B op c1 c2).getD B) ((takesK K op c1).getD K)

/-- What a round begins with. -/
def Turn8 (Inv : Bld → Bk → Prop) (W : World) (p kb : Nat) (wr : World) : Prop :=
  ∃ h B r s K, (HB wr p h B ∧ HK wr kb r s K) ∧ Inv B K ∧ Below W.heap.size W wr ∧ (∀ k, blk p h k → W.heap.size ≤ k) ∧ (∀ k, blkK kb r s K.e.length k → W.heap.size ≤ k) ∧ ∀ k, blk p h k → ¬ blkK kb r s K.e.length k

theorem Turn8.below {Inv : Bld → Bk → Prop} {W wr w' : World} {p kb : Nat} (H : Turn8 Inv W p kb wr) (h : Below wr.heap.size wr w') : Turn8 Inv W p kb w' := by
  obtain ⟨h', B, r, s, K, ⟨hb, hk⟩, hi, bl, fr, frK, dj⟩ := H
  exact ⟨h', B, r, s, K, ⟨hb.below h, hk.below h⟩, hi, bl.trans (h.mono bl.size), fr, frK, dj⟩
/-- .. for a reader. -/
theorem Turn8.see {Inv : Bld → Bk → Prop} (T : Tie Inv) {W wr : World} {p kb : Nat} (H : Turn8 Inv W p kb wr) : ∃ (g0 c0 nA g1 c1 m g5 c5 ge ce : Nat) (D : Nat → Bool), nA ≤ 256 ∧ m ≤ 256 ∧
    wr.cell? ⟨p, 0, none⟩ = some (.slice (some ⟨g0, 0, none⟩) nA c0) ∧ wr.cell? ⟨p, 5, none⟩ = some (.slice (some ⟨g1, 0, none⟩) m c1) ∧ wr.cell? ⟨p, 9, none⟩ = some (.slice (some ⟨g5, 0, none⟩) m c5) ∧
    wr.cell? ⟨kb, 0, none⟩ = some (.slice (some ⟨ge, 0, none⟩) m ce) ∧ wr.cell? ⟨kb, 1, none⟩ = some (.int .i64 (nA : Int)) ∧
    ∀ j, j < m → wr.cell? ⟨g5, j, none⟩ = some (.bool (D j)) ∧ wr.cell? ⟨ge, j * 10, none⟩ = some (.bool (D j)) := by
  obtain ⟨h', B, r, s, K, ⟨hb, hk⟩, hi, bl, fr, frK, dj⟩ := H
  have hG := (T.good hi).even
  obtain ⟨ap, cp, sp⟩ := hb.see hG
  obtain ⟨e1, e2, e3⟩ := T.len hi
  obtain ⟨⟨a1, a2⟩, ⟨a3, a4⟩, a5, a6, a7, a8⟩ := hG
  obtain ⟨ge, ce, hr, _, _, _⟩ := hk.entAt (i := 0) (by omega)
  obtain ⟨l0, _, l1, _⟩ := hk.lenAt
  have f1 := sp.f1
  have f5 := sp.f5
  rw [e2] at f1
  rw [a8, e2] at f5
  rw [hr] at l0
  rw [← e1] at l1
  refine ⟨ap 0, cp 0, B.A.length, ap 1, cp 1, K.e.length, ap 5, cp 5, ge, ce, fun j => B.dead.getD j false, a2, by omega, sp.f0, f1, f5, l0, l1, fun j hj => ⟨sp.deads j (by omega), ?_⟩⟩
  obtain ⟨ge', ce', hr', _, _, hcs⟩ := hk.entAt (i := j) hj
  rw [hr] at hr'
  simp only [Value.slice.injEq, Option.some.injEq, Addr.mk.injEq, and_true, true_and] at hr'
  obtain ⟨rfl, rfl⟩ := hr'
  show wr.cell? _ = some (.bool (B.dead.getD j false))
  rw [e3 j hj]
  have := (hcs 0 _ rfl).1
  rwa [Nat.add_zero] at this
/-- The book at its start. -/
theorem new_book {w : World} {g0 g1 kb : Nat} (h1 : g0 < g1) (h2 : g1 < kb) (c0 : w.heap[g0]? = some (.cells #[.bool false] 4 (0, 0))) (c1 : w.heap[g1]? = some (.cells (entC ⟨false, 1, 0, 0, 1, 0, 0, 0, 0, [false]⟩ (.slice (some ⟨g0, 0, none⟩) 1 1)).toArray 70 (0, 0)))
    (c2 : RowAt w kb 0 [.slice (some ⟨g1, 0, none⟩) 1 1, .int .i64 1]) : HK w kb (.slice (some ⟨g1, 0, none⟩) 1 1) (fun _ => .slice (some ⟨g0, 0, none⟩) 1 1) newK ∧ ∀ k, blkK kb (.slice (some ⟨g1, 0, none⟩) 1 1) (fun _ => .slice (some ⟨g0, 0, none⟩) 1 1) newK.e.length k → g0 ≤ k := by
  have hcls : ∀ i k, blksK kb (.slice (some ⟨g1, 0, none⟩) 1 1) (fun _ => .slice (some ⟨g0, 0, none⟩) 1 1) newK.e.length i = some k → (i = 0 ∧ k = kb) ∨ (i = 1 ∧ k = g1) ∨ (i = 2 ∧ k = g0) := by
    intro i k e
    match i with
    | 0 => simp only [blksK, Option.some.injEq] at e; exact .inl ⟨rfl, e.symm⟩
    | 1 => simp [blksK, Value.ownBlock] at e; exact .inr (.inl ⟨rfl, e.symm⟩)
    | 2 => simp [blksK, Value.ownBlock, newK] at e; exact .inr (.inr ⟨rfl, e.symm⟩)
    | i + 3 =>
      simp only [blksK] at e
      rw [if_neg (by simp [newK])] at e
      cases e
  refine ⟨⟨c2, ⟨rfl, .inr ⟨g1, 1, _, rfl, Nat.zero_le _, c1, Nat.le_refl 1, by unfold maxLen; omega, rfl, rfl⟩⟩, fun i hi => ?_, fun i j k e1 e2 => ?_⟩, ?_⟩
  · have : i = 0 := by simp [newK] at hi; exact hi
    subst this
    exact ⟨rfl, .inr ⟨g0, 1, _, rfl, Nat.zero_le _, c0, Nat.le_refl 1, by unfold maxLen; omega, rfl, rfl⟩⟩
  · rcases hcls i k e1 with ⟨a, b⟩ | ⟨a, b⟩ | ⟨a, b⟩ <;> rcases hcls j k e2 with ⟨a', b'⟩ | ⟨a', b'⟩ | ⟨a', b'⟩ <;> omega
  · rintro k ⟨i, e⟩
    rcases hcls i k e with ⟨_, b⟩ | ⟨_, b⟩ | ⟨_, b⟩ <;> omega

theorem mk_bool1 (w : World) : (Instr.makeSlice 59 (.int .i64 1) (.int .i64 1)).run Faag.prog w = .ok (.slice (some ⟨w.heap.size, 0, none⟩) 1 1) (w.alloc (.cells #[.bool false] 4)) := by kernel_rfl

/-- What a round does: Do, then takes. -/
theorem round8 {Inv : Bld → Bk → Prop} (T : Tie Inv) {W wr : World} {p kb : Nat} (H : Turn8 Inv W p kb wr) {op : Opn} (hop : op.Ok) (hs : op.s.size ≤ 140737488355328) :
    ∀ w1 : World, (∃ x : Kw (fun k => k ≠ wr.heap.size) (wr.alloc (.cells (opC op).toArray 46)), w1 = x.to) → Below wr.heap.size wr w1 →
    Calls Faag.prog 26 #[.pointer (some ⟨p, 0, none⟩), .agg (opC op).toArray] w1 (fun e w2 => ∃ rb : Bool, e = .returned (.bool rb) ∧ Keeps (fun k => k ≠ wr.heap.size) (wr.alloc (.cells (opC op).toArray 46)) w2 ∧
      Calls Faag.prog 35 #[.pointer (some ⟨kb, 0, none⟩), .agg (opC op).toArray] w2 (fun e w3 => e = .returned (.bool rb) ∧ Keeps (fun k => k ≠ wr.heap.size) (wr.alloc (.cells (opC op).toArray 46)) w3 ∧ Turn8 Inv W p kb w3)) := by
  rintro w1 ⟨x, rfl⟩ bl1
  obtain ⟨h, B, r, s, K, ⟨hb, hk⟩, hi, bl, fr, frK, dj⟩ := H
  have sz := bl1.size
  have hb1 := hb.below bl1
  have hk1 := hk.below bl1
  obtain ⟨c1, hc1⟩ : ∃ c : Bool, c = true ↔ contentP op.s := by
    by_cases hc : contentP op.s
    · exact ⟨true, by simp [hc]⟩
    · exact ⟨false, by simp [hc]⟩
  obtain ⟨c2, hc2⟩ : ∃ c : Bool, c = true ↔ insideP B.A.length (B.o op.h) := by
    by_cases hc : insideP B.A.length (B.o op.h)
    · exact ⟨true, by simp [hc]⟩
    · exact ⟨false, by simp [hc]⟩
  obtain ⟨st1, st2⟩ := T.step hi hb.ok hop hc1 hc2
  refine (do_calls op hop (by omega) c1 c2 hc1 hc2 hb1 (T.good hi)).mono ?_
  rintro e w2 ⟨he, h2, hb2, mv2⟩
  have kp2 : Keeps (fun k => k ≠ wr.heap.size) (wr.alloc (.cells (opC op).toArray 46)) w2 := x.keeps.trans (mv2.keeps.mono (fun k _ hx e => by subst e; have := hb.lt hx; omega))
  have hk2 : HK w2 kb r s K := hk1.keeps mv2.keeps (fun j hj hx => dj j hx hj)
  obtain ⟨f1, f2, f3⟩ := T.fit hi
  refine ⟨_, he, kp2, ?_⟩
  refine (takes_calls op hop hs c1 hc1 hk2 f1 f2 f3).mono ?_
  rintro e w3 ⟨he3, r', s', hk3, mv3⟩
  rw [← st1] at he3
  have szW := bl.size
  have bl2 : Below W.heap.size W w2 := (bl.trans (bl1.mono bl.size)).trans (mv2.below (by omega) (fun k hk hx => by have := fr k hx; omega))
  have sz2 := mv2.keeps.size
  refine ⟨he3, kp2.trans (mv3.keeps.mono (fun k _ hx e => by subst e; have := hk.lt hx; omega)), h2, _, r', s', _, ⟨hb2.keeps mv3.keeps (fun j hj hx => ?_), hk3⟩, st2, bl2.trans ⟨mv3.keeps.os, mv3.keeps.tape, mv3.keeps.output, mv3.keeps.size, fun k hk' => mv3.keeps.block k (by omega) (fun hx => by have := frK k hx; omega)⟩, fun k hk' => ?_, fun k hk' => ?_, fun k hb' hk' => ?_⟩
  · rcases mv2.fresh j hj with h1 | h1
    · exact dj j h1 hx
    · have := hk1.lt hx; omega
  · rcases mv2.fresh k hk' with h1 | h1
    · exact fr k h1
    · omega
  · rcases mv3.fresh k hk' with h1 | h1
    · exact frK k h1
    · omega
  · rcases mv3.fresh k hk' with h1 | h1
    · rcases mv2.fresh k hb' with h3 | h3
      · exact dj k h3 h1
      · have := hk1.lt h1; omega
    · have := hb2.lt hb'
      omega
end Go.Proofs.Ygcfaa
