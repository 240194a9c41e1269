import Derived.Test.YgcfaaGreatTurn
import Derived.Test.YgcfaaGreatInvCheck
import Derived.Test.YgcfaaGreatInvBite
import Derived.Test.YgcfaaGreatInvBiteY
import Derived.Test.YgcfaaGreatBite
import Derived.Test.YgcfaaGreatBiteWk
import Derived.Test.YgcfaaGreatWkLaw2
import Derived.Test.YgcfaaGreatBitePB
import Derived.Test.YgcfaaGreatBitePC
import Derived.Test.YgcfaaGreatBiteTree
import Derived.Test.YgcfaaGreatBiteCur
namespace Go.Proofs.YgcfaaGreat
open Go.RowKit Bits Bd
set_option linter.unusedVariables false
set_option maxRecDepth 100000
set_option linter.unusedSimpArgs false
attribute [local go_sem] World.cell?_ext World.frozen?_ext

section
variable {W w : World} {p q : Nat}
/-- A new builder's hurts. -/
theorem turn_biteB (H : Turn4 W p q w) {j : Nat} (hj : j < 15) :
    Calls Faag.prog 5 #[.pointer (some ⟨p, 0, none⟩)] w fun e w1 => e = .returned (.bool true) ∧
      Calls Faag.prog 6 #[.pointer (some ⟨p, 0, none⟩), .int .i64 (j : Int)] w1 fun e w' => e = .returned (.bool true) ∧ Below W.heap.size W w' := by
  obtain ⟨h, B, g, M, t⟩ := H
  obtain ⟨⟨a1, a2⟩, ⟨a3, a4⟩, _⟩ := t.ib.even
  refine (check_calls t.hb (by omega) (by omega)).mono ?_
  rintro e w1 ⟨⟨rb, rfl, hrb⟩, b1⟩
  refine ⟨by rw [hrb.2 (inv_check t.ib t.hb.ok)], ?_⟩
  have t1 := t.below b1
  refine (biteB_all t1.hb (inv_bites t.ib) (inv_bitesW t.ib t.hb.ok) j hj).mono ?_
  rintro e w2 ⟨rfl, kp⟩
  exact ⟨rfl, t1.bl.trans (kp.below t1.bl.size (fun k hk hx => by have := t.fb k hx; omega))⟩
/-- The arena, and a walk's hurts over it. -/
theorem turn_walk (H : Turn4 W p q w) : ∃ g m c, w.cell? ⟨p, 0, none⟩ = some (.slice (some ⟨g, 0, none⟩) m c) ∧ ∀ st k, st < 7 → k < 5 →
      Calls Faag.prog 7 #[.slice (some ⟨g, 0, none⟩) m c, .int .i64 (st : Nat), .int .i64 (k : Nat)] w fun e w' => e = .returned (.bool true) ∧ Below W.heap.size W w' := by
  obtain ⟨h, B, g, M, t⟩ := H
  obtain ⟨⟨a1, a2⟩, ⟨a3, a4⟩, _⟩ := t.ib.even
  obtain ⟨a, c, s⟩ := t.hb.see t.ib.even
  refine ⟨a 0, B.A.length, c 0, s.f0, fun st k hst hk => ?_⟩
  refine (biteWalk_calls (inv_steady t.ib) (a 0) (c 0) a1 a2 st k hst hk ⟨s.words, ?_⟩).mono ?_
  · exact t.hb.ok.A
  · rintro e w' ⟨rfl, b⟩
    exact ⟨rfl, t.bl.trans (b.mono t.bl.size)⟩
/-- The hurts of a Ptr. -/
theorem turn_ptr (H : Turn4 W p q w) {sa : Option Addr} {rl rc : Nat} (hraw : RawAt W sa rl) {k : Nat} (hk : k < 7) :
    Calls Faag.prog 8 #[.pointer (some ⟨p, 0, none⟩), .slice sa rl rc, .int .i64 (k : Nat)] w fun e w' => e = .returned (.bool true) ∧ Below W.heap.size W w' := by
  obtain ⟨h, B, g, M, t⟩ := H
  obtain ⟨a, c, s⟩ := t.hb.see t.ib.even
  have hr : RawAt w sa rl := hraw.below t.bl
  have fin : ∀ e w', (e = Ending.returned (.bool true) ∧ Below w.heap.size w w') → e = .returned (.bool true) ∧ Below W.heap.size W w' := fun e w' ⟨h1, h2⟩ => ⟨h1, t.bl.trans (h2.mono t.bl.size)⟩
  by_cases h4 : k < 4
  · exact (bitePtrA_calls s t.hb.ok t.ib sa rl rc hr k h4).mono fin
  · match k, h4, hk with
    | 4, _, _ => exact (bitePtr4_calls s t.hb.ok t.ib sa rl rc hr).mono fin
    | 5, _, _ => exact (bitePtr5_calls s t.hb.ok t.ib sa rl rc hr).mono fin
    | 6, _, _ => exact (bitePtr6_calls s t.hb.ok t.ib sa rl rc hr).mono fin
/-- The tree, copied; its hurts. -/
theorem turn_tree (H : Turn4 W p q w) {k : Nat} (hk : k < 12) :
    Calls Faag.prog 9 #[.pointer (some ⟨q, 0, none⟩)] w fun e w1 => ∃ na n nc r, e = .returned (.agg #[.slice na n nc, .int .i16 r]) ∧ Below W.heap.size W w1 ∧
      ∀ w2 x, w1.heap.size ≤ x → RowAt w2 x 0 [.slice na n nc, .int .i16 r] → Keeps (fun j => j = x) w1 w2 → Below W.heap.size W w2 →
        Calls Faag.prog 10 #[.pointer (some ⟨x, 0, none⟩)] w2 fun e w3 => e = .returned (.bool true) ∧
          Calls Faag.prog 11 #[.pointer (some ⟨x, 0, none⟩), .int .i64 (k : Int)] w3 fun e w' => e = .returned (.bool true) ∧ Below W.heap.size W w' := by
  obtain ⟨h, B, g, M, t⟩ := H
  refine (copied_calls t.hm).mono ?_
  rintro e w1 ⟨g1, U, m1, rfl, f1, b1⟩
  obtain ⟨na, nc, hg1⟩ := m1.n0
  have hg1' : g1 0 = .slice na M.N.length nc := hg1
  have tI := invM_T t.im
  refine ⟨na, M.N.length, nc, M.root, by rw [hg1'], t.bl.trans (b1.mono t.bl.size), fun w2 x hx r2 kp bl2 => ?_⟩
  have m2 : HM false w2 x g1 ⟨M.N, M.root, []⟩ := m1.move (by rw [hg1']; exact r2) kp (fun i hi e => by
    have := m1.blk_lt (.inr ⟨i, hi, e⟩)
    omega)
  refine (tcheck_yes m2 tI).mono ?_
  rintro e w3 ⟨rfl, b3⟩
  refine ⟨rfl, ?_⟩
  refine (biteTree_calls (m2.below b3) tI rfl k hk).mono ?_
  rintro e w4 ⟨rfl, k4⟩
  have bl3 : Below W.heap.size W w3 := bl2.trans (b3.mono bl2.size)
  refine ⟨rfl, bl3.trans (k4.below bl3.size (fun j hj hx' => ?_))⟩
  have hsz := t.bl.size
  rcases hx' with z | ⟨i, hi, z⟩
  · have := b1.size; omega
  · have := f1 j (.inr ⟨i, hi, z⟩)
    omega
end
end Go.Proofs.YgcfaaGreat
