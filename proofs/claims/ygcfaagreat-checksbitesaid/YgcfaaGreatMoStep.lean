import Derived.Test.YgcfaaGreatOrphLaw
namespace Go.Proofs.YgcfaaGreat
open Go.RowKit Bits Bd
set_option linter.unusedVariables false
set_option maxRecDepth 100000

/-- From one state of a model to the next: nothing but its blocks is written, and its blocks are old ones or new ones. -/
structure Stp (p : Nat) (w : World) (h : Nat → Value) (n : Nat) (w' : World) (h' : Nat → Value) (n' : Nat) : Prop where
  kp : Keeps (mblk p h n) w w'
  bl : ∀ j, mblk p h' n' j → mblk p h n j ∨ w.heap.size ≤ j
section
variable {p : Nat} {w w1 w' : World} {h h1 h' : Nat → Value} {n n1 n' : Nat}
theorem Stp.refl (p : Nat) (w : World) (h : Nat → Value) (n : Nat) : Stp p w h n w h n := ⟨Keeps.refl _ _, fun _ q => .inl q⟩
theorem Stp.trans (a : Stp p w h n w1 h1 n1) (b : Stp p w1 h1 n1 w' h' n') : Stp p w h n w' h' n' := by
  refine ⟨⟨b.kp.os.trans a.kp.os, b.kp.tape.trans a.kp.tape, b.kp.output.trans a.kp.output, Nat.le_trans a.kp.size b.kp.size, fun k hk hx => ?_⟩, fun j hj => ?_⟩
  · have hsz := a.kp.size
    rw [b.kp.block k (by omega) (fun q => by
      rcases a.bl k q with q | q
      · exact hx q
      · omega)]
    exact a.kp.block k hk hx
  · rcases b.bl j hj with q | q
    · exact a.bl j q
    · exact .inr (Nat.le_trans a.kp.size q)
theorem Stp.below (b : Below w.heap.size w w') : Stp p w h n w' h n :=
  ⟨(Keeps.of_below b).mono (fun k hk hx => by have hx' : w.heap.size ≤ k := hx; omega), fun _ q => .inl q⟩
theorem Stp.keep (k : Keeps (mblk p h n) w w') : Stp p w h n w' h n := ⟨k, fun _ q => .inl q⟩
end

section
variable {full : Bool} {w W W1 : World} {p : Nat} {h : Nat → Value} {M : Mo}
/-- The table of a model whose node M.N.length is appended. -/
def hPush (h : Nat → Value) (n : Nat) (v0 dv kv : Value) : Nat → Value := fun x => if x = 0 then v0 else if x = 2 * n + 2 then dv else if x = 2 * n + 3 then kv else h x
theorem HM.push (m : HM full w p h M) (kW : Below w.heap.size w W) {v0 dv kv : Value} {nd : Nd} (kp : Keeps (fun j => some j = (h 0).ownBlock) W W1) (bo : BlkOf W (h 0) v0)
    (ho : W1.ownsRow 0 76 4 v0 (M.N.length + 1) (nodesC h 0 M.N ++ [.int .u8 (nd.kind : Int), .int .u8 (nd.code : Int), dv, kv]))
    (hd : W.ownsRow 0 31 1 dv nd.data.length (cellsK .u64 nd.data)) (hk : W.ownsRow 0 40 1 kv nd.kids.length (kidsC nd.kids))
    (fd : ∀ j, dv.ownBlock = some j → w.heap.size ≤ j) (fk : ∀ j, kv.ownBlock = some j → w.heap.size ≤ j) (fdk : ∀ j, dv.ownBlock = some j → ¬ kv.ownBlock = some j) (hok : nd.Ok) (hn : M.N.length < 1000) :
    HM full (W1.setCell ⟨p, 0, none⟩ v0) p (hPush h M.N.length v0 dv kv) { M with N := M.N ++ [nd] } ∧ Stp p w h M.N.length (W1.setCell ⟨p, 0, none⟩ v0) (hPush h M.N.length v0 dv kv) (M.N.length + 1) := by
  have hm := m.below kW
  have hb0 : ∀ j, (h 0).ownBlock = some j → j < w.heap.size := fun j hj => m.blk_lt (.inr ⟨0, by omega, hj⟩)
  have hdW : ∀ j, dv.ownBlock = some j → j < W.heap.size := fun j hj => own_blk_lt hd hj
  have hkW : ∀ j, kv.ownBlock = some j → j < W.heap.size := fun j hj => own_blk_lt hk hj
  have hsz := kW.size
  have hnm : ∀ j, w.heap.size ≤ j → ¬ mblk p h M.N.length j := fun j hj q => by have := m.blk_lt q; omega
  have hv0 : ∀ j, v0.ownBlock = some j → (h 0).ownBlock = some j ∨ j = W.heap.size := bo
  refine ⟨HM.appN hm kp (fun j hj => ?_) ho (own_keeps hd kp (fun j hj e => ?_)) (own_keeps hk kp (fun j hj e => ?_)) hok hn (fun j hj => ⟨hnm j (fd j hj), fun e => ?_, fdk j hj⟩) (fun j hj => ⟨hnm j (fk j hj), fun e => ?_⟩), ⟨?_, fun j hj => ?_⟩⟩
  · rcases hv0 j hj with q | q
    · exact .inl q
    · exact .inr (hnm j (by omega))
  · have := hb0 j e.symm; have := fd j hj; omega
  · have := hb0 j e.symm; have := fk j hj; omega
  · rcases hv0 j e with q | q
    · have := hb0 j q; have := fd j hj; omega
    · have := hdW j hj; omega
  · rcases hv0 j e with q | q
    · have := hb0 j q; have := fk j hj; omega
    · have := hkW j hj; omega
  · refine Keeps.setCell ?_ (fun _ => .inl rfl) _
    refine ⟨kp.os.trans kW.os, kp.tape.trans kW.tape, kp.output.trans kW.output, Nat.le_trans hsz kp.size, fun k hk hx => ?_⟩
    rw [kp.block k (by omega) (fun e => hx (.inr ⟨0, by omega, e.symm⟩))]
    exact kW.block k hk
  · rcases hj with rfl | ⟨i, hi, e⟩
    · exact .inl (.inl rfl)
    · unfold hPush at e
      by_cases h0 : i = 0
      · rw [if_pos h0] at e
        rcases hv0 j e with q | q
        · exact .inl (.inr ⟨0, by omega, q⟩)
        · exact .inr (by omega)
      · rw [if_neg h0] at e
        by_cases h1 : i = 2 * M.N.length + 2
        · rw [if_pos h1] at e; exact .inr (fd j e)
        · rw [if_neg h1] at e
          by_cases h2 : i = 2 * M.N.length + 3
          · rw [if_pos h2] at e; exact .inr (fk j e)
          · rw [if_neg h2] at e; exact .inl (.inr ⟨i, by omega, e⟩)
/-- A row of one element that is built. -/
theorem own_lit (w : World) (e : TypeId) (v : Value) : (w.alloc (.cells #[v] e)).ownsRow 0 e 1 (.slice (some ⟨w.heap.size, 0, none⟩) 1 1) 1 [v] :=
  World.ownsRow_lit (size := 1) w #[v] 1 (Nat.zero_le _) (by unfold maxLen; omega) rfl
theorem lit_cells (w : World) (e : TypeId) (vs : List Value) (j : Nat) (u : Value) (hu : vs[j]? = some u) : (w.alloc (.cells vs.toArray e)).cell? (Addr.add ⟨w.heap.size, 0, none⟩ j) = some u := by
  have := (RowAt.of_alloc w vs e).at_ (i := j) hu
  rw [show Addr.add ⟨w.heap.size, 0, none⟩ j = ⟨w.heap.size, 0 + j, none⟩ by unfold Addr.add; split <;> simp_all]
  exact this
end
end Go.Proofs.YgcfaaGreat
