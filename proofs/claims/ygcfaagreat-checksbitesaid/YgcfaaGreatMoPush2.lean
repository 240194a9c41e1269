import Derived.Test.YgcfaaGreatMoLen
import Derived.Test.YgcfaaGreatSeg2
namespace Go.Proofs.YgcfaaGreat
open Go.RowKit Bits Bd
set_option linter.unusedVariables false
set_option maxRecDepth 100000

/-- A model now, and its state at the base wb. -/
structure MS (wb : World) (p : Nat) (hb : Nat → Value) (nb : Nat) (w : World) (h : Nat → Value) (M : Mo) : Prop where
  hm : HM true w p h M
  st : Stp p wb hb nb w h M.N.length
section
variable {full : Bool} {wb w w' W W1 W' : World} {p nb n n' : Nat} {hb h h' : Nat → Value} {M M' : Mo}
theorem Stp.more (a : Stp p wb hb nb W h n) (k : Keeps (mblk p h n) W W') (bl : ∀ j, mblk p h' n' j → mblk p h n j ∨ wb.heap.size ≤ j) : Stp p wb hb nb W' h' n' := by
  refine ⟨⟨k.os.trans a.kp.os, k.tape.trans a.kp.tape, k.output.trans a.kp.output, Nat.le_trans a.kp.size k.size, fun j hj hx => ?_⟩, fun j hj => ?_⟩
  · have hsz := a.kp.size
    rw [k.block j (by omega) (fun q => by
      rcases a.bl j q with q | q
      · exact hx q
      · omega)]
    exact a.kp.block j hj hx
  · rcases bl j hj with q | q
    · exact a.bl j q
    · exact .inr q
theorem MS.refl (m : HM true w p h M) : MS w p h M.N.length w h M := ⟨m, Stp.refl _ _ _ _⟩
theorem MS.below (s : MS wb p hb nb w h M) (b : Below w.heap.size w w') : MS wb p hb nb w' h M := ⟨s.hm.below b, s.st.trans (Stp.below b)⟩
theorem MS.of (s : MS wb p hb nb w h M) (m : HM true w' p h' M') (k : Keeps (mblk p h M.N.length) w w') (bl : ∀ j, mblk p h' M'.N.length j → mblk p h M.N.length j ∨ wb.heap.size ≤ j) : MS wb p hb nb w' h' M' := ⟨m, s.st.more k bl⟩
theorem MS.trans (a : MS wb p hb nb w h M) (b : MS w p h M.N.length w' h' M') : MS wb p hb nb w' h' M' := ⟨b.hm, a.st.trans b.st⟩
theorem MS.size (s : MS wb p hb nb w h M) : wb.heap.size ≤ w.heap.size := s.st.kp.size

theorem HM.push2 (m : HM full W p h M) {v0 dv kv : Value} {nd : Nd} (kp : Keeps (fun j => some j = (h 0).ownBlock) W W1) (bo : BlkOf W (h 0) v0)
    (ho : W1.ownsRow 0 76 4 v0 (M.N.length + 1) (nodesC h 0 M.N ++ [.int .u8 (nd.kind : Int), .int .u8 (nd.code : Int), dv, kv]))
    (hd : W.ownsRow 0 31 1 dv nd.data.length (cellsK .u64 nd.data)) (hk : W.ownsRow 0 40 1 kv nd.kids.length (kidsC nd.kids))
    (fd : ∀ j, dv.ownBlock = some j → ¬ mblk p h M.N.length j) (fk : ∀ j, kv.ownBlock = some j → ¬ mblk p h M.N.length j) (fdk : ∀ j, dv.ownBlock = some j → ¬ kv.ownBlock = some j) (hok : nd.Ok) (hn : M.N.length < 1000) :
    HM full (W1.setCell ⟨p, 0, none⟩ v0) p (hPush h M.N.length v0 dv kv) { M with N := M.N ++ [nd] } ∧ Keeps (mblk p h M.N.length) W (W1.setCell ⟨p, 0, none⟩ v0) ∧
      (∀ j, mblk p (hPush h M.N.length v0 dv kv) (M.N.length + 1) j → mblk p h M.N.length j ∨ dv.ownBlock = some j ∨ kv.ownBlock = some j ∨ W.heap.size ≤ j) := by
  have hm0 : ∀ j, (h 0).ownBlock = some j → mblk p h M.N.length j := fun j hj => .inr ⟨0, by omega, hj⟩
  have hdW : ∀ j, dv.ownBlock = some j → j < W.heap.size := fun j hj => own_blk_lt hd hj
  have hkW : ∀ j, kv.ownBlock = some j → j < W.heap.size := fun j hj => own_blk_lt hk hj
  have hv0 : ∀ j, v0.ownBlock = some j → (h 0).ownBlock = some j ∨ j = W.heap.size := bo
  refine ⟨HM.appN m kp (fun j hj => ?_) ho (own_keeps hd kp (fun j hj e => fd j hj (hm0 j e.symm))) (own_keeps hk kp (fun j hj e => fk j hj (hm0 j e.symm))) hok hn (fun j hj => ⟨fd j hj, fun e => ?_, fdk j hj⟩) (fun j hj => ⟨fk j hj, fun e => ?_⟩), ?_, fun j hj => ?_⟩
  · rcases hv0 j hj with q | q
    · exact .inl q
    · exact .inr (fun q2 => by have := m.blk_lt q2; omega)
  · rcases hv0 j e with q | q
    · exact fd j hj (hm0 j q)
    · have := hdW j hj; omega
  · rcases hv0 j e with q | q
    · exact fk j hj (hm0 j q)
    · have := hkW j hj; omega
  · exact Keeps.setCell (kp.mono (fun k _ e => hm0 k e.symm)) (fun _ => .inl rfl) _
  · rcases hj with rfl | ⟨i, hi, e⟩
    · exact .inl (.inl rfl)
    · unfold hPush at e
      by_cases h0 : i = 0
      · rw [if_pos h0] at e
        rcases hv0 j e with q | q
        · exact .inl (hm0 j q)
        · exact .inr (.inr (.inr (by omega)))
      · rw [if_neg h0] at e
        by_cases h1 : i = 2 * M.N.length + 2
        · rw [if_pos h1] at e; exact .inr (.inl e)
        · rw [if_neg h1] at e
          by_cases h2 : i = 2 * M.N.length + 3
          · rw [if_pos h2] at e; exact .inr (.inr (.inl e))
          · rw [if_neg h2] at e; exact .inl (.inr ⟨i, by omega, e⟩)
/-- t.N = append(t.N, node), up to the store. -/
theorem wpList_appN2 (m : HM full W p h M) (nd : Nd) (dv kv : Value)
    (hd : W.ownsRow 0 31 1 dv nd.data.length (cellsK .u64 nd.data)) (hk : W.ownsRow 0 40 1 kv nd.kids.length (kidsC nd.kids))
    (fd : ∀ j, dv.ownBlock = some j → ¬ mblk p h M.N.length j) (fk : ∀ j, kv.ownBlock = some j → ¬ mblk p h M.N.length j) (fdk : ∀ j, dv.ownBlock = some j → ¬ kv.ownBlock = some j) (hok : nd.Ok) (hn : M.N.length < 1000)
    {ops : Array Oper} {rest : List Oper} {o : Oper} {a : Act} {Q : Exit → Act → World → Prop} (hgd : o.guard = none) (s x : Operand)
    (ho : o.op = .call { callee := .builtin .append, args := #[s, x], argTypes := #[39, 39] })
    (v : Value) (hv : h 0 = v) (hs : a.eval s = v) (ad : Addr) (hx : a.eval x = .slice (some ad) 1 1)
    (hc : ∀ j u, [Value.int .u8 (nd.kind : Int), .int .u8 (nd.code : Int), dv, kv][j]? = some u → W.cell? (ad.add j) = some u)
    (hK : ∀ va vc W1, HM full (W1.setCell ⟨p, 0, none⟩ (.slice va (M.N.length + 1) vc)) p (hPush h M.N.length (.slice va (M.N.length + 1) vc) dv kv) { M with N := M.N ++ [nd] } → Keeps (mblk p h M.N.length) W (W1.setCell ⟨p, 0, none⟩ (.slice va (M.N.length + 1) vc)) →
      (∀ j, mblk p (hPush h M.N.length (.slice va (M.N.length + 1) vc) dv kv) (M.N.length + 1) j → mblk p h M.N.length j ∨ dv.ownBlock = some j ∨ kv.ownBlock = some j ∨ W.heap.size ≤ j) →
      W1.cell? ⟨p, 0, none⟩ = some v → W1.frozen? ⟨p, 0, none⟩ = false → Keeps (fun j => some j = (h 0).ownBlock) W W1 → wpList Faag.prog ops Q rest (a.put o.dst (.slice va (M.N.length + 1) vc)) W1) : wpList Faag.prog ops Q (o :: rest) a W := by
  have o1 : ∀ {e size n xs} {v : Value}, W.ownsRow 0 e size v n xs → v.oneCell' = true := fun ho => by
    obtain ⟨_, _, e, _⟩ := own_len ho
    rw [e]; rfl
  refine wpList_appT ty_nodes hgd s x ho v M.N.length (nodesC h 0 M.N) hs (by rw [← hv]; exact m.nodes) ad 1 1 [.int .u8 (nd.kind : Int), .int .u8 (nd.code : Int), dv, kv] hx rfl hc (fun u hu => ?_) (by omega) (by omega) (by omega) ?_
  · simp only [List.mem_cons, List.not_mem_nil, or_false] at hu
    rcases hu with rfl | rfl | rfl | rfl
    · rfl
    · rfl
    · exact o1 hd
    · exact o1 hk
  · intro v' W1 ho1 kp bo
    rw [← hv] at kp bo
    obtain ⟨va, vc, e, _⟩ := own_len ho1
    subst e
    obtain ⟨p1, p2, p3⟩ := m.push2 kp bo ho1 hd hk fd fk fdk hok hn
    have hpb : p < W.heap.size := m.lt
    have hpx : ¬ some p = (h 0).ownBlock := fun e => m.pp 0 (by omega) e.symm
    refine hK va vc W1 p1 p2 p3 ?_ ?_ kp
    · rw [kp.cell (p := ⟨p, 0, none⟩) hpb hpx, m.f0.1, hv]
    · rw [kp.frozen (p := ⟨p, 0, none⟩) hpb hpx]; exact m.f0.2
def hHand (h : Nat → Value) (v1 : Value) : Nat → Value := fun y => if y = 1 then v1 else h y
/-- m.H = append(m.H, handle), up to the store. -/
theorem wpList_appH2 (m : HM true W p h M) (x : Hd) (hok : x.Ok) (hn : M.H.length < 1000)
    {ops : Array Oper} {rest : List Oper} {o : Oper} {a : Act} {Q : Exit → Act → World → Prop} (hgd : o.guard = none) (s y : Operand)
    (ho : o.op = .call { callee := .builtin .append, args := #[s, y], argTypes := #[45, 45] })
    (v : Value) (hv : h 1 = v) (hs : a.eval s = v) (ad : Addr) (hx : a.eval y = .slice (some ad) 1 1)
    (hc : ∀ j u, (hdC x)[j]? = some u → W.cell? (ad.add j) = some u)
    (hK : ∀ va vc W1, HM true (W1.setCell ⟨p, 2, none⟩ (.slice va (M.H.length + 1) vc)) p (hHand h (.slice va (M.H.length + 1) vc)) { M with H := M.H ++ [x] } → Keeps (mblk p h M.N.length) W (W1.setCell ⟨p, 2, none⟩ (.slice va (M.H.length + 1) vc)) →
      (∀ j, mblk p (hHand h (.slice va (M.H.length + 1) vc)) M.N.length j → mblk p h M.N.length j ∨ W.heap.size ≤ j) →
      W1.cell? ⟨p, 2, none⟩ = some v → W1.frozen? ⟨p, 2, none⟩ = false → Keeps (fun j => some j = (h 1).ownBlock) W W1 → wpList Faag.prog ops Q rest (a.put o.dst (.slice va (M.H.length + 1) vc)) W1) : wpList Faag.prog ops Q (o :: rest) a W := by
  refine wpList_appT ty_hands hgd s y ho v M.H.length (handsC M.H) hs (by rw [← hv]; exact m.hands) ad 1 1 (hdC x) hx rfl hc (fun u hu => ?_) (by omega) (by omega) (by omega) ?_
  · unfold hdC at hu
    simp only [List.mem_cons, List.not_mem_nil, or_false] at hu
    rcases hu with rfl | rfl | rfl | rfl | rfl | rfl | rfl <;> rfl
  · intro v' W1 ho1 kp bo
    rw [← hv] at kp bo
    obtain ⟨va, vc, e, _⟩ := own_len ho1
    subst e
    have hpb : p < W.heap.size := m.lt
    have hpx : ¬ some p = (h 1).ownBlock := fun e => m.pp 1 (by omega) e.symm
    have hm1 : ∀ j, (h 1).ownBlock = some j → mblk p h M.N.length j := fun j hj => .inr ⟨1, by omega, hj⟩
    have bo' : ∀ j, (Value.slice va (M.H.length + 1) vc).ownBlock = some j → (h 1).ownBlock = some j ∨ j = W.heap.size := bo
    refine hK va vc W1 (HM.appH m kp (fun j hj => ?_) ho1 hok hn) (Keeps.setCell (kp.mono (fun k _ e => hm1 k e.symm)) (fun _ => .inl rfl) _) (fun j hj => ?_) ?_ ?_ kp
    · rcases bo' j hj with q | q
      · exact .inl q
      · exact .inr (fun q2 => by have := m.blk_lt q2; omega)
    · rcases hj with rfl | ⟨i, hi, e⟩
      · exact .inl (.inl rfl)
      · unfold hHand at e
        by_cases h1 : i = 1
        · rw [if_pos h1] at e
          rcases bo' j e with q | q
          · exact .inl (hm1 j q)
          · exact .inr (by omega)
        · rw [if_neg h1] at e; exact .inl (.inr ⟨i, hi, e⟩)
    · rw [kp.cell (p := ⟨p, 2, none⟩) hpb hpx, m.f2.1, hv]
    · rw [kp.frozen (p := ⟨p, 2, none⟩) hpb hpx]; exact m.f2.2
theorem setP_H (H I : Nat) (v : Int) : (M.setP H I v).H = M.H := by unfold Mo.setP; split <;> rfl
theorem MS.setP (s : MS wb p hb nb w h M) {H I : Nat} {a : Addr} (q : PlAt p h M H I a) {v : Int} (hv : -32768 ≤ v ∧ v ≤ 32767) : MS wb p hb nb (w.setCell a (.int .i16 v)) h (M.setP H I v) := by
  refine s.of (q.set s.hm hv) (Keeps.setCell (Keeps.refl _ _) (fun _ => q.blk) _) (fun j hj => .inl ?_)
  rw [setP_len] at hj; exact hj
end
end Go.Proofs.YgcfaaGreat
