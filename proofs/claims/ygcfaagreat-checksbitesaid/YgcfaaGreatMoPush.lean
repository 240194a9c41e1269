import Derived.Test.YgcfaaGreatMoStep
namespace Go.Proofs.YgcfaaGreat
open Go.RowKit Bits Bd
set_option linter.unusedVariables false
set_option maxRecDepth 100000

section
variable {full : Bool} {w W : World} {p : Nat} {h : Nat → Value} {M : Mo}
/-- t.N = append(t.N, node), up to the store. -/
theorem wpList_appN (m : HM full w p h M) (kW : Below w.heap.size w W) (nd : Nd) (dv kv : Value)
    (hd : W.ownsRow 0 31 1 dv nd.data.length (cellsK .u64 nd.data)) (hk : W.ownsRow 0 40 1 kv nd.kids.length (kidsC nd.kids))
    (fd : ∀ j, dv.ownBlock = some j → w.heap.size ≤ j) (fk : ∀ j, kv.ownBlock = some j → w.heap.size ≤ j) (fdk : ∀ j, dv.ownBlock = some j → ¬ kv.ownBlock = some j) (hok : nd.Ok) (hn : M.N.length < 1000)
    {ops : Array Oper} {rest : List Oper} {o : Oper} {a : Act} {Q : Exit → Act → World → Prop} (hgd : o.guard = none) (s x : Operand)
    (ho : o.op = .call { callee := .builtin .append, args := #[s, x], argTypes := #[39, 39] })
    (v : Value) (hv : h 0 = v) (hs : a.eval s = v) (ad : Addr) (hx : a.eval x = .slice (some ad) 1 1)
    (hc : ∀ j u, [Value.int .u8 (nd.kind : Int), .int .u8 (nd.code : Int), dv, kv][j]? = some u → W.cell? (ad.add j) = some u)
    (hK : ∀ va vc W1, HM full (W1.setCell ⟨p, 0, none⟩ (.slice va (M.N.length + 1) vc)) p (hPush h M.N.length (.slice va (M.N.length + 1) vc) dv kv) { M with N := M.N ++ [nd] } → Stp p w h M.N.length (W1.setCell ⟨p, 0, none⟩ (.slice va (M.N.length + 1) vc)) (hPush h M.N.length (.slice va (M.N.length + 1) vc) dv kv) (M.N.length + 1) →
      W1.cell? ⟨p, 0, none⟩ = some v → W1.frozen? ⟨p, 0, none⟩ = false → Keeps (mblk p h M.N.length) w W1 → wpList Faag.prog ops Q rest (a.put o.dst (.slice va (M.N.length + 1) vc)) W1) : wpList Faag.prog ops Q (o :: rest) a W := by
  have hm := m.below kW
  have o1 : ∀ {e size n xs} {v : Value}, W.ownsRow 0 e size v n xs → v.oneCell' = true := fun ho => by
    obtain ⟨_, _, e, _⟩ := own_len ho
    rw [e]; rfl
  refine wpList_appT ty_nodes hgd s x ho v M.N.length (nodesC h 0 M.N) hs (by rw [← hv]; exact hm.nodes) ad 1 1 [.int .u8 (nd.kind : Int), .int .u8 (nd.code : Int), dv, kv] hx rfl hc (fun u hu => ?_) (by omega) (by omega) (by omega) ?_
  · simp only [List.mem_cons, List.not_mem_nil, or_false] at hu
    rcases hu with rfl | rfl | rfl | rfl
    · rfl
    · rfl
    · exact o1 hd
    · exact o1 hk
  · intro v' W1 ho1 kp bo
    rw [← hv] at kp bo
    obtain ⟨va, vc, e, _⟩ := own_len ho1
    subst e
    obtain ⟨p1, p2⟩ := m.push kW kp bo ho1 hd hk fd fk fdk hok hn
    have hpb : p < W.heap.size := hm.lt
    have hpx : ¬ some p = (h 0).ownBlock := fun e => m.pp 0 (by omega) e.symm
    refine hK va vc W1 p1 p2 ?_ ?_ ?_
    · rw [kp.cell (p := ⟨p, 0, none⟩) hpb hpx, hm.f0.1, hv]
    · rw [kp.frozen (p := ⟨p, 0, none⟩) hpb hpx]; exact hm.f0.2
    · refine ⟨kp.os.trans kW.os, kp.tape.trans kW.tape, kp.output.trans kW.output, Nat.le_trans kW.size kp.size, fun k hk hx => ?_⟩
      rw [kp.block k (Nat.lt_of_lt_of_le hk kW.size) (fun e => hx (.inr ⟨0, by omega, e.symm⟩))]
      exact kW.block k hk
end
end Go.Proofs.YgcfaaGreat
