import Derived.Test.YgcfaaGreatMoPush2
namespace Go.Proofs.YgcfaaGreat
open Go.RowKit Bits Bd
set_option linter.unusedVariables false
set_option maxRecDepth 100000

def hKid (h : Nat → Value) (l : Nat) (v : Value) : Nat → Value := fun x => if x = 2 * l + 2 + 1 then v else h x
section
variable {full : Bool} {wb w w' W W1 W' : World} {p nb n n' : Nat} {hb h h' : Nat → Value} {M M' : Mo}
/-- t.N[l].Kids = append(t.N[l].Kids, k), up to the store. -/
theorem wpList_appK2 (m : HM full W p h M) {l : Nat} (hl : l < M.N.length) (k : Int) (hk : -32768 ≤ k ∧ k ≤ 32767) (hkl : (M.nd l).kids.length < 1000) {gn cn : Nat} (hg : h 0 = .slice (some ⟨gn, 0, none⟩) M.N.length cn)
    {ops : Array Oper} {rest : List Oper} {o : Oper} {a : Act} {Q : Exit → Act → World → Prop} (hgd : o.guard = none) (s x : Operand)
    (ho : o.op = .call { callee := .builtin .append, args := #[s, x], argTypes := #[74, 74] })
    (v : Value) (hv : h (2 * l + 3) = v) (hs : a.eval s = v) (ad : Addr) (hx : a.eval x = .slice (some ad) 1 1)
    (hc : W.cell? (ad.add 0) = some (.int .i16 k))
    (hK : ∀ va vc W1, HM full (W1.setCell ⟨gn, l * 4 + 3, none⟩ (.slice va ((M.nd l).kids.length + 1) vc)) p (hKid h l (.slice va ((M.nd l).kids.length + 1) vc)) { M with N := M.N.set l { M.nd l with kids := (M.nd l).kids ++ [k] } } →
      Keeps (mblk p h M.N.length) W (W1.setCell ⟨gn, l * 4 + 3, none⟩ (.slice va ((M.nd l).kids.length + 1) vc)) →
      (∀ j, mblk p (hKid h l (.slice va ((M.nd l).kids.length + 1) vc)) M.N.length j → mblk p h M.N.length j ∨ W.heap.size ≤ j) →
      W1.cell? ⟨gn, l * 4 + 3, none⟩ = some v → W1.frozen? ⟨gn, l * 4 + 3, none⟩ = false → Keeps (fun j => some j = (h (2 * l + 3)).ownBlock) W W1 → wpList Faag.prog ops Q rest (a.put o.dst (.slice va ((M.nd l).kids.length + 1) vc)) W1) : wpList Faag.prog ops Q (o :: rest) a W := by
  refine wpList_appT ty_kids hgd s x ho v (M.nd l).kids.length (kidsC (M.nd l).kids) hs (by rw [← hv]; exact m.kid l hl) ad 1 1 [.int .i16 k] hx rfl (fun j u hu => ?_) (fun u hu => ?_) (by omega) (by omega) (by omega) ?_
  · match j, hu with
    | 0, hu => cases hu; exact hc
  · simp only [List.mem_cons, List.not_mem_nil, or_false] at hu
    subst hu; rfl
  · intro v' W1 ho1 kp bo
    rw [← hv] at kp bo
    obtain ⟨va, vc, e, _⟩ := own_len ho1
    subst e
    have hgb : (h 0).ownBlock = some gn := by rw [hg]; rfl
    have bo' : ∀ j, (Value.slice va ((M.nd l).kids.length + 1) vc).ownBlock = some j → (h (2 * l + 3)).ownBlock = some j ∨ j = W.heap.size := bo
    have hmk : ∀ j, (h (2 * l + 3)).ownBlock = some j → mblk p h M.N.length j := fun j hj => .inr ⟨2 * l + 3, by omega, hj⟩
    have hgx : ¬ some gn = (h (2 * l + 3)).ownBlock := fun e => absurd (m.ap 0 (2 * l + 3) gn (by omega) (by omega) hgb e.symm) (by omega)
    obtain ⟨gn', cn', hg', hcells⟩ := m.node hl
    have hgg : gn' = gn := by rw [hg] at hg'; cases hg'; rfl
    subst hgg
    have hgl : gn' < W.heap.size := m.blk_lt (.inr ⟨0, by omega, hgb⟩)
    have e1 := hcells 3 _ rfl
    have okn := m.ok l
    refine hK va vc W1 (HM.newRow m hl hg (b := 1) (by omega) (v' := .slice va ((M.nd l).kids.length + 1) vc) (n' := { M.nd l with kids := (M.nd l).kids ++ [k] }) kp (fun j hj => ?_) ⟨rfl, rfl⟩ (fun e => absurd e (by omega)) (fun _ => ⟨rfl, ?_⟩) ⟨okn.kind, okn.code, okn.data, fun y hy => ?_, okn.dl, ?_⟩) (Keeps.setCell (kp.mono (fun j _ e => hmk j e.symm)) (fun _ => .inr ⟨0, by omega, hgb⟩) _) (fun j hj => ?_) ?_ ?_ kp
    · rcases bo' j hj with q | q
      · exact .inl q
      · exact .inr (fun q2 => by have := m.blk_lt q2; omega)
    · show W1.ownsRow 0 40 1 _ ((M.nd l).kids ++ [k]).length (kidsC ((M.nd l).kids ++ [k]))
      rw [List.length_append, show kidsC ((M.nd l).kids ++ [k]) = kidsC (M.nd l).kids ++ [.int .i16 k] by unfold kidsC; rw [List.map_append]; rfl]
      exact ho1
    · rcases List.mem_append.1 hy with q | q
      · exact okn.kids y q
      · rw [List.mem_singleton.1 q]; exact hk
    · show ((M.nd l).kids ++ [k]).length ≤ 1000
      rw [List.length_append]
      show (M.nd l).kids.length + 1 ≤ 1000
      omega
    · rcases hj with rfl | ⟨i, hi, e⟩
      · exact .inl (.inl rfl)
      · unfold hKid at e
        by_cases h1 : i = 2 * l + 2 + 1
        · rw [if_pos h1] at e
          rcases bo' j e with q | q
          · exact .inl (hmk j q)
          · exact .inr (by omega)
        · rw [if_neg h1] at e; exact .inl (.inr ⟨i, hi, e⟩)
    · rw [kp.cell (p := ⟨gn', l * 4 + 3, none⟩) hgl hgx, e1.1]
      show some (h (2 * l + 3)) = _
      rw [hv]
    · rw [kp.frozen (p := ⟨gn', l * 4 + 3, none⟩) hgl hgx]; exact e1.2
end

/-- A code 7 list being filled. -/
structure EL (l d q : Nat) (hx : Hd) (j : Nat) (M : Mo) : Prop where
  inv : InvM M
  n : M.N.length = l + 1 + j
  kind : (M.nd l).kind = 2
  code : (M.nd l).code = 7
  kl : (M.nd l).kids.length = j
  hd : M.hd (l + 1) = hx
  E : ∀ i, i < (M.nd l).kids.length → ∃ x : Nat, (M.nd l).kids.getD i 0 = (x : Int) ∧ x < M.N.length ∧ (M.nd x).data.length ≤ d ∧ (M.nd x).kids.length ≤ q
theorem EL.step {l cnt d q j : Nat} {hx : Hd} {M : Mo} (s : EL l d q hx j M) (hj : j < cnt) (hc : cnt ≤ 128) (hnm : hx.named = true) (hw : 1 + cnt * (d + q) ≤ hx.words) (hdq : 1 ≤ d + q) (hd8 : d ≤ 8) (hq8 : q ≤ 8) (hn : l + 2 + cnt ≤ 256) : EL l d q hx (j + 1) (M.elem l d q) := by
  have hl : l < M.N.length := by have := s.n; omega
  have hnh := s.inv.nh
  have hsn := s.n
  have m := elem_more hl d q
  refine ⟨invM_elem s.inv hl s.kind s.code (by rw [s.hd]; exact hnm) (by rw [s.kl]; exact hj) hc (by rw [s.hd]; exact hw) hdq hd8 hq8 s.E (by omega), by rw [m.n]; omega, by rw [(m.old l hl).1]; exact s.kind, by rw [(m.old l hl).2.1]; exact s.code, by rw [elem_kl hl d q hl, if_pos rfl, s.kl], by rw [m.hold (l + 1) (by omega)]; exact s.hd, fun i hi => ?_⟩
  have hkd := elem_kd hl d q hl i hi
  rw [elem_kl hl d q hl, if_pos rfl] at hi
  have hkd' : ((M.elem l d q).nd l).kids.getD i 0 = if l = l ∧ i = (M.nd l).kids.length then (M.N.length : Int) else M.kd l i := hkd
  by_cases e : i = (M.nd l).kids.length
  · rw [if_pos ⟨rfl, e⟩] at hkd'
    refine ⟨M.N.length, hkd', by rw [m.n]; omega, ?_, ?_⟩
    · rw [m.new]; show (List.replicate d 0).length ≤ d; rw [List.length_replicate]; exact Nat.le_refl _
    · rw [m.new]; show (List.replicate q (-1 : Int)).length ≤ q; rw [List.length_replicate]; exact Nat.le_refl _
  · rw [if_neg (fun h => e h.2)] at hkd'
    obtain ⟨x, x1, x2, x3, x4⟩ := s.E i (by omega)
    have hxl : ¬ x = l := by
      intro e2
      rcases (s.inv.shp l hl).1 i (by omega) with z | z
      · omega
      · have := z.1; omega
    refine ⟨x, by rw [hkd']; exact x1, by rw [m.n]; omega, by rw [(m.old x x2).2.2]; exact x3, by rw [elem_kl hl d q x2, if_neg hxl]; exact x4⟩
/-- The loop of elements. -/
def EW (wb : World) (p : Nat) (hb : Nat → Value) (nb l d q : Nat) (hx : Hd) (B j : Nat) (w : World) : Prop :=
  ∃ h M, MS wb p hb nb w h M ∧ EL l d q hx j M ∧ RowAt w B 0 (hdC hx) ∧ ¬ mblk p h M.N.length B
end Go.Proofs.YgcfaaGreat
