import Derived.Test.YgcfaaGreatStructOf
namespace Go.Proofs.YgcfaaGreat
open Go.RowKit Bits Bd
set_option linter.unusedVariables false
set_option maxRecDepth 100000

section
variable {t e : TypeId} {z : Value} {size bytes : Nat} {w : World}
/-- append([]T(nil), v...) -/
theorem wpList_dup (T : TyE t e z size bytes) {ops : Array Oper} {rest : List Oper} {o : Oper} {a : Act} {Q : Exit → Act → World → Prop} (hgd : o.guard = none) (s x : Operand)
    (ho : o.op = .call { callee := .builtin .append, args := #[s, x], argTypes := #[t, t] }) (hs : a.eval s = .slice none 0 0)
    (v : Value) (n : Nat) (xs : List Value) (hown : w.ownsRow 0 e size v n xs) (hx : a.eval x = v) (h1 : ∀ u ∈ xs, u.oneCell' = true) (hn : n ≤ 100000) (hb : bytes ≤ 1000)
    (h : ∀ va vc w', w'.ownsRow 0 e size (.slice va n vc) n xs → (∀ j, (Value.slice va n vc).ownBlock = some j → w.heap.size ≤ j) → Below w.heap.size w w' → wpList Faag.prog ops Q rest (a.put o.dst (.slice va n vc)) w') :
    wpList Faag.prog ops Q (o :: rest) a w := by
  obtain ⟨i, hi, hz, hsz, hby⟩ := info_of T.info
  have key : ∃ v' w', (Builtin.append_ #[t, t] o.type #[.slice none 0 0, v]).run Faag.prog w = .ok v' w' ∧ w'.ownsRow w.heap.size e size v' n xs ∧ Below w.heap.size w w' := by
    rcases hown.2 with ⟨rfl, rfl⟩ | ⟨g, cap, cur, rfl, _, hg, hnc, hcm, hcs, htk⟩
    · have hx0 : xs = [] := List.eq_nil_of_length_eq_zero (by have := hown.1; omega)
      subst hx0
      exact ⟨_, w, run_append_owned_none (P := Faag.prog) w 0 t o.type e i size T.under hi _ 0 [] (World.ownsRow_nil w 0 e size), World.ownsRow_nil _ _ _ _, Below.refl _ _⟩
    · have hbb : (0 + n) * bytes ≤ 140737488355328 := Nat.le_trans (Nat.mul_le_mul (show 0 + n ≤ 100000 by omega) hb) (by omega)
      have hc := hown.cells (g := g) rfl
      obtain ⟨v', w', hr, h2, h3, h4⟩ := run_append_own (P := Faag.prog) w w.heap.size t o.type e i z size bytes T.under hi hz hsz hby T.zs T.pos _ 0 [] (World.ownsRow_nil w w.heap.size e size) ⟨g, 0, none⟩ n cap xs hown.1 hc h1 (by unfold maxLen; omega) hbb (Nat.le_refl _)
      rw [Nat.zero_add, List.nil_append] at h2
      exact ⟨v', w', hr, h2, (keeps_of_grown h3).below (Nat.le_refl _) (fun k _ hx => (by cases hx))⟩
  obtain ⟨v', w', hr, h2, h3⟩ := key
  obtain ⟨va, vc, e', _⟩ := own_len h2
  subst e'
  refine wpList_plain hgd fun _ hK => ?_
  unfold Oper.wp execOp
  simp only [ho, resolve, invoke, builtin, Sem.run_bind, Sem.run_pure, Result.andThen_ok, List.map_toArray, List.map_cons, List.map_nil, hs, hx, hr]
  refine hK _ _ (h va vc w' ⟨h2.1, ?_⟩ (fun j hj => (h2.lt j hj).1) h3)
  rcases h2.2 with q | ⟨g, cap, cur, q1, q2, q3⟩
  · exact .inl q
  · exact .inr ⟨g, cap, cur, q1, Nat.zero_le _, q3⟩
end
namespace Bd
def Mo.cp (M : Mo) (i : Nat) : Mo := ⟨M.N.take i ++ List.replicate (M.N.length - i) zNd, M.root, []⟩
end Bd
section
variable {full : Bool} {w : World} {p : Nat} {h : Nat → Value} {M : Mo}
theorem cp_len {i : Nat} (hi : i ≤ M.N.length) : (M.cp i).N.length = M.N.length := by
  show (M.N.take i ++ List.replicate (M.N.length - i) zNd).length = _
  rw [List.length_append, List.length_take, List.length_replicate]; omega
theorem cp_end : M.cp M.N.length = ⟨M.N, M.root, []⟩ := by
  unfold Mo.cp
  rw [Nat.sub_self, List.take_length, List.replicate_zero, List.append_nil]
theorem cp_succ {i : Nat} (hi : i < M.N.length) : M.cp (i + 1) = { M.cp i with N := (M.cp i).N.set i (M.nd i) } := by
  unfold Mo.cp
  congr 1
  show _ = (M.N.take i ++ List.replicate (M.N.length - i) zNd).set i (M.nd i)
  have hl : (M.N.take i).length = i := by rw [List.length_take]; omega
  rw [List.set_append_right _ _ (by omega), hl, Nat.sub_self, show M.N.length - i = (M.N.length - (i + 1)) + 1 by omega, List.replicate_succ, List.set_cons_zero, List.take_add_one, List.append_assoc]
  congr 1
  rw [List.getElem?_eq_getElem hi]
  unfold Mo.nd
  rw [List.getD_eq_getElem?_getD, List.getElem?_eq_getElem hi]
  rfl
/-- A tree of n zero nodes. -/
theorem HM.start {U G n : Nat} {root : Int} (hr : RowAt w U 0 [.slice (some ⟨G, 0, none⟩) n n, .int .i16 root]) (ho : w.ownsRow 0 76 4 (.slice (some ⟨G, 0, none⟩) n n) n (nodesC nilH 0 (List.replicate n zNd))) (hne : ¬ G = U) (rt : -32768 ≤ root ∧ root ≤ 32767) (nn : n ≤ 1000) :
    HM false w U (fun x => if x = 0 then .slice (some ⟨G, 0, none⟩) n n else .slice none 0 0) ⟨List.replicate n zNd, root, []⟩ := by
  have hz : ∀ i, (Mo.nd ⟨List.replicate n zNd, root, []⟩ i) = zNd := fun i => by
    unfold Mo.nd
    rw [List.getD_eq_getElem?_getD, List.getElem?_replicate]; split <;> rfl
  have hl : (List.replicate n zNd).length = n := List.length_replicate
  refine ⟨hr, ?_, World.ownsRow_nil _ _ _ _, fun i hi => ?_, fun i hi => ?_, fun i j k hi hj h1 h2 => ?_, fun i hi h1 => ?_, fun i => ?_, fun i => ?_, rt, by rw [hl]; exact nn, by show 0 ≤ 1000; omega⟩
  · rw [hl, nodesC_congr nilH (fun x => if x = 0 then .slice (some ⟨G, 0, none⟩) n n else .slice none 0 0) (List.replicate n zNd) 0 (fun j hj => ⟨if_neg (by omega), if_neg (by omega)⟩)]
    exact ho
  · rw [hz, if_neg (by omega)]; exact World.ownsRow_nil _ _ _ _
  · rw [hz, if_neg (by omega)]; exact World.ownsRow_nil _ _ _ _
  · by_cases hi0 : i = 0
    · by_cases hj0 : j = 0
      · omega
      · rw [if_neg hj0] at h2; cases h2
    · rw [if_neg hi0] at h1; cases h1
  · by_cases hi0 : i = 0
    · rw [if_pos hi0] at h1
      have : G = U := by simpa [Value.ownBlock] using h1
      exact hne this
    · rw [if_neg hi0] at h1; cases h1
  · rw [hz]; exact ⟨by decide, by decide, fun d hd => (by cases hd), fun k hk => (by cases hk), by decide, by decide⟩
  · exact ⟨by show -32768 ≤ (0:Int) ∧ (0:Int) ≤ 32767; omega, by show 0 < 256; omega, by show 0 < 256; omega, by show 0 < 256; omega, by show 0 < 65536; omega⟩
/-- A node is written whole. -/
theorem HM.putNode (m : HM full w p h M) {i : Nat} (hi : i < M.N.length) {g gc : Nat} (hg : h 0 = .slice (some ⟨g, 0, none⟩) M.N.length gc) {dv kv : Value} {nd : Nd} (hok : nd.Ok)
    (hd : w.ownsRow 0 31 1 dv nd.data.length (cellsK .u64 nd.data)) (hk : w.ownsRow 0 40 1 kv nd.kids.length (kidsC nd.kids))
    (fd : ∀ j, dv.ownBlock = some j → ¬ mblk p h M.N.length j) (fk : ∀ j, kv.ownBlock = some j → ¬ mblk p h M.N.length j) (fdk : ∀ j, dv.ownBlock = some j → ¬ kv.ownBlock = some j) :
    HM full ((((w.setCell ⟨g, i * 4, none⟩ (.int .u8 (nd.kind : Int))).setCell ⟨g, i * 4 + 1, none⟩ (.int .u8 (nd.code : Int))).setCell ⟨g, i * 4 + 2, none⟩ dv).setCell ⟨g, i * 4 + 3, none⟩ kv) p
      (fun x => if x = 2 * i + 3 then kv else if x = 2 * i + 2 then dv else h x) { M with N := M.N.set i nd } := by
  have hgm : mblk p h M.N.length g := .inr ⟨0, by omega, by rw [hg]; rfl⟩
  have m1 := m.setKC hi hg (c := 0) (v := nd.kind) (by omega) hok.kind (n' := { M.nd i with kind := nd.kind }) rfl
  have e1 : Mo.nd { M with N := M.N.set i { M.nd i with kind := nd.kind } } i = { M.nd i with kind := nd.kind } := by rw [nd_set hi, if_pos rfl]
  have l1 : ({ M with N := M.N.set i { M.nd i with kind := nd.kind } } : Mo).N.length = M.N.length := List.length_set
  have m2 := m1.setKC (i := i) (by rw [l1]; exact hi) (by rw [l1]; exact hg) (c := 1) (v := nd.code) (by omega) hok.code (n' := { M.nd i with kind := nd.kind, code := nd.code }) (by rw [e1]; rfl)
  have s2 : ({ ({ M with N := M.N.set i { M.nd i with kind := nd.kind } } : Mo) with N := ({ M with N := M.N.set i { M.nd i with kind := nd.kind } } : Mo).N.set i { M.nd i with kind := nd.kind, code := nd.code } } : Mo) = { M with N := M.N.set i { M.nd i with kind := nd.kind, code := nd.code } } := by
    show (⟨(M.N.set i _).set i _, M.root, M.H⟩ : Mo) = ⟨_, _, _⟩
    rw [List.set_set]
  rw [s2] at m2
  have e2 : Mo.nd { M with N := M.N.set i { M.nd i with kind := nd.kind, code := nd.code } } i = { M.nd i with kind := nd.kind, code := nd.code } := by rw [nd_set hi, if_pos rfl]
  have l2 : ({ M with N := M.N.set i { M.nd i with kind := nd.kind, code := nd.code } } : Mo).N.length = M.N.length := List.length_set
  have ks2 : Keeps (fun k => k = g) w ((w.setCell ⟨g, i * 4 + 0, none⟩ (.int .u8 (nd.kind : Int))).setCell ⟨g, i * 4 + 1, none⟩ (.int .u8 (nd.code : Int))) := ((Keeps.refl (fun k => k = g) w).setCell (fun _ => rfl) _).setCell (fun _ => rfl) _
  have hd2 := own_keeps hd ks2 (fun j hj e => by have e' : j = g := e; exact fd j hj (by rw [e']; exact hgm))
  have hk2 := own_keeps hk ks2 (fun j hj e => by have e' : j = g := e; exact fk j hj (by rw [e']; exact hgm))
  have m3 := m2.newRow (i := i) (by rw [l2]; exact hi) (by rw [l2]; exact hg) (b := 0) (by omega) (v' := dv) (n' := { M.nd i with kind := nd.kind, code := nd.code, data := nd.data }) (Keeps.refl _ _)
    (fun j hj => .inr (by rw [l2]; exact fd j hj)) (by rw [e2]; exact ⟨rfl, rfl⟩) (fun _ => ⟨by rw [e2], hd2⟩) (fun e => absurd e (by omega)) ⟨hok.kind, hok.code, hok.data, (m.ok i).kids, hok.dl, (m.ok i).kl⟩
  have s3 : ({ ({ M with N := M.N.set i { M.nd i with kind := nd.kind, code := nd.code } } : Mo) with N := ({ M with N := M.N.set i { M.nd i with kind := nd.kind, code := nd.code } } : Mo).N.set i { M.nd i with kind := nd.kind, code := nd.code, data := nd.data } } : Mo) = { M with N := M.N.set i { M.nd i with kind := nd.kind, code := nd.code, data := nd.data } } := by
    show (⟨(M.N.set i _).set i _, M.root, M.H⟩ : Mo) = ⟨_, _, _⟩
    rw [List.set_set]
  rw [s3] at m3
  have e3 : Mo.nd { M with N := M.N.set i { M.nd i with kind := nd.kind, code := nd.code, data := nd.data } } i = { M.nd i with kind := nd.kind, code := nd.code, data := nd.data } := by rw [nd_set hi, if_pos rfl]
  have l3 : ({ M with N := M.N.set i { M.nd i with kind := nd.kind, code := nd.code, data := nd.data } } : Mo).N.length = M.N.length := List.length_set
  have hk3 := own_keeps hk2 (keeps_set _ g (i * 4 + (2 + 0)) dv) (fun j hj e => by have e' : j = g := e; exact fk j hj (by rw [e']; exact hgm))
  have m4 := m3.newRow (i := i) (by rw [l3]; exact hi) (by rw [l3, if_neg (by omega)]; exact hg) (b := 1) (by omega) (v' := kv) (n' := nd) (Keeps.refl _ _)
    (fun j hj => .inr (fun q => by
      rcases q with q | ⟨x, hx, q⟩
      · exact fk j hj (.inl q)
      · rw [l3] at hx
        by_cases hx2 : x = 2 * i + 2 + 0
        · dsimp only at q; rw [if_pos hx2] at q; exact fdk j q hj
        · dsimp only at q; rw [if_neg hx2] at q; exact fk j hj (.inr ⟨x, hx, q⟩))) (by rw [e3]; exact ⟨rfl, rfl⟩) (fun e => absurd e (by omega)) (fun _ => ⟨by rw [e3], hk3⟩) hok
  have s4 : ({ ({ M with N := M.N.set i { M.nd i with kind := nd.kind, code := nd.code, data := nd.data } } : Mo) with N := ({ M with N := M.N.set i { M.nd i with kind := nd.kind, code := nd.code, data := nd.data } } : Mo).N.set i nd } : Mo) = { M with N := M.N.set i nd } := by
    show (⟨(M.N.set i _).set i _, M.root, M.H⟩ : Mo) = ⟨_, _, _⟩
    rw [List.set_set]
  rw [s4] at m4
  exact m4
/-- A tree at another variable. -/
theorem HM.move {w' : World} {U q : Nat} (m : HM false w U h M) (hr : RowAt w' q 0 [h 0, .int .i16 M.root]) (k : Keeps (fun j => j = q) w w') (hq : ∀ i, i < 2 * M.N.length + 2 → ¬ (h i).ownBlock = some q) : HM false w' q h M :=
  ⟨hr, own_keeps m.nodes k (fun j hj e => hq 0 (by omega) (by rw [hj, e])), own_keeps m.hands k (fun j hj e => hq 1 (by omega) (by rw [hj, e])), fun i hi => own_keeps (m.dat i hi) k (fun j hj e => hq (2 * i + 2) (by omega) (by rw [hj, e])), fun i hi => own_keeps (m.kid i hi) k (fun j hj e => hq (2 * i + 3) (by omega) (by rw [hj, e])), m.ap, hq, m.ok, m.hok, m.rt, m.nn, m.nh⟩
end
end Go.Proofs.YgcfaaGreat
