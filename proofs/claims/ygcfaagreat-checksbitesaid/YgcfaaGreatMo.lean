import Derived.Test.YgcfaaGreatStr
namespace Go.Proofs.YgcfaaGreat
open Go.RowKit Bits Bd
set_option linter.unusedVariables false
set_option maxRecDepth 100000

namespace Bd
/-- tree.Node -/
structure Nd where
  kind : Nat
  code : Nat
  data : List Nat
  kids : List Int
/-- bmodel.Handle -/
structure Hd where
  node : Int
  up : Nat
  via : Nat
  depth : Nat
  dead : Bool
  named : Bool
  words : Nat
/-- bmodel.Model; a tree is one of no handles. -/
structure Mo where
  N : List Nd
  root : Int
  H : List Hd
def zNd : Nd := ⟨0, 0, [], []⟩
def zHd : Hd := ⟨0, 0, 0, 0, false, false, 0⟩
def Mo.nd (M : Mo) (i : Nat) : Nd := M.N.getD i zNd
def Mo.hd (M : Mo) (i : Nat) : Hd := M.H.getD i zHd
structure Nd.Ok (n : Nd) : Prop where
  kind : n.kind < 256
  code : n.code < 256
  data : ∀ d ∈ n.data, d < 18446744073709551616
  kids : ∀ k ∈ n.kids, -32768 ≤ k ∧ k ≤ 32767
  dl : n.data.length ≤ 1000
  kl : n.kids.length ≤ 1000
structure Hd.Ok (x : Hd) : Prop where
  node : -32768 ≤ x.node ∧ x.node ≤ 32767
  up : x.up < 256
  via : x.via < 256
  depth : x.depth < 256
  words : x.words < 65536
end Bd
def kidsC (l : List Int) : List Value := l.map fun k => Value.int .i16 k
def ndC (h : Nat → Value) (i : Nat) (n : Nd) : List Value := [.int .u8 (n.kind : Int), .int .u8 (n.code : Int), h (2 * i + 2), h (2 * i + 3)]
def nodesC (h : Nat → Value) : Nat → List Nd → List Value
  | _, [] => []
  | i, n :: l => ndC h i n ++ nodesC h (i + 1) l
def hdC (x : Hd) : List Value := [.int .i16 x.node, .int .u8 (x.up : Int), .int .u8 (x.via : Int), .int .u8 (x.depth : Int), .bool x.dead, .bool x.named, .int .u16 (x.words : Int)]
def handsC (l : List Hd) : List Value := l.flatMap hdC

theorem nodesC_length (h : Nat → Value) : ∀ (l : List Nd) (i : Nat), (nodesC h i l).length = l.length * 4
  | [], i => rfl
  | n :: l, i => by rw [nodesC, List.length_append, nodesC_length h l (i + 1)]; simp [ndC]; omega
theorem nodesC_get (h : Nat → Value) : ∀ (l : List Nd) (i k c : Nat) (u : Value), k < l.length → (ndC h (i + k) (l.getD k zNd))[c]? = some u → (nodesC h i l)[k * 4 + c]? = some u
  | [], i, k, c, u, hk, hu => absurd hk (by simp)
  | n :: l, i, 0, c, u, hk, hu => by
    have hc : c < 4 := by
      rcases Nat.lt_or_ge c 4 with h1 | h1
      · exact h1
      · rw [List.getElem?_eq_none (by simpa [ndC] using h1)] at hu; cases hu
    rw [nodesC, Nat.zero_mul, Nat.zero_add, List.getElem?_append_left (by simpa [ndC] using hc)]
    exact hu
  | n :: l, i, k + 1, c, u, hk, hu => by
    rw [nodesC, List.getElem?_append_right (by simp [ndC]; omega), show (k + 1) * 4 + c - (ndC h i n).length = k * 4 + c by simp [ndC]; omega]
    refine nodesC_get h l (i + 1) k c u (by simpa using hk) ?_
    rw [show i + 1 + k = i + (k + 1) by omega]
    exact hu
theorem nodesC_set (h h' : Nat → Value) (n' : Nd) (c : Nat) (u : Value) (hc : c < 4) : ∀ (l : List Nd) (i k : Nat), k < l.length → (ndC h (i + k) (l.getD k zNd)).set c u = ndC h' (i + k) n' → (∀ j, j < l.length → j ≠ k → h' (2 * (i + j) + 2) = h (2 * (i + j) + 2) ∧ h' (2 * (i + j) + 3) = h (2 * (i + j) + 3)) →
    (nodesC h i l).set (k * 4 + c) u = nodesC h' i (l.set k n')
  | [], i, k, hk, hs, hj => absurd hk (by simp)
  | n :: l, i, 0, hk, hs, hj => by
    rw [nodesC, Nat.zero_mul, Nat.zero_add, List.set_append_left _ _ (by simpa [ndC] using hc)]
    have e1 : (ndC h i n).set c u = ndC h' i n' := hs
    rw [e1, List.set_cons_zero, nodesC]
    congr 1
    have : ∀ (l : List Nd) (m : Nat), (∀ j, j < l.length → h' (2 * (m + j) + 2) = h (2 * (m + j) + 2) ∧ h' (2 * (m + j) + 3) = h (2 * (m + j) + 3)) → nodesC h m l = nodesC h' m l := by
      intro l
      induction l with
      | nil => intro m _; rfl
      | cons n l ih =>
        intro m hm
        have h0 : h' (2 * m + 2) = h (2 * m + 2) ∧ h' (2 * m + 3) = h (2 * m + 3) := hm 0 (by simp)
        rw [nodesC, nodesC, ndC, ndC, h0.1, h0.2, ih (m + 1) (fun j hj => by have := hm (j + 1) (by simpa using hj); rw [show m + 1 + j = m + (j + 1) by omega]; exact this)]
    exact this l (i + 1) (fun j hj' => by have := hj (j + 1) (by simpa using hj') (by omega); rw [show i + 1 + j = i + (j + 1) by omega]; exact this)
  | n :: l, i, k + 1, hk, hs, hj => by
    rw [nodesC, List.set_append_right _ _ (by simp [ndC]; omega), show (k + 1) * 4 + c - (ndC h i n).length = k * 4 + c by simp [ndC]; omega, List.set_cons_succ, nodesC]
    have h0 : h' (2 * i + 2) = h (2 * i + 2) ∧ h' (2 * i + 3) = h (2 * i + 3) := hj 0 (by simp) (by omega)
    have e1 : ndC h i n = ndC h' i n := by unfold ndC; rw [h0.1, h0.2]
    rw [e1, nodesC_set h h' n' c u hc l (i + 1) k (by simpa using hk) (by rw [show i + 1 + k = i + (k + 1) by omega]; exact hs) (fun j hj' hne => by have := hj (j + 1) (by simpa using hj') (by omega); rw [show i + 1 + j = i + (j + 1) by omega]; exact this)]
theorem nodesC_congr (h h' : Nat → Value) (l : List Nd) : ∀ (m : Nat), (∀ j, j < l.length → h' (2 * (m + j) + 2) = h (2 * (m + j) + 2) ∧ h' (2 * (m + j) + 3) = h (2 * (m + j) + 3)) → nodesC h' m l = nodesC h m l := by
  induction l with
  | nil => intro m _; rfl
  | cons n l ih =>
    intro m hm
    have h0 : h' (2 * m + 2) = h (2 * m + 2) ∧ h' (2 * m + 3) = h (2 * m + 3) := hm 0 (by simp)
    rw [nodesC, nodesC, ndC, ndC, h0.1, h0.2, ih (m + 1) (fun j hj => by have := hm (j + 1) (by simpa using hj); rw [show m + 1 + j = m + (j + 1) by omega]; exact this)]
theorem nodesC_app (h : Nat → Value) (n : Nd) : ∀ (l : List Nd) (i : Nat), nodesC h i (l ++ [n]) = nodesC h i l ++ ndC h (i + l.length) n
  | [], i => by simp [nodesC]
  | m :: l, i => by
    rw [List.cons_append, nodesC, nodesC, nodesC_app h n l (i + 1), List.append_assoc, List.length_cons, show i + 1 + l.length = i + (l.length + 1) by omega]
theorem handsC_length : ∀ l : List Hd, (handsC l).length = l.length * 7
  | [] => rfl
  | x :: l => by
    have := handsC_length l
    unfold handsC at this ⊢
    rw [List.flatMap_cons, List.length_append, this]
    simp [hdC]; omega
theorem handsC_get : ∀ (l : List Hd) (k c : Nat) (u : Value), k < l.length → (hdC (l.getD k zHd))[c]? = some u → (handsC l)[k * 7 + c]? = some u
  | [], k, c, u, hk, hu => absurd hk (by simp)
  | x :: l, 0, c, u, hk, hu => by
    have hc : c < 7 := by
      rcases Nat.lt_or_ge c 7 with h1 | h1
      · exact h1
      · rw [List.getElem?_eq_none (by simpa [hdC] using h1)] at hu; cases hu
    unfold handsC
    rw [List.flatMap_cons, Nat.zero_mul, Nat.zero_add, List.getElem?_append_left (by simpa [hdC] using hc)]
    exact hu
  | x :: l, k + 1, c, u, hk, hu => by
    have ih := handsC_get l k c u (by simpa using hk) hu
    unfold handsC at ih ⊢
    rw [List.flatMap_cons, List.getElem?_append_right (by simp [hdC]; omega), show (k + 1) * 7 + c - (hdC x).length = k * 7 + c by simp [hdC]; omega]
    exact ih
theorem handsC_set (x' : Hd) (c : Nat) (u : Value) (hc : c < 7) : ∀ (l : List Hd) (k : Nat), k < l.length → (hdC (l.getD k zHd)).set c u = hdC x' → (handsC l).set (k * 7 + c) u = handsC (l.set k x')
  | [], k, hk, hs => absurd hk (by simp)
  | x :: l, 0, hk, hs => by
    have e1 : (hdC x).set c u = hdC x' := hs
    unfold handsC
    rw [List.flatMap_cons, Nat.zero_mul, Nat.zero_add, List.set_append_left _ _ (by simpa [hdC] using hc), e1, List.set_cons_zero, List.flatMap_cons]
  | x :: l, k + 1, hk, hs => by
    have ih := handsC_set x' c u hc l k (by simpa using hk) hs
    unfold handsC at ih ⊢
    rw [List.flatMap_cons, List.set_append_right _ _ (by simp [hdC]; omega), show (k + 1) * 7 + c - (hdC x).length = k * 7 + c by simp [hdC]; omega, ih, List.set_cons_succ, List.flatMap_cons]
theorem handsC_app (l : List Hd) (x : Hd) : handsC (l ++ [x]) = handsC l ++ hdC x := by
  unfold handsC
  rw [List.flatMap_append]
  simp

/-- A model (full) or a tree in memory. -/
structure HM (full : Bool) (w : World) (p : Nat) (h : Nat → Value) (M : Mo) : Prop where
  row : RowAt w p 0 (h 0 :: .int .i16 M.root :: (if full then [h 1] else []))
  nodes : w.ownsRow 0 76 4 (h 0) M.N.length (nodesC h 0 M.N)
  hands : w.ownsRow 0 89 7 (h 1) M.H.length (handsC M.H)
  dat : ∀ i, i < M.N.length → w.ownsRow 0 31 1 (h (2 * i + 2)) (M.nd i).data.length (cellsK .u64 (M.nd i).data)
  kid : ∀ i, i < M.N.length → w.ownsRow 0 40 1 (h (2 * i + 3)) (M.nd i).kids.length (kidsC (M.nd i).kids)
  ap : ∀ i j k, i < 2 * M.N.length + 2 → j < 2 * M.N.length + 2 → (h i).ownBlock = some k → (h j).ownBlock = some k → i = j
  pp : ∀ i, i < 2 * M.N.length + 2 → ¬ (h i).ownBlock = some p
  ok : ∀ i, (M.nd i).Ok
  hok : ∀ i, (M.hd i).Ok
  rt : -32768 ≤ M.root ∧ M.root ≤ 32767
  nn : M.N.length ≤ 1000
  nh : M.H.length ≤ 1000
/-- The blocks of a model. -/
def mblk (p : Nat) (h : Nat → Value) (n : Nat) (k : Nat) : Prop := k = p ∨ ∃ i, i < 2 * n + 2 ∧ (h i).ownBlock = some k

section
variable {full : Bool} {w w' : World} {p : Nat} {h : Nat → Value} {M : Mo}
theorem two_cases (i : Nat) : (∃ j, i = 2 * j) ∨ (∃ j, i = 2 * j + 1) := by
  by_cases h2 : i % 2 = 0
  · exact .inl ⟨i / 2, by omega⟩
  · exact .inr ⟨i / 2, by omega⟩
theorem HM.lt (m : HM full w p h M) : p < w.heap.size := m.row.lt (by simp)
theorem own_blk_lt {e : TypeId} {size : Nat} {v : Value} {n : Nat} {xs : List Value} (ho : w.ownsRow 0 e size v n xs) {k : Nat} (hk : v.ownBlock = some k) : k < w.heap.size := (ho.lt k hk).2
theorem HM.slot (m : HM full w p h M) {i : Nat} (hi : i < 2 * M.N.length + 2) : ∃ e size n xs, w.ownsRow 0 e size (h i) n xs := by
  match i, hi with
  | 0, _ => exact ⟨_, _, _, _, m.nodes⟩
  | 1, _ => exact ⟨_, _, _, _, m.hands⟩
  | i + 2, hi =>
    rcases two_cases i with ⟨j, e⟩ | ⟨j, e⟩
    · subst e; exact ⟨_, _, _, _, m.dat j (by omega)⟩
    · subst e; exact ⟨_, _, _, _, m.kid j (by omega)⟩
theorem HM.blk_lt (m : HM full w p h M) {k : Nat} (hk : mblk p h M.N.length k) : k < w.heap.size := by
  rcases hk with rfl | ⟨i, hi, e⟩
  · exact m.lt
  · obtain ⟨_, _, _, _, ho⟩ := m.slot hi
    exact own_blk_lt ho e
theorem HM.keeps {X : Nat → Prop} (m : HM full w p h M) (k : Keeps X w w') (hx : ∀ j, mblk p h M.N.length j → ¬ X j) : HM full w' p h M :=
  ⟨m.row.keeps k (fun _ => hx p (.inl rfl)), own_keeps m.nodes k (fun j hj => hx j (.inr ⟨0, by omega, hj⟩)), own_keeps m.hands k (fun j hj => hx j (.inr ⟨1, by omega, hj⟩)),
    fun i hi => own_keeps (m.dat i hi) k (fun j hj => hx j (.inr ⟨_, by omega, hj⟩)), fun i hi => own_keeps (m.kid i hi) k (fun j hj => hx j (.inr ⟨_, by omega, hj⟩)), m.ap, m.pp, m.ok, m.hok, m.rt, m.nn, m.nh⟩
theorem HM.below (m : HM full w p h M) (k : Below w.heap.size w w') : HM full w' p h M := m.keeps (Keeps.of_below k) (fun j hj hx => by have := m.blk_lt hj; have hx' : w.heap.size ≤ j := hx; omega)
theorem HM.f0 (m : HM full w p h M) : w.cell? ⟨p, 0, none⟩ = some (h 0) ∧ w.frozen? ⟨p, 0, none⟩ = false := by
  have h1 := m.row.at_ (i := 0) rfl
  have h2 := m.row.live 0 (by simp)
  rw [Nat.zero_add] at h1 h2
  exact ⟨h1, h2⟩
theorem HM.f1 (m : HM full w p h M) : w.cell? ⟨p, 1, none⟩ = some (.int .i16 M.root) ∧ w.frozen? ⟨p, 1, none⟩ = false := by
  have h1 := m.row.at_ (i := 1) rfl
  have h2 := m.row.live 1 (by simp)
  rw [Nat.zero_add] at h1 h2
  exact ⟨h1, h2⟩
theorem HM.f2 (m : HM true w p h M) : w.cell? ⟨p, 2, none⟩ = some (h 1) ∧ w.frozen? ⟨p, 2, none⟩ = false := by
  have h1 := m.row.at_ (i := 2) rfl
  have h2 := m.row.live 2 (by simp)
  rw [Nat.zero_add] at h1 h2
  exact ⟨h1, h2⟩
theorem HM.form (m : HM full w p h M) {i : Nat} (hi : i < 2 * M.N.length + 2) : ∃ a n c, h i = .slice a n c := by
  obtain ⟨_, _, n, _, ho⟩ := m.slot hi
  obtain ⟨a, c, e, _⟩ := own_len ho
  exact ⟨a, n, c, e⟩
theorem HM.n0 (m : HM full w p h M) : ∃ a c, h 0 = .slice a M.N.length c := by
  obtain ⟨a, c, e, _⟩ := own_len m.nodes
  exact ⟨a, c, e⟩
theorem HM.n1 (m : HM full w p h M) : ∃ a c, h 1 = .slice a M.H.length c := by
  obtain ⟨a, c, e, _⟩ := own_len m.hands
  exact ⟨a, c, e⟩
theorem HM.nd_ (m : HM full w p h M) {i : Nat} (hi : i < M.N.length) : ∃ a c, h (2 * i + 2) = .slice a (M.nd i).data.length c := by
  obtain ⟨a, c, e, _⟩ := own_len (m.dat i hi)
  exact ⟨a, c, e⟩
theorem HM.nk_ (m : HM full w p h M) {i : Nat} (hi : i < M.N.length) : ∃ a c, h (2 * i + 3) = .slice a (M.nd i).kids.length c := by
  obtain ⟨a, c, e, _⟩ := own_len (m.kid i hi)
  exact ⟨a, c, e⟩
theorem HM.node (m : HM full w p h M) {i : Nat} (hi : i < M.N.length) : ∃ g c, h 0 = .slice (some ⟨g, 0, none⟩) M.N.length c ∧ ∀ k u, (ndC h i (M.nd i))[k]? = some u → w.cell? ⟨g, i * 4 + k, none⟩ = some u ∧ w.frozen? ⟨g, i * 4 + k, none⟩ = false := by
  obtain ⟨g, c, e⟩ := own_form m.nodes (by omega)
  refine ⟨g, c, e, fun k u hu => ?_⟩
  have ho := m.nodes
  rw [e] at ho
  exact own_cell ho (nodesC_get h M.N 0 i k u hi (by rw [Nat.zero_add]; exact hu))
theorem HM.hand (m : HM full w p h M) {i : Nat} (hi : i < M.H.length) : ∃ g c, h 1 = .slice (some ⟨g, 0, none⟩) M.H.length c ∧ ∀ k u, (hdC (M.hd i))[k]? = some u → w.cell? ⟨g, i * 7 + k, none⟩ = some u ∧ w.frozen? ⟨g, i * 7 + k, none⟩ = false := by
  obtain ⟨g, c, e⟩ := own_form m.hands (by omega)
  refine ⟨g, c, e, fun k u hu => ?_⟩
  have ho := m.hands
  rw [e] at ho
  exact own_cell ho (handsC_get M.H i k u hi hu)
theorem HM.kcell (m : HM full w p h M) {i j : Nat} (hi : i < M.N.length) (hj : j < (M.nd i).kids.length) : ∃ g c, h (2 * i + 3) = .slice (some ⟨g, 0, none⟩) (M.nd i).kids.length c ∧ w.cell? ⟨g, j, none⟩ = some (.int .i16 ((M.nd i).kids.getD j 0)) ∧ w.frozen? ⟨g, j, none⟩ = false := by
  obtain ⟨g, c, e⟩ := own_form (m.kid i hi) (by omega)
  have ho := m.kid i hi
  rw [e] at ho
  exact ⟨g, c, e, own_cell ho (by simp [kidsC, hj])⟩
theorem HM.dcell (m : HM full w p h M) {i j : Nat} (hi : i < M.N.length) (hj : j < (M.nd i).data.length) : ∃ g c, h (2 * i + 2) = .slice (some ⟨g, 0, none⟩) (M.nd i).data.length c ∧ w.cell? ⟨g, j, none⟩ = some (.int .u64 ((M.nd i).data.getD j 0 : Nat)) ∧ w.frozen? ⟨g, j, none⟩ = false := by
  obtain ⟨g, c, e⟩ := own_form (m.dat i hi) (by omega)
  have ho := m.dat i hi
  rw [e] at ho
  exact ⟨g, c, e, own_cell ho (by simp [cellsK, hj])⟩
end
end Go.Proofs.YgcfaaGreat
