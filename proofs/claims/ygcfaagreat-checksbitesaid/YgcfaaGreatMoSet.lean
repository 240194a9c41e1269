import Derived.Test.YgcfaaGreatWide
import Derived.Test.YgcfaaGreatMo
namespace Go.Proofs.YgcfaaGreat
open Go.RowKit Bits Bd
set_option linter.unusedVariables false
set_option maxRecDepth 100000

section
variable {full : Bool} {w w' : World} {p : Nat} {h : Nat → Value} {M : Mo}
theorem nd_set {i : Nat} (hi : i < M.N.length) (n' : Nd) (k : Nat) : Mo.nd { M with N := M.N.set i n' } k = if k = i then n' else M.nd k := by
  unfold Mo.nd
  by_cases hk : k = i
  · subst hk; rw [if_pos rfl, List.getD_eq_getElem?_getD, List.getElem?_set_self hi]; rfl
  · rw [if_neg hk, List.getD_eq_getElem?_getD, List.getElem?_set_ne (fun e => hk e.symm), List.getD_eq_getElem?_getD]
/-- A cell of one row is written: the others stay. -/
theorem HM.other (m : HM full w p h M) {s : Nat} (hs : s < 2 * M.N.length + 2) {g : Nat} (hg : (h s).ownBlock = some g) (o : Nat) (v : Value) {i : Nat} (hi : i < 2 * M.N.length + 2) (hne : ¬ i = s) {e : TypeId} {size n : Nat} {xs : List Value} (ho : w.ownsRow 0 e size (h i) n xs) : (w.setCell ⟨g, o, none⟩ v).ownsRow 0 e size (h i) n xs :=
  own_keeps ho (keeps_set w g o v) (fun j hj e => hne (m.ap i s g hi hs (by rw [hj, e]) hg))
theorem HM.setRoot (m : HM full w p h M) {r : Int} (hr : -32768 ≤ r ∧ r ≤ 32767) : HM full (w.setCell ⟨p, 1, none⟩ (.int .i16 r)) p h { M with root := r } := by
  have hk := keeps_set w p 1 (.int .i16 r)
  have hx : ∀ i, i < 2 * M.N.length + 2 → ∀ j, (h i).ownBlock = some j → ¬ j = p := fun i hi j hj e => m.pp i hi (by rw [hj, e])
  refine ⟨?_, own_keeps m.nodes hk (hx 0 (by omega)), own_keeps m.hands hk (hx 1 (by omega)), fun i hi => own_keeps (m.dat i hi) hk (hx _ (by have : i < M.N.length := hi; omega)), fun i hi => own_keeps (m.kid i hi) hk (hx _ (by have : i < M.N.length := hi; omega)), m.ap, m.pp, m.ok, m.hok, hr, m.nn, m.nh⟩
  have := m.row.set (i := 1) (by simp) (.int .i16 r)
  exact this
theorem HM.setKid (m : HM full w p h M) {i j : Nat} (hi : i < M.N.length) (hj : j < (M.nd i).kids.length) {g c : Nat} (hg : h (2 * i + 3) = .slice (some ⟨g, 0, none⟩) (M.nd i).kids.length c) {v : Int} (hv : -32768 ≤ v ∧ v ≤ 32767) :
    HM full (w.setCell ⟨g, j, none⟩ (.int .i16 v)) p h { M with N := M.N.set i { M.nd i with kids := (M.nd i).kids.set j v } } := by
  have hs : 2 * i + 3 < 2 * M.N.length + 2 := by omega
  have hgb : (h (2 * i + 3)).ownBlock = some g := by rw [hg]; rfl
  have hgp : ¬ g = p := fun e => m.pp _ hs (by rw [hgb, e])
  have hN : { M with N := M.N.set i { M.nd i with kids := (M.nd i).kids.set j v } }.N.length = M.N.length := List.length_set
  have hnd := fun k => nd_set hi { M.nd i with kids := (M.nd i).kids.set j v } k
  refine ⟨m.row.keeps (keeps_set w g j _) (fun _ e => hgp e.symm), ?_, m.other hs hgb _ _ (by omega) (by omega) m.hands, fun k hk => ?_, fun k hk => ?_, fun a b x ha hb => m.ap a b x (by rw [hN] at ha; exact ha) (by rw [hN] at hb; exact hb), fun a ha => m.pp a (by rw [hN] at ha; exact ha), fun k => ?_, m.hok, m.rt, by rw [hN]; exact m.nn, m.nh⟩
  · have := m.other hs hgb j (.int .i16 v) (by omega) (by omega) m.nodes
    have e : nodesC h 0 (M.N.set i { M.nd i with kids := (M.nd i).kids.set j v }) = nodesC h 0 M.N := by
      have h2 := nodesC_set h h { M.nd i with kids := (M.nd i).kids.set j v } 0 (.int .u8 ((M.nd i).kind : Int)) (by omega) M.N 0 i hi (by rw [Nat.zero_add]; rfl) (fun _ _ _ => ⟨rfl, rfl⟩)
      rw [← h2]
      have h3 := nodesC_get h M.N 0 i 0 (.int .u8 ((M.nd i).kind : Int)) hi (by rw [Nat.zero_add]; rfl)
      refine List.ext_getElem? (fun k => ?_)
      by_cases hk : i * 4 + 0 = k
      · subst hk; rw [List.getElem?_set_self (by rw [nodesC_length]; omega), h3]
      · rw [List.getElem?_set_ne hk]
    rw [hN]
    show World.ownsRow _ 0 76 4 (h 0) _ (nodesC h 0 (M.N.set i { M.nd i with kids := (M.nd i).kids.set j v }))
    rw [e]
    exact this
  · rw [hN] at hk
    rw [hnd k]
    have := m.other hs hgb j (.int .i16 v) (i := 2 * k + 2) (by omega) (by omega) (m.dat k hk)
    by_cases hki : k = i
    · subst hki; rw [if_pos rfl]; exact this
    · rw [if_neg hki]; exact this
  · rw [hN] at hk
    rw [hnd k]
    by_cases hki : k = i
    · subst hki
      rw [if_pos rfl]
      have ho := m.kid k hk
      rw [hg] at ho
      have := own_set ho j (.int .i16 v)
      rw [hg]
      show World.ownsRow _ 0 40 1 _ ((M.nd k).kids.set j v).length (kidsC ((M.nd k).kids.set j v))
      rw [List.length_set]
      unfold kidsC at this ⊢
      rw [List.map_set]
      exact this
    · rw [if_neg hki]
      exact m.other hs hgb j (.int .i16 v) (i := 2 * k + 3) (by omega) (by omega) (m.kid k hk)
  · rw [hnd k]
    by_cases hki : k = i
    · subst hki
      rw [if_pos rfl]
      have := m.ok k
      refine ⟨this.kind, this.code, this.data, fun x hx => ?_, this.dl, by show ((M.nd k).kids.set j v).length ≤ 1000; rw [List.length_set]; exact this.kl⟩
      rcases List.mem_or_eq_of_mem_set hx with q | q
      · exact this.kids x q
      · rw [q]; exact hv
    · rw [if_neg hki]; exact m.ok k
/-- Kind or code of a node is written. -/
theorem HM.setKC (m : HM full w p h M) {i : Nat} (hi : i < M.N.length) {g gc : Nat} (hg : h 0 = .slice (some ⟨g, 0, none⟩) M.N.length gc) {c v : Nat} (hc : c < 2) (hv : v < 256) {n' : Nd} (hn' : n' = if c = 0 then { M.nd i with kind := v } else { M.nd i with code := v }) :
    HM full (w.setCell ⟨g, i * 4 + c, none⟩ (.int .u8 (v : Int))) p h { M with N := M.N.set i n' } := by
  have hs : 0 < 2 * M.N.length + 2 := by omega
  have hgb : (h 0).ownBlock = some g := by rw [hg]; rfl
  have hgp : ¬ g = p := fun e => m.pp _ hs (by rw [hgb, e])
  have hN : { M with N := M.N.set i n' }.N.length = M.N.length := List.length_set
  have hnd := fun k => nd_set hi n' k
  have hdk : n'.data = (M.nd i).data ∧ n'.kids = (M.nd i).kids := by
    rw [hn']; split <;> exact ⟨rfl, rfl⟩
  refine ⟨m.row.keeps (keeps_set w g _ _) (fun _ e => hgp e.symm), ?_, m.other hs hgb _ _ (by omega) (by omega) m.hands, fun k hk => ?_, fun k hk => ?_, fun a b x ha hb => m.ap a b x (by rw [hN] at ha; exact ha) (by rw [hN] at hb; exact hb), fun a ha => m.pp a (by rw [hN] at ha; exact ha), fun k => ?_, m.hok, m.rt, by rw [hN]; exact m.nn, m.nh⟩
  · have ho := m.nodes
    rw [hg] at ho
    have h1 := own_set ho (i * 4 + c) (.int .u8 (v : Int))
    have h2 := nodesC_set h h n' c (.int .u8 (v : Int)) (by omega) M.N 0 i hi (by
      rw [Nat.zero_add]
      show (ndC h i (M.nd i)).set c _ = _
      rw [hn']
      have : c = 0 ∨ c = 1 := by omega
      rcases this with rfl | rfl <;> rfl) (fun _ _ _ => ⟨rfl, rfl⟩)
    rw [h2] at h1
    rw [hN, hg]
    exact h1
  · rw [hN] at hk
    rw [hnd k]
    have := m.other hs hgb (i * 4 + c) (.int .u8 (v : Int)) (i := 2 * k + 2) (by omega) (by omega) (m.dat k hk)
    by_cases hki : k = i
    · subst hki; rw [if_pos rfl, hdk.1]; exact this
    · rw [if_neg hki]; exact this
  · rw [hN] at hk
    rw [hnd k]
    have := m.other hs hgb (i * 4 + c) (.int .u8 (v : Int)) (i := 2 * k + 3) (by omega) (by omega) (m.kid k hk)
    by_cases hki : k = i
    · subst hki; rw [if_pos rfl, hdk.2]; exact this
    · rw [if_neg hki]; exact this
  · rw [hnd k]
    by_cases hki : k = i
    · subst hki
      rw [if_pos rfl, hn']
      have := m.ok k
      split
      · exact ⟨hv, this.code, this.data, this.kids, this.dl, this.kl⟩
      · exact ⟨this.kind, hv, this.data, this.kids, this.dl, this.kl⟩
    · rw [if_neg hki]; exact m.ok k
end
end Go.Proofs.YgcfaaGreat
