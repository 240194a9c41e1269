import Derived.Test.YgcfaaGreatMoPush2
namespace Go.Proofs.YgcfaaGreat
open Go.RowKit Bits Bd
set_option linter.unusedVariables false
set_option maxRecDepth 100000

namespace Bd
def Mo.setD (M : Mo) (i j x : Nat) : Mo := { M with N := M.N.set i { M.nd i with data := (M.nd i).data.set j x } }
def Mo.setDead (M : Mo) (k : Nat) : Mo := { M with H := M.H.set k { M.hd k with dead := true } }
end Bd
section
variable {full : Bool} {wb w w' : World} {p nb : Nat} {hb h : Nat → Value} {M M' : Mo}
theorem HM.setData (m : HM full w p h M) {i j : Nat} (hi : i < M.N.length) (hj : j < (M.nd i).data.length) {g c : Nat} (hg : h (2 * i + 2) = .slice (some ⟨g, 0, none⟩) (M.nd i).data.length c) {v : Nat} (hv : v < 18446744073709551616) :
    HM full (w.setCell ⟨g, j, none⟩ (.int .u64 (v : Int))) p h (M.setD i j v) := by
  unfold Mo.setD
  have hs : 2 * i + 2 < 2 * M.N.length + 2 := by omega
  have hgb : (h (2 * i + 2)).ownBlock = some g := by rw [hg]; rfl
  have hgp : ¬ g = p := fun e => m.pp _ hs (by rw [hgb, e])
  have hN : { M with N := M.N.set i { M.nd i with data := (M.nd i).data.set j v } }.N.length = M.N.length := List.length_set
  have hnd := fun k => nd_set hi { M.nd i with data := (M.nd i).data.set j v } k
  refine ⟨m.row.keeps (keeps_set w g j _) (fun _ e => hgp e.symm), ?_, m.other hs hgb _ _ (by omega) (by omega) m.hands, fun k hk => ?_, fun k hk => ?_, fun a b x ha hb => m.ap a b x (by rw [hN] at ha; exact ha) (by rw [hN] at hb; exact hb), fun a ha => m.pp a (by rw [hN] at ha; exact ha), fun k => ?_, m.hok, m.rt, by rw [hN]; exact m.nn, m.nh⟩
  · have := m.other hs hgb j (.int .u64 (v : Int)) (by omega) (by omega) m.nodes
    have e : nodesC h 0 (M.N.set i { M.nd i with data := (M.nd i).data.set j v }) = nodesC h 0 M.N := by
      have h2 := nodesC_set h h { M.nd i with data := (M.nd i).data.set j v } 0 (.int .u8 ((M.nd i).kind : Int)) (by omega) M.N 0 i hi (by rw [Nat.zero_add]; rfl) (fun _ _ _ => ⟨rfl, rfl⟩)
      rw [← h2]
      have h3 := nodesC_get h M.N 0 i 0 (.int .u8 ((M.nd i).kind : Int)) hi (by rw [Nat.zero_add]; rfl)
      refine List.ext_getElem? (fun k => ?_)
      by_cases hk : i * 4 + 0 = k
      · subst hk; rw [List.getElem?_set_self (by rw [nodesC_length]; omega), h3]
      · rw [List.getElem?_set_ne hk]
    rw [hN]
    show World.ownsRow _ 0 76 4 (h 0) _ (nodesC h 0 (M.N.set i { M.nd i with data := (M.nd i).data.set j v }))
    rw [e]
    exact this
  · rw [hN] at hk
    rw [hnd k]
    by_cases hki : k = i
    · subst hki
      rw [if_pos rfl]
      have ho := m.dat k hk
      rw [hg] at ho
      have := own_set ho j (.int .u64 (v : Int))
      rw [hg]
      show World.ownsRow _ 0 31 1 _ ((M.nd k).data.set j v).length (cellsK .u64 ((M.nd k).data.set j v))
      rw [List.length_set]
      unfold cellsK at this ⊢
      rw [List.map_set]
      exact this
    · rw [if_neg hki]
      exact m.other hs hgb j (.int .u64 (v : Int)) (i := 2 * k + 2) (by omega) (by omega) (m.dat k hk)
  · rw [hN] at hk
    rw [hnd k]
    have := m.other hs hgb j (.int .u64 (v : Int)) (i := 2 * k + 3) (by omega) (by omega) (m.kid k hk)
    by_cases hki : k = i
    · subst hki; rw [if_pos rfl]; exact this
    · rw [if_neg hki]; exact this
  · rw [hnd k]
    by_cases hki : k = i
    · subst hki
      rw [if_pos rfl]
      have := m.ok k
      refine ⟨this.kind, this.code, fun x hx => ?_, this.kids, by show ((M.nd k).data.set j v).length ≤ 1000; rw [List.length_set]; exact this.dl, this.kl⟩
      rcases List.mem_or_eq_of_mem_set hx with q | q
      · exact this.data x q
      · rw [q]; exact hv
    · rw [if_neg hki]; exact m.ok k
theorem hd_set (k : Nat) (x : Hd) (hk : k < M.H.length) (i : Nat) : ({ M with H := M.H.set k x } : Mo).hd i = if i = k then x else M.hd i := by
  show (M.H.set k x).getD i zHd = _
  by_cases h : i = k
  · subst h; rw [if_pos rfl, List.getD_eq_getElem?_getD, List.getElem?_set_self hk]; rfl
  · rw [if_neg h, List.getD_eq_getElem?_getD, List.getElem?_set_ne (fun e => h e.symm)]; unfold Mo.hd; rw [List.getD_eq_getElem?_getD]
theorem HM.setDead (m : HM true w p h M) {k : Nat} (hk : k < M.H.length) {g c : Nat} (hg : h 1 = .slice (some ⟨g, 0, none⟩) M.H.length c) :
    HM true (w.setCell ⟨g, k * 7 + 4, none⟩ (.bool true)) p h (M.setDead k) := by
  unfold Mo.setDead
  have hs : 1 < 2 * M.N.length + 2 := by omega
  have hgb : (h 1).ownBlock = some g := by rw [hg]; rfl
  have hgp : ¬ g = p := fun e => m.pp _ hs (by rw [hgb, e])
  refine ⟨m.row.keeps (keeps_set w g _ _) (fun _ e => hgp e.symm), m.other hs hgb _ _ (by omega) (by omega) m.nodes, ?_, fun i hi => m.other hs hgb _ _ (by have : i < M.N.length := hi; omega) (by omega) (m.dat i hi), fun i hi => m.other hs hgb _ _ (by have : i < M.N.length := hi; omega) (by omega) (m.kid i hi), m.ap, m.pp, m.ok, fun i => ?_, m.rt, m.nn, by show (M.H.set k _).length ≤ 1000; rw [List.length_set]; exact m.nh⟩
  · have ho := m.hands
    rw [hg] at ho
    have h1 := own_set ho (k * 7 + 4) (.bool true)
    have h2 := handsC_set { M.hd k with dead := true } 4 (.bool true) (by omega) M.H k hk rfl
    rw [h2] at h1
    show World.ownsRow _ 0 89 7 (h 1) (M.H.set k _).length (handsC (M.H.set k _))
    rw [List.length_set, hg]
    exact h1
  · rw [hd_set k _ hk]
    split
    · have := m.hok k
      exact ⟨this.node, this.up, this.via, this.depth, this.words⟩
    · exact m.hok i
theorem lim_of (v : InvM M) {i : Nat} (hi : i < M.N.length) (hk : (M.nd i).kind = 2) (h2 : 2 ≤ (M.nd i).code) (h5 : (M.nd i).code ≤ 5) {j : Nat} (hj : j < (M.nd i).data.length) : (M.nd i).data.getD j 0 ≤ limC (M.nd i).code := by
  have := (v.shp i hi).2
  rw [if_neg (by omega)] at this
  have h3 := this.2.2.2
  rw [if_pos ⟨h2, h5⟩] at h3
  exact h3.1 j hj
theorem like_setD (v : InvM M) {i j x : Nat} (hi : i < M.N.length) (hj : j < (M.nd i).data.length) (hx : (M.nd i).kind = 2 → 2 ≤ (M.nd i).code → (M.nd i).code ≤ 5 → x ≤ limC (M.nd i).code) : Like M (M.setD i j x) := by
  have hnd : ∀ k, (M.setD i j x).nd k = if k = i then { M.nd i with data := (M.nd i).data.set j x } else M.nd k := fun k => nd_set hi _ k
  refine ⟨List.length_set, rfl, fun k => ?_, fun k hk k2 c2 c5 l hl => ?_, fun a b hab => .inl ?_, .inl rfl, fun k => ⟨rfl, rfl, rfl, rfl, rfl, rfl⟩⟩
  · rw [hnd k]
    split
    · rename_i e; subst e; exact ⟨rfl, rfl, List.length_set, rfl⟩
    · exact ⟨rfl, rfl, rfl, rfl⟩
  · rw [hnd k]
    split
    · rename_i e; subst e
      show ((M.nd k).data.set j x).getD l 0 ≤ _
      by_cases hjl : l = j
      · subst hjl; rw [List.getD_eq_getElem?_getD, List.getElem?_set_self hl]; exact hx k2 c2 c5
      · rw [List.getD_eq_getElem?_getD, List.getElem?_set_ne (fun e => hjl e.symm), ← List.getD_eq_getElem?_getD]; exact lim_of v hk k2 c2 c5 hl
    · exact lim_of v hk k2 c2 c5 hl
  · unfold Mo.kd
    rw [hnd a]
    split
    · rename_i e; subst e; rfl
    · rfl
theorem like_setP (v : InvM M) {H I : Nat} (hp : M.plc H I) : Like M (M.setP H I (-1)) := by
  have hh : ∀ k, (M.setP H I (-1)).hd k = M.hd k := fun k => by unfold Mo.hd; rw [setP_H]
  refine ⟨setP_len _ _ _, by rw [setP_H], fun k => ?_, fun k hk k2 c2 c5 l hl => ?_, fun a b hab => ?_, ?_, fun k => by rw [hh k]; exact ⟨rfl, rfl, rfl, rfl, rfl, rfl⟩⟩
  · have := setP_nd hp (-1) k
    exact ⟨this.1, this.2.1, by rw [this.2.2.1], this.2.2.2⟩
  · rw [(setP_nd hp (-1) k).2.2.1]; exact lim_of v hk k2 c2 c5 hl
  · rw [setP_kd hp]
    split
    · rename_i e
      refine .inr ⟨rfl, ?_⟩
      rcases hp with q | ⟨q1, q2, q3, q4⟩
      · omega
      · rw [show H - 1 = a by omega] at q3; exact q3
    · exact .inl rfl
  · unfold Mo.setP
    split
    · exact .inr rfl
    · exact .inl rfl
theorem like_dead (L : Like M M') {k : Nat} (hk : k < M'.H.length) : Like M (M'.setDead k) := by
  refine ⟨L.n, by show (M'.H.set k _).length = _; rw [List.length_set]; exact L.nh, L.nd, L.lim, L.kd, L.root, fun i => ?_⟩
  have : (M'.setDead k).hd i = if i = k then { M'.hd k with dead := true } else M'.hd i := hd_set k _ hk i
  rw [this]
  split
  · rename_i e; subst e; exact L.hd i
  · exact L.hd i
theorem like_refl (v : InvM M) : Like M M := ⟨rfl, rfl, fun _ => ⟨rfl, rfl, rfl, rfl⟩, fun i hi k2 c2 c5 j hj => lim_of v hi k2 c2 c5 hj, fun _ _ _ => .inl rfl, .inl rfl, fun _ => ⟨rfl, rfl, rfl, rfl, rfl, rfl⟩⟩
theorem MS.setData (s : MS wb p hb nb w h M) {i j : Nat} (hi : i < M.N.length) (hj : j < (M.nd i).data.length) {g c : Nat} (hg : h (2 * i + 2) = .slice (some ⟨g, 0, none⟩) (M.nd i).data.length c) {v : Nat} (hv : v < 18446744073709551616) : MS wb p hb nb (w.setCell ⟨g, j, none⟩ (.int .u64 (v : Int))) h (M.setD i j v) := by
  refine s.of (s.hm.setData hi hj hg hv) (Keeps.setCell (Keeps.refl _ _) (fun _ => .inr ⟨2 * i + 2, by omega, by rw [hg]; rfl⟩) _) (fun k hk => .inl ?_)
  rw [show (M.setD i j v).N.length = M.N.length from List.length_set] at hk
  exact hk
theorem MS.setDead (s : MS wb p hb nb w h M) {k : Nat} (hk : k < M.H.length) {g c : Nat} (hg : h 1 = .slice (some ⟨g, 0, none⟩) M.H.length c) : MS wb p hb nb (w.setCell ⟨g, k * 7 + 4, none⟩ (.bool true)) h (M.setDead k) :=
  s.of (s.hm.setDead hk hg) (Keeps.setCell (Keeps.refl _ _) (fun _ => .inr ⟨1, by omega, by rw [hg]; rfl⟩) _) (fun k hk => .inl hk)
end
end Go.Proofs.YgcfaaGreat
