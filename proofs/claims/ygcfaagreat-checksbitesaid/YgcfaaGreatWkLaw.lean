import Derived.Test.YgcfaaGreatBiteWk
import Derived.Test.YgcfaaGreatInvDrop
namespace Go.Proofs.YgcfaaGreat
open Go.RowKit Bits Bd
set_option linter.unusedVariables false

section
variable {B : Bld}
theorem resolve_made2 {A : List Nat} {a : Nat} {p : Ptr} (hA : A.length ≤ 256) (ha : a < A.length) (hg : GoodP p) (hat : isSt p → 1 ≤ p.at_) (h1 : 1 ≤ lo p) (hf : lo p + words p ≤ A.length) (hw : A.getD a 0 = ptrW a p) (ht : isSt p → A.getD (p.at_ - 1) 0 = mkTag p.count p.data p.ptrs) :
    ∃ x, resolveN A a = some { p with at_ := x } ∧ x ≤ 256 ∧ (¬ words p = 0 → x = p.at_) := by
  have hgw := good_words hg
  obtain ⟨kind, at_, data, ptrs, code, count⟩ := p
  unfold ptrW at hw
  dsimp only at hw
  rcases hg with ⟨g1, g2, g3, g4, g5⟩ | ⟨g1, g2, g3, g4, g5, g6⟩ | ⟨g1, g2, g3, g4, g5, g6⟩
  · dsimp only at g1 g2 g3 g4 g5
    subst g1 g4 g5
    rw [if_pos rfl] at hw
    have hwd := hgw.1 rfl
    dsimp only at hwd
    have hlo := (lo_struct (p := ⟨1, at_, data, ptrs, 0, 0⟩) rfl).1
    rw [hlo] at h1 hf
    dsimp only at h1 hf
    have := resolve_struct ha hA (by omega) g2 g3 hw (fun h => by omega)
    refine ⟨_, this, by split <;> omega, fun h => ?_⟩
    rw [hwd] at h
    rw [if_neg h]
  · dsimp only at g1 g2 g3 g4 g5 g6
    subst g1 g4 g5
    rw [if_neg (by omega), if_neg (by omega)] at hw
    have hS : ¬ isSt ⟨2, at_, 0, 0, code, count⟩ := fun h => by have := h.2; dsimp only at this; omega
    have hlo : lo ⟨2, at_, 0, 0, code, count⟩ = at_ := by unfold lo; rw [if_neg hS]
    rw [hlo] at h1 hf
    have hww : words ⟨2, at_, 0, 0, code, count⟩ = words ⟨2, 0, 0, 0, code, count⟩ := rfl
    rw [hww] at hf
    have := resolve_list ha hA (by omega) ⟨g2, g3⟩ g6 hw (fun h => by omega)
    exact ⟨_, this, by omega, fun _ => rfl⟩
  · dsimp only at g1 g2 g3 g4 g5 g6
    subst g1 g2
    have hS : isSt ⟨2, at_, data, ptrs, 7, count⟩ := ⟨rfl, rfl⟩
    rw [if_neg (by omega), if_pos rfl] at hw
    have hwd := hgw.2.1 hS
    dsimp only at hwd
    have hlo := (lo_st hS).1
    have hat := hat hS
    rw [hlo] at h1 hf
    have ht := ht hS
    dsimp only at h1 hf hat ht
    have := resolve_structs (t := at_ - 1) ha hA (by omega) (by omega) g3 g4 g5 g6 hw ht
    rw [show at_ - 1 + 1 = at_ by omega] at this
    exact ⟨_, this, by omega, fun _ => rfl⟩
theorem inv_res2 (i : InvC B) {h : Nat} (hh : Hung B h) : ∃ x, resolveN B.A (hAt B h) = some { B.o h with at_ := x } ∧ x ≤ 256 ∧ (¬ words (B.o h) = 0 → x = (B.o h).at_) := by
  obtain ⟨h1, hn, hd, hE⟩ := hh
  have hu := i.up h h1 hn
  obtain ⟨c1, c2, c3⟩ := i.hang h h1 hn hd hE
  exact resolve_made2 i.even.1.2 (inv_slot_lt i (by omega) c2) (i.good h h1 hn) (i.at1 h h1 hn) (inv_lo1 i h1 hn) (inv_fit i h1 hn hE) c3 (i.tag h h1 hn hd)

theorem inv_depth (i : InvC B) {u : Nat} (hn : u < B.obj.length) : B.depth.getD u 0 ≤ 8 := by
  rcases Nat.eq_zero_or_pos u with h0 | h0
  · rw [h0, i.root.2.2.2.1]; omega
  · by_cases hE : isE B u
    · obtain ⟨a1, a2, a3⟩ := i.inE u h0 hn hE
      have hu := i.up u h0 hn
      have hel := i.elems _ a1 (by omega) hE _ a2
      unfold elemP at hel
      rw [← a3] at hel
      rw [hel.2.2.2.1]
      exact (i.deep _ a1 (by omega) (st_notE i a1 (by omega) hE)).2
    · exact (i.deep u h0 hn hE).2
theorem ext_apart (i : InvC B) {g h x : Nat} (hg : Hung B g) (hh : Hung B h) (hlt : g < h) (a1 : lo (B.o h) ≤ x) : ¬ x < lo (B.o g) + words (B.o g) := by
  obtain ⟨g1, gn, gd, gE⟩ := hg
  obtain ⟨h1, hn, hd, hE⟩ := hh
  have hnx : nxt B g ≤ h := by
    unfold nxt
    by_cases hS : isSt (B.o g)
    · rw [if_pos hS]
      rcases Nat.lt_or_ge h (g + 1 + (B.o g).count) with hc | hc
      · exfalso
        have hel := i.elems g g1 gn hS (h - g - 1) (by omega)
        unfold elemP at hel
        rw [show g + 1 + (h - g - 1) = h by omega] at hel
        apply hE
        unfold isE
        rw [hel.2.1]; exact hS
      · exact hc
    · rw [if_neg hS]; omega
  have := (inv_lo_ge i _ g h (Nat.le_refl _) g1 gE (by omega) hn).2 hnx
  omega

structure JV (B : Bld) (V : Nat → Prop) (W : Wk) : Prop where
  sp : W.sp ≤ 256
  vis : ∀ g, V g → Hung B g
  up : ∀ g, V g → B.up.getD g 0 = 0 ∨ V (B.up.getD g 0) ∨ (isE B (B.up.getD g 0) ∧ V (B.up.getD (B.up.getD g 0) 0))
  zero : tb W.set 0 = true
  cl : ∀ x, tb W.set x = true → x = 0 ∨ ∃ g, V g ∧ lo (B.o g) ≤ x ∧ x < lo (B.o g) + words (B.o g)
  ent : ∀ i, i < W.sp → ∃ u k, u < B.obj.length ∧ B.dead.getD u false = false ∧ k < nsl (B.o u) ∧ (W.ent i).1 = sAt (B.o u) k ∧ (W.ent i).2 = B.depth.getD u 0 ∧ tb W.set (W.ent i).1 = true ∧ ∀ h, Hung B h → B.up.getD h 0 = u → B.via.getD h 0 = k → ¬ V h
  dist : ∀ i j, j < i → i < W.sp → ¬ (W.ent j).1 = (W.ent i).1
def JW (B : Bld) (W : Wk) : Prop := ∃ V, JV B V W

theorem jv_mid (i : InvC B) {V : Nat → Prop} {W : Wk} (j : JV B V W) : midP B.A.length W := by
  refine ⟨⟨i.even.1.1, i.even.1.2, j.zero⟩, fun x h1 h2 => ?_, j.sp, fun k hk => ?_⟩
  · cases ht : tb W.set x
    · rfl
    · exfalso
      have := i.even.1.1
      rcases j.cl x ht with h | ⟨g, g1, g2, g3⟩
      · omega
      · obtain ⟨a1, a2, _, _⟩ := j.vis g g1
        have := ext_fit i a1 a2
        omega
  · obtain ⟨u, m, u1, u2, u3, u4, u5, u6, u7⟩ := j.ent k hk
    exact ⟨by rw [u4]; exact inv_slot_lt i u1 u3, by rw [u5]; exact inv_depth i u1, u6, fun l hl => j.dist k l hl hk⟩

/-- An entry that may be pushed. -/
def EntOk (B : Bld) (V : Nat → Prop) (s : List Nat) (x d : Nat) : Prop := ∃ u k, u < B.obj.length ∧ B.dead.getD u false = false ∧ k < nsl (B.o u) ∧ x = sAt (B.o u) k ∧ d = B.depth.getD u 0 ∧ tb s x = true ∧ ∀ h, Hung B h → B.up.getD h 0 = u → B.via.getD h 0 = k → ¬ V h

theorem jv_push1 {V : Nat → Prop} {W : Wk} (j : JV B V W) (hn : W.st.length = 256) (hs : W.sp < 256) {x d : Nat} (he : EntOk B V W.set x d) (hd : ∀ m, m < W.sp → ¬ (W.ent m).1 = x) :
    JV B V { W with st := W.st.set W.sp (x, d), sp := W.sp + 1 } ∧ ∀ m, m < W.sp + 1 → (Wk.ent { W with st := W.st.set W.sp (x, d), sp := W.sp + 1 } m).1 = x ∨ (m < W.sp ∧ (Wk.ent { W with st := W.st.set W.sp (x, d), sp := W.sp + 1 } m).1 = (W.ent m).1) := by
  have e : ∀ k, Wk.ent { W with st := W.st.set W.sp (x, d), sp := W.sp + 1 } k = if k = W.sp then (x, d) else W.ent k := fun k => ent_set (W := { W with sp := W.sp + 1 }) hn hs _ k
  refine ⟨⟨hs, j.vis, j.up, j.zero, j.cl, fun i hi => ?_, fun i k hk hi => ?_⟩, fun m hm => ?_⟩
  · have hi' : i < W.sp + 1 := hi
    rw [e]
    by_cases h : i = W.sp
    · rw [if_pos h]
      exact he
    · rw [if_neg h]
      exact j.ent i (by omega)
  · have hi' : i < W.sp + 1 := hi
    rw [e, e]
    by_cases h : i = W.sp
    · rw [if_pos h, if_neg (by omega)]
      exact hd k (by omega)
    · rw [if_neg h, if_neg (by omega)]
      exact j.dist i k hk (by omega)
  · rw [e]
    by_cases h : m = W.sp
    · rw [if_pos h]; exact .inl rfl
    · rw [if_neg h]; exact .inr ⟨by omega, rfl⟩

theorem jv_pushGo (V : Nat → Prop) (s : List Nat) (a d : Nat) : ∀ (k i : Nat) (W : Wk) (S : Nat → Prop), W.set = s → W.st.length = 256 → JV B V W → (∀ m, m < W.sp → S (W.ent m).1) →
    (∀ j, i ≤ j → j < i + k → EntOk B V s (a + j) d ∧ a + j < 65536 ∧ ¬ S (a + j)) →
    (pushGo a d k i W).set = s ∧ (pushGo a d k i W).st.length = 256 ∧ JV B V (pushGo a d k i W) ∧ ∀ m, m < (pushGo a d k i W).sp → S ((pushGo a d k i W).ent m).1 ∨ ∃ j, i ≤ j ∧ j < i + k ∧ ((pushGo a d k i W).ent m).1 = a + j
  | 0, i, W, S, h1, h2, j, hS, hE => ⟨h1, h2, j, fun m hm => .inl (hS m hm)⟩
  | k + 1, i, W, S, h1, h2, j, hS, hE => by
    rw [pushGo]
    by_cases hs : W.sp < 256
    · rw [if_pos hs]
      obtain ⟨e1, e2, e3⟩ := hE i (Nat.le_refl _) (by omega)
      rw [Nat.mod_eq_of_lt e2]
      obtain ⟨q1, q2⟩ := jv_push1 j h2 hs (by rw [h1]; exact e1) (fun m hm he => e3 (by rw [← he]; exact hS m hm))
      have ih := jv_pushGo V s a d k (i + 1) { W with st := W.st.set W.sp (a + i, d), sp := W.sp + 1 } (fun x => S x ∨ x = a + i) h1 (by rw [List.length_set]; exact h2) q1
        (fun m hm => by
          rcases q2 m hm with h | ⟨h3, h4⟩
          · exact .inr h
          · rw [h4]; exact .inl (hS m h3))
        (fun l hl1 hl2 => by
          obtain ⟨f1, f2, f3⟩ := hE l (by omega) (by omega)
          exact ⟨f1, f2, fun h => h.elim f3 (by omega)⟩)
      obtain ⟨i1, i2, i3, i4⟩ := ih
      refine ⟨i1, i2, i3, fun m hm => ?_⟩
      rcases i4 m hm with (h | h) | ⟨l, l1, l2, l3⟩
      · exact .inl h
      · exact .inr ⟨i, by omega, by omega, h⟩
      · exact .inr ⟨l, by omega, by omega, l3⟩
    · rw [if_neg hs]
      exact ⟨h1, h2, j, fun m hm => .inl (hS m hm)⟩
end
end Go.Proofs.YgcfaaGreat
