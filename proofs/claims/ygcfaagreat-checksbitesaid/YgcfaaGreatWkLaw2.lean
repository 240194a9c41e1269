import Derived.Test.YgcfaaGreatWkLaw
namespace Go.Proofs.YgcfaaGreat
open Go.RowKit Bits Bd
set_option linter.unusedVariables false

section
variable {B : Bld}
theorem jv_followGo (V : Nat → Prop) (s : List Nat) (p : Ptr) (d : Nat) (hb : p.at_ + p.count * (p.data + p.ptrs) ≤ 60000) : ∀ (k i : Nat) (W : Wk) (S : Nat → Prop), i + k ≤ p.count → W.set = s → W.st.length = 256 → JV B V W → (∀ m, m < W.sp → S (W.ent m).1) →
    (∀ j m, i ≤ j → j < i + k → m < p.ptrs → EntOk B V s (p.at_ + j * (p.data + p.ptrs) + p.data + m) d ∧ ¬ S (p.at_ + j * (p.data + p.ptrs) + p.data + m)) →
    JV B V (followGo p d k i W)
  | 0, i, W, S, hc, h1, h2, j, hS, hE => j
  | k + 1, i, W, S, hc, h1, h2, j, hS, hE => by
    rw [followGo]
    have hi : (i + 1) * (p.data + p.ptrs) ≤ p.count * (p.data + p.ptrs) := Nat.mul_le_mul_right _ (by omega)
    have hs1 : (i + 1) * (p.data + p.ptrs) = i * (p.data + p.ptrs) + (p.data + p.ptrs) := Nat.succ_mul _ _
    obtain ⟨q1, q2, q3, q4⟩ := jv_pushGo V s (p.at_ + i * (p.data + p.ptrs) + p.data) d p.ptrs 0 W S h1 h2 j hS (fun m _ hm => by
      obtain ⟨e1, e2⟩ := hE i m (Nat.le_refl _) (by omega) (by omega)
      exact ⟨e1, by omega, e2⟩)
    refine jv_followGo V s p d hb k (i + 1) _ (fun x => S x ∨ x < p.at_ + (i + 1) * (p.data + p.ptrs) ∧ ∃ m, m < p.ptrs ∧ x = p.at_ + i * (p.data + p.ptrs) + p.data + m) (by omega) q1 q2 q3 (fun m hm => ?_) (fun l m hl1 hl2 hm => ?_)
    · rcases q4 m hm with h | ⟨l, _, l2, l3⟩
      · exact .inl h
      · exact .inr ⟨by rw [l3]; omega, l, by omega, l3⟩
    · obtain ⟨e1, e2⟩ := hE l m (by omega) (by omega) hm
      refine ⟨e1, fun h => ?_⟩
      rcases h with h | ⟨h, _⟩
      · exact e2 h
      · have : (i + 1) * (p.data + p.ptrs) ≤ l * (p.data + p.ptrs) := Nat.mul_le_mul_right _ hl1
        omega

/-- A word of an object's extent is its own, or an element's own. -/
theorem ext_own (i : InvC B) {x y : Nat} (x1 : 1 ≤ x) (xn : x < B.obj.length) (y1 : lo (B.o x) ≤ y) (y2 : y < lo (B.o x) + words (B.o x)) : (lo (B.o x) ≤ y ∧ y < hi (B.o x)) ∨ (isSt (B.o x) ∧ ∃ j, j < (B.o x).count ∧ x + 1 + j < B.obj.length ∧ lo (B.o (x + 1 + j)) ≤ y ∧ y < hi (B.o (x + 1 + j))) := by
  by_cases hs : isSt (B.o x)
  · have hw := st_words i x1 xn hs
    have hat := i.at1 x x1 xn hs
    have hl := lo_st hs
    by_cases hy : y < (B.o x).at_
    · exact .inl ⟨y1, by rw [hl.2]; exact hy⟩
    · obtain ⟨s, hs'⟩ : ∃ s, s = (B.o x).data + (B.o x).ptrs := ⟨_, rfl⟩
      rw [← hs'] at hw
      have hsp : 0 < s := by
        rcases Nat.eq_zero_or_pos s with h | h
        · rw [h, Nat.mul_zero] at hw; omega
        · exact h
      have hj : (y - (B.o x).at_) / s < (B.o x).count := (Nat.div_lt_iff_lt_mul hsp).2 (by omega)
      have hdm := Nat.div_add_mod (y - (B.o x).at_) s
      have hml := Nat.mod_lt (y - (B.o x).at_) hsp
      rw [Nat.mul_comm] at hdm
      obtain ⟨j, hjd⟩ : ∃ j, j = (y - (B.o x).at_) / s := ⟨_, rfl⟩
      rw [← hjd] at hj hdm
      have hel := i.elems x x1 xn hs _ hj
      have hnx := (i.row x x1 xn (st_notE i x1 xn hs)).1
      unfold nxt at hnx
      rw [if_pos hs] at hnx
      have hkk : (B.o (x + 1 + j)).kind = 1 := by rw [hel.1]
      have hge := i.good (x + 1 + j) (by omega) (by omega)
      have hwe := (good_words hge).1 hkk
      refine .inr ⟨hs, j, hj, by omega, ?_, ?_⟩
      · rw [(lo_struct hkk).1, hel.1, ← hs']
        show (B.o x).at_ + j * s ≤ y
        omega
      · rw [(lo_struct hkk).2, hwe, hel.1, ← hs']
        show y < (B.o x).at_ + j * s + s
        omega
  · refine .inl ⟨y1, ?_⟩
    unfold hi
    rw [if_neg hs]
    unfold lo at y2
    rw [if_neg hs] at y2
    exact y2

theorem wk1_st : wk1.sp = 1 ∧ wk1.ent 0 = (0, 0) ∧ wk1.set = putS zset 0 := ⟨rfl, rfl, rfl⟩

theorem jw_start (i : InvC B) : JW B wk1 := by
  obtain ⟨h1, h2, h3⟩ := wk1_st
  have ht : ∀ x, tb wk1.set x = (tb zset x || decide (x = 0)) := fun x => by rw [h3]; exact tb_putS zset 0 x rfl (by omega)
  have o0 := inv_o0 i
  refine ⟨fun _ => False, by rw [h1]; omega, fun g h => h.elim, fun g h => h.elim, by rw [ht]; simp, fun x hx => ?_, fun k hk => ?_, fun k l hl hk => by omega⟩
  · rw [ht, tb_zset] at hx
    left; simpa using hx
  · rw [h1] at hk
    have : k = 0 := by omega
    subst this
    refine ⟨0, 0, i.even.2.1.1, i.root.2.2.2.2, by rw [o0.2.2.1]; omega, by rw [h2, o0.2.2.2], by rw [h2, i.root.2.2.2.1], by rw [h2, ht]; simp, fun h _ _ _ hf => hf⟩

theorem jw_step (i : InvC B) {W : Wk} (ok : W.Ok) (j : JW B W) : W.sp = 0 ∨ ∃ got, 0 < W.sp ∧ W.sp ≤ 256 ∧ resolveN B.A (W.ent (W.sp - 1)).1 = some got ∧ (¬ got.kind = 0 → StepOk B.A W got (W.ent (W.sp - 1)).2) ∧
    (got.kind = 0 → JW B { W with sp := W.sp - 1 }) ∧ (¬ got.kind = 0 → ∀ s', TakenS W.set (first got) (words got) s' → JW B (followW got ((W.ent (W.sp - 1)).2 + 1) { W with set := s', sp := W.sp - 1 })) := by
  obtain ⟨V, j⟩ := j
  rcases Nat.eq_zero_or_pos W.sp with h0 | h0
  · exact .inl h0
  · right
    obtain ⟨u, k, u1, u2, u3, u4, u5, u6, u7⟩ := j.ent (W.sp - 1) (by omega)
    have hal := inv_slot_lt i u1 u3
    by_cases hex : ∃ h, Hung B h ∧ B.up.getD h 0 = u ∧ B.via.getD h 0 = k
    · obtain ⟨h, hh, hup, hvia⟩ := hex
      obtain ⟨x, r1, r2, r3⟩ := inv_res2 i hh
      have hat : hAt B h = sAt (B.o u) k := by unfold hAt; rw [hup, hvia]
      rw [hat] at r1
      obtain ⟨g1, gn, gd, gE⟩ := hh
      have hnV := u7 h ⟨g1, gn, gd, gE⟩ hup hvia
      have hgood := i.good h g1 gn
      have hkn : ¬ (B.o h).kind = 0 := by rcases hgood with q | q | q <;> omega
      have hdp := i.deep h g1 gn gE
      rw [hup] at hdp
      have hfit := inv_fit i g1 gn gE
      have hlo1 := inv_lo1 i g1 gn
      have h256 := i.even.1.2
      have hbd : (B.o h).data ≤ 8 ∧ (B.o h).ptrs ≤ 8 ∧ (B.o h).count ≤ 128 := by rcases hgood with q | q | q <;> omega
      have hgat : (B.o h).at_ ≤ 60000 := by
        have := inv_hi i gn
        unfold hi at this
        split at this <;> omega
      have hfl := InvC.first_lo i g1 gn hgat
      have hww : words { B.o h with at_ := x } = words (B.o h) := rfl
      -- the extent of what was met
      have hfirst : ¬ words (B.o h) = 0 → first { B.o h with at_ := x } = lo (B.o h) := fun hw => by
        rw [r3 hw]; exact hfl
      have hSw : isSt (B.o h) → ¬ words (B.o h) = 0 := fun hS => by rw [st_words i g1 gn hS]; omega
      have hfree : ∀ y, lo (B.o h) ≤ y → y < lo (B.o h) + words (B.o h) → tb W.set y = false := fun y y1 y2 => by
        cases ht : tb W.set y
        · rfl
        · exfalso
          rcases j.cl y ht with q | ⟨g, q1, q2, q3⟩
          · omega
          · have hgH := j.vis g q1
            rcases Nat.lt_trichotomy g h with q | q | q
            · exact ext_apart i hgH ⟨g1, gn, gd, gE⟩ q y1 q3
            · subst q; exact hnV q1
            · exact ext_apart i ⟨g1, gn, gd, gE⟩ hgH q q2 y2
      refine ⟨{ B.o h with at_ := x }, h0, j.sp, by rw [u4]; exact r1, fun _ => ⟨?_, ?_, hbd.1, hbd.2.1, hbd.2.2, ?_, fun y y1 y2 => ?_, ?_⟩, fun hk => absurd hk hkn, fun _ s' hT => ?_⟩
      · rw [u5]; omega
      · show x ≤ 300; omega
      · rw [hww]
        by_cases hw : words (B.o h) = 0
        · have hS : ¬ (({ B.o h with at_ := x } : Ptr).kind = 2 ∧ ({ B.o h with at_ := x } : Ptr).code = 7) := fun hS => hSw hS hw
          unfold first
          rw [if_neg hS, hw]; show x + 0 ≤ 256; omega
        · rw [hfirst hw]; omega
      · rw [hww] at y2
        by_cases hw : words (B.o h) = 0
        · omega
        · rw [hfirst hw] at y1 y2
          exact hfree y y1 y2
      · have hp := i.pad h g1 gn gd
        by_cases hw : words (B.o h) = 0
        · by_cases hk2 : (B.o h).kind = 2
          · refine .inr (.inl ?_)
            show (B.o h).count * width (B.o h).code % 8 = 0
            by_cases hc : 2 ≤ (B.o h).code ∧ (B.o h).code ≤ 5
            · have := words_scalar' hk2 hc.1 hc.2 hbd.2.2
              omega
            · have : width (B.o h).code = 0 := by unfold width; split <;> first | rfl | omega
              rw [this, Nat.mul_zero]
          · exact .inl hk2
        · rw [r3 hw]; exact hp
      · -- what is on the stack then
        rw [hww] at hT
        obtain ⟨t4, tl, tt⟩ := hT
        have htt : ∀ y, tb s' y = true ↔ tb W.set y = true ∨ (¬ words (B.o h) = 0 ∧ lo (B.o h) ≤ y ∧ y < lo (B.o h) + words (B.o h)) := fun y => by
          rw [tt y, Bool.or_eq_true, decide_eq_true_iff]
          by_cases hw : words (B.o h) = 0
          · rw [hw]
            exact ⟨fun q => q.elim .inl (fun q => by omega), fun q => q.elim .inl (fun q => absurd rfl q.1)⟩
          · rw [hfirst hw]
            exact ⟨fun q => q.elim .inl (fun q => .inr ⟨hw, q⟩), fun q => q.elim .inl (fun q => .inr q.2)⟩
        have jW : JV B (fun g => V g ∨ g = h) { W with set := s', sp := W.sp - 1 } := by
          refine ⟨by show W.sp - 1 ≤ 256; have := j.sp; omega, fun g hg => ?_, fun g hg => ?_, (htt 0).2 (.inl j.zero), fun y hy => ?_, fun m hm => ?_, fun m l hl hm => ?_⟩
          · rcases hg with q | q
            · exact j.vis g q
            · rw [q]; exact ⟨g1, gn, gd, gE⟩
          · rcases hg with q | q
            · rcases j.up g q with q | q | q
              · exact .inl q
              · exact .inr (.inl (.inl q))
              · exact .inr (.inr ⟨q.1, .inl q.2⟩)
            · rw [q, hup]
              have hso := inv_slot_own i u1 u3
              rw [u4] at u6
              rcases j.cl _ u6 with q0 | ⟨g, q1, q2, q3⟩
              · left
                have o0 := inv_o0 i
                refine own_one i u1 i.even.2.1.1 hso.1 hso.2 ?_ ?_
                · rw [o0.1]; omega
                · rw [o0.2.1, q0]; omega
              · right
                obtain ⟨w1, w2, w3, w4⟩ := j.vis g q1
                rcases ext_own i w1 w2 q2 q3 with ⟨z1, z2⟩ | ⟨z0, m, z1, z2, z3, z4⟩
                · have := own_one i u1 w2 hso.1 hso.2 z1 z2
                  rw [this]; exact .inl (.inl q1)
                · have := own_one i u1 z2 hso.1 hso.2 z3 z4
                  have hel := i.elems g w1 w2 z0 m z1
                  unfold elemP at hel
                  rw [← this] at hel
                  right
                  refine ⟨?_, ?_⟩
                  · unfold isE; rw [hel.2.1]; exact z0
                  · rw [hel.2.1]; exact .inl q1
          · rcases (htt y).1 hy with q | q
            · rcases j.cl y q with q | ⟨g, q1, q2⟩
              · exact .inl q
              · exact .inr ⟨g, .inl q1, q2⟩
            · exact .inr ⟨h, .inr rfl, q.2⟩
          · have hm' : m < W.sp - 1 := hm
            obtain ⟨v, l, v1, v2, v3, v4, v5, v6, v7⟩ := j.ent m (by omega)
            refine ⟨v, l, v1, v2, v3, v4, v5, (htt _).2 (.inl v6), fun g hg e1 e2 hVg => ?_⟩
            rcases hVg with q | q
            · exact v7 g hg e1 e2 q
            · rw [q, hup] at e1
              rw [q, hvia] at e2
              have := j.dist (W.sp - 1) m (by omega) (by omega)
              rw [v4, u4, ← e1, ← e2] at this
              exact this rfl
          · have hm' : m < W.sp - 1 := hm
            exact j.dist m l hl (by omega)
        have hSt : ∀ m, m < W.sp - 1 → tb W.set (W.ent m).1 = true := fun m hm => by
          obtain ⟨v, l, v1, v2, v3, v4, v5, v6, v7⟩ := j.ent m (by omega)
          exact v6
        have hslot : ∀ m, m < nsl (B.o h) → EntOk B (fun g => V g ∨ g = h) s' (sAt (B.o h) m) ((W.ent (W.sp - 1)).2 + 1) ∧ ¬ tb W.set (sAt (B.o h) m) = true := fun m hm => by
          have hso := inv_slot_own i gn hm
          have hSn : ¬ isSt (B.o h) := nsl_notSt (by omega)
          have hin : lo (B.o h) ≤ sAt (B.o h) m ∧ sAt (B.o h) m < lo (B.o h) + words (B.o h) := by
            refine ⟨hso.1, ?_⟩
            have := hso.2
            unfold hi at this
            rw [if_neg hSn] at this
            unfold lo
            rw [if_neg hSn]; exact this
          refine ⟨⟨h, m, gn, gd, hm, rfl, by rw [u5, hdp.1], (htt _).2 (.inr ⟨by omega, hin⟩), fun g hg e1 e2 hVg => ?_⟩, by rw [hfree _ hin.1 hin.2]; decide⟩
          rcases hVg with q | q
          · rcases j.up g q with q | q | q
            · omega
            · rw [e1] at q; exact hnV q
            · rw [e1] at q; exact gE q.1
          · have := i.up h g1 gn
            rw [q] at e1; omega
        refine ⟨fun g => V g ∨ g = h, ?_⟩
        unfold followW
        by_cases k1 : (B.o h).kind = 1
        · rw [if_pos k1]
          refine (jv_pushGo _ s' _ _ _ 0 { W with set := s', sp := W.sp - 1 } (fun x => tb W.set x = true) rfl ok.n jW hSt (fun m _ hm => ?_)).2.2.1
          have hm' : m < (B.o h).ptrs := by rw [Nat.zero_add] at hm; exact hm
          have hnm : m < nsl (B.o h) := by unfold nsl; rw [if_pos k1]; exact hm'
          have hwd := (good_words hgood).1 k1
          have hx := r3 (by omega)
          have hsA : sAt (B.o h) m = x + (B.o h).data + m := by unfold sAt; rw [if_pos k1, hx]
          obtain ⟨e1, e2⟩ := hslot m hnm
          rw [hsA] at e1 e2
          exact ⟨e1, by show x + (B.o h).data + m < 65536; omega, e2⟩
        · rw [if_neg k1]
          have k2 : (B.o h).kind = 2 := by rcases hgood with q | q | q <;> omega
          by_cases c6 : (B.o h).code = 6
          · rw [if_pos c6]
            refine (jv_pushGo _ s' _ _ _ 0 { W with set := s', sp := W.sp - 1 } (fun x => tb W.set x = true) rfl ok.n jW hSt (fun m _ hm => ?_)).2.2.1
            have hm' : m < (B.o h).count := by rw [Nat.zero_add] at hm; exact hm
            have hnm : m < nsl (B.o h) := by unfold nsl; rw [if_neg k1, if_pos ⟨k2, c6⟩]; exact hm'
            have hwd := (good_words hgood).2.2 k2 c6
            have hx := r3 (by omega)
            have hsA : sAt (B.o h) m = x + m := by unfold sAt; rw [if_neg k1, hx]
            obtain ⟨e1, e2⟩ := hslot m hnm
            rw [hsA] at e1 e2
            exact ⟨e1, by show x + m < 65536; omega, e2⟩
          · rw [if_neg c6]
            by_cases c7 : (B.o h).code = 7
            · rw [if_pos c7]
              have hS : isSt (B.o h) := ⟨k2, c7⟩
              have hx := r3 (hSw hS)
              rw [hx]
              have hw := st_words i g1 gn hS
              have hat1 := i.at1 h g1 gn hS
              have hl := lo_st hS
              have hnx := (i.row h g1 gn gE).1
              unfold nxt at hnx
              rw [if_pos hS] at hnx
              show JV B _ (followGo (B.o h) _ (B.o h).count 0 _)
              refine jv_followGo _ s' (B.o h) _ (by omega) _ 0 { W with set := s', sp := W.sp - 1 } (fun x => tb W.set x = true) (by omega) rfl ok.n jW hSt (fun e m _ he hm => ?_)
              have he' : e < (B.o h).count := by rw [Nat.zero_add] at he; exact he
              have hel := i.elems h g1 gn hS e he'
              have hm1 : (e + 1) * ((B.o h).data + (B.o h).ptrs) ≤ (B.o h).count * ((B.o h).data + (B.o h).ptrs) := Nat.mul_le_mul_right _ (by omega)
              have hm2 : (e + 1) * ((B.o h).data + (B.o h).ptrs) = e * ((B.o h).data + (B.o h).ptrs) + ((B.o h).data + (B.o h).ptrs) := Nat.succ_mul _ _
              have hin : lo (B.o h) ≤ (B.o h).at_ + e * ((B.o h).data + (B.o h).ptrs) + (B.o h).data + m ∧ (B.o h).at_ + e * ((B.o h).data + (B.o h).ptrs) + (B.o h).data + m < lo (B.o h) + words (B.o h) := by
                rw [hl.1, hw]; omega
              have hEe : isE B (h + 1 + e) := by unfold isE; rw [hel.2.1]; exact hS
              refine ⟨⟨h + 1 + e, m, by omega, by rw [hel.2.2.2.2]; exact gd, ?_, ?_, by rw [u5, hel.2.2.2.1, hdp.1], (htt _).2 (.inr ⟨hSw hS, hin⟩), fun g hg e1 e2 hVg => ?_⟩, by rw [hfree _ hin.1 hin.2]; decide⟩
              · rw [hel.1]; unfold nsl; rw [if_pos rfl]; exact hm
              · rw [hel.1]; unfold sAt; rw [if_pos rfl]
              · rcases hVg with q | q
                · rcases j.up g q with q | q | q
                  · omega
                  · rw [e1] at q
                    exact (j.vis _ q).2.2.2 hEe
                  · rw [e1, hel.2.1] at q
                    exact hnV q.2
                · have := i.up h g1 gn
                  rw [q] at e1; omega
            · rw [if_neg c7]
              exact jW
    · -- nothing hangs there
      have hz : B.A.getD (sAt (B.o u) k) 0 = 0 := i.null u k u1 u2 u3 (fun h h1 hn hd hE e1 e2 => hex ⟨h, ⟨h1, hn, hd, hE⟩, e1, e2⟩)
      refine ⟨⟨0, 0, 0, 0, 0, 0⟩, h0, j.sp, by rw [u4]; exact resolve_null hal hz, fun hk => absurd rfl hk, fun _ => ⟨V, ?_⟩, fun hk => absurd rfl hk⟩
      exact ⟨by show W.sp - 1 ≤ 256; have := j.sp; omega, j.vis, j.up, j.zero, j.cl, fun m hm => j.ent m (by have hm' : m < W.sp - 1 := hm; omega), fun m l hl hm => j.dist m l hl (by have hm' : m < W.sp - 1 := hm; omega)⟩
theorem inv_steady (i : InvC B) : Steady B.A (JW B) := ⟨jw_start i, fun W ok j => jw_step i ok j, fun W ok ⟨V, j⟩ => jv_mid i j⟩
end
end Go.Proofs.YgcfaaGreat
