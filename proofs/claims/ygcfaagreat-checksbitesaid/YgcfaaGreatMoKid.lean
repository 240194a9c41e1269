import Derived.Test.YgcfaaGreatInvMe
namespace Go.Proofs.YgcfaaGreat
open Go.RowKit Bits Bd
set_option linter.unusedVariables false
set_option maxRecDepth 100000
set_option linter.unusedSimpArgs false
attribute [local go_sem] World.cell?_ext World.frozen?_ext

/-- Where pointer I of handle H lies. -/
def PlAt (p : Nat) (h : Nat → Value) (M : Mo) (H I : Nat) (a : Addr) : Prop :=
  (H = 0 ∧ I = 0 ∧ a = ⟨p, 1, none⟩) ∨ ∃ k g c, H = k + 1 ∧ k < M.N.length ∧ ¬ ((M.nd k).kind = 2 ∧ ¬ (M.nd k).code = 6) ∧ I < (M.nd k).kids.length ∧ h (2 * k + 3) = .slice (some ⟨g, 0, none⟩) (M.nd k).kids.length c ∧ a = ⟨g, I, none⟩
section
variable {full : Bool} {w : World} {p : Nat} {h : Nat → Value} {M : Mo} {H I : Nat} {a : Addr}
theorem PlAt.plc (q : PlAt p h M H I a) : M.plc H I := by
  rcases q with q | ⟨k, g, c, h1, h2, h3, h4, _⟩
  · exact .inl ⟨q.1, q.2.1⟩
  · refine .inr ⟨by omega, by omega, ?_, ?_⟩
    · rw [show H - 1 = k by omega]; exact h3
    · rw [show H - 1 = k by omega]; exact h4
theorem PlAt.cell (q : PlAt p h M H I a) (m : HM full w p h M) : w.cell? a = some (.int .i16 (M.pv H I)) ∧ w.frozen? a = false := by
  rcases q with ⟨rfl, rfl, rfl⟩ | ⟨k, g, c, rfl, h2, h3, h4, h5, rfl⟩
  · exact m.f1
  · obtain ⟨g', c', e, h6, h7⟩ := m.kcell h2 h4
    have : g' = g := by rw [h5] at e; cases e; rfl
    subst this
    exact ⟨h6, h7⟩
theorem PlAt.blk (q : PlAt p h M H I a) : mblk p h M.N.length a.block := by
  rcases q with ⟨rfl, rfl, rfl⟩ | ⟨k, g, c, rfl, h2, h3, h4, h5, rfl⟩
  · exact .inl rfl
  · exact .inr ⟨2 * k + 3, by omega, by rw [h5]; rfl⟩
theorem PlAt.set (q : PlAt p h M H I a) (m : HM full w p h M) {v : Int} (hv : -32768 ≤ v ∧ v ≤ 32767) : HM full (w.setCell a (.int .i16 v)) p h (M.setP H I v) := by
  rcases q with ⟨rfl, rfl, rfl⟩ | ⟨k, g, c, rfl, h2, h3, h4, h5, rfl⟩
  · unfold Mo.setP; rw [if_pos rfl]; exact m.setRoot hv
  · unfold Mo.setP; rw [if_neg (by omega)]; exact m.setKid h2 h4 h5 hv
theorem PlAt.spot (q : PlAt p h M H I a) : ∃ b o, a = ⟨b, o, none⟩ := by
  rcases q with ⟨rfl, rfl, rfl⟩ | ⟨k, g, c, rfl, h2, h3, h4, h5, rfl⟩
  · exact ⟨_, _, rfl⟩
  · exact ⟨_, _, rfl⟩
end

def RetK (e : Ending) (p : Nat) (h : Nat → Value) (M : Mo) (H I : Nat) : Prop := (¬ M.plc H I ∧ e = .returned (.pointer none)) ∨ ∃ a, PlAt p h M H I a ∧ e = .returned (.pointer (some a))

set_option maxHeartbeats 16000000 in
theorem kid_calls {w : World} {p : Nat} {h : Nat → Value} {M : Mo} (m : HM true w p h M) (v : InvM M) (H I : Nat) (hH : H < M.H.length) (hI : I < 256) :
    Calls Faag.prog 90 #[.pointer (some ⟨p, 0, none⟩), .int .u8 H, .int .u8 I] w fun e w' => RetK e p h M H I ∧ Below w.heap.size w w' := by
  have hnh := v.nh
  have hn2 := v.n2
  match H, hH with
  | 0, hH =>
    by_cases hI0 : I = 0
    · subst hI0
      go_enter Faag.func90, Faag.ntmps90
      go_wp2_with fail
      go_ret
      exact ⟨.inr ⟨_, .inl ⟨rfl, rfl, rfl⟩, rfl⟩, Below.refl _ _⟩
    · have hI' : ((I : Int) == 0) = false := by simp; omega
      go_enter Faag.func90, Faag.ntmps90
      go_wp2_with fail
      go_ret
      refine ⟨.inl ⟨fun q => ?_, rfl⟩, Below.refl _ _⟩
      rcases q with q | q
      · exact hI0 q.2
      · exact absurd q.1 (by omega)
  | k + 1, hH =>
    have hk : k < M.N.length := by omega
    have hH' : (((k + 1 : Nat) : Int) == 0) = false := by simp; omega
    have f0 := m.f0.1
    have f2 := m.f2.1
    obtain ⟨gh, ch, hgh, hhc⟩ := m.hand (i := k + 1) (by omega)
    have hn := (hhc 0 _ rfl).1
    simp only [Nat.add_zero] at hn
    rw [v.node k hk] at hn
    obtain ⟨gn, cn, hgn, hnc⟩ := m.node hk
    have c0 := (hnc 0 _ rfl).1
    have c1 := (hnc 1 _ rfl).1
    have c3 := (hnc 3 _ rfl).1
    simp only [Nat.add_zero] at c0
    obtain ⟨ka, kc, hka⟩ := m.nk_ hk
    rw [hka] at c3
    rw [hgn] at f0
    rw [hgh] at f2
    have hkl := (m.ok k).kl
    have HM0 := hide m
    have HV := hide v
    have HKA := hide hka
    have HHK := hide hk
    obtain ⟨n, hnE⟩ : ∃ n, n = M.N.length := ⟨_, rfl⟩
    obtain ⟨nH, hnH⟩ : ∃ n, n = M.H.length := ⟨_, rfl⟩
    rw [← hnE] at f0 hk hn2
    rw [← hnH] at f2 hH
    have hnH2 : nH ≤ 1000 := by rw [hnH]; exact m.nh
    obtain ⟨kd, hkdE⟩ : ∃ x, x = (M.nd k).kind := ⟨_, rfl⟩
    obtain ⟨cd, hcdE⟩ : ∃ x, x = (M.nd k).code := ⟨_, rfl⟩
    obtain ⟨kl, hklE⟩ : ∃ x, x = (M.nd k).kids.length := ⟨_, rfl⟩
    rw [← hkdE] at c0
    rw [← hcdE] at c1
    rw [← hklE] at c3 hkl
    have HE := hide (And.intro hkdE (And.intro hcdE hklE))
    have hkd8 : kd < 256 := by rw [hkdE]; exact (m.ok k).kind
    have hcd8 : cd < 256 := by rw [hcdE]; exact (m.ok k).code
    clear hhc hnc hgh hgn hka m v hnh hnE hnH hkdE hcdE hklE
    go_enter Faag.func90, Faag.ntmps90
    go_wp2_with fail
    refine wp_region_qd 13 (by kernel_rfl) (by kernel_rfl) ?_
    simp only [List.take_succ_cons, List.take_zero, List.drop_succ_cons, List.drop_zero]
    repeat (go_big_quiet_step (fail))
    refine wpQuiet_nil ?_
    rintro _ ⟨nq, rfl⟩
    by_cases hbad : kd = 2 ∧ ¬ cd = 6
    · obtain ⟨rfl, hc6⟩ := hbad
      have hc6' : ((cd : Int) != 6) = true := by simp; omega
      go_wp2_with fail
      go_ret
      refine ⟨.inl ⟨fun q => ?_, rfl⟩, below_drewN _ _⟩
      rcases q with q | ⟨_, _, q3, q4⟩
      · exact absurd q.1 (by omega)
      · rw [Nat.add_sub_cancel] at q3
        exact q3 ⟨HE.out.1.symm, by rw [← HE.out.2.1]; exact hc6⟩
    · have hkc : (¬ kd = 2) ∨ (kd = 2 ∧ cd = 6) := by
        by_cases e : kd = 2
        · exact .inr ⟨e, by by_cases e2 : cd = 6; exact e2; exact absurd ⟨e, e2⟩ hbad⟩
        · exact .inl e
      have HBAD := hide hbad
      clear hbad
      by_cases hIk : I < kl
      · have hkc2 := HM0.out.kcell (i := k) (j := I) HHK.out (by rw [← HE.out.2.2]; exact hIk)
        obtain ⟨g, c, hg, _⟩ := hkc2
        have hkae : ka = some ⟨g, 0, none⟩ := by have := HKA.out.symm.trans hg; cases this; rfl
        subst hkae
        have HP := hide (show PlAt p h M (k + 1) I ⟨g, I, none⟩ from .inr ⟨k, g, kc, rfl, HHK.out, by rw [← HE.out.1, ← HE.out.2.1]; exact HBAD.out, by rw [← HE.out.2.2]; exact hIk, HKA.out, rfl⟩)
        clear hg
        rcases hkc with e | ⟨rfl, rfl⟩
        · have e' : ((kd : Int) == 2) = false := by simp; omega
          go_wp2_with fail
          go_ret
          exact ⟨.inr ⟨_, HP.out, rfl⟩, below_drewN _ _⟩
        · go_wp2_with fail
          go_ret
          exact ⟨.inr ⟨_, HP.out, rfl⟩, below_drewN _ _⟩
      · rcases hkc with e | ⟨rfl, rfl⟩
        · have e' : ((kd : Int) == 2) = false := by simp; omega
          go_wp2_with fail
          go_ret
          refine ⟨.inl ⟨fun q => ?_, rfl⟩, below_drewN _ _⟩
          rcases q with q | ⟨_, _, q3, q4⟩
          · exact absurd q.1 (by omega)
          · rw [Nat.add_sub_cancel] at q4
            exact hIk (by rw [HE.out.2.2]; exact q4)
        · go_wp2_with fail
          go_ret
          refine ⟨.inl ⟨fun q => ?_, rfl⟩, below_drewN _ _⟩
          rcases q with q | ⟨_, _, q3, q4⟩
          · exact absurd q.1 (by omega)
          · rw [Nat.add_sub_cancel] at q4
            exact hIk (by rw [HE.out.2.2]; exact q4)
end Go.Proofs.YgcfaaGreat
