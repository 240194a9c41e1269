import Derived.Test.YgcfaaGreatTreeA
namespace Go.Proofs.YgcfaaGreat
open Go.RowKit Bits Bd
set_option linter.unusedVariables false
set_option maxRecDepth 100000
set_option linter.unusedSimpArgs false
attribute [local go_sem] World.cell?_ext World.frozen?_ext

def RetE (e : Ending) (D Q : Nat) : Prop := ∃ a b : Nat, e = .returned (.tuple #[.int .i64 (a : Int), .int .i64 (b : Int)]) ∧ a ≤ 1000 ∧ b ≤ 1000 ∧ (a ≤ D ∧ b ≤ Q ∨ a + b ≤ 1)
theorem nd_dl {full : Bool} {w : World} {p : Nat} {h : Nat → Value} {M : Mo} (m : HM full w p h M) (i : Nat) : (M.nd i).data.length ≤ 1000 ∧ (M.nd i).kids.length ≤ 1000 := ⟨(m.ok i).dl, (m.ok i).kl⟩

set_option maxHeartbeats 4000000 in
theorem evened_calls {full : Bool} {w : World} {p : Nat} {h : Nat → Value} {M : Mo} (m : HM full w p h M) {g c : Nat} (hg : h 0 = .slice (some ⟨g, 0, none⟩) M.N.length c) {i : Nat} (hi : i < M.N.length) (D Q : Nat)
    (hk : ∀ j, j < (M.nd i).kids.length → ∃ k : Nat, (M.nd i).kids.getD j 0 = (k : Int) ∧ k < M.N.length ∧ (M.nd k).data.length ≤ D ∧ (M.nd k).kids.length ≤ Q) :
    Calls Faag.prog 97 #[.pointer (some ⟨p, 0, none⟩), .pointer (some ⟨g, i * 4, none⟩)] w fun e w' => RetE e D Q ∧ Below w.heap.size w w' := by
  obtain ⟨da, ka, dc, kc, nd⟩ := m.ndAt hi hg
  have c3 := nd.c3
  have hkl := (nd_dl m i).2
  have hnn := m.nn
  obtain ⟨K, hK⟩ : ∃ K, K = (M.nd i).kids.length := ⟨_, rfl⟩
  rw [← hK] at c3 hkl hk
  have HM0 := hide m
  have HND := hide nd
  have HKe := hide hK
  have HKv := hide hk
  have HG := hide hg
  have hplt := m.lt
  clear m nd hK hk hg
  go_enter Faag.func97, Faag.ntmps97
  go_wp2_with fail
  go_loopw [4, 5, 15] (fun a b q wr => ∃ x y j : Nat, a = .int .i64 (x : Nat) ∧ b = .int .i64 (y : Nat) ∧ q = .int .i64 (j : Nat) ∧ j ≤ K ∧ x ≤ D ∧ y ≤ Q ∧ x ≤ 1000 ∧ y ≤ 1000 ∧ Hid (Below w.heap.size w wr)) (fun _ _ q _ => 65536 - (intOf q).toNat)
  case atStart => exact ⟨0, 0, 0, by simp, by simp, by simp, by omega, by omega, by omega, by omega, by omega, hide (Below.refl _ _)⟩
  case round =>
    obtain ⟨x, y, j, rfl, rfl, rfl, hj, hx, hy, hx1, hy1, HB⟩ := hrel
    have HN := hide (keeps_NdAt HND.out HB.out)
    have HM1 := hide (HM0.out.below HB.out)
    by_cases hgo : j < K
    · obtain ⟨b, e, hc⟩ := HN.out.kid j (by rw [← HKe.out]; exact hgo)
      obtain ⟨k, hk1, hk2, hk3, hk4⟩ := HKv.out j hgo
      rw [hk1] at hc
      subst e
      obtain ⟨da2, ka2, dc2, kc2, nd2⟩ := HM1.out.ndAt hk2 HG.out
      have f0 := HM1.out.f0.1
      rw [HG.out] at f0
      have HTr := hide (trimmed_calls nd2 (nd_dl HM1.out k).1 (nd_dl HM1.out k).2)
      have hdk := (nd_dl HM1.out k)
      obtain ⟨n, hn⟩ : ∃ n, n = M.N.length := ⟨_, rfl⟩
      rw [← hn] at f0 hk2
      have hkn : k < 1000 := by omega
      clear nd2 hk1 hn
      generalize (M.nd k).data.length = dl at *
      generalize (M.nd k).kids.length = kl at *
      clear c3
      go_wp2_with fail
      refine HTr.out.mono ?_
      rintro e w2 ⟨⟨d, q, rfl, hd, hq⟩, b2⟩
      have HB2 := hide (HB.out.trans (b2.mono HB.out.size))
      clear b2 HTr
      obtain ⟨x', hx', hxm⟩ : ∃ x', x' = max x d ∧ x' ≤ D := ⟨_, rfl, by omega⟩
      obtain ⟨y', hy', hym⟩ : ∃ y', y' = max y q ∧ y' ≤ Q := ⟨_, rfl, by omega⟩
      have hcs : (x < d ∨ d ≤ x) ∧ (y < q ∨ q ≤ y) := by omega
      obtain ⟨h1 | h1, h2 | h2⟩ := hcs
      all_goals
        go_wp2_with fail
        go_roundw
        case rel => exact ⟨x', y', j + 1, by go_num, by go_num, by go_num, by omega, by omega, by omega, by omega, by omega, HB2⟩
        case measure => simp [intOf]; omega
    · have c3' := HN.out.c3
      rw [← HKe.out] at c3'
      clear c3
      by_cases hz : 0 < K ∧ x + y = 0
      · obtain ⟨z1, z2⟩ := hz
        have z3 : ((x : Int) + (y : Int) == 0) = true := by rw [beq_iff_eq]; omega
        go_wp2_with fail
        refine bodyPost_ret (v := .tuple #[.int .i64 1, .int .i64 (y : Int)]) (by simp [results, Faag.results97, go_sem]) rfl ⟨⟨1, y, rfl, by omega, by omega, .inr (by omega)⟩, HB.out⟩
      · by_cases hK0 : 0 < K
        · have z3 : ((x : Int) + (y : Int) == 0) = false := by rw [beq_eq_false_iff_ne]; omega
          clear hz
          go_wp2_with fail
          refine bodyPost_ret (by simp [results, Faag.results97, go_sem]) rfl ⟨⟨x, y, rfl, by omega, by omega, .inl ⟨hx, hy⟩⟩, HB.out⟩
        · clear hz
          go_wp2_with fail
          refine bodyPost_ret (by simp [results, Faag.results97, go_sem]) rfl ⟨⟨x, y, rfl, by omega, by omega, .inl ⟨hx, hy⟩⟩, HB.out⟩

namespace Bd
/-- A bound of tree.words. -/
def twB (n : Nd) (D Q : Nat) : Nat :=
  if n.kind = 1 then n.data.length + n.kids.length
  else if n.code = 6 then n.kids.length
  else if n.code = 7 then 1 + n.kids.length * (max (D + Q) 1)
  else (n.data.length * 2 ^ (n.code - 2) + 7) / 8
end Bd

set_option maxHeartbeats 4000000 in
theorem twords_calls {full : Bool} {w : World} {p : Nat} {h : Nat → Value} {M : Mo} (m : HM full w p h M) {g c : Nat} (hg : h 0 = .slice (some ⟨g, 0, none⟩) M.N.length c) {i : Nat} (hi : i < M.N.length) (D Q : Nat)
    (hs : (M.nd i).kind = 1 ∨ (M.nd i).code = 6 ∨ (M.nd i).code = 7 ∨ (2 ≤ (M.nd i).code ∧ (M.nd i).code ≤ 5))
    (hk : ¬ (M.nd i).kind = 1 → (M.nd i).code = 7 → ∀ j, j < (M.nd i).kids.length → ∃ k : Nat, (M.nd i).kids.getD j 0 = (k : Int) ∧ k < M.N.length ∧ (M.nd k).data.length ≤ D ∧ (M.nd k).kids.length ≤ Q) :
    Calls Faag.prog 72 #[.pointer (some ⟨p, 0, none⟩), .pointer (some ⟨g, i * 4, none⟩)] w fun e w' => Ret1 e (twB (M.nd i) D Q) ∧ Below w.heap.size w w' := by
  obtain ⟨da, ka, dc, kc, nd⟩ := m.ndAt hi hg
  obtain ⟨hdl, hkl⟩ := nd_dl m i
  have c0 := nd.c0
  have c1 := nd.c1
  have c2 := nd.c2
  have c3 := nd.c3
  have HTr := hide (trimmed_calls nd hdl hkl)
  have HEv := hide (fun hq => evened_calls m hg hi D Q hq)
  have hko := (m.ok i).kind
  have hco := (m.ok i).code
  have HM0 := hide m
  have HND := hide nd
  unfold twB
  generalize M.nd i = N at *
  obtain ⟨kind, code, data, kids⟩ := N
  dsimp only at c0 c1 c2 c3 hdl hkl hs hk HTr HEv HND hko hco ⊢
  generalize hDl : data.length = dl at *
  generalize hKl : kids.length = kl at *
  have HDl := hide hDl
  have HKl := hide hKl
  clear m hg nd hDl hKl
  by_cases h1 : kind = 1
  · subst h1
    rw [if_pos rfl]
    clear HEv hk hs
    go_enter Faag.func72, Faag.ntmps72
    go_wp2_with fail
    refine HTr.out.mono ?_
    rintro e w2 ⟨⟨d, q, rfl, hd, hq⟩, b2⟩
    have HB2 := hide b2
    clear b2 HTr
    go_wp2_with fail
    go_ret
    exact ⟨⟨d + q, by go_num, by omega⟩, HB2.out⟩
  · rw [if_neg h1]
    have g1 : ((kind : Int) == 1) = false := by simp; omega
    by_cases h6 : code = 6
    · subst h6
      rw [if_pos rfl]
      clear HEv hk hs HTr h1
      go_enter Faag.func72, Faag.ntmps72
      go_wp2_with fail
      go_ret
      exact ⟨⟨kl, rfl, Nat.le_refl _⟩, Below.refl _ _⟩
    · rw [if_neg h6]
      have g6 : ((code : Int) == 6) = false := by simp; omega
      by_cases h7 : code = 7
      · subst h7
        rw [if_pos rfl]
        have HE := hide (HEv.out (hk h1 rfl))
        clear HEv hk hs HTr h1 h6
        go_enter Faag.func72, Faag.ntmps72
        go_wp2_with fail
        refine HE.out.mono ?_
        rintro e w2 ⟨⟨d, q, rfl, hd, hq, hdq⟩, b2⟩
        have c3' := (keeps_NdAt HND.out b2).c3
        dsimp only at c3'
        rw [HKl.out] at c3'
        have HB2 := hide b2
        have hmul : kl * (d + q) ≤ kl * max (D + Q) 1 := Nat.mul_le_mul_left _ (by omega)
        have hml : kl * (d + q) ≤ 1000 * 2000 := Nat.mul_le_mul (by omega) (by omega)
        have hmi : (kl : Int) * ((d : Int) + (q : Int)) = ((kl * (d + q) : Nat) : Int) := by rw [Int.natCast_mul, Int.natCast_add]
        obtain ⟨X, hX⟩ : ∃ X, X = kl * (d + q) := ⟨_, rfl⟩
        rw [← hX] at hmul hml hmi
        clear b2 HE hX c3
        go_wp2_with fail
        go_ret
        exact ⟨⟨1 + X, by go_num, by omega⟩, HB2.out⟩
      · rw [if_neg h7]
        have g7 : ((code : Int) == 7) = false := by simp; omega
        have hc25 : 2 ≤ code ∧ code ≤ 5 := by omega
        clear HEv hk hs HTr h1 h6 h7
        obtain ⟨s, hs⟩ : ∃ s, code = s + 2 := ⟨code - 2, by omega⟩
        subst hs
        have hs3 : s ≤ 3 := by omega
        rw [show s + 2 - 2 = s by omega]
        obtain ⟨X, hX, hXl⟩ : ∃ X, X = dl * 2 ^ s ∧ X ≤ 8000 := ⟨_, rfl, by
          have h8 : (2 : Nat) ^ s ≤ 8 := by
            have := Nat.pow_le_pow_right (n := 2) (by omega) hs3
            omega
          exact Nat.le_trans (Nat.mul_le_mul hdl h8) (by omega)⟩
        have hXi : (dl : Int) * 2 ^ s = (X : Int) := by rw [hX, Int.natCast_mul, Int.natCast_pow]; rfl
        rw [← hX]
        clear hX
        go_enter Faag.func72, Faag.ntmps72
        go_wp2_with fail
        refine wp_region_qd 10 (by kernel_rfl) (by kernel_rfl) ?_
        simp only [List.take_succ_cons, List.take_zero, List.drop_succ_cons, List.drop_zero]
        repeat (go_big_quiet_step (fail))
        refine wpQuiet_nil ?_
        rintro _ ⟨nq, rfl⟩
        go_wp2_with fail
        go_ret
        exact ⟨⟨(X + 7) / 8, by go_num, Nat.le_refl _⟩, ⟨rfl, rfl, rfl, Nat.le_refl _, fun _ _ => rfl⟩⟩
end Go.Proofs.YgcfaaGreat
