import Derived.Test.YgcfaaGreatMo
namespace Go.Proofs.YgcfaaGreat
open Go.RowKit Bits Bd
set_option linter.unusedVariables false
set_option maxRecDepth 100000
set_option linter.unusedSimpArgs false
attribute [local go_sem] World.cell?_ext World.frozen?_ext

/-- Two numbers within bounds are handed back. -/
def Ret2 (e : Ending) (d q : Nat) : Prop := ∃ a b : Nat, e = .returned (.tuple #[.int .i64 (a : Int), .int .i64 (b : Int)]) ∧ a ≤ d ∧ b ≤ q
def Ret1 (e : Ending) (d : Nat) : Prop := ∃ a : Nat, e = .returned (.int .i64 (a : Int)) ∧ a ≤ d

/-- What a reader of node i sees. -/
structure NdAt (w : World) (g o : Nat) (n : Nd) (da ka : Option Addr) (dc kc : Nat) : Prop where
  c0 : w.cell? ⟨g, o, none⟩ = some (.int .u8 (n.kind : Int))
  c1 : w.cell? ⟨g, o + 1, none⟩ = some (.int .u8 (n.code : Int))
  c2 : w.cell? ⟨g, o + 2, none⟩ = some (.slice da n.data.length dc)
  c3 : w.cell? ⟨g, o + 3, none⟩ = some (.slice ka n.kids.length kc)
  dat : ∀ j, j < n.data.length → ∃ b, da = some ⟨b, 0, none⟩ ∧ w.cell? ⟨b, j, none⟩ = some (.int .u64 (n.data.getD j 0 : Nat))
  kid : ∀ j, j < n.kids.length → ∃ b, ka = some ⟨b, 0, none⟩ ∧ w.cell? ⟨b, j, none⟩ = some (.int .i16 (n.kids.getD j 0))
theorem HM.ndAt {full : Bool} {w : World} {p : Nat} {h : Nat → Value} {M : Mo} (m : HM full w p h M) {i : Nat} (hi : i < M.N.length) {g c : Nat} (hg : h 0 = .slice (some ⟨g, 0, none⟩) M.N.length c) : ∃ da ka dc kc, NdAt w g (i * 4) (M.nd i) da ka dc kc := by
  obtain ⟨g', c', e, hc⟩ := m.node hi
  rw [hg] at e
  cases e
  obtain ⟨da, dc, ed⟩ := m.nd_ hi
  obtain ⟨ka, kc, ek⟩ := m.nk_ hi
  have hc2 := (hc 2 _ rfl).1
  have hc3 := (hc 3 _ rfl).1
  rw [ed] at hc2
  rw [ek] at hc3
  refine ⟨da, ka, dc, kc, (hc 0 _ rfl).1, (hc 1 _ rfl).1, hc2, hc3, fun j hj => ?_, fun j hj => ?_⟩
  · obtain ⟨b, bc, e1, e2, _⟩ := m.dcell hi hj
    rw [ed] at e1
    cases e1
    exact ⟨b, rfl, e2⟩
  · obtain ⟨b, bc, e1, e2, _⟩ := m.kcell hi hj
    rw [ek] at e1
    cases e1
    exact ⟨b, rfl, e2⟩
theorem keeps_NdAt {w w' : World} {g o : Nat} {n : Nd} {da ka : Option Addr} {dc kc : Nat} (h : NdAt w g o n da ka dc kc) (hb : Below w.heap.size w w') : NdAt w' g o n da ka dc kc := by
  have k : ∀ {a : Addr} {v : Value}, w.cell? a = some v → w'.cell? a = some v := fun {a v} hc => keeps_cellS (Keeps.of_below hb) hc (by have := lt_of_cell hc; show ¬ w.heap.size ≤ _; omega)
  exact ⟨k h.c0, k h.c1, k h.c2, k h.c3, fun j hj => by obtain ⟨b, e, hc⟩ := h.dat j hj; exact ⟨b, e, k hc⟩, fun j hj => by obtain ⟨b, e, hc⟩ := h.kid j hj; exact ⟨b, e, k hc⟩⟩

set_option maxHeartbeats 4000000 in
theorem trimmed_calls {w : World} {g o : Nat} {n : Nd} {da ka : Option Addr} {dc kc : Nat} (h : NdAt w g o n da ka dc kc) (hdl : n.data.length ≤ 1000) (hkl : n.kids.length ≤ 1000) :
    Calls Faag.prog 96 #[.pointer (some ⟨g, o, none⟩)] w fun e w' => Ret2 e n.data.length n.kids.length ∧ Below w.heap.size w w' := by
  have H := hide h
  obtain ⟨D, hD⟩ : ∃ D, D = n.data.length := ⟨_, rfl⟩
  obtain ⟨K, hK⟩ : ∃ K, K = n.kids.length := ⟨_, rfl⟩
  have c2 := h.c2
  have c3 := h.c3
  rw [← hD] at c2 hdl ⊢
  rw [← hK] at c3 hkl ⊢
  have HD := hide hD
  have HK := hide hK
  clear h hD hK
  go_enter Faag.func96, Faag.ntmps96
  go_wp2_with fail
  refine wp_region_qd 11 (by kernel_rfl) (by kernel_rfl) ?_
  simp only [List.take_succ_cons, List.take_zero, List.drop_succ_cons, List.drop_zero]
  repeat (go_big_quiet_step (fail))
  refine wpQuiet_nil ?_
  rintro _ ⟨nq, rfl⟩
  go_wp2_with fail
  have hbl : Below w.heap.size w (w.drewN nq) := ⟨rfl, rfl, rfl, Nat.le_refl _, fun _ _ => rfl⟩
  have HB := hide hbl
  have HN := hide (keeps_NdAt H.out hbl)
  clear hbl c2 c3
  generalize w.drewN nq = w1 at *
  have c2 := HN.out.c2
  have c3 := HN.out.c3
  rw [← HD.out] at c2
  rw [← HK.out] at c3
  go_loopw [2] (fun q wr => ∃ d : Nat, d ≤ D ∧ q = .int .i64 (d : Nat) ∧ Hid (wr = w1)) (fun q _ => (intOf q).toNat)
  case atStart => exact ⟨D, by omega, rfl, hide rfl⟩
  case round =>
    obtain ⟨d, hd, rfl, HW⟩ := hrel
    have e1 := HW.out
    subst e1
    clear HW
    have hstep : (∃ b, da = some ⟨b, 0, none⟩ ∧ 0 < d ∧ wr.cell? ⟨b, d - 1, none⟩ = some (.int .u64 0)) ∨ (d = 0) ∨ (∃ b v : Nat, da = some ⟨b, 0, none⟩ ∧ 0 < d ∧ wr.cell? ⟨b, d - 1, none⟩ = some (.int .u64 (v : Int)) ∧ ((v : Int) == 0) = false) := by
      by_cases h0 : d = 0
      · exact .inr (.inl h0)
      · obtain ⟨b, e, hc⟩ := HN.out.dat (d - 1) (by rw [← HD.out]; omega)
        by_cases hv : n.data.getD (d - 1) 0 = 0
        · rw [hv] at hc
          exact .inl ⟨b, e, by omega, hc⟩
        · exact .inr (.inr ⟨b, _, e, by omega, hc, by rw [beq_eq_false_iff_ne]; omega⟩)
    rcases hstep with ⟨b, rfl, h0, hc⟩ | hstep
    · obtain ⟨d1, hd1⟩ : ∃ d1, d = d1 + 1 := ⟨d - 1, by omega⟩
      subst hd1
      rw [Nat.add_sub_cancel] at hc
      go_wp2_with fail
      go_roundw
      case rel => exact ⟨d1, by omega, by go_num, hide (by simp)⟩
      case measure => simp [intOf]
    have hex : (d = 0 ∧ ∃ b, b = 0) ∨ ∃ b v : Nat, ∃ d1, d = d1 + 1 ∧ da = some ⟨b, 0, none⟩ ∧ wr.cell? ⟨b, d1, none⟩ = some (.int .u64 (v : Int)) ∧ ((v : Int) == 0) = false := by
      rcases hstep with h0 | ⟨b, v, q1, q2, q3, q4⟩
      · exact .inl ⟨h0, 0, rfl⟩
      · exact .inr ⟨b, v, d - 1, by omega, q1, q3, q4⟩
    clear hstep
    rcases hex with ⟨h0, b0, hb0⟩ | ⟨b, v, d1, hd1, rfl, hc, hv⟩
    case' inl =>
      have hnd : ¬ 0 < d := by omega
      clear h0 hb0
      go_wp2_with fail
    case' inr =>
      subst hd1
      go_wp2_with fail
    all_goals
      obtain ⟨w2, hw2⟩ : ∃ w2, w2 = wr := ⟨_, rfl⟩
      rw [← hw2] at c3 HN HB ⊢
      clear hw2
      go_loopw [3] (fun q wr => ∃ k : Nat, k ≤ K ∧ q = .int .i64 (k : Nat) ∧ Hid (wr = w2)) (fun q _ => (intOf q).toNat)
      case atStart => exact ⟨K, by omega, rfl, hide rfl⟩
      case round =>
        obtain ⟨k, hk, rfl, HW⟩ := hrel
        have e1 := HW.out
        subst e1
        clear HW
        have hstep : (∃ b, ∃ k1, k = k1 + 1 ∧ ka = some ⟨b, 0, none⟩ ∧ wr.cell? ⟨b, k1, none⟩ = some (.int .i16 (-1))) ∨ (k = 0) ∨ (∃ b, ∃ v : Int, ∃ k1, k = k1 + 1 ∧ ka = some ⟨b, 0, none⟩ ∧ wr.cell? ⟨b, k1, none⟩ = some (.int .i16 v) ∧ (v == -1) = false) := by
          by_cases h0 : k = 0
          · exact .inr (.inl h0)
          · obtain ⟨b, e, hc⟩ := HN.out.kid (k - 1) (by rw [← HK.out]; omega)
            by_cases hv : n.kids.getD (k - 1) 0 = -1
            · rw [hv] at hc
              exact .inl ⟨b, k - 1, by omega, e, hc⟩
            · exact .inr (.inr ⟨b, _, k - 1, by omega, e, hc, by rw [beq_eq_false_iff_ne]; exact hv⟩)
        rcases hstep with ⟨b, k1, rfl, rfl, hc⟩ | h0 | ⟨b, v, k1, rfl, rfl, hc, hv⟩
        · go_wp2_with fail
          go_roundw
          case rel => exact ⟨k1, by omega, by go_num, hide (by simp)⟩
          case measure => simp [intOf]
        · have hnk : ¬ 0 < k := by omega
          go_wp2_with fail
          refine bodyPost_ret (by simp [results, Faag.results96, go_sem]) rfl ⟨⟨_, k, rfl, hd, hk⟩, HB.out⟩
        · go_wp2_with fail
          refine bodyPost_ret (by simp [results, Faag.results96, go_sem]) rfl ⟨⟨_, k1 + 1, rfl, hd, hk⟩, HB.out⟩
end Go.Proofs.YgcfaaGreat
