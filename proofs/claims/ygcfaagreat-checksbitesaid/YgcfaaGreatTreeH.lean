import Derived.Test.YgcfaaGreatTreeG
import Derived.Test.YgcfaaGreatTreeLaw
import Derived.Test.YgcfaaGreatMoApp
namespace Go.Proofs.YgcfaaGreat
open Go.RowKit Bits Bd
set_option linter.unusedVariables false
set_option maxRecDepth 100000
set_option linter.unusedSimpArgs false
attribute [local go_sem] World.cell?_ext World.frozen?_ext

theorem tcheck_bin {w : World} {p : Nat} {h : Nat → Value} {M : Mo} (m : HM false w p h M) (hpre : preT M) (hr : ¬ M.root = -1) {r0 : Bool} {tw : Nat → Nat} {I : Nat → Nat → List Nat → List Bool → Prop} (hI : BIn M r0 tw I) :
    Calls Faag.prog 10 #[.pointer (some ⟨p, 0, none⟩)] w fun e w' => e = .returned (.bool r0) ∧ Below w.heap.size w w' := by
  refine (tcheck_calls m r0 (fun h1 h2 W hW => bounded_calls hW h1 h2 hI)).mono ?_
  rintro e w' ⟨⟨r, rfl, hr'⟩, hb⟩
  refine ⟨?_, hb⟩
  have : r = r0 := by
    cases r0
    · cases r
      · rfl
      · rcases (hr'.1 rfl).2 with q | q
        · exact absurd q hr
        · cases q
    · exact hr'.2 ⟨hpre, .inr rfl⟩
  rw [this]
theorem tcheck_yes {w : World} {p : Nat} {h : Nat → Value} {M : Mo} (m : HM false w p h M) {n0 : Nat} {own : Nat → Nat × Nat} {dp wd : Nat → Nat} {nm : Nat → Bool} (t : InvT M n0 own dp wd nm) :
    Calls Faag.prog 10 #[.pointer (some ⟨p, 0, none⟩)] w fun e w' => e = .returned (.bool true) ∧ Below w.heap.size w w' := by
  by_cases hr : M.root = -1
  · refine (tcheck_calls m true (fun _ h2 => absurd hr h2)).mono ?_
    rintro e w' ⟨⟨r, rfl, hr'⟩, hb⟩
    refine ⟨?_, hb⟩
    rw [hr'.2 ⟨invT_pre t, .inl hr⟩]
  · exact tcheck_bin m (invT_pre t) hr (invT_bin t hr)
theorem tcheck_no {w : World} {p : Nat} {h : Nat → Value} {M : Mo} (m : HM false w p h M) (hn : ¬ preT M) :
    Calls Faag.prog 10 #[.pointer (some ⟨p, 0, none⟩)] w fun e w' => e = .returned (.bool false) ∧ Below w.heap.size w w' := by
  refine (tcheck_calls m true (fun h1 => absurd h1 hn)).mono ?_
  rintro e w' ⟨⟨r, rfl, hr'⟩, hb⟩
  refine ⟨?_, hb⟩
  cases r
  · rfl
  · exact absurd (hr'.1 rfl).1 hn

/-- A node of the kind and code is handed back, or none. -/
def RetNd (e : Ending) (h : Nat → Value) (M : Mo) (kd cd : Nat) : Prop := e = .returned (.pointer none) ∨ ∃ g c i, h 0 = .slice (some ⟨g, 0, none⟩) M.N.length c ∧ i < M.N.length ∧ (M.nd i).kind = kd ∧ (M.nd i).code = cd ∧ e = .returned (.pointer (some ⟨g, i * 4, none⟩))

set_option maxHeartbeats 8000000 in
theorem last_calls {full : Bool} {w : World} {p : Nat} {h : Nat → Value} {M : Mo} (m : HM full w p h M) (kd cd : Nat) (hkd : kd < 256) (hcd : cd < 256) :
    Calls Faag.prog 34 #[.pointer (some ⟨p, 0, none⟩), .int .u8 kd, .int .u8 cd] w fun e w' => RetNd e h M kd cd ∧ w' = w := by
  obtain ⟨na, nc, hg⟩ := m.n0
  have f0 := m.f0.1
  rw [hg] at f0
  have hnn := m.nn
  obtain ⟨n, hn⟩ : ∃ n, n = M.N.length := ⟨_, rfl⟩
  rw [← hn] at f0 hnn
  have HM0 := hide m
  have HN := hide hn
  have HG := hide hg
  clear m hn hg
  go_enter Faag.func34, Faag.ntmps34
  go_wp2_with fail
  go_loopw [7] (fun q wr => ∃ k : Nat, k ≤ n ∧ q = .int .i64 ((k : Int) - 1) ∧ Hid (wr = w)) (fun q _ => (intOf q + 1).toNat)
  case atStart => exact ⟨n, by omega, rfl, hide rfl⟩
  case round =>
    obtain ⟨k, hk, rfl, HW⟩ := hrel
    have e1 := HW.out
    subst e1
    by_cases hk0 : 1 ≤ k
    · obtain ⟨i, hi⟩ : ∃ i, k = i + 1 := ⟨k - 1, by omega⟩
      subst hi
      have hin : i < M.N.length := by rw [← HN.out]; omega
      have hsub : ((i + 1 : Nat) : Int) - 1 = (i : Int) := by omega
      rw [hsub]
      obtain ⟨g, gc, hgg, hcells⟩ := HM0.out.node hin
      have hna : na = some ⟨g, 0, none⟩ ∧ nc = gc := by rw [HG.out] at hgg; cases hgg; exact ⟨rfl, rfl⟩
      obtain ⟨rfl, rfl⟩ := hna
      have c0 := (hcells 0 _ rfl).1
      have c1 := (hcells 1 _ rfl).1
      simp only [Nat.add_zero] at c0
      have hko := (HM0.out.ok i).kind
      have hco := (HM0.out.ok i).code
      have HRet := hide (show (M.nd i).kind = kd → (M.nd i).code = cd → RetNd (.returned (.pointer (some ⟨g, i * 4, none⟩))) h M kd cd from fun q1 q2 => .inr ⟨g, nc, i, hgg, hin, q1, q2, rfl⟩)
      obtain ⟨kk, hkk⟩ : ∃ kk, kk = (M.nd i).kind := ⟨_, rfl⟩
      obtain ⟨cc, hcc⟩ : ∃ cc, cc = (M.nd i).code := ⟨_, rfl⟩
      rw [← hkk] at c0 hko HRet
      rw [← hcc] at c1 hco HRet
      have hin' : i < n := by omega
      clear hcells hkk hcc hgg
      by_cases e1 : kk = kd
      · have e1' : ((kk : Int) == (kd : Int)) = true := by rw [beq_iff_eq]; omega
        by_cases e2 : cc = cd
        · have e2' : ((cc : Int) == (cd : Int)) = true := by rw [beq_iff_eq]; omega
          have HX := hide (HRet.out e1 e2)
          clear e1 e2 HRet
          go_wp2_with fail
          go_ret
          exact ⟨HX.out, rfl⟩
        · have e2' : ((cc : Int) == (cd : Int)) = false := by rw [beq_eq_false_iff_ne]; omega
          clear e1 e2
          go_wp2_with fail
          go_roundw
          case rel => exact ⟨i, by omega, by go_num, hide (by simp)⟩
          case measure => simp [intOf]
      · have e1' : ((kk : Int) == (kd : Int)) = false := by rw [beq_eq_false_iff_ne]; omega
        clear e1
        go_wp2_with fail
        go_roundw
        case rel => exact ⟨i, by omega, by go_num, hide (by simp)⟩
        case measure => simp [intOf]
    · have hk00 : k = 0 := by omega
      subst hk00
      go_wp2_with fail
      go_ret
      exact ⟨.inl rfl, rfl⟩
end Go.Proofs.YgcfaaGreat
