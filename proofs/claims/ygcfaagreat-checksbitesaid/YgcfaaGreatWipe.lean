import Derived.Test.YgcfaaGreatSetText
import Derived.Lib.SliceRun
namespace Go.Proofs.YgcfaaGreat
open Go.RowKit Bits Bd Utf
set_option linter.unusedVariables false
set_option maxRecDepth 100000
set_option linter.unusedSimpArgs false
attribute [local go_sem] World.cell?_ext World.frozen?_ext

theorem HB.clear {p g m c : Nat} {h : Nat → Value} (hg : h 0 = .slice (some ⟨g, 0, none⟩) m c) : ∀ (k i : Nat) {w : World} {B : Bld}, HB w p h B →
    HB (w.setCells g i (List.replicate k (.int .u64 0))) p h { B with A := clearGo k i B.A } ∧ Mv p h h w (w.setCells g i (List.replicate k (.int .u64 0)))
  | 0, i, w, B, hb => ⟨hb, Mv.refl _ _ _⟩
  | k + 1, i, w, B, hb => by
    have h1 := hb.setA (i := i) (v := 0) hg (by omega)
    have h2 : Mv p h h w (w.setCell ⟨g, i, none⟩ (.int .u64 ((0 : Nat) : Int))) := HB.put_mv p (i := 0) (by omega) hg
    obtain ⟨h3, h4⟩ := HB.clear hg k (i + 1) h1
    exact ⟨h3, h2.trans h4⟩

theorem zero_u64 (w : World) : (zeroValue 31).run Faag.prog w = .ok (.int .u64 0) w := by
  obtain ⟨I, hI, hz, _⟩ := info_of el_info0
  simp [zeroValue, typeInfo, hI, hz]

set_option maxHeartbeats 8000000 in
theorem wipe_calls (q : Ptr) (hq : q.Ok) {w : World} {p : Nat} {h : Nat → Value} {B : Bld} (hb : HB w p h B) (hA : B.A.length ≤ 256) (hA0 : 0 < B.A.length) :
    Calls Faag.prog 89 #[.pointer (some ⟨p, 0, none⟩), .agg (ptrC q).toArray] w fun e w' => RetN e ∧ ∃ h', HB w' p h' (wipeB B q) ∧ Mv p h h' w w' := by
  have HE := hide (extent_calls q hq)
  obtain ⟨lo, hlo⟩ : ∃ lo, lo = first q := ⟨_, rfl⟩
  obtain ⟨n, hn⟩ : ∃ n, n = words q := ⟨_, rfl⟩
  have hwl := words_le q
  have hlol : lo < 65536 := by
    rw [hlo]; unfold first; split
    · omega
    · exact hq.2.1
  have HWp := hide (show wipeB B q = markB { B with A := clearGo (min (lo + n) B.A.length - lo) lo B.A } lo n false from by rw [hlo, hn]; rfl)
  rw [← hlo, ← hn] at HE
  rw [← hn] at hwl
  obtain ⟨ga, ca, hga, hgl, hgp, _, _⟩ := hb.aAt hA0
  obtain ⟨c0, _⟩ := hb.cell 0 (by omega)
  simp only [fOff] at c0
  rw [hga] at c0
  obtain ⟨_, cq, hvq, hcap⟩ := own_len (hb.own 0 (by omega))
  rw [hga] at hvq
  cases hvq
  simp only [Bld.len] at hcap
  have hcap2 : B.A.length ≤ ca := by omega
  clear hcap
  have hp : p < w.heap.size := hb.lt ⟨0, rfl⟩
  have HH := hide hb
  have HGA := hide hga
  obtain ⟨qk, qa, qd, qp, qc, qn⟩ := q
  unfold ptrC at HE ⊢
  dsimp only at HE ⊢
  clear hb hlo hn hga hq
  go_enter Faag.func89, Faag.ntmps89
  go_wp2_with fail
  refine (HE.out _).mono ?_
  rintro e w1 ⟨rfl, hb1⟩
  obtain ⟨x1, rfl⟩ := World.ext_of_below hb1
  clear hb1 HE
  obtain ⟨hi, hhi⟩ : ∃ hi, hi = min (lo + n) B.A.length := ⟨_, rfl⟩
  have Hhi := hide hhi
  have hcs : (lo + n ≤ B.A.length ∧ hi = lo + n) ∨ (B.A.length < lo + n ∧ hi = B.A.length) := by omega
  rw [← hhi] at HWp
  clear hhi
  by_cases hlt : lo < hi
  · have HCl := hide (fun k => HB.clear HGA.out k lo ((HH.out.alloc (.cells #[.int .u8 qk, .int .u16 qa, .int .u8 qd, .int .u8 qp, .int .u8 qc, .int .u16 qn] 62)).ext x1))
    have HCells := hide (fun j (hj : lo + j < B.A.length) => by
      have := ((HH.out.alloc (.cells #[.int .u8 qk, .int .u16 qa, .int .u8 qd, .int .u8 qp, .int .u8 qc, .int .u16 qn] 62)).ext x1).aAt hj
      obtain ⟨g2, c2, hg2, _, _, hcell, hfr⟩ := this
      rw [HGA.out] at hg2
      cases hg2
      exact And.intro hcell hfr)
    rcases hcs with ⟨h1, rfl⟩ | ⟨h1, rfl⟩
    all_goals
      go_wp2_with fail
      rw [Go.Lib.run_clear_slice (P := Faag.prog) _ 23 31 0 (.int .u64 0) sl_under0 zero_u64 rfl rfl ga lo _ _ (by omega) (fun j hj => by rw [(HCells.out j (by omega)).1]; rfl) (fun j hj => (HCells.out j (by omega)).2)]
      go_wp2_with fail
      refine (mark_calls lo n hlol (by omega) false (HCl.out _).1).mono ?_
      rintro e w2 ⟨rfl, hb2, mv2⟩
      have HF := hide (And.intro hb2 ((((Mv.of_below ((Below.refl _ w).alloc (Nat.le_refl _) (.cells #[.int .u8 qk, .int .u16 qa, .int .u8 qd, .int .u8 qp, .int .u8 qc, .int .u16 qn] 62))).trans (Mv.of_below (World.below_ext _ x1))).trans (HCl.out _).2).trans mv2))
      clear hb2 mv2
      go_wp2_with fail
      refine bodyPost_fall (v := .tuple #[]) (by simp [results, Faag.results89, go_sem]) rfl ⟨rfl, ?_⟩
      rw [HWp.out]
      first
        | exact ⟨_, HF.out⟩
        | (rw [show lo + n - lo = n by omega]; exact ⟨_, HF.out⟩)
  · have HC0 := hide (show wipeB B ⟨qk, qa, qd, qp, qc, qn⟩ = markB B lo n false from by
      rw [HWp.out, show hi - lo = 0 by omega]; rfl)
    rcases hcs with ⟨h1, rfl⟩ | ⟨h1, rfl⟩
    all_goals
      go_wp2_with fail
      refine (mark_calls lo n hlol (by omega) false ((HH.out.alloc _).ext x1)).mono ?_
      rintro e w2 ⟨rfl, hb2, mv2⟩
      have HF := hide (And.intro hb2 (((Mv.of_below ((Below.refl _ w).alloc (Nat.le_refl _) (.cells #[.int .u8 qk, .int .u16 qa, .int .u8 qd, .int .u8 qp, .int .u8 qc, .int .u16 qn] 62))).trans (Mv.of_below (World.below_ext _ x1))).trans mv2))
      clear hb2 mv2
      go_wp2_with fail
      refine bodyPost_fall (v := .tuple #[]) (by simp [results, Faag.results89, go_sem]) rfl ⟨rfl, ?_⟩
      rw [HC0.out]
      exact ⟨_, HF.out⟩
end Go.Proofs.YgcfaaGreat
