import Derived.Test.YgcfaaGreatApp
namespace Go.Proofs.YgcfaaGreat
open Go.RowKit Bits Bd
set_option linter.unusedVariables false
set_option maxRecDepth 100000
set_option linter.unusedSimpArgs false
attribute [local go_sem] World.cell?_ext World.frozen?_ext

theorem growB_succ (B : Bld) (n : Nat) : { growB B n with A := (growB B n).A ++ [0] } = growB B (n + 1) := by
  simp [growB, List.replicate_succ']

theorem grow_ok {B : Bld} (ok : B.Ok) : ({ B with A := B.A ++ [0] } : Bld).Ok :=
  ⟨getD_append_lt ok.A (by omega), ok.slot, ok.four, ok.obj, ok.up, ok.via, ok.depth⟩
theorem grow_row (B : Bld) : RowIs B { B with A := B.A ++ [0] } 0 (B.len 0 + 1) (B.row 0 ++ [.int .u64 0]) := by
  refine ⟨by simp [Bld.row, U_append, U], by simp [Bld.len], ?_, ?_, rfl⟩ <;>
  · intro j hj hne
    match j, hj with
    | 0, _ => exact absurd rfl hne
    | 1, _ => rfl
    | 2, _ => rfl
    | 3, _ => rfl
    | 4, _ => rfl
    | 5, _ => rfl

theorem bodyPost_fall {P : Program} {fn : Func} {R : Ending → World → Prop} {a : Act} {w : World} {v : Value}
    (hr : (results fn a.tmps).run P w = .ok v w) (hd : a.defers = []) (hR : R (.returned v) w) : bodyPost P fn R .normal a w := ⟨hd, v, hr, hR⟩
/-- It hands back nothing. -/
def RetN (e : Ending) : Prop := e = .returned (.tuple #[])

set_option maxHeartbeats 4000000 in
theorem grow_calls (n : Nat) {w : World} {p : Nat} {h : Nat → Value} {B : Bld} (hb : HB w p h B) (hA : B.A.length + n ≤ 500000) (hn : n < 65536) :
    Calls Faag.prog 82 #[.pointer (some ⟨p, 0, none⟩), .int .u16 n] w fun e w' => RetN e ∧ ∃ h', HB w' p h' (growB B n) ∧ Mv p h h' w w' := by
  have H := hide (show ∃ h', HB w p h' (growB B 0) ∧ Mv p h h' w w from ⟨h, by simpa [growB] using hb, Mv.refl _ _ _⟩)
  clear hb
  go_enter Faag.func82, Faag.ntmps82
  go_wp2_with fail
  go_loopw [1] (fun q wr => ∃ m : Nat, m ≤ n ∧ q = .int .u16 m ∧ Hid (∃ h', HB wr p h' (growB B (n - m)) ∧ Mv p h h' w wr)) (fun q _ => (intOf q).toNat)
  case atStart => exact ⟨n, Nat.le_refl _, rfl, by rw [Nat.sub_self]; exact H⟩
  case round =>
    obtain ⟨m, hm, rfl, H1⟩ := hrel
    by_cases h0 : 0 < m
    · obtain ⟨h', hb', mv⟩ := H1.out
      have HH := hide (And.intro hb' mv)
      obtain ⟨hc1, hc2⟩ := hb'.cell 0 (by omega)
      simp only [fOff] at hc1 hc2
      have hlen : (growB B (n - m)).A.length = B.A.length + (n - m) := by simp [growB]
      clear hb' mv H1 H
      go_wp2_with (first
        | (at_builtin; refine wpList_app 0 (by omega) rfl _ _ _ rfl rfl _ _ _ rfl ((HH.out.1.own 0 (by omega)).alloc _) wr.heap.size 1 1 [.int .u64 0] rfl rfl ?c1 ?c2 (by omega) ?c4 ?_)
        | fail)
      case c1 =>
        intro j u hj
        match j, hj with
        | 0, hj => simp at hj; subst hj; simp
      case c2 => intro u hu; simp at hu; subst hu; rfl
      case c4 => simp only [Bld.len]; omega
      · intro v' w1 ho hk hbk
        obtain ⟨g, c, rfl⟩ := own_form ho (by omega)
        have hx := HH.out.1.alloc (.cells #[.int .u64 0] 31)
        obtain ⟨k1, k2⟩ := hx.app_cell (i := 0) (by omega) hk 0 (by omega)
        simp only [fOff] at k1 k2
        have HF := hide (show ∃ h', HB (w1.setCell ⟨p, 0, none⟩ (.slice (some ⟨g, 0, none⟩) ((growB B (n - m)).len 0 + 1) c)) p h' (growB B (n - (m - 1))) ∧ Mv p h h' w (w1.setCell ⟨p, 0, none⟩ (.slice (some ⟨g, 0, none⟩) ((growB B (n - m)).len 0 + 1) c)) from by
          have e : growB B (n - (m - 1)) = { growB B (n - m) with A := (growB B (n - m)).A ++ [0] } := by rw [growB_succ, show n - (m - 1) = n - m + 1 by omega]
          refine ⟨upd h' 0 (.slice (some ⟨g, 0, none⟩) ((growB B (n - m)).len 0 + 1) c), ?_, ?_⟩
          · rw [e]
            exact hx.app (by omega) hk ho hbk (grow_row _) (grow_ok hx.ok)
          · exact HH.out.2.trans ((Mv.of_below ((Below.refl _ _).alloc (Nat.le_refl _) _)).trans (hx.app_mv (by omega) hk hbk)))
        clear hx hbk hk ho HH
        go_wp2_with fail
        go_roundw
        case rel => exact ⟨m - 1, by omega, by go_num, HF⟩
        case measure => simp [intOf]; omega
    · have : m = 0 := by omega
      subst this
      go_wp2_with fail
      refine bodyPost_fall (v := .tuple #[]) (by simp [results, Faag.results82, go_sem]) rfl ⟨rfl, ?_⟩
      simpa using H1.out
end Go.Proofs.YgcfaaGreat
