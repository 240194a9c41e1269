import Derived.Test.YgcfaaGreatMoKid
namespace Go.Proofs.YgcfaaGreat
open Go.RowKit Bits Bd
set_option linter.unusedVariables false
set_option maxRecDepth 100000
set_option linter.unusedSimpArgs false
attribute [local go_sem] World.cell?_ext World.frozen?_ext

namespace Bd
def Mo.len (M : Mo) : Nat := 1 + sumW (fun k => (M.hd k).words) M.H.length
end Bd

set_option maxHeartbeats 16000000 in
theorem len_calls {w : World} {p : Nat} {h : Nat → Value} {M : Mo} (m : HM true w p h M) (v : InvM M) :
    Calls Faag.prog 91 #[.pointer (some ⟨p, 0, none⟩)] w fun e w' => e = .returned (.int .i64 (M.len : Nat)) ∧ Below w.heap.size w w' := by
  have f2 := m.f2.1
  obtain ⟨ha, hc, hgh⟩ := m.n1
  rw [hgh] at f2
  have hnh := m.nh
  have hsum := v.sum
  obtain ⟨n, hn⟩ : ∃ n, n = M.H.length := ⟨_, rfl⟩
  rw [← hn] at f2 hnh hsum
  have HM0 := hide m
  have HN := hide hn
  have HG := hide hgh
  have HSum := hide (fun a (ha : a ≤ n) => sumW_mono (fun k => (M.hd k).words) ha)
  have hL : M.len = 1 + sumW (fun k => (M.hd k).words) n := by rw [hn]; rfl
  have HL := hide hL
  clear m v hn hgh hL
  go_enter Faag.func91, Faag.ntmps91
  go_wp2_with fail
  go_loopw [11, 3] (fun q s wr => ∃ a t : Nat, a ≤ n ∧ q = .int .i64 (a : Nat) ∧ s = .int .i64 (t : Nat) ∧ Hid (t = 1 + sumW (fun k => (M.hd k).words) a) ∧ Hid (Below w.heap.size w wr)) (fun q _ _ => 65536 - (intOf q).toNat)
  case atStart => exact ⟨0, 1, by omega, by simp, by simp, hide rfl, hide (Below.refl _ _)⟩
  case round =>
    obtain ⟨a, t, ha1, rfl, rfl, HT, H⟩ := hrel
    by_cases hga : a < n
    · have hmr := HM0.out.below H.out
      obtain ⟨g, c, hg, hcells⟩ := hmr.hand (i := a) (by rw [← HN.out]; exact hga)
      have e1 : ha = some ⟨g, 0, none⟩ := by have := HG.out.symm.trans hg; cases this; rfl
      subst e1
      have c0 := (hcells 0 _ rfl).1
      have c1 := (hcells 1 _ rfl).1
      have c2 := (hcells 2 _ rfl).1
      have c3 := (hcells 3 _ rfl).1
      have c4 := (hcells 4 _ rfl).1
      have c5 := (hcells 5 _ rfl).1
      have c6 := (hcells 6 _ rfl).1
      simp only [Nat.add_zero] at c0
      have hgl : g < wr.heap.size := lt_of_cell c0
      have hs1 := HSum.out (a + 1) (by omega)
      have hs2 : sumW (fun k => (M.hd k).words) (a + 1) = sumW (fun k => (M.hd k).words) a + (M.hd a).words := rfl
      have htb : t + (M.hd a).words ≤ 256 := by have := HT.out; omega
      have HT2 := hide (show t + (M.hd a).words = 1 + sumW (fun k => (M.hd k).words) (a + 1) by have := HT.out; omega)
      generalize (M.hd a).words = wd at *
      generalize (M.hd a).node = x0 at *
      generalize (M.hd a).up = x1 at *
      generalize (M.hd a).via = x2 at *
      generalize (M.hd a).depth = x3 at *
      generalize (M.hd a).dead = x4 at *
      generalize (M.hd a).named = x5 at *
      have HB2 := hide (H.out.alloc H.out.size (Obj.cells #[.int .i16 x0, .int .u8 x1, .int .u8 x2, .int .u8 x3, .bool x4, .bool x5, .int .u16 wd] 89))
      clear hcells hg hmr hs1 hs2 hsum
      go_wp2_with fail
      go_roundw
      case rel => exact ⟨a + 1, t + wd, by omega, by go_num, by go_num, HT2, HB2⟩
      case measure => simp [intOf]; omega
    · have han : a = n := by omega
      subst han
      have ht : t = M.len := by rw [HL.out]; exact HT.out
      subst ht
      go_wp2_with fail
      go_ret
      exact ⟨rfl, H.out⟩
end Go.Proofs.YgcfaaGreat
