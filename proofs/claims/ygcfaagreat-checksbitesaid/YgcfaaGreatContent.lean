import Derived.Test.YgcfaaGreatNewList
import Derived.Test.YgcfaaGreatUtf8Right
namespace Go.Proofs.YgcfaaGreat
open Go.RowKit Bits Bd Utf
set_option linter.unusedVariables false
set_option maxRecDepth 100000
set_option linter.unusedSimpArgs false
attribute [local go_sem] World.cell?_ext World.frozen?_ext

/-- build.IsContent -/
def contentP (s : ByteArray) : Prop := s.size < 128 ∧ (∀ k, k < s.size → ¬ zOf s k = 0) ∧ Utf8Ok (zOf s) s.size 0

theorem zOf_get {s : ByteArray} {k : Nat} (h : k < s.size) : zOf s k = (s[k]'h).toNat := by
  show (s.data[k]!).toNat = (s.data[k]'h).toNat
  rw [getElem!_pos s.data k h]

set_option maxHeartbeats 4000000 in
theorem content_calls (s : ByteArray) (hs : s.size ≤ 9223372036854775807) (w : World) : Calls Faag.prog 86 #[.string s] w fun e w' => RetIs e (contentP s) ∧ Below w.heap.size w w' := by
  by_cases h128 : s.size < 128
  · have HV := hide (validUTF8_calls s (by omega) w)
    have HC := hide (show contentP s ↔ ((∀ k, k < s.size → ¬ zOf s k = 0) ∧ Utf8Ok (zOf s) s.size 0) from ⟨fun h => h.2, fun h => ⟨h128, h⟩⟩)
    go_enter Faag.func86, Faag.ntmps86
    go_wp2_with fail
    go_loop [3] (fun i => ∃ k : Nat, k ≤ s.size ∧ i = .int .i64 k ∧ Hid (∀ j, j < k → ¬ zOf s j = 0)) (fun i => s.size - (intOf i).toNat)
    case atStart => exact ⟨0, by omega, rfl, hide (fun j hj => by omega)⟩
    case round =>
      obtain ⟨k, hk, rfl, hG⟩ := hrel
      by_cases hlt : k < s.size
      · have hzk := hide (zOf_get hlt)
        go_wp2_with fail
        · have hx : (((s[k]'hlt).toNat : Int) == 0) = true := by assumption
          go_ret
          refine ⟨RetIs.no (fun hc => ?_), Below.refl _ _⟩
          have := (HC.out.1 hc).1 k hlt
          rw [hzk.out] at this
          simp only [beq_iff_eq] at hx
          omega
        · have hx : (((s[k]'hlt).toNat : Int) == 0) = false := by assumption
          go_round
          case rel => exact ⟨k + 1, by omega, by go_num, hide (fun j hj => by
            by_cases hjk : j < k
            · exact hG.out j hjk
            · rw [show j = k by omega, hzk.out]
              simp only [beq_eq_false_iff_ne, ne_eq] at hx
              omega)⟩
          case measure => simp [intOf]; omega
      · go_wp2_with fail
        refine HV.out.mono ?_
        rintro e w1 ⟨⟨r, rfl, hr⟩, hb⟩
        have HB1 := hide (And.intro hr hb)
        clear hr hb
        go_wp2_with fail
        go_ret
        refine ⟨⟨r, rfl, ?_⟩, HB1.out.2⟩
        rw [HB1.out.1, HC.out]
        exact ⟨fun hx => ⟨fun j hj => hG.out j (by omega), hx⟩, fun hx => hx.2⟩
  · have HC := hide (show ¬ contentP s from fun h => h128 h.1)
    go_enter Faag.func86, Faag.ntmps86
    go_wp2_with fail
    go_ret
    exact ⟨RetIs.no HC.out, Below.refl _ _⟩
end Go.Proofs.YgcfaaGreat
