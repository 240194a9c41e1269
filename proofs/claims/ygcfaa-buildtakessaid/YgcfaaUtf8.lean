import Derived.Test.YgcfaaProg
import Derived.Test.YgcfaaBase
import Derived.Test.YgcfaaUtf8Plain
import Derived.LoopN
import Derived.Lib.OthersKept
namespace Go.Proofs.Ygcfaa
open Go.RowKit Utf
set_option linter.unusedVariables false

theorem ret4 {R : Ending → World → Prop} {a : Act} {w : World} {n lo hi : Int} {ok : Bool} (h : a.tmps.getD 2 undef = .int .i64 n ∧ a.tmps.getD 3 undef = .int .u8 lo ∧ a.tmps.getD 4 undef = .int .u8 hi ∧ a.tmps.getD 5 undef = .bool ok)
    (hd : a.defers = []) (hR : R (.returned (.tuple #[.int .i64 n, .int .u8 lo, .int .u8 hi, .bool ok])) w) : bodyPost Faag.prog Faag.f46 R .ret a w := by
  obtain ⟨h1, h2, h3, h4⟩ := h
  refine bodyPost_ret (v := .tuple #[.int .i64 n, .int .u8 lo, .int .u8 hi, .bool ok]) ?_ hd hR
  simp [results, Faag.results46, go_sem] at *
  simp [h1, h2, h3, h4]

set_option maxHeartbeats 4000000 in
theorem tail_calls (c : Nat) (hc : c < 256) (w : World) :
    Calls Faag.prog 46 #[.int .u8 c] w fun e w' => e = .returned (.tuple #[.int .i64 (tailN c).1, .int .u8 (tailN c).2.1, .int .u8 (tailN c).2.2.1, .bool (tailN c).2.2.2]) ∧ w' = w := by
  obtain ⟨n, lo, hi, ok, ht⟩ : ∃ n lo hi ok, tailN c = (n, lo, hi, ok) := ⟨_, _, _, _, rfl⟩
  rw [ht]
  dsimp only
  unfold tailN at ht
  have hcase : c ≤ 127 ∨ (128 ≤ c ∧ c ≤ 193) ∨ (194 ≤ c ∧ c ≤ 223) ∨ c = 224 ∨ (225 ≤ c ∧ c ≤ 236) ∨ c = 237 ∨ (238 ≤ c ∧ c ≤ 239) ∨ c = 240 ∨ (241 ≤ c ∧ c ≤ 243) ∨ c = 244 ∨ 245 ≤ c := by omega
  rcases hcase with h | ⟨h, h'⟩ | ⟨h, h'⟩ | h | ⟨h, h'⟩ | h | ⟨h, h'⟩ | h | ⟨h, h'⟩ | h | h
  all_goals
    (repeat' split at ht) <;> try (exfalso; omega)
  all_goals
    simp only [Prod.mk.injEq] at ht
    obtain ⟨rfl, rfl, rfl, rfl⟩ := ht
    try subst h
    go_enter Faag.func46, Faag.ntmps46
    go_wp2
    exact ret4 ⟨rfl, rfl, rfl, rfl⟩ rfl ⟨rfl, rfl⟩

/-- A slice of bytes in memory. -/
def BytesAt (w : World) (a : Option Addr) (n : Nat) (z : Nat → Nat) : Prop :=
  (∀ k, z k < 256) ∧ (0 < n → ∃ b o, a = some ⟨b, o, none⟩ ∧ ∀ i, i < n → w.cell? ⟨b, o + i, none⟩ = some (.int .u8 (z i : Nat)))

/-- It hands back whether p. -/
def RetIs (e : Ending) (p : Prop) : Prop := ∃ r : Bool, e = .returned (.bool r) ∧ (r = true ↔ p)
theorem RetIs.yes {p : Prop} (h : p) : RetIs (.returned (.bool true)) p := ⟨true, rfl, by simp [h]⟩
theorem RetIs.no {p : Prop} (h : ¬ p) : RetIs (.returned (.bool false)) p := ⟨false, rfl, by simp [h]⟩

/-- Byte i behind the lead byte at k is as it should be. -/
def chk (z : Nat → Nat) (k lo hi i : Nat) : Prop := (if i = 1 then lo else 128) ≤ z (k + i) ∧ z (k + i) ≤ (if i = 1 then hi else 191)
theorem tail_le (c : Nat) : (tailN c).1 ≤ 3 ∧ (tailN c).2.1 < 256 ∧ (tailN c).2.2.1 < 256 := by
  unfold tailN
  (repeat' split) <;> simp
theorem wfOk_iff {z : Nat → Nat} {n k m lo hi : Nat} {ok : Bool} (ht : tailN (z k) = (m, lo, hi, ok)) : wfOk z n k ↔ ok = true ∧ k + m < n ∧ ∀ i, 1 ≤ i → i ≤ m → chk z k lo hi i := by
  have hm := (tail_le (z k)).1
  unfold wfOk
  rw [ht] at hm ⊢
  dsimp only at hm ⊢
  constructor
  · rintro ⟨h1, h2, h3, h4, h5⟩
    refine ⟨h1, h2, fun i hi1 hi2 => ?_⟩
    unfold chk
    rcases (by omega : i = 1 ∨ i = 2 ∨ i = 3) with rfl | rfl | rfl
    · simp only [if_true]; omega
    · simp only [show ¬ (2 = 1) by omega, if_false]; omega
    · simp only [show ¬ (3 = 1) by omega, if_false]; omega
  · rintro ⟨h1, h2, h3⟩
    refine ⟨h1, h2, ?_, ?_, ?_⟩
    · by_cases c : m < 1
      · exact .inl c
      · exact .inr (by simpa [chk] using h3 1 (by omega) (by omega))
    · by_cases c : m < 2
      · exact .inl c
      · exact .inr (by simpa [chk] using h3 2 (by omega) (by omega))
    · by_cases c : m < 3
      · exact .inl c
      · exact .inr (by simpa [chk] using h3 3 (by omega) (by omega))

set_option maxRecDepth 100000 in
set_option maxHeartbeats 4000000 in
theorem wellFormed_calls (a : Option Addr) (n c : Nat) (z : Nat → Nat) (hn : n ≤ 140737488355328) (w : World) (hz : BytesAt w a n z) :
    Calls Faag.prog 17 #[.slice a n c] w fun e w' => RetIs e (Utf8Ok z n 0) ∧ w' = w := by
  obtain ⟨hz1, hz2⟩ := hz
  by_cases hn0 : n = 0
  · subst hn0
    go_enter Faag.func17, Faag.ntmps17
    go_wp2
    go_loop [3] (fun i => i = .int .i64 0) (fun i => 0)
    case atStart => rfl
    case round =>
      subst hrel
      go_wp2
      go_ret
      exact ⟨RetIs.yes (Utf8Ok_end (Nat.le_refl _)), rfl⟩
  obtain ⟨b, o, rfl, hc⟩ := hz2 (by omega)
  clear hz2
  go_enter Faag.func17, Faag.ntmps17
  go_wp2
  have HC := hide hc
  clear hc
  go_loop [3] (fun i => ∃ k : Nat, k ≤ n ∧ i = .int .i64 k ∧ Hid (Utf8Ok z n 0 ↔ Utf8Ok z n k)) (fun i => n - (intOf i).toNat)
  case atStart => exact ⟨0, by omega, rfl, hide Iff.rfl⟩
  case round =>
    obtain ⟨k, hk, rfl, hG⟩ := hrel
    by_cases hlt : k < n
    · obtain ⟨zk, hzk'⟩ : ∃ zk, zk = z k := ⟨_, rfl⟩
      have hck := HC.out k hlt
      have hzk := hz1 k
      rw [← hzk'] at hck hzk
      obtain ⟨m, lo, hi, ok, ht⟩ : ∃ m lo hi ok, tailN zk = (m, lo, hi, ok) := ⟨_, _, _, _, rfl⟩
      have hT := tail_le zk
      rw [ht] at hT
      obtain ⟨hm, hlo, hhi⟩ := hT
      dsimp only at hm hlo hhi
      have ht' := ht
      rw [hzk'] at ht'
      have hG2 : Hid (Utf8Ok z n 0 ↔ wfOk z n k ∧ Utf8Ok z n (k + (1 + m))) := hide (by rw [hG.out, Utf8Ok_step hlt, ht'])
      have hW := hide (wfOk_iff (n := n) ht')
      have HT := hide ht
      clear ht ht' hG hzk'
      go_wp2_with fail
      refine (tail_calls zk hzk _).mono ?_
      rintro e w' ⟨rfl, rfl⟩
      rw [HT.out]
      dsimp only
      clear HT hck
      cases ok
      · go_wp2_with fail
        go_ret
        exact ⟨RetIs.no (fun h => by have := (hW.out.1 (hG2.out.1 h).1).1; cases this), rfl⟩
      by_cases hlen : n ≤ k + m
      · go_wp2_with fail
        go_ret
        exact ⟨RetIs.no (fun h => by have := (hW.out.1 (hG2.out.1 h).1).2.1; omega), rfl⟩
      · go_wp2_with fail
        go_loop [5, 6, 8] (fun l h j => ∃ i : Nat, 1 ≤ i ∧ i ≤ m + 1 ∧ j = .int .i64 i ∧ l = .int .u8 ((if i = 1 then lo else 128 : Nat)) ∧ h = .int .u8 ((if i = 1 then hi else 191 : Nat)) ∧
            Hid (∀ q, 1 ≤ q → q < i → chk z k lo hi q)) (fun _ _ j => m + 1 - (intOf j).toNat)
        case atStart => exact ⟨1, by omega, by omega, rfl, rfl, rfl, hide (fun q h1 h2 => by omega)⟩
        case round =>
          obtain ⟨i, hi1, hi2, rfl, rfl, rfl, hC⟩ := hrel
          by_cases hlt2 : i ≤ m
          · obtain ⟨L, hL⟩ : ∃ L, L = (if i = 1 then lo else 128 : Nat) := ⟨_, rfl⟩
            obtain ⟨H, hH⟩ : ∃ H, H = (if i = 1 then hi else 191 : Nat) := ⟨_, rfl⟩
            rw [← hL, ← hH]
            obtain ⟨v, hv⟩ : ∃ v, v = z (k + i) := ⟨_, rfl⟩
            have hcv := HC.out (k + i) (by omega)
            rw [← hv] at hcv
            have hchk : Hid (chk z k lo hi i ↔ L ≤ v ∧ v ≤ H) := hide (by unfold chk; rw [← hL, ← hH, ← hv])
            have hvl : v < 256 := by rw [hv]; exact hz1 _
            clear hL hH hv
            by_cases c1 : v < L
            · go_wp2_with fail
              go_ret
              exact ⟨RetIs.no (fun h => by have := hchk.out.1 ((hW.out.1 (hG2.out.1 h).1).2.2 i hi1 hlt2); omega), rfl⟩
            by_cases c2 : H < v
            · go_wp2_with fail
              go_ret
              exact ⟨RetIs.no (fun h => by have := hchk.out.1 ((hW.out.1 (hG2.out.1 h).1).2.2 i hi1 hlt2); omega), rfl⟩
            · go_wp2_with fail
              go_round
              case rel => exact ⟨i + 1, by omega, by omega, by go_num, by rw [if_neg (by omega)]; rfl, by rw [if_neg (by omega)]; rfl, hide (fun q h1 h2 => by
                by_cases hq : q < i
                · exact hC.out q h1 hq
                · rw [show q = i by omega]; exact hchk.out.2 ⟨by omega, by omega⟩)⟩
              case measure => simp [intOf]; omega
          · go_wp2_with fail
            go_round
            case rel => exact ⟨k + (1 + m), by omega, by go_num, hide (by
              rw [hG2.out]
              exact ⟨fun h => h.2, fun h => ⟨hW.out.2 ⟨by first | rfl | trivial, by omega, fun q h1 h2 => hC.out q h1 (by omega)⟩, h⟩⟩)⟩
            case measure => simp [intOf]; omega
    · go_wp2
      go_ret
      exact ⟨RetIs.yes (hG.out.2 (Utf8Ok_end (by omega))), rfl⟩
end Go.Proofs.Ygcfaa
