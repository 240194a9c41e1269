import Derived.Test.YgcfaaGreatResB
namespace Go.Proofs.YgcfaaGreat
open Go.RowKit Bits Bd
set_option linter.unusedVariables false

theorem take_0_2 (v : Nat) : takeN v 0 2 = v % 4 := by unfold takeN; rw [if_pos (by omega)]; simp
theorem take_32_16 (v : Nat) : takeN v 32 16 = v / 4294967296 % 65536 := by unfold takeN; rw [if_pos (by omega)]
theorem take_48_16 (v : Nat) : takeN v 48 16 = v / 281474976710656 % 65536 := by unfold takeN; rw [if_pos (by omega)]
theorem take_32_3 (v : Nat) : takeN v 32 3 = v / 4294967296 % 8 := by unfold takeN; rw [if_pos (by omega)]
theorem take_35_29 (v : Nat) : takeN v 35 29 = v / 34359738368 % 536870912 := by unfold takeN; rw [if_pos (by omega)]
theorem take_2_30 (v : Nat) : takeN v 2 30 = v / 4 % 1073741824 := by unfold takeN; rw [if_pos (by omega)]
theorem sign_30 (v : Nat) : signI v 30 = if 536870912 ≤ v % 1073741824 then ((v % 1073741824 : Nat) : Int) - 1073741824 else ((v % 1073741824 : Nat) : Int) := by
  unfold signI
  rw [if_neg (by omega), if_neg (by omega)]
  rfl
/-- The offset field read back. -/
theorem sign_off (f t r : Nat) (hf : f < 256) (ht : t ≤ 256) (v : Nat) (hv : v / 4 = (t + 1073741824 - f - 1) % 1073741824 + r * 1073741824) : ((f + 1 : Nat) : Int) + signI (v / 4) 30 = t := by
  rw [sign_30, hv]
  have h1 : ((t + 1073741824 - f - 1) % 1073741824 + r * 1073741824) % 1073741824 = (t + 1073741824 - f - 1) % 1073741824 := by omega
  rw [h1]
  split <;> omega

/-- A struct's pointer word resolves to the struct; one of no words to its own place. -/
theorem resolve_struct {A : List Nat} {f t d q : Nat} (hf : f < A.length) (hA : A.length ≤ 256) (ht : t ≤ 256) (hd : d ≤ 8) (hq : q ≤ 8) (hw : A.getD f 0 = mkStruct f t d q) (hin : 0 < d + q → 1 ≤ t ∧ t + (d + q) ≤ A.length) :
    resolveN A f = some ⟨1, if d + q = 0 then f else t, d, q, 0, 0⟩ := by
  unfold resolveN
  rw [if_neg (by omega), hw]
  obtain ⟨u, hu⟩ : ∃ u, u = (if d = 0 ∧ q = 0 then f else t) := ⟨_, rfl⟩
  have hul : u ≤ 256 := by rw [hu]; split <;> omega
  have hm : mkStruct f t d q = (u + 1073741824 - f - 1) % 1073741824 * 4 + d * 4294967296 + q * 281474976710656 := by
    unfold mkStruct
    rw [if_neg (by omega), ← hu]
    rfl
  rw [hm]
  have hv0 : ¬ ((u + 1073741824 - f - 1) % 1073741824 * 4 + d * 4294967296 + q * 281474976710656 = 0) := by
    by_cases h0 : d = 0 ∧ q = 0
    · rw [if_pos h0] at hu; omega
    · omega
  unfold resolveW
  rw [if_neg hv0, take_0_2, if_pos (by omega)]
  have hs : sectN ((u + 1073741824 - f - 1) % 1073741824 * 4 + d * 4294967296 + q * 281474976710656) = some (d, q) := by
    unfold sectN
    rw [take_32_16, take_48_16]
    have e1 : ((u + 1073741824 - f - 1) % 1073741824 * 4 + d * 4294967296 + q * 281474976710656) / 4294967296 % 65536 = d := by omega
    have e2 : ((u + 1073741824 - f - 1) % 1073741824 * 4 + d * 4294967296 + q * 281474976710656) / 281474976710656 % 65536 = q := by omega
    rw [e1, e2, if_neg (by omega)]
  rw [hs]
  dsimp only
  have hto := sign_off f u (d + q * 65536) (by omega) hul ((u + 1073741824 - f - 1) % 1073741824 * 4 + d * 4294967296 + q * 281474976710656) (by omega)
  rw [hto]
  have hsp : spansP A.length 1 (u : Int) ((d : Int) + q) := by
    unfold spansP
    by_cases h0 : d + q = 0
    · rw [if_pos (by omega)]
      rw [if_pos (by omega)] at hu
      omega
    · rw [if_neg (by omega)]
      rw [if_neg (by omega)] at hu
      have := hin (by omega)
      omega
  rw [if_neg (by simpa using hsp), Int.toNat_natCast]
  congr 2
  rw [hu]
  by_cases h0 : d + q = 0
  · rw [if_pos h0, if_pos (by omega)]
  · rw [if_neg h0, if_neg (by omega)]

/-- A plain list's pointer word. -/
theorem resolve_list {A : List Nat} {f t c n : Nat} (hf : f < A.length) (hA : A.length ≤ 256) (ht : t ≤ A.length) (hc : 2 ≤ c ∧ c ≤ 6) (hn : n ≤ 128) (hw : A.getD f 0 = mkList f t c n)
    (hin : 0 < words ⟨2, 0, 0, 0, c, n⟩ → 1 ≤ t ∧ t + words ⟨2, 0, 0, 0, c, n⟩ ≤ A.length) :
    resolveN A f = some ⟨2, t, 0, 0, c, n⟩ := by
  unfold resolveN
  rw [if_neg (by omega), hw]
  have hm : mkList f t c n = 1 + (t + 1073741824 - f - 1) % 1073741824 * 4 + c * 4294967296 + n * 34359738368 := by
    unfold mkList
    rw [if_neg (by omega), if_neg (by omega)]
    rfl
  rw [hm]
  unfold resolveW
  rw [if_neg (by omega), take_0_2, if_neg (by omega), if_pos (by omega), take_32_3, take_35_29]
  have e1 : (1 + (t + 1073741824 - f - 1) % 1073741824 * 4 + c * 4294967296 + n * 34359738368) / 4294967296 % 8 = c := by omega
  have e2 : (1 + (t + 1073741824 - f - 1) % 1073741824 * 4 + c * 4294967296 + n * 34359738368) / 34359738368 % 536870912 = n := by omega
  rw [e1, e2, if_neg (by omega)]
  have hto := sign_off f t (c + n * 8) (by omega) (by omega) (1 + (t + 1073741824 - f - 1) % 1073741824 * 4 + c * 4294967296 + n * 34359738368) (by omega)
  rw [hto]
  unfold plainR
  rw [if_neg (by omega)]
  have hsp : spansP A.length 1 (t : Int) ((words ⟨2, 0, 0, 0, c, n⟩ : Nat) : Int) := by
    unfold spansP
    by_cases h0 : words ⟨2, 0, 0, 0, c, n⟩ = 0
    · rw [if_pos (by omega)]
      omega
    · rw [if_neg (by omega)]
      have := hin (by omega)
      omega
  rw [if_neg (by simpa using hsp), Int.toNat_natCast]

/-- A code 7 list's pointer word, with its tag. -/
theorem resolve_structs {A : List Nat} {f t d q n : Nat} (hf : f < A.length) (hA : A.length ≤ 256) (h1 : 1 ≤ t) (hin : t + (n * (d + q) + 1) ≤ A.length) (hd : d ≤ 8) (hq : q ≤ 8) (hn : n ≤ 128) (h0 : d + q = 0 → n = 0)
    (hw : A.getD f 0 = mkList f t 7 (n * (d + q))) (ht : A.getD t 0 = mkTag n d q) :
    resolveN A f = some ⟨2, t + 1, d, q, 7, n⟩ := by
  unfold resolveN
  rw [if_neg (by omega), hw]
  obtain ⟨M, hM⟩ : ∃ M, M = n * (d + q) := ⟨_, rfl⟩
  rw [← hM] at hin ⊢
  have hm : mkList f t 7 M = 1 + (t + 1073741824 - f - 1) % 1073741824 * 4 + 7 * 4294967296 + M * 34359738368 := by
    unfold mkList
    rw [if_neg (by omega), if_neg (by omega)]
    rfl
  rw [hm]
  unfold resolveW
  rw [if_neg (by omega), take_0_2, if_neg (by omega), if_pos (by omega), take_32_3, take_35_29]
  have e1 : (1 + (t + 1073741824 - f - 1) % 1073741824 * 4 + 7 * 4294967296 + M * 34359738368) / 4294967296 % 8 = 7 := by omega
  have e2 : (1 + (t + 1073741824 - f - 1) % 1073741824 * 4 + 7 * 4294967296 + M * 34359738368) / 34359738368 % 536870912 = M := by omega
  rw [e1, e2, if_pos rfl]
  have hto := sign_off f t (7 + M * 8) (by omega) (by omega) (1 + (t + 1073741824 - f - 1) % 1073741824 * 4 + 7 * 4294967296 + M * 34359738368) (by omega)
  rw [hto]
  unfold structsR
  have hsp : spansP A.length 1 (t : Int) ((M : Int) + 1) := by
    unfold spansP
    rw [if_neg (by omega)]
    omega
  rw [if_neg (by simpa using hsp), Int.toNat_natCast, ht]
  have hg : mkTag n d q = n * 4 + d * 4294967296 + q * 281474976710656 := by
    unfold mkTag
    rw [if_neg (by omega)]
  rw [hg]
  have hs : sectN (n * 4 + d * 4294967296 + q * 281474976710656) = some (d, q) := by
    unfold sectN
    rw [take_32_16, take_48_16]
    have e1 : (n * 4 + d * 4294967296 + q * 281474976710656) / 4294967296 % 65536 = d := by omega
    have e2 : (n * 4 + d * 4294967296 + q * 281474976710656) / 281474976710656 % 65536 = q := by omega
    rw [e1, e2, if_neg (by omega)]
  rw [hs]
  dsimp only
  rw [take_0_2, take_2_30]
  have e3 : (n * 4 + d * 4294967296 + q * 281474976710656) / 4 % 1073741824 = n := by omega
  rw [e3, if_neg (by omega), if_neg (fun hh => hh.elim (fun ⟨a, b⟩ => b (h0 a)) (fun h => h hM.symm))]
theorem resolve_null {A : List Nat} {f : Nat} (hf : f < A.length) (hw : A.getD f 0 = 0) : resolveN A f = some ⟨0, 0, 0, 0, 0, 0⟩ := by
  unfold resolveN resolveW
  rw [if_neg (by omega), hw, if_pos rfl]
theorem resolve_two {A : List Nat} {f : Nat} (hw : A.getD f 0 = 2) : resolveN A f = none := by
  unfold resolveN
  by_cases h : A.length ≤ f
  · rw [if_pos h]
  · rw [if_neg h, hw]
    unfold resolveW
    rw [if_neg (by omega), take_0_2, if_neg (by omega), if_neg (by omega)]
end Go.Proofs.YgcfaaGreat
