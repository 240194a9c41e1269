import GoSem.Core.Utf8
/-! UTF-8 by the decoder, and by the table of well-formed sequences: plain functions of bytes. -/
namespace Go.Proofs.YgcfaaGreat.Utf

/-- The lead byte's table: how many bytes follow, the first one's range, whether it leads anything. -/
def tailN (c : Nat) : Nat × Nat × Nat × Bool :=
  if c ≤ 127 then (0, 0, 0, true)
  else if 194 ≤ c ∧ c ≤ 223 then (1, 128, 191, true)
  else if c = 224 then (2, 160, 191, true)
  else if c = 237 then (2, 128, 159, true)
  else if 225 ≤ c ∧ c ≤ 239 then (2, 128, 191, true)
  else if c = 240 then (3, 144, 191, true)
  else if 241 ≤ c ∧ c ≤ 243 then (3, 128, 191, true)
  else if c = 244 then (3, 128, 143, true)
  else (0, 0, 0, false)

/-- A well-formed sequence begins at i. -/
def wfOk (z : Nat → Nat) (N i : Nat) : Prop :=
  (tailN (z i)).2.2.2 = true ∧ i + (tailN (z i)).1 < N ∧ ((tailN (z i)).1 < 1 ∨ ((tailN (z i)).2.1 ≤ z (i + 1) ∧ z (i + 1) ≤ (tailN (z i)).2.2.1)) ∧
    ((tailN (z i)).1 < 2 ∨ (128 ≤ z (i + 2) ∧ z (i + 2) ≤ 191)) ∧ ((tailN (z i)).1 < 3 ∨ (128 ≤ z (i + 3) ∧ z (i + 3) ≤ 191))

/-- The decoder, over a function of bytes. -/
def decodeF (z : Nat → Nat) (N i : Nat) : Nat × Nat :=
  if z i < 128 then (z i, 1)
  else if z i / 32 = 6 ∧ (i + 1 < N ∧ z (i + 1) / 64 = 2) then
    if 128 ≤ z i % 32 * 64 + z (i + 1) % 64 then (z i % 32 * 64 + z (i + 1) % 64, 2) else (65533, 1)
  else if z i / 16 = 14 ∧ (i + 1 < N ∧ z (i + 1) / 64 = 2) ∧ (i + 2 < N ∧ z (i + 2) / 64 = 2) then
    if 2048 ≤ z i % 16 * 4096 + z (i + 1) % 64 * 64 + z (i + 2) % 64 ∧ (z i % 16 * 4096 + z (i + 1) % 64 * 64 + z (i + 2) % 64 < 55296 ∨ 57344 ≤ z i % 16 * 4096 + z (i + 1) % 64 * 64 + z (i + 2) % 64) then
      (z i % 16 * 4096 + z (i + 1) % 64 * 64 + z (i + 2) % 64, 3) else (65533, 1)
  else if z i / 8 = 30 ∧ (i + 1 < N ∧ z (i + 1) / 64 = 2) ∧ (i + 2 < N ∧ z (i + 2) / 64 = 2) ∧ (i + 3 < N ∧ z (i + 3) / 64 = 2) then
    if 65536 ≤ z i % 8 * 262144 + z (i + 1) % 64 * 4096 + z (i + 2) % 64 * 64 + z (i + 3) % 64 ∧ z i % 8 * 262144 + z (i + 1) % 64 * 4096 + z (i + 2) % 64 * 64 + z (i + 3) % 64 ≤ 1114111 then
      (z i % 8 * 262144 + z (i + 1) % 64 * 4096 + z (i + 2) % 64 * 64 + z (i + 3) % 64, 4) else (65533, 1)
  else (65533, 1)

/-- Does the loop of ValidUTF8 turn away at i? -/
def badF (z : Nat → Nat) (N i : Nat) : Prop := (decodeF z N i).1 = 65533 ∧ (N < i + 3 ∨ ¬ (z i = 239 ∧ z (i + 1) = 191 ∧ z (i + 2) = 189))

set_option maxHeartbeats 8000000 in
theorem step_same (z : Nat → Nat) (N i : Nat) (hz : ∀ k, z k < 256) (hi : i < N) :
    (badF z N i ↔ ¬ wfOk z N i) ∧ (wfOk z N i → (decodeF z N i).2 = 1 + (tailN (z i)).1) := by
  have h0 := hz i; have h1 := hz (i + 1); have h2 := hz (i + 2); have h3 := hz (i + 3)
  unfold badF wfOk
  generalize hd : decodeF z N i = d
  unfold decodeF at hd
  generalize z i = b0 at *
  generalize z (i + 1) = b1 at *
  generalize z (i + 2) = b2 at *
  generalize z (i + 3) = b3 at *
  generalize ht : tailN b0 = t
  obtain ⟨n, lo, hi', ok⟩ := t
  unfold tailN at ht
  (repeat' split at ht) <;> (simp only [Prod.mk.injEq] at ht; obtain ⟨rfl, rfl, rfl, rfl⟩ := ht) <;> (repeat' split at hd) <;> (subst hd; dsimp only; simp only [Bool.false_eq_true, true_and, false_and]; refine ⟨⟨fun h hb => ?_, fun h => ?_⟩, fun hb => ?_⟩ <;> first | omega | trivial)

/-- From i on every sequence is well formed (n: how far to look). -/
def goodFrom (z : Nat → Nat) (N : Nat) : Nat → Nat → Prop
  | 0, _ => True
  | n + 1, i => i < N → wfOk z N i ∧ goodFrom z N n (i + (1 + (tailN (z i)).1))

theorem goodFrom_end (z : Nat → Nat) (N n i : Nat) (h : N ≤ i) : goodFrom z N n i := by
  cases n with
  | zero => trivial
  | succ n => intro h2; omega

/-- Looking further than to the end makes no difference. -/
theorem goodFrom_more (z : Nat → Nat) (N : Nat) : ∀ (n m i : Nat), N ≤ i + n → N ≤ i + m → (goodFrom z N n i ↔ goodFrom z N m i)
  | 0, m, i, h1, _ => by
    constructor
    · intro _; exact goodFrom_end z N m i (by omega)
    · intro _; trivial
  | n + 1, 0, i, _, h2 => by
    constructor
    · intro _; trivial
    · intro _; exact goodFrom_end z N (n + 1) i (by omega)
  | n + 1, m + 1, i, h1, h2 => by
    have ih := goodFrom_more z N n m (i + (1 + (tailN (z i)).1)) (by omega) (by omega)
    simp only [goodFrom]
    rw [ih]

/-- All of the bytes from i on are UTF-8. -/
def Utf8Ok (z : Nat → Nat) (N i : Nat) : Prop := goodFrom z N (N - i) i
theorem Utf8Ok_end {z : Nat → Nat} {N i : Nat} (h : N ≤ i) : Utf8Ok z N i := goodFrom_end z N _ i h
theorem Utf8Ok_step {z : Nat → Nat} {N i : Nat} (h : i < N) : Utf8Ok z N i ↔ wfOk z N i ∧ Utf8Ok z N (i + (1 + (tailN (z i)).1)) := by
  unfold Utf8Ok
  obtain ⟨n, hn⟩ : ∃ n, N - i = n + 1 := ⟨N - i - 1, by omega⟩
  rw [hn]
  have ih := goodFrom_more z N n (N - (i + (1 + (tailN (z i)).1))) (i + (1 + (tailN (z i)).1)) (by omega) (by omega)
  constructor
  · intro hg; exact ⟨(hg h).1, ih.1 (hg h).2⟩
  · intro hg _; exact ⟨hg.1, ih.2 hg.2⟩

theorem Utf8Ok_bad {z : Nat → Nat} {N i : Nat} (hz : ∀ k, z k < 256) (h : i < N) (hb : badF z N i) : ¬ Utf8Ok z N i := fun hg => ((step_same z N i hz h).1.1 hb) ((Utf8Ok_step h).1 hg).1
theorem Utf8Ok_next {z : Nat → Nat} {N i : Nat} (hz : ∀ k, z k < 256) (h : i < N) (hb : ¬ badF z N i) : (Utf8Ok z N i ↔ Utf8Ok z N (i + (decodeF z N i).2)) ∧ i < i + (decodeF z N i).2 ∧ i + (decodeF z N i).2 ≤ N := by
  have hs := step_same z N i hz h
  have hw : wfOk z N i := Classical.byContradiction fun hn => hb (hs.1.2 hn)
  rw [hs.2 hw]
  refine ⟨?_, by omega, by have := hw.2.1; omega⟩
  rw [Utf8Ok_step h]
  exact ⟨fun x => x.2, fun x => ⟨hw, x⟩⟩

/-- Only the bytes below N matter. -/
theorem wfOk_congr {z y : Nat → Nat} {N i : Nat} (h : ∀ k, k < N → z k = y k) (hi : i < N) : wfOk z N i ↔ wfOk y N i := by
  unfold wfOk
  rw [h i hi]
  generalize tailN (y i) = t
  obtain ⟨n, lo, hi', ok⟩ := t
  dsimp only
  constructor
  · rintro ⟨h1, h2, h3, h4, h5⟩
    refine ⟨h1, h2, ?_, ?_, ?_⟩
    · by_cases c : n < 1
      · exact .inl c
      · rw [h (i + 1) (by omega)] at h3; exact h3
    · by_cases c : n < 2
      · exact .inl c
      · rw [h (i + 2) (by omega)] at h4; exact h4
    · by_cases c : n < 3
      · exact .inl c
      · rw [h (i + 3) (by omega)] at h5; exact h5
  · rintro ⟨h1, h2, h3, h4, h5⟩
    refine ⟨h1, h2, ?_, ?_, ?_⟩
    · by_cases c : n < 1
      · exact .inl c
      · rw [h (i + 1) (by omega)]; exact h3
    · by_cases c : n < 2
      · exact .inl c
      · rw [h (i + 2) (by omega)]; exact h4
    · by_cases c : n < 3
      · exact .inl c
      · rw [h (i + 3) (by omega)]; exact h5
theorem goodFrom_congr {z y : Nat → Nat} {N : Nat} (h : ∀ k, k < N → z k = y k) : ∀ n i, goodFrom z N n i ↔ goodFrom y N n i
  | 0, _ => Iff.rfl
  | n + 1, i => by
    simp only [goodFrom]
    by_cases hi : i < N
    · rw [wfOk_congr h hi, h i hi, goodFrom_congr h n]
    · simp [hi]
theorem Utf8Ok_congr {z y : Nat → Nat} {N : Nat} (h : ∀ k, k < N → z k = y k) (i : Nat) : Utf8Ok z N i ↔ Utf8Ok y N i := goodFrom_congr h _ _

theorem ite_same {α : Type} {c d : Prop} [Decidable c] [Decidable d] {a b a' b' : α} (h : c ↔ d) (ha : a = a') (hb : b = b') : (if c then a else b) = (if d then a' else b') := by
  subst ha; subst hb
  by_cases hc : c
  · rw [if_pos hc, if_pos (h.1 hc)]
  · rw [if_neg hc, if_neg (fun hd => hc (h.2 hd))]

/-- The model's decoder is this one. -/
theorem decode_eq (s : ByteArray) (i : Nat) : Go.Utf8.decode s i = decodeF (fun k => (s.get! k).toNat) s.size i := by
  unfold Go.Utf8.decode decodeF Go.Utf8.valid Go.Utf8.runeError
  simp only [Bool.and_eq_true, Bool.or_eq_true, decide_eq_true_eq, beq_iff_eq, Nat.add_zero, ge_iff_le]
  generalize (s.get! i).toNat = b0
  generalize (s.get! (i + 1)).toNat = b1
  generalize (s.get! (i + 2)).toNat = b2
  generalize (s.get! (i + 3)).toNat = b3
  exact ite_same Iff.rfl rfl (ite_same Iff.rfl rfl (ite_same (by constructor <;> (intro h; omega)) (ite_same (by constructor <;> (intro h; omega)) rfl rfl) (ite_same (by constructor <;> (intro h; omega)) (ite_same (by constructor <;> (intro h; omega)) rfl rfl) rfl)))
end Go.Proofs.YgcfaaGreat.Utf
