import Derived.Test.YgcfaaGreatInvBiteX
namespace Go.Proofs.YgcfaaGreat
open Go.RowKit Bits Bd
set_option linter.unusedVariables false

theorem wantGo_setA (B : Bld) (a v : Nat) : ∀ (k h : Nat) (s : List Nat), wantGo (setA B a v) k h s = wantGo B k h s
  | 0, h, s => rfl
  | k + 1, h, s => by rw [wantGo, wantGo, wantGo_setA B a v k]; rfl

section
variable {B : Bld}
theorem inv_b12 (i : InvC B) {h via a : Nat} (hn : h < B.obj.length) (hN : NullAt B h via a) : ¬ checkP (setA B a 2) := by
  intro hc
  obtain ⟨hev, hro, e, he, hdp, u, hu, hsl, _⟩ := hc
  obtain ⟨n1, n2, n3, n4, n5, n6, n7⟩ := hN
  obtain ⟨q1, q2⟩ := slotsQ_not n2
  rw [q1] at n3
  have ha : a = sAt (B.o h) via := by rw [n4]; exact q2 via n3
  have hA2 : (setA B a 2).A.getD a 0 = 2 := setA_getD n7
  have ht : tb (wantGo (setA B a 2) (setA B a 2).obj.length 0 [0, 0, 0, 0]) a = true := by
    rw [wantGo_setA]
    have := (inv_wantGo i B.obj.length 0 zset (by omega) rfl zset_lt).1 a
    exact this.2 (.inr ⟨h, via, by omega, by omega, n1, n3, ha⟩)
  have hh := hsl.2 a (by show a < (B.A.set _ _).length; rw [List.length_set]; exact n7) (by rw [hA2]; omega) ht
  rcases (hangGo_act hev.1.2 _ _ _ _ rfl hu).2.1 a hh with hz | ⟨got, hg⟩
  · rw [tb_zset] at hz; cases hz
  · rw [resolve_two hA2] at hg; cases hg

theorem words_scalar {p : Ptr} (hk : p.kind = 2) (hc1 : 2 ≤ p.code) (hc2 : p.code ≤ 5) (hn : p.count ≤ 128) : words p = (p.count * width p.code + 7) / 8 ∧ width p.code = 2 ^ (p.code - 2) := by
  constructor
  · unfold words
    rw [if_neg (by omega), if_neg (by omega), if_neg (by omega), if_pos ⟨hc1, hc2⟩]
  · unfold width
    rw [if_neg (by omega)]

theorem inv_b13 (i : InvC B) {h : Nat} (h1 : 1 ≤ h) (hn : h < B.obj.length) (hd : B.dead.getD h false = false) (hk : (B.o h).kind = 2) (hc1 : 2 ≤ (B.o h).code) (hc2 : (B.o h).code ≤ 5) (h8 : ¬ (B.o h).count * 2 ^ ((B.o h).code - 2) % 8 = 0) :
    (B.o h).count ≤ 128 ∧ (B.o h).at_ + (B.o h).count * 2 ^ ((B.o h).code - 2) / 8 < B.A.length ∧ ¬ checkP (setA B ((B.o h).at_ + (B.o h).count * 2 ^ ((B.o h).code - 2) / 8) (B.A.getD ((B.o h).at_ + (B.o h).count * 2 ^ ((B.o h).code - 2) / 8) 0 ||| 2 ^ ((B.o h).count * 2 ^ ((B.o h).code - 2) % 8 * 8))) := by
  have hg := i.good h h1 hn
  have hcnt : (B.o h).count ≤ 128 := by rcases hg with h | h | h <;> omega
  obtain ⟨w1, w2⟩ := words_scalar hk hc1 hc2 hcnt
  rw [w2] at w1
  have hS : ¬ isSt (B.o h) := fun hx => by have := hx.2; omega
  have hhi := inv_hi i hn
  unfold hi at hhi
  rw [if_neg hS, w1] at hhi
  obtain ⟨N, hN⟩ : ∃ N, N = (B.o h).count * 2 ^ ((B.o h).code - 2) := ⟨_, rfl⟩
  rw [← hN] at h8 hhi ⊢
  have hlt : (B.o h).at_ + N / 8 < B.A.length := by omega
  refine ⟨hcnt, hlt, fun hc => ?_⟩
  obtain ⟨hev, hro, e, he, hdp, u, hu, hsl, hz⟩ := hc
  have hact := act_of hev.1.2 hev.2.1.2 he (x := h) (.inr (by show ¬ (B.o h).kind = 1; omega)) hd
  rcases hz h h1 hn with hx | ⟨z1, z2, z3⟩
  · exact hact (.inl hx)
  · have hp := z3 hd hS
    have e1 : (setA B ((B.o h).at_ + N / 8) (B.A.getD ((B.o h).at_ + N / 8) 0 ||| 2 ^ (N % 8 * 8))).o h = B.o h := rfl
    rw [e1] at hp
    unfold paddedP at hp
    rw [w2, ← hN] at hp
    rcases hp with hp | hp | ⟨p1, p2⟩
    · exact hp hk
    · exact h8 hp
    · rw [setA_getD hlt] at p2
      have hb : (B.A.getD ((B.o h).at_ + N / 8) 0 ||| 2 ^ (N % 8 * 8)).testBit (N % 8 * 8) = true := by
        rw [Nat.testBit_or, Nat.testBit_two_pow_self, Bool.or_true]
      have hge := Nat.ge_two_pow_of_testBit hb
      have hpos : 0 < 2 ^ (N % 8 * 8) := Nat.two_pow_pos _
      have := Nat.div_pos hge hpos
      omega

theorem inv_b14 (i : InvC B) (ok : B.Ok) {h : Nat} (h1 : 1 ≤ h) (hn : h < B.obj.length) (hd : B.dead.getD h false = false) (hS : isSt (B.o h)) :
    1 ≤ (B.o h).at_ ∧ (B.o h).at_ - 1 < B.A.length ∧ ¬ checkP (setA B ((B.o h).at_ - 1) ((B.A.getD ((B.o h).at_ - 1) 0 + 4294967296) % 18446744073709551616)) := by
  have hat := i.at1 h h1 hn hS
  have hhi := inv_hi i hn
  rw [(lo_st hS).2] at hhi
  have hlt : (B.o h).at_ - 1 < B.A.length := by omega
  refine ⟨hat, hlt, fun hc => ?_⟩
  obtain ⟨hev, hro, e, he, hdp, u, hu, hsl, hz⟩ := hc
  have hact := act_of hev.1.2 hev.2.1.2 he (x := h) (.inr (by show ¬ (B.o h).kind = 1; have := hS.1; omega)) hd
  have hA := i.even.1.2
  rcases hz h h1 hn with hx | ⟨z1, z2, z3⟩
  · exact hact (.inl hx)
  · have hp := z2 hd hS
    have e1 : ∀ v, (setA B ((B.o h).at_ - 1) v).o h = B.o h := fun v => rfl
    rw [e1, first_isSt hS hat (by omega), setA_getD hlt, i.tag h h1 hn hd hS] at hp
    have := mkTag_lt (B.o h).count (B.o h).data (B.o h).ptrs
    omega

theorem inv_bitesW (i : InvC B) (ok : B.Ok) : BitesW B :=
  ⟨i.even, i.up, fun h hn => inv_slotFit i hn, fun h via a h1 hn hN hd => inv_b10 i h1 hn hN hd, fun h g h1 hgh hn _ _ _ _ hd hdg hu hc => inv_b11 i h1 hgh hn hd hdg hu hc,
    fun h via a hn hN => inv_b12 i hn hN, fun h h1 hn hd hk hc1 hc2 h8 => inv_b13 i h1 hn hd hk hc1 hc2 h8, fun h h1 hn hd hS => inv_b14 i ok h1 hn hd hS⟩
end
end Go.Proofs.YgcfaaGreat
