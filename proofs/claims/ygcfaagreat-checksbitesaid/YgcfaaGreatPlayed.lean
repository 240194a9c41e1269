import Derived.Test.YgcfaaGreatTurn
import Derived.Test.YgcfaaGreatMoDo
namespace Go.Proofs.YgcfaaGreat
open Go.RowKit Bits Bd
set_option linter.unusedVariables false
set_option maxRecDepth 100000
set_option linter.unusedSimpArgs false
attribute [local go_sem] World.cell?_ext World.frozen?_ext

section
variable {W wr w' : World} {p q ob : Nat} {row : List Value} {h g : Nat → Value} {B : Bld} {M : Mo}
/-- The model's Do. -/
theorem turn_mdo {op : Opn} (hop : op.Ok) (hs : op.s.size ≤ 9223372036854775807) (H : Turn5 W p q ob row wr) :
    Calls Faag.prog 16 #[.pointer (some ⟨q, 0, none⟩), .agg (opC op).toArray] wr (fun e w2 => (∃ rb : Bool, e = .returned (.bool rb)) ∧ Turn5 W p q ob row w2) := by
  obtain ⟨h, B, g, M, t, hl, r, n1, n2⟩ := H
  refine (mdo_calls t.hm t.im op hop hs).mono ?_
  rintro e w2 ⟨he, g2, M2, s2, v2⟩
  have hsz := t.bl.size
  refine ⟨he, h, B, g2, M2, ⟨t.hb.keeps s2.st.kp (fun j hj hx => t.dj j hj hx), s2.hm, t.ib, v2, t.bl.trans (s2.st.kp.below hsz (fun k hk hx => by have := t.fm k hx; omega)), t.fb, fun k hk => ?_, fun k hk hx => ?_⟩, Nat.lt_of_lt_of_le hl s2.st.kp.size, r.keeps s2.st.kp (fun _ e => n2 e), n1, fun e => ?_⟩
  · rcases s2.st.bl k hk with z | z
    · exact t.fm k z
    · omega
  · rcases s2.st.bl k hx with z | z
    · exact t.dj k hk z
    · have := t.hb.lt hk; omega
  · rcases s2.st.bl ob e with z | z
    · exact n2 z
    · omega

end

set_option maxHeartbeats 16000000 in
theorem played_calls (a : Option Addr) (len cap : Nat) (hl : len ≤ cap) (hcap : cap ≤ 9223372036854775807) (ops : Nat → Opn) (W : World)
    (hops : ∀ i, i < len → (ops i).Ok ∧ (ops i).s.size ≤ 9223372036854775807)
    (hcells : 0 < len → ∃ b off, a = some ⟨b, off, none⟩ ∧ b < W.heap.size ∧ ∀ i, i < len → ∀ j u, (opC (ops i))[j]? = some u → W.cell? ⟨b, off + i * 8 + j, none⟩ = some u) :
    Calls Faag.prog 4 #[.slice a len cap] W fun e w' => ∃ p q, e = .returned (.tuple #[.pointer (some ⟨p, 0, none⟩), .pointer (some ⟨q, 0, none⟩)]) ∧ Turn4 W p q w' := by
  have HC := hide hcells
  have HO := hide hops
  clear hcells hops
  obtain ⟨n, hn, hnl, hN64, hn64⟩ : ∃ n, n ≤ len ∧ n ≤ cap ∧ n ≤ 64 ∧ ((len = n ∧ (len : Int) ≤ 64) ∨ (n = 64 ∧ ¬ (len : Int) ≤ 64)) := by
    by_cases h : len ≤ 64
    · exact ⟨len, Nat.le_refl _, hl, h, .inl ⟨rfl, by omega⟩⟩
    · exact ⟨64, by omega, by omega, by omega, .inr ⟨rfl, by omega⟩⟩
  rcases hn64 with ⟨rfl, h64⟩ | ⟨rfl, h64⟩
  all_goals
    go_enter Faag.func4, Faag.ntmps4
    go_wp2_with fail
    refine new_calls.mono ?_
    rintro e w0 ⟨p, h0, rfl, hb0, bl0, fr0⟩
    have HB0 := hide (And.intro hb0 (And.intro bl0 fr0))
    clear hb0 bl0 fr0
    go_wp2_with fail
    refine mnew_calls.mono ?_
    rintro e w1 ⟨q, g0, rfl, hm0, bl1, fr1⟩
    have HT := hide (turn_new HB0.out.1 HB0.out.2.1 HB0.out.2.2 hm0 bl1 fr1)
    clear hm0 bl1 fr1 HB0
    go_wp2_with fail
  · go_loopw [16] (fun z wr => ∃ k : Nat, k ≤ len ∧ z = .int .i64 k ∧ Hid (Turn4 W p q wr)) (fun z _ => len - (intOf z).toNat)
    case atStart => exact ⟨0, by omega, rfl, HT⟩
    case round =>
      obtain ⟨k, hk, rfl, HT1⟩ := hrel
      by_cases hlt : k < len
      · obtain ⟨b, off, rfl, hbW, hcs⟩ := HC.out (by omega)
        obtain ⟨hop, hsz⟩ := HO.out k (by omega)
        have hcs := hcs k (by omega)
        generalize ops k = op at hop hsz hcs
        have bl : Below W.heap.size W wr := HT1.out.bl
        have cs : ∀ j u, (opC op)[j]? = some u → wr.cell? ⟨b, off + k * 8 + j, none⟩ = some u := fun j u hu => (bl.cell (p := ⟨b, off + k * 8 + j, none⟩) hbW).trans (hcs j u hu)
        have hbr : b < wr.heap.size := Nat.lt_of_lt_of_le hbW bl.size
        clear hcs bl
        have HD := hide (fun (wr : World) (ob : Nat) (row : List Value) (H : Turn5 W p q ob row wr) => turn_do hop hsz H)
        have HE := hide (fun (wr : World) (ob : Nat) (row : List Value) (H : Turn5 W p q ob row wr) => turn_mdo hop hsz H)
        have HX := hide (HT1.out.box (opC op) 55)
        obtain ⟨okind, x, i, X, Y, N, V, st⟩ := op
        have d0 := cs 0 _ rfl
        have d1 := cs 1 _ rfl
        have d2 := cs 2 _ rfl
        have d3 := cs 3 _ rfl
        have d4 := cs 4 _ rfl
        have d5 := cs 5 _ rfl
        have d6 := cs 6 _ rfl
        have d7 := cs 7 _ rfl
        simp only [Nat.add_zero] at d0
        clear cs hop hsz HT1 HT HC HO
        unfold opC at HD HE HX
        go_wp2_with fail
        generalize World.alloc wr _ = w1 at HX ⊢
        clear d0 d1 d2 d3 d4 d5 d6 d7
        generalize wr.heap.size = ob at HX ⊢
        have BX := HX.out.rowAt
        have d0 := BX.at_ (i := 0) rfl
        have d1 := BX.at_ (i := 1) rfl
        have d2 := BX.at_ (i := 2) rfl
        have d3 := BX.at_ (i := 3) rfl
        have d4 := BX.at_ (i := 4) rfl
        have d5 := BX.at_ (i := 5) rfl
        have d6 := BX.at_ (i := 6) rfl
        have d7 := BX.at_ (i := 7) rfl
        simp only [Nat.zero_add] at d0 d1 d2 d3 d4 d5 d6 d7
        clear BX
        go_wp2_with fail
        refine (HD.out _ _ _ HX.out).mono ?_
        rintro e w2 ⟨⟨rb, rfl⟩, H2⟩
        have HX2 := hide H2
        clear H2 HX d0 d1 d2 d3 d4 d5 d6 d7 HD
        have BX := HX2.out.rowAt
        have d0 := BX.at_ (i := 0) rfl
        have d1 := BX.at_ (i := 1) rfl
        have d2 := BX.at_ (i := 2) rfl
        have d3 := BX.at_ (i := 3) rfl
        have d4 := BX.at_ (i := 4) rfl
        have d5 := BX.at_ (i := 5) rfl
        have d6 := BX.at_ (i := 6) rfl
        have d7 := BX.at_ (i := 7) rfl
        simp only [Nat.zero_add] at d0 d1 d2 d3 d4 d5 d6 d7
        clear BX
        go_wp2_with fail
        refine (HE.out _ _ _ HX2.out).mono ?_
        rintro e w3 ⟨⟨rb2, rfl⟩, H3⟩
        have HX3 := hide H3.four
        clear H3 HX2 d0 d1 d2 d3 d4 d5 d6 d7 HE
        go_wp2_with fail
        go_roundw
        case rel => exact ⟨k + 1, by omega, by go_num, HX3⟩
        case measure => simp [intOf]; omega
      · go_wp2_with fail
        refine bodyPost_ret (v := .tuple #[.pointer (some ⟨p, 0, none⟩), .pointer (some ⟨q, 0, none⟩)]) (by simp [results, Faag.results4, go_sem]) rfl ?_
        exact ⟨p, q, rfl, HT1.out⟩
  · go_loopw [16] (fun z wr => ∃ k : Nat, k ≤ 64 ∧ z = .int .i64 k ∧ Hid (Turn4 W p q wr)) (fun z _ => 64 - (intOf z).toNat)
    case atStart => exact ⟨0, by omega, rfl, HT⟩
    case round =>
      obtain ⟨k, hk, rfl, HT1⟩ := hrel
      by_cases hlt : k < 64
      · obtain ⟨b, off, rfl, hbW, hcs⟩ := HC.out (by omega)
        obtain ⟨hop, hsz⟩ := HO.out k (by omega)
        have hcs := hcs k (by omega)
        generalize ops k = op at hop hsz hcs
        have bl : Below W.heap.size W wr := HT1.out.bl
        have cs : ∀ j u, (opC op)[j]? = some u → wr.cell? ⟨b, off + k * 8 + j, none⟩ = some u := fun j u hu => (bl.cell (p := ⟨b, off + k * 8 + j, none⟩) hbW).trans (hcs j u hu)
        have hbr : b < wr.heap.size := Nat.lt_of_lt_of_le hbW bl.size
        clear hcs bl
        have HD := hide (fun (wr : World) (ob : Nat) (row : List Value) (H : Turn5 W p q ob row wr) => turn_do hop hsz H)
        have HE := hide (fun (wr : World) (ob : Nat) (row : List Value) (H : Turn5 W p q ob row wr) => turn_mdo hop hsz H)
        have HX := hide (HT1.out.box (opC op) 55)
        obtain ⟨okind, x, i, X, Y, N, V, st⟩ := op
        have d0 := cs 0 _ rfl
        have d1 := cs 1 _ rfl
        have d2 := cs 2 _ rfl
        have d3 := cs 3 _ rfl
        have d4 := cs 4 _ rfl
        have d5 := cs 5 _ rfl
        have d6 := cs 6 _ rfl
        have d7 := cs 7 _ rfl
        simp only [Nat.add_zero] at d0
        clear cs hop hsz HT1 HT HC HO
        unfold opC at HD HE HX
        go_wp2_with fail
        generalize World.alloc wr _ = w1 at HX ⊢
        clear d0 d1 d2 d3 d4 d5 d6 d7
        generalize wr.heap.size = ob at HX ⊢
        have BX := HX.out.rowAt
        have d0 := BX.at_ (i := 0) rfl
        have d1 := BX.at_ (i := 1) rfl
        have d2 := BX.at_ (i := 2) rfl
        have d3 := BX.at_ (i := 3) rfl
        have d4 := BX.at_ (i := 4) rfl
        have d5 := BX.at_ (i := 5) rfl
        have d6 := BX.at_ (i := 6) rfl
        have d7 := BX.at_ (i := 7) rfl
        simp only [Nat.zero_add] at d0 d1 d2 d3 d4 d5 d6 d7
        clear BX
        go_wp2_with fail
        refine (HD.out _ _ _ HX.out).mono ?_
        rintro e w2 ⟨⟨rb, rfl⟩, H2⟩
        have HX2 := hide H2
        clear H2 HX d0 d1 d2 d3 d4 d5 d6 d7 HD
        have BX := HX2.out.rowAt
        have d0 := BX.at_ (i := 0) rfl
        have d1 := BX.at_ (i := 1) rfl
        have d2 := BX.at_ (i := 2) rfl
        have d3 := BX.at_ (i := 3) rfl
        have d4 := BX.at_ (i := 4) rfl
        have d5 := BX.at_ (i := 5) rfl
        have d6 := BX.at_ (i := 6) rfl
        have d7 := BX.at_ (i := 7) rfl
        simp only [Nat.zero_add] at d0 d1 d2 d3 d4 d5 d6 d7
        clear BX
        go_wp2_with fail
        refine (HE.out _ _ _ HX2.out).mono ?_
        rintro e w3 ⟨⟨rb2, rfl⟩, H3⟩
        have HX3 := hide H3.four
        clear H3 HX2 d0 d1 d2 d3 d4 d5 d6 d7 HE
        go_wp2_with fail
        go_roundw
        case rel => exact ⟨k + 1, by omega, by go_num, HX3⟩
        case measure => simp [intOf]; omega
      · go_wp2_with fail
        refine bodyPost_ret (v := .tuple #[.pointer (some ⟨p, 0, none⟩), .pointer (some ⟨q, 0, none⟩)]) (by simp [results, Faag.results4, go_sem]) rfl ?_
        exact ⟨p, q, rfl, HT1.out⟩
end Go.Proofs.YgcfaaGreat
