import Derived.Test.YgcfaaGreatRooted
import Derived.Test.YgcfaaGreatRowLaw
import Derived.Test.YgcfaaGreatSlotted
import Derived.Test.YgcfaaGreatZeros
namespace Go.Proofs.YgcfaaGreat
open Go.RowKit Bits Bd
set_option linter.unusedVariables false
set_option maxRecDepth 100000
set_option linter.unusedSimpArgs false
attribute [local go_sem] World.cell?_ext World.frozen?_ext

namespace Bd
def zset : List Nat := [0, 0, 0, 0]
/-- Builder.Check -/
def checkP (B : Bld) : Prop := evenP B ∧ rootedP B ∧ ∃ e, rowGo B B.obj.length 1 1 zset = some e ∧ deepP B e ∧ ∃ u, hangGo B e (B.obj.length - 1) 1 zset = some u ∧ slottedP B u ∧ zerosP B e
end Bd
theorem zset_lt (i : Nat) : zset.getD i 0 < 18446744073709551616 := by
  unfold zset
  match i with
  | 0 => decide
  | 1 => decide
  | 2 => decide
  | 3 => decide
  | i + 4 => simp
theorem tb_zset (x : Nat) : tb zset x = false := by
  unfold tb zset
  have : ∀ j, ([0, 0, 0, 0] : List Nat).getD j 0 = 0 := fun j => by
    match j with
    | 0 => rfl
    | 1 => rfl
    | 2 => rfl
    | 3 => rfl
    | j + 4 => simp
  rw [this]; simp
/-- .. with its capacity and its blocks. -/
theorem HB.see2 {w : World} {p : Nat} {h : Nat → Value} {B : Bld} (hb : HB w p h B) (hev : evenP B) : ∃ a c, See w p B a c ∧ B.A.length ≤ c 0 ∧ c 0 ≤ 9223372036854775807 := by
  obtain ⟨a, c, s⟩ := hb.see hev
  refine ⟨a, c, s, ?_⟩
  have h1 := s.f0
  have h2 := (hb.cell 0 (by omega)).1
  rw [show fOff 0 = 0 from rfl, h1, Option.some.injEq] at h2
  have ho := hb.own 0 (by omega)
  rw [← h2] at ho
  rcases ho.2 with ⟨hv, _⟩ | ⟨g, cap, cur, hv, _, _, hc, hm, _⟩
  · cases hv
  · cases hv
    exact ⟨hc, by simp only [maxLen] at hm; omega⟩

set_option maxHeartbeats 16000000 in
theorem check_calls {w : World} {p : Nat} {hh : Nat → Value} {B : Bld} (hb : HB w p hh B) (hA : B.A.length ≤ 140737488355328) (hO : B.obj.length ≤ 140737488355328) :
    Calls Faag.prog 5 #[.pointer (some ⟨p, 0, none⟩)] w fun e w' => RetB e (checkP B) ∧ Below w.heap.size w w' := by
  have hev0 := hide (even_calls hb hA hO)
  obtain ⟨R, hR⟩ : ∃ R, R = checkP B := ⟨_, rfl⟩
  rw [← hR]
  unfold checkP at hR
  have HR := hide hR
  have HB0 := hide hb
  clear hR hb hA hO
  go_enter Faag.func5, Faag.ntmps5
  go_wp2_with fail
  refine (hev0.out).mono ?_
  rintro r w' ⟨⟨r1, rfl, hr1⟩, e1⟩
  rw [e1]
  clear e1 hev0
  cases r1 with
  | false =>
    have HN := hide (show ¬ R from by rw [HR.out]; exact fun h => by have := hr1.2 h.1; cases this)
    clear hr1 HR
    go_wp2_with fail
    go_ret
    exact ⟨RetB.of ⟨fun h => Bool.noConfusion h, fun h => (HN.out h).elim⟩, Below.refl _ _⟩
  | true =>
    have hev := hr1.1 rfl
    have HEV := hide hev
    obtain ⟨a, c, see, hcap, hc63⟩ := HB0.out.see2 hev
    have hrt := hide (rooted_calls see HB0.out.ok hev)
    have HSEE := hide see
    have HLT := hide (see.lt hev)
    have HC := hide (And.intro hcap hc63)
    clear hr1 hev see hcap hc63
    go_wp2_with fail
    refine (hrt.out).mono ?_
    rintro r w1 ⟨⟨r2, rfl, hr2⟩, hb1⟩
    cases r2 with
    | false =>
      have HN := hide (show ¬ R from by rw [HR.out]; exact fun h => by have := hr2.2 h.2.1; cases this)
      clear hr2 HR
      have HB1 := hide hb1
      go_wp2_with fail
      go_ret
      exact ⟨RetB.of ⟨fun h => Bool.noConfusion h, fun h => (HN.out h).elim⟩, HB1.out⟩
    | true =>
      have HRT := hide (hr2.1 rfl)
      have h1 := hide (show Below w.heap.size w ((w1.alloc (.cells #[.int .u64 0, .int .u64 0, .int .u64 0, .int .u64 0] 57)).alloc (.cells #[.int .u64 0, .int .u64 0, .int .u64 0, .int .u64 0] 57)) from hb1.step (below_two w1 _ _))
      have hsz := hb1.size
      have s3 := hide (show SetAt ((w1.alloc (.cells #[.int .u64 0, .int .u64 0, .int .u64 0, .int .u64 0] 57)).alloc (.cells #[.int .u64 0, .int .u64 0, .int .u64 0, .int .u64 0] 57)) w1.heap.size zset from
        ⟨(RowAt.of_alloc w1 (U zset) 57).alloc _, rfl, zset_lt⟩)
      have s4 := hide (show SetAt ((w1.alloc (.cells #[.int .u64 0, .int .u64 0, .int .u64 0, .int .u64 0] 57)).alloc (.cells #[.int .u64 0, .int .u64 0, .int .u64 0, .int .u64 0] 57)) (w1.heap.size + 1) zset from
        ⟨by have := RowAt.of_alloc (w1.alloc (.cells #[.int .u64 0, .int .u64 0, .int .u64 0, .int .u64 0] 57)) (U zset) 57
            rw [World.size_alloc] at this
            exact this, rfl, zset_lt⟩)
      clear hr2 hrt hb1
      go_wp2_with fail
      generalize World.alloc (World.alloc w1 _) _ = W2 at *
      generalize w1.heap.size = be at *
      have SE2 := hide (HSEE.out.below h1.out)
      have hrow := hide (row_calls SE2.out HB0.out.ok HEV.out be zset s3.out ⟨by have := HLT.out.1; omega, fun i hi => by have := HLT.out.2 i hi; omega⟩)
      obtain ⟨RO, hRO⟩ : ∃ o, o = rowGo B B.obj.length 1 1 zset := ⟨_, rfl⟩
      rw [← hRO] at hrow HR
      have HRO := hide hRO
      clear hRO
      refine (hrow.out).mono ?_
      rintro r w3 ⟨hm3, hk3⟩
      have hb3 : Below w.heap.size w w3 := h1.out.trans (hk3.below h1.out.size (fun k hk e => by omega))
      clear hrow
      cases RO with
      | none =>
        dsimp only at hm3
        subst hm3
        have HN := hide (show ¬ R from by rw [HR.out]; exact fun h => by obtain ⟨_, _, e, he, _⟩ := h; cases he)
        have HB3 := hide hb3
        clear HR hb3 hk3
        go_wp2_with fail
        go_ret
        exact ⟨RetB.of ⟨fun h => Bool.noConfusion h, fun h => (HN.out h).elim⟩, HB3.out⟩
      | some e =>
        dsimp only at hm3
        obtain ⟨rfl, hse⟩ := hm3
        have s43 := hide (s4.out.keeps hk3 (by omega))
        have hsound := rowGo_sound HEV.out.1.2 HEV.out.2.1.2 _ _ _ _ _ rfl (Nat.le_refl 1) HRO.out.symm
        have HRF := hide hsound.2.1
        have HR3 := hide (show R ↔ deepP B e ∧ ∃ u, hangGo B e (B.obj.length - 1) 1 zset = some u ∧ slottedP B u ∧ zerosP B e from by
          rw [HR.out]
          exact ⟨fun h => by
            obtain ⟨_, _, e', he, h⟩ := h
            cases he
            exact h, fun h => ⟨HEV.out, HRT.out, e, rfl, h⟩⟩)
        have HB3 := hide hb3
        have SE3 := hide hse
        have hdp := hide (deep_calls (HSEE.out.below hb3) HB0.out.ok HEV.out HRT.out.2 be e hse)
        clear hsound hse hb3 hk3 HR s3 s4 SE2 h1
        go_wp2_with fail
        refine (hdp.out).mono ?_
        rintro r w4 ⟨⟨r4, rfl, hr4⟩, hb4⟩
        have HB4 := hide (HB3.out.step hb4)
        have SE4 := hide (SE3.out.below hb4)
        have s44 := hide (s43.out.below hb4)
        clear hb4 hdp SE3 s43
        cases r4 with
        | false =>
          have HN := hide (show ¬ R from by rw [HR3.out]; exact fun h => by have := hr4.2 h.1; cases this)
          clear HR3 hr4
          go_wp2_with fail
          go_ret
          exact ⟨RetB.of ⟨fun h => Bool.noConfusion h, fun h => (HN.out h).elim⟩, HB4.out⟩
        | true =>
          have HD4 := hide (hr4.1 rfl)
          have hat : ∀ x, x < B.obj.length → (B.o x).at_ ≤ 60000 := fun x hx => by
            by_cases h0 : x = 0
            · subst h0; rw [HRT.out.1.1]; unfold firstPtr; dsimp only; omega
            · have := (HRF.out x (by omega) hx).at_; omega
          have hhg := hide (hangs_calls (HB0.out.below HB4.out) HEV.out HRT.out.2 hat be (be + 1) e zset SE4.out s44.out (by omega) (HB0.out.not_new (by omega)))
          obtain ⟨RU, hRU⟩ : ∃ o, o = hangGo B e (B.obj.length - 1) 1 zset := ⟨_, rfl⟩
          rw [← hRU] at hhg HR3
          have HRU := hide hRU
          have HAT := hide hat
          clear hRU hr4 hat
          go_wp2_with fail
          refine (hhg.out).mono ?_
          rintro r w5 ⟨hm5, hk5⟩
          have hb5 : Below w.heap.size w w5 := HB4.out.trans (hk5.below HB4.out.size (fun k hk e => by omega))
          clear hhg
          cases RU with
          | none =>
            dsimp only at hm5
            subst hm5
            have HN := hide (show ¬ R from by rw [HR3.out]; exact fun h => by obtain ⟨_, e, he, _⟩ := h; cases he)
            have HB5 := hide hb5
            clear HR3 hb5 hk5
            go_wp2_with fail
            go_ret
            exact ⟨RetB.of ⟨fun h => Bool.noConfusion h, fun h => (HN.out h).elim⟩, HB5.out⟩
          | some u =>
            dsimp only at hm5
            obtain ⟨rfl, hsu⟩ := hm5
            have HB5 := hide hb5
            have SU5 := hide hsu
            have SE5 := hide (SE4.out.keeps hk5 (by omega))
            have hsl := hide (slotted_calls (HSEE.out.below hb5) HB0.out.ok HEV.out (fun x hx => ⟨HAT.out x hx, by
              by_cases h0 : x = 0
              · subst h0; rw [HRT.out.1.1]; exact .inl rfl
              · have hf := HRF.out x (by omega) hx
                by_cases h6 : (B.o x).kind = 1 ∨ (B.o x).code ≠ 6
                · rcases h6 with h | h
                  · exact .inl h
                  · exact .inr (.inl h)
                · refine .inr (.inr ?_)
                  have h7 := hf.words
                  have h8 := hf.kind
                  unfold words at h7
                  rw [if_neg (by omega), if_neg (by omega)] at h7
                  split at h7
                  · omega
                  · omega⟩) (be + 1) u hsu)
            clear hsu hb5 hk5 HB4 SE4 s44
            go_wp2_with fail
            refine (hsl.out).mono ?_
            rintro r w6 ⟨⟨r6, rfl, hr6⟩, hb6⟩
            have HB6 := hide (HB5.out.step hb6)
            have SE6 := hide (SE5.out.below hb6)
            clear hb6 hsl SE5 SU5
            cases r6 with
            | false =>
              have HN := hide (show ¬ R from by rw [HR3.out]; exact fun ⟨_, u', he, h, _⟩ => Bool.noConfusion (hr6.2 (by cases he; exact h)))
              clear HR3 hr6
              go_wp2_with fail
              go_ret
              exact ⟨RetB.of ⟨fun h => Bool.noConfusion h, fun h => (HN.out h).elim⟩, HB6.out⟩
            | true =>
              have HSL := hide (hr6.1 rfl)
              have hz := hide (zeros_calls (HSEE.out.below HB6.out) HB0.out.ok HEV.out HC.out.1 HC.out.2 (fun x h1 hx => ⟨(HRF.out x h1 hx).fits, fun hs => by have := (words_isSt hs (HRF.out x h1 hx).words).2.2; omega⟩) be e SE6.out)
              clear hr6
              go_wp2_with fail
              refine (hz.out).mono ?_
              rintro r w7 ⟨⟨r7, rfl, hr7⟩, hb7⟩
              have HF := hide (show r7 = true ↔ R from by
                rw [hr7, HR3.out]
                exact ⟨fun h => ⟨HD4.out, u, rfl, HSL.out, h⟩, fun h => by
                  obtain ⟨_, u', he, _, h⟩ := h
                  exact h⟩)
              have HB7 := hide (HB6.out.step hb7)
              clear hr7 hb7 hz
              go_wp2_with fail
              go_ret
              exact ⟨RetB.of HF.out, HB7.out⟩
end Go.Proofs.YgcfaaGreat
