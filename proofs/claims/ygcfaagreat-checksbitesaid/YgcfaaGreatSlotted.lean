import Derived.Test.YgcfaaGreatMarkS
namespace Go.Proofs.YgcfaaGreat
open Go.RowKit Bits Bd
set_option linter.unusedVariables false
set_option maxRecDepth 100000
set_option linter.unusedSimpArgs false
attribute [local go_sem] World.cell?_ext World.frozen?_ext

namespace Bd
/-- The pointer words of one object put into a set. -/
def want1 (p : Ptr) (s : List Nat) : List Nat := if p.kind = 1 then markGo true p.ptrs (p.at_ + p.data) s else if p.code = 6 then markGo true p.count p.at_ s else s
def wantGo (B : Bld) : Nat → Nat → List Nat → List Nat
  | 0, _, s => s
  | k + 1, h, s => wantGo B k (h + 1) (if B.dead.getD h false = true then s else want1 (B.o h) s)
/-- Builder.slotted -/
def slottedP (B : Bld) (hung : List Nat) : Prop :=
  wantGo B B.obj.length 0 [0, 0, 0, 0] = B.slot ∧ ∀ x, x < B.A.length → ¬ B.A.getD x 0 = 0 → tb (wantGo B B.obj.length 0 [0, 0, 0, 0]) x = true → tb hung x = true
end Bd
/-- Two sets of four words compared. -/
def fourEq (a b c d a' b' c' d' : Int) : Bool := decide (a = a' ∧ b = b' ∧ c = c' ∧ d = d')
theorem equalIn_four' (a b c d a' b' c' d' : Int) (w : World) :
    (Op.equalIn 10000 32 (.agg #[.int .u64 a, .int .u64 b, .int .u64 c, .int .u64 d]) (.agg #[.int .u64 a', .int .u64 b', .int .u64 c', .int .u64 d'])).run Faag.prog w = .ok (fourEq a b c d a' b' c' d') w := equalIn_four a b c d a' b' c' d' w
theorem equalIn_obj4 (P : Program) (d : Nat) (t : TypeId) (a b : Value) (w : World) (ht : t = 32) : (Op.equalIn d t a b).run P w = eqObj P d t a b w := rfl
theorem eqObj_four (a b c d a' b' c' d' : Int) (w : World) : eqObj Faag.prog 10000 32 (.agg #[.int .u64 a, .int .u64 b, .int .u64 c, .int .u64 d]) (.agg #[.int .u64 a', .int .u64 b', .int .u64 c', .int .u64 d']) w = .ok (fourEq a b c d a' b' c' d') w := equalIn_four a b c d a' b' c' d' w
attribute [local go_sem] equalIn_obj4 eqObj_four
theorem four_form {s : List Nat} (h : s.length = 4) : s = [s.getD 0 0, s.getD 1 0, s.getD 2 0, s.getD 3 0] := by
  match s, h with
  | [a, b, c, d], _ => rfl
theorem take_bit (v m : Nat) (hm : m < 64) : takeN v m 1 = (v.testBit m).toNat := by
  unfold takeN
  rw [if_pos (by omega), Nat.testBit_eq_decide_div_mod_eq]
  have : v / 2 ^ m % 2 < 2 := Nat.mod_lt _ (by omega)
  rw [show (2 : Nat) ^ 1 = 2 by rfl]
  generalize v / 2 ^ m % 2 = q at this
  match q, this with
  | 0, _ => rfl
  | 1, _ => rfl

set_option maxHeartbeats 16000000 in
theorem slotted_calls {w : World} {p : Nat} {B : Bld} {a c : Nat → Nat} (see : See w p B a c) (ok : B.Ok) (hev : evenP B) (hat : ∀ x, x < B.obj.length → (B.o x).at_ ≤ 60000 ∧ ((B.o x).kind = 1 ∨ (B.o x).code ≠ 6 ∨ (B.o x).count ≤ 5000))
    (bh : Nat) (hung : List Nat) (hh : SetAt w bh hung) :
    Calls Faag.prog 22 #[.pointer (some ⟨p, 0, none⟩), .pointer (some ⟨bh, 0, none⟩)] w fun e w' => RetB e (slottedP B hung) ∧ Below w.heap.size w w' := by
  have hlt := see.lt hev
  obtain ⟨⟨a1, a2⟩, ⟨a3, a4⟩, a5, a6, a7, a8⟩ := hev
  obtain ⟨R, hR⟩ : ∃ R, R = slottedP B hung := ⟨_, rfl⟩
  rw [← hR]
  unfold slottedP at hR
  obtain ⟨WN, hWN⟩ : ∃ W, W = wantGo B B.obj.length 0 [0, 0, 0, 0] := ⟨_, rfl⟩
  rw [← hWN] at hR
  have HR := hide hR
  have HWN := hide hWN
  have HS := hide see
  have HT := hide hat
  have HOK := hide ok
  have HHU := hide hh
  have HL := hide (And.intro a5 (And.intro a6 (And.intro a7 a8)))
  clear hR hWN hat ok hh a5 a6 a7 a8
  have f1 := see.f1
  have hp := hlt.1
  have hz := hide (show SetAt (w.alloc (.cells #[.int .u64 0, .int .u64 0, .int .u64 0, .int .u64 0] 32)) w.heap.size [0, 0, 0, 0] from by
    exact ⟨RowAt.of_alloc w (U [0, 0, 0, 0]) _, rfl, fun i => by match i with | 0 => decide | 1 => decide | 2 => decide | 3 => decide | i + 4 => simp⟩)
  clear see
  generalize hno : B.obj.length = no at *
  have HNO := hide hno
  clear hno hlt
  go_enter Faag.func22, Faag.ntmps22
  go_wp2_with fail
  have hBl := hide ((Below.refl w.heap.size w).alloc (Nat.le_refl _) (.cells #[.int .u64 0, .int .u64 0, .int .u64 0, .int .u64 0] 32))
  obtain ⟨b5, hb5⟩ : ∃ b, b = w.heap.size := ⟨_, rfl⟩
  rw [← hb5] at hz ⊢
  have HB5 := hide hb5
  clear hb5
  go_loopw [15] (fun q wr => ∃ k : Nat, k ≤ no ∧ q = .int .i64 k ∧ Hid (Below w.heap.size w wr ∧ ∃ s, SetAt wr b5 s ∧ WN = wantGo B (no - k) k s)) (fun q _ => no - (intOf q).toNat)
  case atStart => exact ⟨0, by omega, rfl, hide ⟨hBl.out, _, hz.out, HWN.out⟩⟩
  case round =>
    obtain ⟨k, hk, rfl, H⟩ := hrel
    obtain ⟨hbw, s, hs, hW⟩ := H.out
    have SE := hide (HS.out.below hbw)
    by_cases hlt : k < no
    · have hkm : no - k = (no - (k + 1)) + 1 := by omega
      rw [hkm] at hW
      rw [wantGo] at hW
      have f5 := SE.out.f5
      rw [HL.out.2.2.2] at f5
      have z1 := SE.out.deads k (by have := HL.out.2.2.2; omega)
      have bo := SE.out.objs k (by rw [HNO.out]; omega)
      have hpk := HT.out k hlt
      have lo := HOK.out.obj k
      change (B.o k).Ok at lo
      have HBW := hide hbw
      have HST := hide hs
      generalize B.dead.getD k false = dk at *
      generalize B.o k = P at *
      unfold want1 at hW
      obtain ⟨kind, at_, data, ptrs, code, count⟩ := P
      have d0 := bo 0 _ rfl
      have d1 := bo 1 _ rfl
      have d2 := bo 2 _ rfl
      have d3 := bo 3 _ rfl
      have d4 := bo 4 _ rfl
      have d5 := bo 5 _ rfl
      obtain ⟨l1, l2, l3, l4, l5, l6⟩ := lo
      dsimp only at d0 d1 d2 d3 d4 d5 l1 l2 l3 l4 l5 l6 hW hpk
      simp only [Nat.add_zero] at d0
      have hpw : p < wr.heap.size := lt_of_cell f5
      have hg1 : a 1 < wr.heap.size := lt_of_cell d0
      have hg5 : a 5 < wr.heap.size := lt_of_cell z1
      have HW := hide hW
      have hBA := hide ((Below.refl wr.heap.size wr).alloc (Nat.le_refl _) (.cells #[.int .u8 (kind : Int), .int .u16 (at_ : Int), .int .u8 (data : Int), .int .u8 (ptrs : Int), .int .u8 (code : Int), .int .u16 (count : Int)] 62))
      clear hbw hs H bo hW
      cases dk with
      | true =>
        have HW2 := hide (show WN = wantGo B (no - (k + 1)) (k + 1) s from by rw [HW.out]; simp)
        go_wp2_with fail
        go_roundw
        case rel => exact ⟨k + 1, by omega, by go_num, hide ⟨HBW.out.step hBA.out, s, HST.out.below hBA.out, HW2.out⟩⟩
        case measure => simp [intOf]; omega
      | false =>
        by_cases hk1 : kind = 1
        · subst hk1
          have HW2 := hide (show WN = wantGo B (no - (k + 1)) (k + 1) (markGo true ((at_ + data + ptrs) % 65536 - (at_ + data)) (at_ + data) s) from by
            rw [HW.out, if_neg (by simp), if_pos rfl, show (at_ + data + ptrs) % 65536 - (at_ + data) = ptrs by omega])
          have hmk := hide (markSet_calls (at_ + data) ptrs (by omega) (by omega) true (HST.out.below hBA.out))
          go_wp2_with fail
          refine (hmk.out).mono ?_
          rintro r w2 ⟨rfl, hs2, hk2⟩
          have HF := hide (And.intro hs2 (show Below w.heap.size w w2 from (HBW.out.step hBA.out).trans (hk2.below (by have := HBW.out.size; rw [World.size_alloc]; omega) (fun j hj e => by have := HB5.out; omega))))
          clear hs2 hk2 hmk
          go_wp2_with fail
          go_roundw
          case rel => exact ⟨k + 1, by omega, by go_num, hide ⟨HF.out.2, _, HF.out.1, HW2.out⟩⟩
          case measure => simp [intOf]; omega
        · have gk : ((kind : Int) == 1) = false := by simp; omega
          by_cases hk6 : code = 6
          · subst hk6
            have HW2 := hide (show WN = wantGo B (no - (k + 1)) (k + 1) (markGo true ((at_ + count) % 65536 - at_) at_ s) from by
              rw [HW.out, if_neg (by simp), if_neg hk1, if_pos rfl, show (at_ + count) % 65536 - at_ = count by omega])
            have hmk := hide (markSet_calls at_ count (by omega) (by omega) true (HST.out.below hBA.out))
            go_wp2_with fail
            refine (hmk.out).mono ?_
            rintro r w2 ⟨rfl, hs2, hk2⟩
            have HF := hide (And.intro hs2 (show Below w.heap.size w w2 from (HBW.out.step hBA.out).trans (hk2.below (by have := HBW.out.size; rw [World.size_alloc]; omega) (fun j hj e => by have := HB5.out; omega))))
            clear hs2 hk2 hmk
            go_wp2_with fail
            go_roundw
            case rel => exact ⟨k + 1, by omega, by go_num, hide ⟨HF.out.2, _, HF.out.1, HW2.out⟩⟩
            case measure => simp [intOf]; omega
          · have g6 : ((code : Int) == 6) = false := by simp; omega
            have HW2 := hide (show WN = wantGo B (no - (k + 1)) (k + 1) s from by rw [HW.out, if_neg (by simp), if_neg hk1, if_neg hk6])
            go_wp2_with fail
            go_roundw
            case rel => exact ⟨k + 1, by omega, by go_num, hide ⟨HBW.out.step hBA.out, s, HST.out.below hBA.out, HW2.out⟩⟩
            case measure => simp [intOf]; omega
    · have h0 : no - k = 0 := by omega
      rw [h0] at hW
      rw [wantGo] at hW
      subst hW
      have f0 := SE.out.f0
      have s0 := SE.out.s0
      have s1 := SE.out.s1
      have s2 := SE.out.s2
      have s3 := SE.out.s3
      have hw4 := hs.four
      have r0 := hs.row.at_ (i := 0) (U_get (by omega))
      have r1 := hs.row.at_ (i := 1) (U_get (by omega))
      have r2 := hs.row.at_ (i := 2) (U_get (by omega))
      have r3 := hs.row.at_ (i := 3) (U_get (by omega))
      simp only [Nat.zero_add] at r0 r1 r2 r3
      have hFE := hide (show fourEq (WN.getD 0 0 : Nat) (WN.getD 1 0 : Nat) (WN.getD 2 0 : Nat) (WN.getD 3 0 : Nat) (B.slot.getD 0 0 : Nat) (B.slot.getD 1 0 : Nat) (B.slot.getD 2 0 : Nat) (B.slot.getD 3 0 : Nat) = true ↔ WN = B.slot from by
        unfold fourEq
        rw [decide_eq_true_eq]
        constructor
        · intro ⟨h1, h2, h3, h4⟩
          rw [four_form hw4, four_form HOK.out.four]
          simp only [List.cons.injEq, and_true]
          omega
        · intro h; rw [h]; exact ⟨rfl, rfl, rfl, rfl⟩)
      have HST := hide hs
      have HBW := hide hbw
      clear hs hbw H hw4
      have hpw : p < wr.heap.size := lt_of_cell f0
      obtain ⟨D, hD⟩ : ∃ D, fourEq (WN.getD 0 0 : Nat) (WN.getD 1 0 : Nat) (WN.getD 2 0 : Nat) (WN.getD 3 0 : Nat) (B.slot.getD 0 0 : Nat) (B.slot.getD 1 0 : Nat) (B.slot.getD 2 0 : Nat) (B.slot.getD 3 0 : Nat) = D := ⟨_, rfl⟩
      rw [hD] at hFE
      generalize WN.getD 0 0 = v0 at *
      generalize WN.getD 1 0 = v1 at *
      generalize WN.getD 2 0 = v2 at *
      generalize WN.getD 3 0 = v3 at *
      generalize B.slot.getD 0 0 = x0 at *
      generalize B.slot.getD 1 0 = x1 at *
      generalize B.slot.getD 2 0 = x2 at *
      generalize B.slot.getD 3 0 = x3 at *
      cases D with
      | false =>
        go_wp2_with fail
        refine wp_region_qd 5 (by kernel_rfl) (by kernel_rfl) ?_
        simp only [List.take_succ_cons, List.take_zero, List.drop_succ_cons, List.drop_zero]
        repeat (go_big_quiet_step (fail))
        refine wpQuiet_nil ?_
        rintro _ ⟨nq, rfl⟩
        go_wp2_with fail
        go_ret
        refine ⟨RetB.of ⟨fun h => Bool.noConfusion h, fun h => ?_⟩, HBW.out.step (below_drewN _ _)⟩
        rw [HR.out] at h
        exact hFE.out.2 h.1
      | true =>
        go_wp2_with fail
        refine wp_region_qd 5 (by kernel_rfl) (by kernel_rfl) ?_
        simp only [List.take_succ_cons, List.take_zero, List.drop_succ_cons, List.drop_zero]
        repeat (go_big_quiet_step (fail))
        refine wpQuiet_nil ?_
        rintro _ ⟨nq, rfl⟩
        go_wp2_with fail
        have HST2 := hide (HST.out.below (below_drewN wr nq))
        have HBW2 := hide (HBW.out.step (below_drewN wr nq))
        have HEQ := hide (hFE.out.1 (by simp))
        generalize wr.drewN nq = W2 at *
        clear HST HBW hFE hD r0 r1 r2 r3 s0 s1 s2 s3 f0 hpw SE
        obtain ⟨nA, hnA⟩ : ∃ n, n = B.A.length := ⟨_, rfl⟩
        rw [← hnA] at a1 a2 HR ⊢
        have HNA := hide hnA
        clear hnA
        go_loopw [63] (fun q wr => ∃ k : Nat, k ≤ nA ∧ q = .int .i64 k ∧ Hid (wr = W2) ∧ Hid (∀ x, x < k → ¬ B.A.getD x 0 = 0 → tb WN x = true → tb hung x = true)) (fun q _ => nA - (intOf q).toNat)
        case atStart => exact ⟨0, by omega, rfl, hide rfl, hide (fun x hx => by omega)⟩
        case round =>
          obtain ⟨k, hk, rfl, hww, hG⟩ := hrel
          obtain rfl := hww.out
          clear hww
          by_cases hlt : k < nA
          · have cA := (HS.out.below HBW2.out).words k (by rw [← HNA.out]; omega)
            have lA := HOK.out.A k
            have hwk := HST2.out.row.at_ (i := k / 64) (U_get (by rw [HST2.out.four]; omega))
            have lw := HST2.out.lt (k / 64)
            rw [Nat.zero_add] at hwk
            have htk := hide (take_calls (WN.getD (k / 64) 0) (k % 64) 1 lw (by omega) (by omega))
            rw [take_bit _ _ (by omega)] at htk
            have hhas := hide (has_calls bh k hung (by omega) _ (HHU.out.below HBW2.out))
            have HTB := hide (show tb WN k = (WN.getD (k / 64) 0).testBit (k % 64) from rfl)
            generalize (WN.getD (k / 64) 0).testBit (k % 64) = bt at *
            generalize WN.getD (k / 64) 0 = wv at *
            obtain ⟨th, hth⟩ : ∃ t, t = tb hung k := ⟨_, rfl⟩
            rw [← hth] at hhas
            have HTH := hide hth
            clear hth
            obtain ⟨v, hv⟩ : ∃ v, v = B.A.getD k 0 := ⟨_, rfl⟩
            rw [← hv] at cA lA
            have HV := hide hv
            clear hv
            by_cases hv0 : v = 0
            · subst hv0
              have HF := hide (show ¬ B.A.getD k 0 = 0 → tb WN k = true → tb hung k = true from fun h => absurd HV.out.symm h) 
              go_wp2_with fail
              go_roundw
              case rel => exact ⟨k + 1, by omega, by go_num, hide (by simp), hide (fun x hx => by
                by_cases hh : x < k
                · exact hG.out x hh
                · have : x = k := by omega
                  subst this; exact HF.out)⟩
              case measure => simp [intOf]; omega
            · have g0 : ((v : Int) != 0) = true := by simp; omega
              cases bt with
              | false =>
                have HF := hide (show ¬ B.A.getD k 0 = 0 → tb WN k = true → tb hung k = true from fun _ h => by rw [HTB.out] at h; cases h)
                go_wp2_with fail
                refine (htk.out _).mono ?_
                rintro r w' ⟨rfl, e1⟩
                rw [e1]
                clear e1
                go_wp2_with fail
                go_roundw
                case rel => exact ⟨k + 1, by omega, by go_num, hide (by simp), hide (fun x hx => by
                  by_cases hh : x < k
                  · exact hG.out x hh
                  · have : x = k := by omega
                    subst this; exact HF.out)⟩
                case measure => simp [intOf]; omega
              | true =>
                cases th with
                | true =>
                  have HF := hide (show ¬ B.A.getD k 0 = 0 → tb WN k = true → tb hung k = true from fun _ _ => HTH.out.symm)
                  go_wp2_with fail
                  refine (htk.out _).mono ?_
                  rintro r w' ⟨rfl, e1⟩
                  rw [e1]
                  clear e1
                  go_wp2_with fail
                  refine (hhas.out).mono ?_
                  rintro r w' ⟨rfl, e1⟩
                  rw [e1]
                  clear e1
                  go_wp2_with fail
                  go_roundw
                  case rel => exact ⟨k + 1, by omega, by go_num, hide (by simp), hide (fun x hx => by
                    by_cases hh : x < k
                    · exact hG.out x hh
                    · have : x = k := by omega
                      subst this; exact HF.out)⟩
                  case measure => simp [intOf]; omega
                | false =>
                  go_wp2_with fail
                  refine (htk.out _).mono ?_
                  rintro r w' ⟨rfl, e1⟩
                  rw [e1]
                  clear e1
                  go_wp2_with fail
                  refine (hhas.out).mono ?_
                  rintro r w' ⟨rfl, e1⟩
                  rw [e1]
                  clear e1
                  go_wp2_with fail
                  go_ret
                  refine ⟨RetB.of ⟨fun h => Bool.noConfusion h, fun h => ?_⟩, HBW2.out⟩
                  rw [HR.out] at h
                  have := h.2 k hlt (by rw [← HV.out]; exact hv0) HTB.out
                  rw [← HTH.out] at this
                  exact this
          · go_wp2_with fail
            go_ret
            refine ⟨RetB.of ⟨fun _ => ?_, fun _ => rfl⟩, HBW2.out⟩
            rw [HR.out]
            exact ⟨HEQ.out, fun x hx => hG.out x (by omega)⟩
end Go.Proofs.YgcfaaGreat
