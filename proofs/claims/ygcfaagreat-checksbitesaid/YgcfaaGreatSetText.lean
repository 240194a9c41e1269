import Derived.Test.YgcfaaGreatContent
namespace Go.Proofs.YgcfaaGreat
open Go.RowKit Bits Bd Utf
set_option linter.unusedVariables false
set_option maxRecDepth 100000
set_option linter.unusedSimpArgs false
attribute [local go_sem] World.cell?_ext World.frozen?_ext

theorem bytesGo_succ (z : Nat → Nat) (to : Nat) : ∀ (k i : Nat) (B : Bld), bytesGo z to (k + 1) i B = Bd.setA (bytesGo z to k i B) (to + (i + k) / 8) ((bytesGo z to k i B).A.getD (to + (i + k) / 8) 0 ||| z (i + k) * 2 ^ ((i + k) % 8 * 8))
  | 0, i, B => by simp [bytesGo]
  | k + 1, i, B => by
    rw [bytesGo, bytesGo_succ z to k (i + 1), show i + 1 + k = i + (k + 1) by omega]
    rfl
theorem bytesGo_len (z : Nat → Nat) (to : Nat) : ∀ (k i : Nat) (B : Bld), (bytesGo z to k i B).A.length = B.A.length
  | 0, i, B => rfl
  | k + 1, i, B => by
    rw [bytesGo, bytesGo_len z to k]
    simp [Bd.setA]
theorem newListB_len {B B1 : Bld} {op : Opn} (hx : op.x = 2) (hn : op.n ≤ 128) (h : newListB B op = some B1) : B1.A.length = B.A.length + (op.n + 7) / 8 ∧ B1.A.length ≤ 256 := by
  unfold newListB at h
  rw [if_neg (by omega)] at h
  dsimp only at h
  have hw : words ⟨2, B.A.length, 0, 0, op.x, op.n⟩ = (op.n + 7) / 8 := by
    unfold words width
    dsimp only
    rw [hx, if_neg (by omega), if_neg (by omega), if_neg (by omega), if_pos (by omega)]
    simp
  rw [hw] at h
  split at h
  · cases h
  · rename_i a ha
    have hr := roomB_lt ha
    cases h
    rw [if_neg (by omega)]
    constructor
    · simp [hangB, growB, Bd.setA]
    · simp [hangB, growB, Bd.setA]
      omega

theorem or_byte {a z m : Nat} (ha : a < 18446744073709551616) (hz : z < 256) (hm : m < 8) :
    bits BinOp.or IntKind.u64 (a : Int) (IntKind.u64.wrap ((z : Int) * 2 ^ (m * 8))) = ((a ||| z * 2 ^ (m * 8) : Nat) : Int) ∧ (a ||| z * 2 ^ (m * 8)) < 18446744073709551616 := by
  have hb : z * 2 ^ (m * 8) < 18446744073709551616 := by
    have hm' : m = 0 ∨ m = 1 ∨ m = 2 ∨ m = 3 ∨ m = 4 ∨ m = 5 ∨ m = 6 ∨ m = 7 := by omega
    rcases hm' with rfl | rfl | rfl | rfl | rfl | rfl | rfl | rfl <;> simp <;> omega
  have e2 : ((z : Int) * 2 ^ (m * 8)) = ((z * 2 ^ (m * 8) : Nat) : Int) := by simp
  have e3 : IntKind.u64.wrap ((z * 2 ^ (m * 8) : Nat) : Int) = ((z * 2 ^ (m * 8) : Nat) : Int) := by rw [IntKind.wrap_u64]; omega
  rw [e2, e3, bits_or_u64_nat _ _ ha hb]
  exact ⟨rfl, Nat.or_lt_two_pow (n := 64) ha hb⟩

set_option maxHeartbeats 8000000 in
theorem setText_calls (op : Opn) (hop : op.Ok) (hs : op.s.size ≤ 9223372036854775807) (c : Bool) (hc : c = true ↔ contentP op.s) {w : World} {p : Nat} {h : Nat → Value} {B : Bld} (hb : HB w p h B) (hl : Live B op.h) :
    Calls Faag.prog 42 #[.pointer (some ⟨p, 0, none⟩), .agg (opC op).toArray] w fun e w' => RetO e (setTextB B op c (zOf op.s)) ∧ ∃ h', HB w' p h' ((setTextB B op c (zOf op.s)).getD B) ∧ Mv p h h' w w' := by
  obtain ⟨⟨a1, a2⟩, ⟨a3, a4⟩, _, _, a5, _⟩ := hl.even
  have HC := hide (content_calls op.s hs)
  have HL := hide (fun (hsz : op.s.size < 128) (W : World) (hW : HB W p h B) => newList_calls ⟨1, op.h, op.i, 2, 0, op.s.size + 1, 0, ByteArray.empty⟩ ⟨by dsimp only; omega, hop.h, hop.i, by dsimp only; omega, by dsimp only; omega, by dsimp only; omega, by dsimp only; omega⟩ hW hl)
  have HT := hide (show (c = false → setTextB B op c (zOf op.s) = none) ∧ (c = true → newListB B ⟨1, op.h, op.i, 2, 0, op.s.size + 1, 0, ByteArray.empty⟩ = none → setTextB B op c (zOf op.s) = none) ∧ (c = true → ∀ B1, newListB B ⟨1, op.h, op.i, 2, 0, op.s.size + 1, 0, ByteArray.empty⟩ = some B1 → setTextB B op c (zOf op.s) = some (bytesGo (zOf op.s) B.A.length op.s.size 0 B1)) from by
    unfold setTextB
    refine ⟨fun e => by rw [e]; rfl, fun e e2 => by rw [e, e2]; rfl, fun e B1 e2 => by rw [e, e2]; rfl⟩)
  have Hc := hide hc
  obtain ⟨c0, _⟩ := hb.cell 0 (by omega)
  obtain ⟨b0, cp0, hv0, _⟩ := own_len (hb.own 0 (by omega))
  simp only [fOff, Nat.reduceAdd, Bld.len] at c0 hv0
  rw [hv0] at c0
  have hp : p < w.heap.size := hb.lt ⟨0, rfl⟩
  have HH := hide hb
  generalize setTextB B op c (zOf op.s) = S at *
  obtain ⟨kind, x, i, X, Y, N, V, s⟩ := op
  obtain ⟨o1, o2, o3, o4, o5, o6, o7⟩ := hop
  unfold opC at HL ⊢
  dsimp only at o1 o2 o3 o4 o5 o6 o7 hl HL HT Hc HC hs ⊢
  clear hb hl hc
  go_enter Faag.func42, Faag.ntmps42
  go_wp2_with fail
  refine (HC.out _).mono ?_
  rintro e w1 ⟨⟨r, rfl, hr⟩, hb1⟩
  have hrc : r = c := by
    rw [Bool.eq_iff_iff, hr, Hc.out]
  subst hrc
  obtain ⟨x1, rfl⟩ := World.ext_of_below hb1
  clear hb1
  have hr2 := hide hr
  clear hr
  cases r
  · have HT2 := hide (HT.out.1 (by simp))
    clear HT
    go_wp2_with fail
    go_ret
    rw [HT2.out]
    exact ⟨rfl, h, (HH.out.alloc _).ext _, (Mv.of_below ((Below.refl _ w).alloc (Nat.le_refl _) _)).trans (Mv.of_below (World.below_ext _ _))⟩
  · have hsz : s.size < 128 := (hr2.out.1 rfl).1
    go_wp2_with fail
    refine (HL.out hsz _ ((HH.out.alloc _).ext _)).mono ?_
    rintro e w2 ⟨he, h2, hb2, mv2⟩
    unfold RetO at he
    obtain ⟨R, hR⟩ : ∃ R, R = newListB B ⟨1, x, i, 2, 0, s.size + 1, 0, ByteArray.empty⟩ := ⟨_, rfl⟩
    rw [← hR] at he hb2
    have hR2 := hR.symm
    clear hR
    cases R with
    | none =>
      have HT2 := hide (HT.out.2.1 (by simp) hR2)
      dsimp only [Option.isSome_none, Option.getD_none] at he hb2
      subst he
      have HF := hide (And.intro hb2 (((Mv.of_below (p := p) (h := h) ((Below.refl _ w).alloc (Nat.le_refl _) (.cells #[.int .u8 kind, .int .u8 x, .int .u8 i, .int .u8 X, .int .u8 Y, .int .u16 N, .int .u64 V, .string s] 55))).trans (Mv.of_below (World.below_ext _ x1))).trans mv2))
      clear hb2 mv2 HT hR2
      go_wp2_with fail
      go_ret
      rw [HT2.out]
      exact ⟨rfl, h2, HF.out⟩
    | some B1 =>
      have HT2 := hide (HT.out.2.2 (by simp) B1 hR2)
      dsimp only [Option.isSome_some, Option.getD_some] at he hb2
      subst he
      have hlen := newListB_len (by rfl) (by dsimp only; omega) hR2
      dsimp only at hlen
      have HLN := hide hlen
      clear hlen
      have hst0 : St p w h w.heap.size [.int .u8 kind, .int .u8 x, .int .u8 i, .int .u8 X, .int .u8 Y, .int .u16 N, .int .u64 V, .string s] w.heap.size [.int .u8 kind, .int .u8 x, .int .u8 i, .int .u8 X, .int .u8 Y, .int .u16 N, .int .u64 V, .string s] (w.alloc (.cells #[.int .u8 kind, .int .u8 x, .int .u8 i, .int .u8 X, .int .u8 Y, .int .u16 N, .int .u64 V, .string s] 55)) h B :=
        ⟨HH.out.alloc _, Mv.of_below ((Below.refl _ w).alloc (Nat.le_refl _) _), RowAt.of_alloc w _ 55, HH.out.not_new (Nat.le_refl _), RowAt.of_alloc w _ 55, HH.out.not_new (Nat.le_refl _)⟩
      have HS := hide ((hst0.ext (by simp) (by simp) x1).step (by simp) (by simp) hb2 mv2)
      clear hst0 hb2 mv2 HT hR2 HH c0 hv0 HL HC hr2 Hc hp
      have e7 := HS.out.r1.at_ (i := 7) rfl
      simp only [Nat.zero_add] at e7
      go_wp2_with fail
      go_loopw [6] (fun q wr => ∃ k : Nat, k ≤ s.size ∧ q = .int .i64 k ∧ Hid (∃ h', St p w h w.heap.size [.int .u8 kind, .int .u8 x, .int .u8 i, .int .u8 X, .int .u8 Y, .int .u16 N, .int .u64 V, .string s] w.heap.size [.int .u8 kind, .int .u8 x, .int .u8 i, .int .u8 X, .int .u8 Y, .int .u16 N, .int .u64 V, .string s] wr h' (bytesGo (zOf s) B.A.length k 0 B1))) (fun q _ => s.size - (intOf q).toNat)
      case atStart => exact ⟨0, by omega, rfl, hide ⟨h2, HS.out⟩⟩
      case round =>
        clear e7 HS
        obtain ⟨k, hk, rfl, H1⟩ := hrel
        obtain ⟨h3, hs3⟩ := H1.out
        have HS := hide hs3
        clear H1 hs3
        have e7 := HS.out.r1.at_ (i := 7) rfl
        simp only [Nat.zero_add] at e7
        by_cases hlt : k < s.size
        · have hbl := bytesGo_len (zOf s) B.A.length k 0 B1
          obtain ⟨hln1, hln2⟩ := HLN.out
          obtain ⟨J, hJ⟩ : ∃ J, J = B.A.length + k / 8 := ⟨_, rfl⟩
          have hJl : J < (bytesGo (zOf s) B.A.length k 0 B1).A.length := by rw [hbl, hln1, hJ]; omega
          obtain ⟨ga, ca, hga, hgl, hgp, cA, cAf⟩ := HS.out.hb.aAt hJl
          obtain ⟨c0, _⟩ := HS.out.hb.cell 0 (by omega)
          simp only [fOff] at c0
          rw [hga] at c0
          have hAv := HS.out.hb.ok.A J
          have hJI : (B.A.length : Int) + k / 8 = (J : Int) := by rw [hJ]; omega
          have hn1 : (bytesGo (zOf s) B.A.length k 0 B1).A.length ≤ 256 := by omega
          have HGA := hide hga
          have HJ := hide hJ
          obtain ⟨n1, hn1'⟩ : ∃ n1, n1 = (bytesGo (zOf s) B.A.length k 0 B1).A.length := ⟨_, rfl⟩
          obtain ⟨Av, hAv'⟩ : ∃ Av, Av = (bytesGo (zOf s) B.A.length k 0 B1).A.getD J 0 := ⟨_, rfl⟩
          rw [← hn1'] at c0 hJl hn1
          rw [← hAv'] at cA hAv
          have hzk := hide (zOf_get hlt)
          have HAv := hide hAv'
          clear hga hJ hn1' hAv' hbl hln1 hln2
          go_wp2_with fail
          refine wp_region_qd 19 (by kernel_rfl) (by kernel_rfl) ?_
          simp only [List.take_succ_cons, List.take_zero, List.drop_succ_cons, List.drop_zero]
          repeat (go_big_quiet_step (fail))
          refine wpQuiet_nil ?_
          rintro _ ⟨nq, rfl⟩
          have hzl : ((s[k]'hlt).toNat) < 256 := UInt8.toNat_lt _
          have HV := hide (show bits BinOp.or IntKind.u64 (Av : Int) (IntKind.u64.wrap (((s[k]'hlt).toNat : Int) * 2 ^ (k % 8 * 8))) = ((Av ||| zOf s k * 2 ^ (k % 8 * 8) : Nat) : Int) ∧ (Av ||| zOf s k * 2 ^ (k % 8 * 8)) < 18446744073709551616 from by
            rw [hzk.out]
            exact or_byte hAv hzl (by omega))
          go_wp2_with fail
          go_roundw
          case rel =>
            refine ⟨k + 1, by omega, by go_num, hide ⟨h3, ?_⟩⟩
            rw [HV.out.1, bytesGo_succ, Nat.zero_add, ← HJ.out, ← HAv.out]
            have hst := HS.out.step (by simp) (by simp) (HS.out.hb.kp ((Keeps.refl _ _).drewN nq)) (Mv.of_kp ((Keeps.refl _ _).drewN nq))
            exact hst.step (by simp) (by simp) (hst.hb.setA HGA.out HV.out.2) (HB.put_mv p (i := 0) (by omega) HGA.out)
          case measure => simp [intOf]; omega
        · have : k = s.size := by omega
          subst this
          have HS' := hide HS.out
          go_wp2_with fail
          go_ret
          rw [HT2.out]
          exact ⟨rfl, h3, HS'.out.hb, HS'.out.mv⟩
end Go.Proofs.YgcfaaGreat
