import Derived.Test.YgcfaaGreatWkPush
namespace Go.Proofs.YgcfaaGreat
open Go.RowKit Bits Bd
set_option linter.unusedVariables false
set_option maxRecDepth 100000
set_option linter.unusedSimpArgs false
attribute [local go_sem] World.cell?_ext World.frozen?_ext

namespace Bd
def followGo (p : Ptr) (d : Nat) : Nat → Nat → Wk → Wk
  | 0, _, W => W
  | k + 1, i, W => followGo p d k (i + 1) (pushGo (p.at_ + i * (p.data + p.ptrs) + p.data) d p.ptrs 0 W)
/-- Walk.follow -/
def followW (p : Ptr) (d : Nat) (W : Wk) : Wk :=
  if p.kind = 1 then pushGo (p.at_ + p.data) d p.ptrs 0 W
  else if p.code = 6 then pushGo p.at_ d p.count 0 W
  else if p.code = 7 then followGo p d p.count 0 W
  else W
end Bd
theorem followGo_add (p : Ptr) (d : Nat) : ∀ (k m i : Nat) (W : Wk), followGo p d (k + m) i W = followGo p d m (i + k) (followGo p d k i W)
  | 0, m, i, W => by rw [Nat.zero_add]; rfl
  | k + 1, m, i, W => by
    rw [show k + 1 + m = (k + m) + 1 by omega]
    simp only [followGo]
    rw [followGo_add p d k m (i + 1), show i + 1 + k = i + (k + 1) by omega]

set_option maxHeartbeats 4000000 in
theorem follow_calls (p : Ptr) (hp : p.Ok) (d : Nat) (hd : d < 256) (ha : p.at_ ≤ 300) (hda : p.data ≤ 8) (hpt : p.ptrs ≤ 8) (hc : p.count ≤ 128) {w : World} {b : Nat} {W : Wk} (hb : WkAt w b W) :
    Calls Faag.prog 71 #[.pointer (some ⟨b, 0, none⟩), .agg (ptrC p).toArray, .int .u8 d] w fun e w' => RetN e ∧ WkAt w' b (followW p d W) ∧ Keeps (fun k => k = b) w w' := by
  have hblt := hb.lt
  obtain ⟨R, hR⟩ : ∃ R, R = followW p d W := ⟨_, rfl⟩
  rw [← hR]
  unfold followW at hR
  obtain ⟨kind, at_, data, ptrs, code, count⟩ := p
  obtain ⟨h1, h2, h3, h4, h5, h6⟩ := hp
  dsimp only at h1 h2 h3 h4 h5 h6 hR ha hda hpt hc
  unfold ptrC
  dsimp only
  have HB0 := hide (show WkAt (w.alloc (.cells #[Value.int IntKind.u8 kind, Value.int IntKind.u16 at_, Value.int IntKind.u8 data, Value.int IntKind.u8 ptrs, Value.int IntKind.u8 code, Value.int IntKind.u16 count] 62)) b W ∧ Keeps (fun k => k = b) w (w.alloc (.cells #[Value.int IntKind.u8 kind, Value.int IntKind.u16 at_, Value.int IntKind.u8 data, Value.int IntKind.u8 ptrs, Value.int IntKind.u8 code, Value.int IntKind.u16 count] 62)) ∧
      RowAt (w.alloc (.cells #[Value.int IntKind.u8 kind, Value.int IntKind.u16 at_, Value.int IntKind.u8 data, Value.int IntKind.u8 ptrs, Value.int IntKind.u8 code, Value.int IntKind.u16 count] 62)) w.heap.size 0 [Value.int IntKind.u8 kind, Value.int IntKind.u16 at_, Value.int IntKind.u8 data, Value.int IntKind.u8 ptrs, Value.int IntKind.u8 code, Value.int IntKind.u16 count] from
    ⟨⟨hb.row.alloc _, hb.ok⟩, (Keeps.refl _ w).alloc _, RowAt.of_alloc _ _ _⟩)
  clear hb
  by_cases k1 : kind = 1
  · subst k1
    rw [if_pos rfl] at hR
    have HR := hide hR
    clear hR
    have HP := hide (push_calls (at_ + data) ptrs d (by omega) (by omega) hd HB0.out.1)
    go_enter Faag.func71, Faag.ntmps71
    go_wp2_with fail
    refine HP.out.mono ?_
    rintro e w2 ⟨rfl, q1, q2⟩
    have HQ := hide (show WkAt w2 b R ∧ Keeps (fun k => k = b) w w2 from by rw [HR.out]; exact ⟨q1, HB0.out.2.1.trans q2⟩)
    clear q1 q2 HP HR HB0
    go_wp2_with fail
    exact bodyPost_fall (v := .tuple #[]) (by simp [results, Faag.results71, go_sem]) rfl ⟨rfl, HQ.out⟩
  · rw [if_neg k1] at hR
    have g1 : ((kind : Int) == 1) = false := by simp; omega
    by_cases k6 : code = 6
    · subst k6
      rw [if_pos rfl] at hR
      have HR := hide hR
      clear hR
      have HP := hide (push_calls at_ count d (by omega) (by omega) hd HB0.out.1)
      clear k1
      go_enter Faag.func71, Faag.ntmps71
      go_wp2_with fail
      refine HP.out.mono ?_
      rintro e w2 ⟨rfl, q1, q2⟩
      have HQ := hide (show WkAt w2 b R ∧ Keeps (fun k => k = b) w w2 from by rw [HR.out]; exact ⟨q1, HB0.out.2.1.trans q2⟩)
      clear q1 q2 HP HR HB0
      go_wp2_with fail
      exact bodyPost_fall (v := .tuple #[]) (by simp [results, Faag.results71, go_sem]) rfl ⟨rfl, HQ.out⟩
    · rw [if_neg k6] at hR
      have g6 : ((code : Int) == 6) = false := by simp; omega
      by_cases k7 : code = 7
      · rw [if_pos k7] at hR
        have g7 : ((code : Int) == 7) = true := by simp; omega
        have HR := hide hR
        clear hR k1 k6 k7
        go_enter Faag.func71, Faag.ntmps71
        go_wp2_with fail
        go_loopw [7] (fun q wr => ∃ k : Nat, k ≤ count ∧ q = .int .u16 (k : Nat) ∧ Hid (WkAt wr b (followGo ⟨kind, at_, data, ptrs, code, count⟩ d k 0 W) ∧ Keeps (fun k => k = b) w wr ∧
            RowAt wr w.heap.size 0 [Value.int IntKind.u8 kind, Value.int IntKind.u16 at_, Value.int IntKind.u8 data, Value.int IntKind.u8 ptrs, Value.int IntKind.u8 code, Value.int IntKind.u16 count])) (fun q _ => 65536 - (intOf q).toNat)
        case atStart => exact ⟨0, by omega, by simp, hide HB0.out⟩
        case round =>
          obtain ⟨k, hk, rfl, H1⟩ := hrel
          obtain ⟨q1, q2, q3⟩ := H1.out
          have c1 := q3.at_ (i := 1) rfl
          have c2 := q3.at_ (i := 2) rfl
          have c3 := q3.at_ (i := 3) rfl
          have c5 := q3.at_ (i := 5) rfl
          rw [Nat.zero_add] at c1 c2 c3 c5
          by_cases hgo : k < count
          · obtain ⟨E, hE⟩ : ∃ E, E = k * (data + ptrs) := ⟨_, rfl⟩
            have hEl : E ≤ 2048 := by rw [hE]; exact Nat.mul_le_mul (show k ≤ 128 by omega) (show data + ptrs ≤ 16 by omega)
            have hEi : (k : Int) * ((data : Int) + ptrs) = (E : Int) := by rw [hE]; simp
            have HP := hide (push_calls (at_ + E + data) ptrs d (by omega) (by omega) hd q1)
            have HS := hide (show ∀ w2, WkAt w2 b (pushGo (at_ + E + data) d ptrs 0 (followGo ⟨kind, at_, data, ptrs, code, count⟩ d k 0 W)) → Keeps (fun k => k = b) wr w2 → WkAt w2 b (followGo ⟨kind, at_, data, ptrs, code, count⟩ d (k + 1) 0 W) ∧ Keeps (fun k => k = b) w w2 ∧
                RowAt w2 w.heap.size 0 [Value.int IntKind.u8 kind, Value.int IntKind.u16 at_, Value.int IntKind.u8 data, Value.int IntKind.u8 ptrs, Value.int IntKind.u8 code, Value.int IntKind.u16 count] from by
              intro w2 r1 r2
              refine ⟨?_, q2.trans r2, q3.keeps r2 (fun _ => by omega)⟩
              rw [followGo_add, Nat.zero_add, followGo, followGo]
              rw [hE] at r1
              exact r1)
            clear q1 q2 q3 H1 hE HB0
            go_wp2_with fail
            refine HP.out.mono ?_
            rintro e w2 ⟨rfl, r1, r2⟩
            have HQ := hide (HS.out w2 r1 r2)
            clear r1 r2 HP HS
            go_wp2_with fail
            go_roundw
            case rel => exact ⟨k + 1, by omega, by go_num, HQ⟩
            case measure => simp [intOf]; omega
          · have : k = count := by omega
            subst this
            clear q1 q2 q3
            go_wp2_with fail
            refine bodyPost_fall (v := .tuple #[]) (by simp [results, Faag.results71, go_sem]) rfl ⟨rfl, ?_⟩
            rw [HR.out]
            exact ⟨H1.out.1, H1.out.2.1⟩
      · rw [if_neg k7] at hR
        have g7 : ((code : Int) == 7) = false := by simp; omega
        have HR := hide hR
        clear hR k1 k6 k7
        go_enter Faag.func71, Faag.ntmps71
        go_wp2_with fail
        refine bodyPost_fall (v := .tuple #[]) (by simp [results, Faag.results71, go_sem]) rfl ⟨rfl, ?_⟩
        rw [HR.out]
        exact ⟨HB0.out.1, HB0.out.2.1⟩
end Go.Proofs.YgcfaaGreat
