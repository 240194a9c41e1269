import Derived.Test.YgcfaaGreatMoOut

namespace Go.Proofs.YgcfaaGreat
open Go.RowKit Bits Bd
set_option linter.unusedVariables false
set_option maxRecDepth 100000
set_option linter.unusedSimpArgs false
attribute [local go_sem] World.cell?_ext World.frozen?_ext Kw.cell Kw.frozen

theorem run_kids (a b c d : Value) (w : World) : Sem.run Faag.prog (Instr.field 76 (.agg #[a, b, c, d]) 3) w = .ok d w := by kernel_rfl
set_option maxHeartbeats 16000000 in
theorem mlistA_calls {w : World} {p : Nat} {h : Nat → Value} {M : Mo} (m : HM true w p h M) (v : InvM M) (op : Opn) (hop : op.Ok) (hH : op.h < M.H.length) (h7 : ¬ op.x = 7) :
    Calls Faag.prog 49 #[.pointer (some ⟨p, 0, none⟩), .agg (opC op).toArray] w (MOut w p h M.N.length) := by
  have HOP := hide hop
  obtain ⟨kind, x, i, X, Y, N, V, st⟩ := op
  obtain ⟨o1, o2, o3, o4, o5, o6, o7⟩ := hop
  dsimp only at o1 o2 o3 o4 o5 o6 o7 hH h7 ⊢
  have HM0 := hide m
  have HV := hide v
  have HHH := hide hH
  have nm : ∀ j, w.heap.size ≤ j → ¬ mblk p h M.N.length j := fun j hj q => by have := m.blk_lt q; omega
  have HNM := hide nm
  have g7 : ((X : Int) == 7) = false := by simp; omega
  have H7 := hide h7
  clear m v hH nm h7
  unfold opC
  dsimp only
  go_enter Faag.func49, Faag.ntmps49
  go_wp2_with fail
  obtain ⟨W, hW⟩ : ∃ W, W = ((w.alloc (.cells #[.int .u8 kind, .int .u8 x, .int .u8 i, .int .u8 X, .int .u8 Y, .int .u16 N, .int .u64 V, .string st] 55)).alloc (.cells #[.int .u8 2, .int .u16 0, .int .u8 0, .int .u8 0, .int .u8 X, .int .u16 N] 62)).alloc (.cells #[.int .u8 2, .int .u8 X, .slice none 0 0, .slice none 0 0] 76) := ⟨_, rfl⟩
  rw [← hW]
  obtain ⟨W2, hW2⟩ : ∃ W, W = (w.alloc (.cells #[.int .u8 kind, .int .u8 x, .int .u8 i, .int .u8 X, .int .u8 Y, .int .u16 N, .int .u64 V, .string st] 55)).alloc (.cells #[.int .u8 2, .int .u16 0, .int .u8 0, .int .u8 0, .int .u8 X, .int .u16 N] 62) := ⟨_, rfl⟩
  rw [← hW2] at hW
  have hs2 : W2.heap.size = w.heap.size + 2 := by rw [hW2, World.size_alloc, World.size_alloc]
  have hb2 : Below w.heap.size w W2 := by rw [hW2]; exact (Below.alloc (Below.alloc (Below.refl _ _) (Nat.le_refl _) _) (by rw [World.size_alloc]; omega) _)
  have hb3 : Below W2.heap.size W2 W := by rw [hW]; exact (Below.refl _ _).alloc (Nat.le_refl _) _
  have r3 : RowAt W w.heap.size 0 [.int .u8 kind, .int .u8 x, .int .u8 i, .int .u8 X, .int .u8 Y, .int .u16 N, .int .u64 V, .string st] := by
    refine row_below ?_ hb3
    rw [hW2]; exact row_below (RowAt.of_alloc w _ 55) ((Below.refl _ _).alloc (Nat.le_refl _) _)
  have r5 : RowAt W (w.heap.size + 1) 0 [.int .u8 2, .int .u16 0, .int .u8 0, .int .u8 0, .int .u8 X, .int .u16 N] := by
    have := RowAt.of_alloc (w.alloc (.cells #[.int .u8 kind, .int .u8 x, .int .u8 i, .int .u8 X, .int .u8 Y, .int .u16 N, .int .u64 V, .string st] 55)) [.int .u8 2, .int .u16 0, .int .u8 0, .int .u8 0, .int .u8 X, .int .u16 N] 62
    rw [World.size_alloc] at this
    refine row_below ?_ hb3
    rw [hW2]; exact this
  have r6 : RowAt W (w.heap.size + 2) 0 [.int .u8 2, .int .u8 X, .slice none 0 0, .slice none 0 0] := by
    have := RowAt.of_alloc W2 [.int .u8 2, .int .u8 X, .slice none 0 0, .slice none 0 0] 76
    rw [hs2] at this
    rw [hW]; exact this
  have hbW : Below w.heap.size w W := hb2.step hb3
  obtain ⟨B3, hB3⟩ : ∃ B, B = w.heap.size := ⟨_, rfl⟩
  obtain ⟨B5, hB5⟩ : ∃ B, B = w.heap.size + 1 := ⟨_, rfl⟩
  obtain ⟨B6, hB6⟩ : ∃ B, B = w.heap.size + 2 := ⟨_, rfl⟩
  rw [← hB6] at r6 ⊢
  rw [← hB5] at r5 ⊢
  rw [← hB3] at r3 ⊢
  have n36 : ¬ B3 = B6 := by omega
  have n56 : ¬ B5 = B6 := by omega
  have HBB := hide (And.intro hB3 (And.intro hB5 hB6))
  have HBW := hide hbW
  have hWs : w.heap.size + 3 ≤ W.heap.size := by rw [hW, World.size_alloc]; omega
  clear hB3 hB5 hB6 hW hW2 hb2 hb3 hs2 hbW
  refine (mroom_calls (HM0.out.below HBW.out) HV.out ⟨kind, x, i, X, Y, N, V, st⟩ HOP.out ⟨2, 0, 0, 0, X, N⟩ ⟨by dsimp only; omega, by dsimp only; omega, by dsimp only; omega, by dsimp only; omega, o4, o6⟩ 1 (by omega) HHH.out).mono ?_
  rintro e w1 ⟨⟨b, rfl, hbt⟩, b1⟩
  cases b
  · go_wp2_with fail
    go_ret
    exact MOut.no HM0.out HV.out (HBW.out.step b1) _
  have rp := hbt rfl
  have hwl := words_list rp.2.2.2.1 H7.out
  have hN : N ≤ 128 := hwl.1
  have HRP := hide rp
  have HWL := hide hwl.2
  have b01 : Below w.heap.size w w1 := HBW.out.step b1
  have hw1s : w.heap.size + 3 ≤ w1.heap.size := Nat.le_trans hWs b1.size
  have q3 := row_below r3 b1
  have q5 := row_below r5 b1
  have q6 := row_below r6 b1
  clear hbt rp hwl r3 r5 r6 b1 hWs
  have c35 := q3.at_ (i := 5) rfl
  have c33 := q3.at_ (i := 3) rfl
  simp only [Nat.zero_add] at c35 c33
  by_cases h6 : X = 6
  · subst h6
    go_wp2_with fail
    refine (structOf_calls _ 0 N (by omega) (by omega)).mono ?_
    rintro e w2 ⟨dv, kv, rfl, od, okv, fd, fk, fdk, b2⟩
    obtain ⟨da, dc, hdv, _⟩ := own_len od
    obtain ⟨ka, kc, hkv, _⟩ := own_len okv
    subst hdv
    subst hkv
    have u3 := row_below q3 b2
    have k0 := u3.at_ (i := 0) rfl
    have k1 := u3.at_ (i := 1) rfl
    have k2 := u3.at_ (i := 2) rfl
    have k3 := u3.at_ (i := 3) rfl
    have k4 := u3.at_ (i := 4) rfl
    have k5 := u3.at_ (i := 5) rfl
    have k6 := u3.at_ (i := 6) rfl
    have k7 := u3.at_ (i := 7) rfl
    have u5 := row_below q5 b2
    have l0 := u5.at_ (i := 0) rfl
    have l1 := u5.at_ (i := 1) rfl
    have l2 := u5.at_ (i := 2) rfl
    have l3 := u5.at_ (i := 3) rfl
    have l4 := u5.at_ (i := 4) rfl
    have l5 := u5.at_ (i := 5) rfl
    have u6 := row_below q6 b2
    have n0 := u6.at_ (i := 0) rfl
    have n1 := u6.at_ (i := 1) rfl
    have n2 := u6.at_ (i := 2) rfl
    have n3 := u6.at_ (i := 3) rfl
    simp only [Nat.zero_add] at k0 k1 k2 k3 k4 k5 k6 k7 l0 l1 l2 l3 l4 l5 n0 n1 n2 n3
    have n62 := u6.live 2 (by simp)
    have n63 := u6.live 3 (by simp)
    simp only [Nat.zero_add] at n62 n63
    clear q3 q5 q6 c35 c33 u3 u5 u6
    have HOK := hide (And.intro okv fk)
    clear od okv fd fk fdk
    go_wp2_with fail
    rw [run_kids]
    go_wp2_with fail
    have hbb := HBB.out
    have bF : Below w.heap.size w (w2.setCell ⟨B6, 3, none⟩ (.slice ka N kc)) := (b01.step b2).setCell (show w.heap.size ≤ B6 by omega) _
    refine (mhang_calls ((MS.refl HM0.out).below bF) HV.out ⟨kind, x, i, 6, Y, N, V, st⟩ HOP.out ⟨2, 0, 0, 0, 6, N⟩ ⟨by dsimp only; omega, by dsimp only; omega, by dsimp only; omega, by dsimp only; omega, by dsimp only; omega, o6⟩ ⟨2, 6, [], List.replicate N (-1)⟩ (.slice none 0 0) (.slice ka N kc) (World.ownsRow_nil _ _ _ _) ?_ (fun j hj => by cases hj) ?_ (fun j hj => by cases hj) (ok_ptrs hN) HHH.out HRP.out.1 HRP.out.2.2.1).mono ?_
    · show World.ownsRow _ 0 40 1 _ (List.replicate N (-1 : Int)).length _
      rw [List.length_replicate]
      exact own_keeps HOK.out.1 (keeps_set w2 B6 3 _) (fun j hj e => by have := HOK.out.2 j hj; have e' : j = B6 := e; omega)
    · intro j hj
      have := HOK.out.2 j hj
      exact ⟨by omega, HNM.out j (by omega)⟩
    · rintro e w4 ⟨rfl, h', s'⟩
      go_wp2_with fail
      go_ret
      refine ⟨⟨_, rfl⟩, h', _, s', invM_room HV.out HRP.out (by omega) (new_ptrs hN) ?_⟩
      rcases HWL.out with z | z
      · omega
      · rw [z.2]
        show twB ⟨2, 6, [], List.replicate N (-1)⟩ 0 0 ≤ N
        unfold twB
        rw [if_neg (by dsimp only; omega), if_pos rfl]
        show (List.replicate N (-1 : Int)).length ≤ N
        rw [List.length_replicate]; exact Nat.le_refl _
  · have g6 : ((X : Int) == 6) = false := by simp; omega
    go_wp2_with (refine wpList_makeD ty_words rfl _ _ rfl .u16 .u16 N rfl rfl (by omega) (by omega) ?_)
    intro D w2 lD sD oD b2
    first | rw [made_words] at oD | rw [made_words'] at oD
    have u3 := row_below q3 b2
    have k0 := u3.at_ (i := 0) rfl
    have k1 := u3.at_ (i := 1) rfl
    have k2 := u3.at_ (i := 2) rfl
    have k3 := u3.at_ (i := 3) rfl
    have k4 := u3.at_ (i := 4) rfl
    have k5 := u3.at_ (i := 5) rfl
    have k6 := u3.at_ (i := 6) rfl
    have k7 := u3.at_ (i := 7) rfl
    have u5 := row_below q5 b2
    have l0 := u5.at_ (i := 0) rfl
    have l1 := u5.at_ (i := 1) rfl
    have l2 := u5.at_ (i := 2) rfl
    have l3 := u5.at_ (i := 3) rfl
    have l4 := u5.at_ (i := 4) rfl
    have l5 := u5.at_ (i := 5) rfl
    have u6 := row_below q6 b2
    have n0 := u6.at_ (i := 0) rfl
    have n1 := u6.at_ (i := 1) rfl
    have n2 := u6.at_ (i := 2) rfl
    have n3 := u6.at_ (i := 3) rfl
    simp only [Nat.zero_add] at k0 k1 k2 k3 k4 k5 k6 k7 l0 l1 l2 l3 l4 l5 n0 n1 n2 n3
    have n62 := u6.live 2 (by simp)
    have n63 := u6.live 3 (by simp)
    simp only [Nat.zero_add] at n62 n63
    clear q3 q5 q6 c35 c33 u3 u5 u6
    have HOD := hide (And.intro oD lD)
    clear oD lD sD
    go_wp2_with fail
    have hbb := HBB.out
    have bF : Below w.heap.size w (w2.setCell ⟨B6, 2, none⟩ (.slice (some ⟨D, 0, none⟩) N N)) := (b01.step b2).setCell (show w.heap.size ≤ B6 by omega) _
    have hX5 : 2 ≤ X ∧ X ≤ 5 := by rcases HWL.out with z | z <;> omega
    refine (mhang_calls ((MS.refl HM0.out).below bF) HV.out ⟨kind, x, i, X, Y, N, V, st⟩ HOP.out ⟨2, 0, 0, 0, X, N⟩ ⟨by dsimp only; omega, by dsimp only; omega, by dsimp only; omega, by dsimp only; omega, o4, o6⟩ ⟨2, X, List.replicate N 0, []⟩ (.slice (some ⟨D, 0, none⟩) N N) (.slice none 0 0) ?_ (World.ownsRow_nil _ _ _ _) ?_ (fun j hj => by cases hj) (fun j _ hj => by cases hj) (ok_words (N := N) o4 (by omega) List.length_replicate (fun d hd => by have : d = 0 := List.eq_of_mem_replicate hd; omega)) HHH.out HRP.out.1 HRP.out.2.2.1).mono ?_
    · show World.ownsRow _ 0 31 1 _ (List.replicate N 0).length _
      rw [List.length_replicate]
      exact own_keeps HOD.out.1 (keeps_set w2 B6 2 _) (fun j hj e => by have e' : j = B6 := e; have : D = j := by simpa [Value.ownBlock] using hj
                                                                        have := HOD.out.2; omega)
    · intro j hj
      have : D = j := by simpa [Value.ownBlock] using hj
      have := HOD.out.2
      exact ⟨by omega, HNM.out j (by omega)⟩
    · rintro e w4 ⟨rfl, h', s'⟩
      go_wp2_with fail
      go_ret
      refine ⟨⟨_, rfl⟩, h', _, s', invM_room HV.out HRP.out (by omega) (new_words hX5.1 hX5.2 hN List.length_replicate (fun j _ => by rw [getD_rep0]; exact Nat.zero_le _)) ?_⟩
      rcases HWL.out with z | z
      · rw [z.2.2]
        show twB ⟨2, X, List.replicate N 0, []⟩ 0 0 ≤ _
        unfold twB
        rw [if_neg (by dsimp only; omega), if_neg (by dsimp only; omega), if_neg (by dsimp only; omega)]
        show ((List.replicate N 0).length * 2 ^ (X - 2) + 7) / 8 ≤ _
        rw [List.length_replicate]; exact Nat.le_refl _
      · omega
end Go.Proofs.YgcfaaGreat
