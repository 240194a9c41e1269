import Derived.Test.YgcfaaTakes8
namespace Go.Proofs.Ygcfaa
open Go.RowKit Bits Bd Utf
set_option linter.unusedVariables false
set_option maxRecDepth 100000
set_option linter.unusedSimpArgs false
attribute [local go_sem] World.cell?_ext World.frozen?_ext Kw.cell Kw.frozen

set_option maxHeartbeats 16000000 in
theorem buildTakes_calls {Inv : Bld → Bk → Prop} (T : Tie Inv) (a : Option Addr) (len cap : Nat) (hl : len ≤ cap) (hcap : cap ≤ 9223372036854775807) (ops : Nat → Opn) (W : World)
    (hops : ∀ i, i < len → (ops i).Ok ∧ (ops i).s.size ≤ 140737488355328)
    (hcells : 0 < len → ∃ b off, a = some ⟨b, off, none⟩ ∧ b < W.heap.size ∧ ∀ i, i < len → ∀ j u, (opC (ops i))[j]? = some u → W.cell? ⟨b, off + i * 8 + j, none⟩ = some u) :
    Calls Faag.prog 8 #[.slice a len cap] W fun e w' => e = .returned (.bool true) ∧ Below W.heap.size W w' := by
  have HC := hide hcells
  have HO := hide hops
  clear hcells hops
  obtain ⟨n, hn, hnl, hN64, hn64⟩ : ∃ n, n ≤ len ∧ n ≤ cap ∧ n ≤ 64 ∧ ((len = n ∧ (len : Int) ≤ 64) ∨ (n = 64 ∧ ¬ (len : Int) ≤ 64)) := by
    by_cases h : len ≤ 64
    · exact ⟨len, Nat.le_refl _, hl, h, .inl ⟨rfl, by omega⟩⟩
    · exact ⟨64, by omega, by omega, by omega, .inr ⟨rfl, by omega⟩⟩
  rcases hn64 with ⟨rfl, h64⟩ | ⟨rfl, h64⟩
  all_goals
    go_enter Faag.func8, Faag.ntmps8
    go_wp2_with fail
    refine new_calls.mono ?_
    rintro e w0 ⟨p, h0, rfl, hb0, bl0, fr0⟩
    have HB0 := hide (And.intro hb0 (And.intro bl0 fr0))
    clear hb0 bl0 fr0
    go_wp2_with fail
    rw [mk_bool1]
    go_wp2_with fail
    have HT := hide (show Turn8 Inv W p (w0.heap.size + 1 + 1) (((w0.alloc (.cells #[.bool false] 4)).alloc (.cells (entC ⟨false, 1, 0, 0, 1, 0, 0, 0, 0, [false]⟩ (.slice (some ⟨w0.heap.size, 0, none⟩) 1 1)).toArray 70)).alloc (.cells #[.slice (some ⟨w0.heap.size + 1, 0, none⟩) 1 1, .int .i64 1] 73)) from by
      obtain ⟨hb0, bl0, fr0⟩ := HB0.out
      have szz := bl0.size
      have R2 := RowAt.of_alloc ((w0.alloc (.cells #[.bool false] 4)).alloc (.cells (entC ⟨false, 1, 0, 0, 1, 0, 0, 0, 0, [false]⟩ (.slice (some ⟨w0.heap.size, 0, none⟩) 1 1)).toArray 70)) [.slice (some ⟨w0.heap.size + 1, 0, none⟩) 1 1, .int .i64 1] 73
      have szz2 : ((w0.alloc (.cells #[.bool false] 4)).alloc (.cells (entC ⟨false, 1, 0, 0, 1, 0, 0, 0, 0, [false]⟩ (.slice (some ⟨w0.heap.size, 0, none⟩) 1 1)).toArray 70)).heap.size = w0.heap.size + 1 + 1 := by simp
      rw [szz2] at R2
      obtain ⟨hk, hkf⟩ := new_book (g0 := w0.heap.size) (g1 := w0.heap.size + 1) (kb := w0.heap.size + 1 + 1) (w := ((w0.alloc (.cells #[.bool false] 4)).alloc (.cells (entC ⟨false, 1, 0, 0, 1, 0, 0, 0, 0, [false]⟩ (.slice (some ⟨w0.heap.size, 0, none⟩) 1 1)).toArray 70)).alloc (.cells #[.slice (some ⟨w0.heap.size + 1, 0, none⟩) 1 1, .int .i64 1] 73)) (by omega) (by omega) (by
          show (((w0.heap.push _).push _).push _)[w0.heap.size]? = _
          rw [Array.getElem?_push, if_neg (by simp; omega), Array.getElem?_push, if_neg (by simp), Array.getElem?_push, if_pos rfl]) (by
          show (((w0.heap.push _).push _).push _)[w0.heap.size + 1]? = _
          rw [Array.getElem?_push, if_neg (by simp), Array.getElem?_push, if_pos (by simp)]) R2
      refine ⟨h0, newB, _, _, newK, ⟨((hb0.alloc _).alloc _).alloc _, hk⟩, T.new, ((bl0.alloc szz _).alloc (by simp; omega) _).alloc (by simp; omega) _, fr0, fun k hk' => Nat.le_trans szz (hkf k hk'), fun k hb' hk' => ?_⟩
      have := hb0.lt hb'
      have := hkf k hk'
      omega)
    unfold entC at HT
    clear HB0
    generalize w0.heap.size + 1 + 1 = kb at HT ⊢
    have hkb0 : True := trivial
  · go_loopw [19] (fun q wr => ∃ k : Nat, k ≤ len ∧ q = .int .i64 k ∧ Hid (Turn8 Inv W p kb wr)) (fun q _ => len - (intOf q).toNat)
    case atStart => exact ⟨0, by omega, rfl, HT⟩
    case round =>
      obtain ⟨k, hk, rfl, HT1⟩ := hrel
      by_cases hlt : k < len
      · obtain ⟨b, off, rfl, hbW, hcs⟩ := HC.out (by omega)
        obtain ⟨hop, hsz⟩ := HO.out k (by omega)
        have hcs := hcs k (by omega)
        generalize ops k = op at hop hsz hcs
        have bl : Below W.heap.size W wr := by
          obtain ⟨_, _, _, _, _, _, _, bl, _⟩ := HT1.out
          exact bl
        have cs : ∀ j u, (opC op)[j]? = some u → wr.cell? ⟨b, off + k * 8 + j, none⟩ = some u := fun j u hu => (bl.cell (p := ⟨b, off + k * 8 + j, none⟩) hbW).trans (hcs j u hu)
        have hbr : b < wr.heap.size := Nat.lt_of_lt_of_le hbW bl.size
        clear hcs bl
        have HD := hide (round8 T HT1.out hop hsz)
        obtain ⟨okind, x, i, X, Y, N, V, st⟩ := op
        have d0 := cs 0 _ rfl
        have d1 := cs 1 _ rfl
        have d2 := cs 2 _ rfl
        have d3 := cs 3 _ rfl
        have d4 := cs 4 _ rfl
        have d5 := cs 5 _ rfl
        have d6 := cs 6 _ rfl
        have d7 := cs 7 _ rfl
        simp only [Nat.add_zero] at d0
        clear cs hop hsz HT1 HT HC HO
        unfold opC at HD
        have BX : RowAt (wr.alloc (.cells #[.int .u8 (okind : Int), .int .u8 (x : Int), .int .u8 (i : Int), .int .u8 (X : Int), .int .u8 (Y : Int), .int .u16 (N : Int), .int .u64 (V : Int), .string st] 46)) wr.heap.size 0 [.int .u8 (okind : Int), .int .u8 (x : Int), .int .u8 (i : Int), .int .u8 (X : Int), .int .u8 (Y : Int), .int .u16 (N : Int), .int .u64 (V : Int), .string st] := RowAt.of_alloc wr [.int .u8 (okind : Int), .int .u8 (x : Int), .int .u8 (i : Int), .int .u8 (X : Int), .int .u8 (Y : Int), .int .u16 (N : Int), .int .u64 (V : Int), .string st] 46
        go_wp2_with fail
        have BLA : Below wr.heap.size wr (wr.alloc (.cells #[.int .u8 (okind : Int), .int .u8 (x : Int), .int .u8 (i : Int), .int .u8 (X : Int), .int .u8 (Y : Int), .int .u16 (N : Int), .int .u64 (V : Int), .string st] 46)) := (Below.refl _ wr).alloc (Nat.le_refl _) _
        generalize hW1 : World.alloc wr _ = w1 at HD BX BLA ⊢
        clear hW1 d0 d1 d2 d3 d4 d5 d6 d7
        generalize wr.heap.size = ob at HD BX BLA ⊢
        have d0 := BX.at_ (i := 0) rfl
        have d1 := BX.at_ (i := 1) rfl
        have d2 := BX.at_ (i := 2) rfl
        have d3 := BX.at_ (i := 3) rfl
        have d4 := BX.at_ (i := 4) rfl
        have d5 := BX.at_ (i := 5) rfl
        have d6 := BX.at_ (i := 6) rfl
        have d7 := BX.at_ (i := 7) rfl
        simp only [Nat.zero_add] at d0 d1 d2 d3 d4 d5 d6 d7
        have HBL := hide BLA
        clear BX BLA
        have hne : ∀ w0 : World, Nonempty (Kw (fun k => k ≠ ob) w0) := fun w0 => ⟨⟨w0, Keeps.refl _ _⟩⟩
        refine wp_region_two (fun w' => ∃ x : Kw (fun k => k ≠ ob) w1, w' = x.to) 7 [0, 1, 3] [2, 4, 5, 6] 25 [7, 8, 9, 10, 11, 12, 13, 14, 15, 16, 17, 18, 19, 20, 21, 22, 23, 24] (by kernel_rfl) (by kernel_rfl) ?_ ⟨⟨_, (Keeps.refl _ _).drew⟩, rfl⟩ ?_
        · intro d v c a w hx
          cases d <;> exact hx
        simp only [pickOps, List.getElem?_cons_zero, List.getElem?_cons_succ, Option.toList_some, List.cons_append, List.nil_append, List.drop_succ_cons, List.drop_zero]
        repeat (go_big_quiet_step (fail))
        refine wpQuiet_nil ?_
        refine wpLd_cons ?_
        go_wp2_with fail
        refine (HD.out _ ⟨⟨_, (Keeps.refl _ _).drew⟩, rfl⟩ HBL.out.drew).mono ?_
        rintro e w2 ⟨rb, rfl, kp2, H2⟩
        have HK2 := hide kp2
        have HC2 := hide H2
        clear kp2 H2 HD
        go_wp2_with fail
        refine ⟨⟨⟨w2, HK2.out⟩, rfl⟩, ?_⟩
        refine wpLd_cons ?_
        go_wp2_with fail
        refine HC2.out.mono ?_
        rintro e w3 ⟨rfl, kp3, H3⟩
        have HK3 := hide kp3
        have HT3 := hide H3
        clear kp3 H3 HC2
        go_wp2_with fail
        refine ⟨⟨⟨w3, HK3.out⟩, rfl⟩, ?_⟩
        refine wpLd_cons ?_
        go_wp2_with fail
        refine ⟨⟨⟨w3, HK3.out⟩, rfl⟩, ?_⟩
        refine wpLd_cons ?_
        go_wp2_with fail
        refine ⟨⟨⟨w3, HK3.out⟩, rfl⟩, ?_⟩
        unfold wpLd
        obtain ⟨g0, c0, nA, g1, c1, m, g5, c5, ge, ce, D, hA, hm, s0, s1, s5, t0, t1, hD⟩ := HT3.out.see T
        have HDD := hide hD
        clear hD HK2 HK3 HBL d0 d1 d2 d3 d4 d5 d6 d7 hne
        refine ⟨fun w' => ∃ x, w' = w3.ext x, ext_self w3, ?_⟩
        repeat (go_big_quiet_step (fail))
        refine wpQuiet_nil ?_
        go_wp2_with fail
        go_loopw [53] (fun q wr => ∃ j : Nat, j ≤ m ∧ q = .int .i64 j ∧ ∃ x, wr = w3.ext x) (fun q _ => m - (intOf q).toNat)
        case atStart => exact ⟨0, by omega, rfl, ext_self w3⟩
        case round =>
          obtain ⟨j, hj, rfl, x3, rfl⟩ := hrel
          by_cases hjl : j < m
          · obtain ⟨y0, y1⟩ := HDD.out j hjl
            generalize D j = dj at y0 y1
            go_wp2_with fail
            refine wp_region_qy w3 13 (by kernel_rfl) (by kernel_rfl) ⟨x3, rfl⟩ ?_
            simp only [List.take_succ_cons, List.take_zero, List.drop_succ_cons, List.drop_zero]
            repeat (go_big_quiet_step (fail))
            refine wpQuiet_nil ?_
            rintro _ ⟨x4, rfl⟩
            go_wp2_with fail
            go_roundw
            case rel => exact ⟨j + 1, by omega, by go_num, x4, rfl⟩
            case measure => simp [intOf]; omega
          · go_wp2_with fail
            have HNX := hide (HT3.out.below (World.below_ext w3 x3))
            go_roundw
            case rel => exact ⟨k + 1, by omega, by go_num, HNX⟩
            case measure => simp [intOf]; omega
      · go_wp2_with fail
        go_ret
        obtain ⟨_, _, _, _, _, _, _, bl, _⟩ := HT1.out
        exact ⟨rfl, bl⟩
  · go_loopw [19] (fun q wr => ∃ k : Nat, k ≤ 64 ∧ q = .int .i64 k ∧ Hid (Turn8 Inv W p kb wr)) (fun q _ => 64 - (intOf q).toNat)
    case atStart => exact ⟨0, by omega, rfl, HT⟩
    case round =>
      obtain ⟨k, hk, rfl, HT1⟩ := hrel
      by_cases hlt : k < 64
      · obtain ⟨b, off, rfl, hbW, hcs⟩ := HC.out (by omega)
        obtain ⟨hop, hsz⟩ := HO.out k (by omega)
        have hcs := hcs k (by omega)
        generalize ops k = op at hop hsz hcs
        have bl : Below W.heap.size W wr := by
          obtain ⟨_, _, _, _, _, _, _, bl, _⟩ := HT1.out
          exact bl
        have cs : ∀ j u, (opC op)[j]? = some u → wr.cell? ⟨b, off + k * 8 + j, none⟩ = some u := fun j u hu => (bl.cell (p := ⟨b, off + k * 8 + j, none⟩) hbW).trans (hcs j u hu)
        have hbr : b < wr.heap.size := Nat.lt_of_lt_of_le hbW bl.size
        clear hcs bl
        have HD := hide (round8 T HT1.out hop hsz)
        obtain ⟨okind, x, i, X, Y, N, V, st⟩ := op
        have d0 := cs 0 _ rfl
        have d1 := cs 1 _ rfl
        have d2 := cs 2 _ rfl
        have d3 := cs 3 _ rfl
        have d4 := cs 4 _ rfl
        have d5 := cs 5 _ rfl
        have d6 := cs 6 _ rfl
        have d7 := cs 7 _ rfl
        simp only [Nat.add_zero] at d0
        clear cs hop hsz HT1 HT HC HO
        unfold opC at HD
        have BX : RowAt (wr.alloc (.cells #[.int .u8 (okind : Int), .int .u8 (x : Int), .int .u8 (i : Int), .int .u8 (X : Int), .int .u8 (Y : Int), .int .u16 (N : Int), .int .u64 (V : Int), .string st] 46)) wr.heap.size 0 [.int .u8 (okind : Int), .int .u8 (x : Int), .int .u8 (i : Int), .int .u8 (X : Int), .int .u8 (Y : Int), .int .u16 (N : Int), .int .u64 (V : Int), .string st] := RowAt.of_alloc wr [.int .u8 (okind : Int), .int .u8 (x : Int), .int .u8 (i : Int), .int .u8 (X : Int), .int .u8 (Y : Int), .int .u16 (N : Int), .int .u64 (V : Int), .string st] 46
        go_wp2_with fail
        have BLA : Below wr.heap.size wr (wr.alloc (.cells #[.int .u8 (okind : Int), .int .u8 (x : Int), .int .u8 (i : Int), .int .u8 (X : Int), .int .u8 (Y : Int), .int .u16 (N : Int), .int .u64 (V : Int), .string st] 46)) := (Below.refl _ wr).alloc (Nat.le_refl _) _
        generalize hW1 : World.alloc wr _ = w1 at HD BX BLA ⊢
        clear hW1 d0 d1 d2 d3 d4 d5 d6 d7
        generalize wr.heap.size = ob at HD BX BLA ⊢
        have d0 := BX.at_ (i := 0) rfl
        have d1 := BX.at_ (i := 1) rfl
        have d2 := BX.at_ (i := 2) rfl
        have d3 := BX.at_ (i := 3) rfl
        have d4 := BX.at_ (i := 4) rfl
        have d5 := BX.at_ (i := 5) rfl
        have d6 := BX.at_ (i := 6) rfl
        have d7 := BX.at_ (i := 7) rfl
        simp only [Nat.zero_add] at d0 d1 d2 d3 d4 d5 d6 d7
        have HBL := hide BLA
        clear BX BLA
        have hne : ∀ w0 : World, Nonempty (Kw (fun k => k ≠ ob) w0) := fun w0 => ⟨⟨w0, Keeps.refl _ _⟩⟩
        refine wp_region_two (fun w' => ∃ x : Kw (fun k => k ≠ ob) w1, w' = x.to) 7 [0, 1, 3] [2, 4, 5, 6] 25 [7, 8, 9, 10, 11, 12, 13, 14, 15, 16, 17, 18, 19, 20, 21, 22, 23, 24] (by kernel_rfl) (by kernel_rfl) ?_ ⟨⟨_, (Keeps.refl _ _).drew⟩, rfl⟩ ?_
        · intro d v c a w hx
          cases d <;> exact hx
        simp only [pickOps, List.getElem?_cons_zero, List.getElem?_cons_succ, Option.toList_some, List.cons_append, List.nil_append, List.drop_succ_cons, List.drop_zero]
        repeat (go_big_quiet_step (fail))
        refine wpQuiet_nil ?_
        refine wpLd_cons ?_
        go_wp2_with fail
        refine (HD.out _ ⟨⟨_, (Keeps.refl _ _).drew⟩, rfl⟩ HBL.out.drew).mono ?_
        rintro e w2 ⟨rb, rfl, kp2, H2⟩
        have HK2 := hide kp2
        have HC2 := hide H2
        clear kp2 H2 HD
        go_wp2_with fail
        refine ⟨⟨⟨w2, HK2.out⟩, rfl⟩, ?_⟩
        refine wpLd_cons ?_
        go_wp2_with fail
        refine HC2.out.mono ?_
        rintro e w3 ⟨rfl, kp3, H3⟩
        have HK3 := hide kp3
        have HT3 := hide H3
        clear kp3 H3 HC2
        go_wp2_with fail
        refine ⟨⟨⟨w3, HK3.out⟩, rfl⟩, ?_⟩
        refine wpLd_cons ?_
        go_wp2_with fail
        refine ⟨⟨⟨w3, HK3.out⟩, rfl⟩, ?_⟩
        refine wpLd_cons ?_
        go_wp2_with fail
        refine ⟨⟨⟨w3, HK3.out⟩, rfl⟩, ?_⟩
        unfold wpLd
        obtain ⟨g0, c0, nA, g1, c1, m, g5, c5, ge, ce, D, hA, hm, s0, s1, s5, t0, t1, hD⟩ := HT3.out.see T
        have HDD := hide hD
        clear hD HK2 HK3 HBL d0 d1 d2 d3 d4 d5 d6 d7 hne
        refine ⟨fun w' => ∃ x, w' = w3.ext x, ext_self w3, ?_⟩
        repeat (go_big_quiet_step (fail))
        refine wpQuiet_nil ?_
        go_wp2_with fail
        go_loopw [53] (fun q wr => ∃ j : Nat, j ≤ m ∧ q = .int .i64 j ∧ ∃ x, wr = w3.ext x) (fun q _ => m - (intOf q).toNat)
        case atStart => exact ⟨0, by omega, rfl, ext_self w3⟩
        case round =>
          obtain ⟨j, hj, rfl, x3, rfl⟩ := hrel
          by_cases hjl : j < m
          · obtain ⟨y0, y1⟩ := HDD.out j hjl
            generalize D j = dj at y0 y1
            go_wp2_with fail
            refine wp_region_qy w3 13 (by kernel_rfl) (by kernel_rfl) ⟨x3, rfl⟩ ?_
            simp only [List.take_succ_cons, List.take_zero, List.drop_succ_cons, List.drop_zero]
            repeat (go_big_quiet_step (fail))
            refine wpQuiet_nil ?_
            rintro _ ⟨x4, rfl⟩
            go_wp2_with fail
            go_roundw
            case rel => exact ⟨j + 1, by omega, by go_num, x4, rfl⟩
            case measure => simp [intOf]; omega
          · go_wp2_with fail
            have HNX := hide (HT3.out.below (World.below_ext w3 x3))
            go_roundw
            case rel => exact ⟨k + 1, by omega, by go_num, HNX⟩
            case measure => simp [intOf]; omega
      · go_wp2_with fail
        go_ret
        obtain ⟨_, _, _, _, _, _, _, bl, _⟩ := HT1.out
        exact ⟨rfl, bl⟩
end Go.Proofs.Ygcfaa
