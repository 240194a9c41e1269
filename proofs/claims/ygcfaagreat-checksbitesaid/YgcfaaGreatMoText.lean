import Derived.Test.YgcfaaGreatMoOut
namespace Go.Proofs.YgcfaaGreat
open Go.RowKit Bits Bd
set_option linter.unusedVariables false
set_option maxRecDepth 100000
set_option linter.unusedSimpArgs false
attribute [local go_sem] World.cell?_ext World.frozen?_ext

/-- The first j bytes of a text, in L words. -/
def txt (s : ByteArray) (L j : Nat) : List Nat := (List.range L).map fun k => if k < j then zOf s k else 0
theorem txt_length (s : ByteArray) (L j : Nat) : (txt s L j).length = L := by unfold txt; rw [List.length_map, List.length_range]
theorem txt_zero (s : ByteArray) (L : Nat) : txt s L 0 = List.replicate L 0 := by
  refine List.ext_getElem? fun k => ?_
  unfold txt
  rw [List.getElem?_map, List.getElem?_replicate]
  by_cases h : k < L
  · rw [List.getElem?_range h, if_pos h]; rfl
  · rw [List.getElem?_eq_none (by rw [List.length_range]; omega), if_neg h]; rfl
theorem txt_getD (s : ByteArray) (L j k : Nat) : (txt s L j).getD k 0 ≤ 255 := by
  rw [List.getD_eq_getElem?_getD]
  unfold txt
  rw [List.getElem?_map]
  by_cases h : k < L
  · rw [List.getElem?_range h]
    show (if k < j then zOf s k else 0) ≤ 255
    have := zOf_lt s k
    split <;> omega
  · rw [List.getElem?_eq_none (by rw [List.length_range]; omega)]; exact Nat.zero_le _
theorem txt_mem (s : ByteArray) (L j : Nat) : ∀ d ∈ txt s L j, d < 18446744073709551616 := by
  intro d hd
  unfold txt at hd
  obtain ⟨k, _, rfl⟩ := List.mem_map.1 hd
  have := zOf_lt s k
  split <;> omega
theorem txt_set (s : ByteArray) (L j : Nat) (hj : j < L) : (txt s L j).set j (zOf s j) = txt s L (j + 1) := by
  refine List.ext_getElem? fun k => ?_
  by_cases h : k = j
  · subst h
    rw [List.getElem?_set_self (by rw [txt_length]; exact hj)]
    unfold txt
    rw [List.getElem?_map, List.getElem?_range hj]
    show some (zOf s k) = some (if k < k + 1 then zOf s k else 0)
    rw [if_pos (by omega)]
  · rw [List.getElem?_set_ne (fun e => h e.symm)]
    unfold txt
    rw [List.getElem?_map, List.getElem?_map]
    by_cases hk : k < L
    · rw [List.getElem?_range hk]
      show some (if k < j then zOf s k else 0) = some (if k < j + 1 then zOf s k else 0)
      by_cases h2 : k < j
      · rw [if_pos h2, if_pos (by omega)]
      · rw [if_neg h2, if_neg (by omega)]
    · rw [List.getElem?_eq_none (by rw [List.length_range]; omega)]
      rfl
/-- A text being laid. -/
structure TX (w : World) (opc : List Value) (st : ByteArray) (B3 B5 D L j : Nat) (w' : World) : Prop where
  r3 : RowAt w' B3 0 opc
  r5 : RowAt w' B5 0 [.int .u8 2, .int .u8 2, .slice (some ⟨D, 0, none⟩) L L, .slice none 0 0]
  oD : w'.ownsRow 0 31 1 (.slice (some ⟨D, 0, none⟩) L L) L (cellsK .u64 (txt st L j))
  kb : Below w.heap.size w w'
theorem TX.step {w w' : World} {opc : List Value} {st : ByteArray} {B3 B5 D L j : Nat} (s : TX w opc st B3 B5 D L j w') (hj : j < L) (h3 : ¬ B3 = D) (h5 : ¬ B5 = D) (hD : w.heap.size ≤ D) (nq : Nat) : TX w opc st B3 B5 D L (j + 1) ((w'.drewN nq).setCell ⟨D, j, none⟩ (.int .u64 (zOf st j : Int))) := by
  have bd : Below w'.heap.size w' (w'.drewN nq) := below_drewN _ _
  have ks := keeps_set (w'.drewN nq) D j (.int .u64 (zOf st j : Int))
  refine ⟨(row_below s.r3 bd).keeps ks (fun _ e => h3 e), (row_below s.r5 bd).keeps ks (fun _ e => h5 e), ?_, (s.kb.step bd).setCell hD _⟩
  have := own_set (own_below s.oD bd) j (.int .u64 (zOf st j : Int))
  rw [← txt_set st L j hj]
  unfold cellsK at this ⊢
  rw [List.map_set]
  exact this

set_option maxHeartbeats 16000000 in
theorem mtext_calls {w : World} {p : Nat} {h : Nat → Value} {M : Mo} (m : HM true w p h M) (v : InvM M) (op : Opn) (hop : op.Ok) (hs : op.s.size ≤ 9223372036854775807) (hH : op.h < M.H.length) :
    Calls Faag.prog 50 #[.pointer (some ⟨p, 0, none⟩), .agg (opC op).toArray] w (MOut w p h M.N.length) := by
  have HOP := hide hop
  obtain ⟨kind, x, i, X, Y, N, V, st⟩ := op
  obtain ⟨o1, o2, o3, o4, o5, o6, o7⟩ := hop
  dsimp only at o1 o2 o3 o4 o5 o6 o7 hH hs ⊢
  have HM0 := hide m
  have HV := hide v
  have HHH := hide hH
  have nm : ∀ j, w.heap.size ≤ j → ¬ mblk p h M.N.length j := fun j hj q => by have := m.blk_lt q; omega
  have HNM := hide nm
  have HC := hide (fun w => content_calls st hs w)
  clear m v hH nm
  unfold opC
  dsimp only
  go_enter Faag.func50, Faag.ntmps50
  go_wp2_with fail
  have hbW : Below w.heap.size w (w.alloc (.cells #[.int .u8 kind, .int .u8 x, .int .u8 i, .int .u8 X, .int .u8 Y, .int .u16 N, .int .u64 V, .string st] 55)) := (Below.refl _ _).alloc (Nat.le_refl _) _
  have r3 : RowAt (w.alloc (.cells #[.int .u8 kind, .int .u8 x, .int .u8 i, .int .u8 X, .int .u8 Y, .int .u16 N, .int .u64 V, .string st] 55)) w.heap.size 0 [.int .u8 kind, .int .u8 x, .int .u8 i, .int .u8 X, .int .u8 Y, .int .u16 N, .int .u64 V, .string st] := RowAt.of_alloc w _ 55
  have hWs : w.heap.size + 1 ≤ (w.alloc (.cells #[.int .u8 kind, .int .u8 x, .int .u8 i, .int .u8 X, .int .u8 Y, .int .u16 N, .int .u64 V, .string st] 55)).heap.size := by rw [World.size_alloc]; omega
  obtain ⟨B3, hB3⟩ : ∃ B, B = w.heap.size := ⟨_, rfl⟩
  rw [← hB3] at r3 ⊢
  generalize w.alloc (.cells #[.int .u8 kind, .int .u8 x, .int .u8 i, .int .u8 X, .int .u8 Y, .int .u16 N, .int .u64 V, .string st] 55) = W at *
  have HB3 := hide hB3
  clear hB3
  refine (HC.out _).mono ?_
  rintro e w1 ⟨⟨r, rfl, hr⟩, b1⟩
  cases r
  · clear r3
    go_wp2_with fail
    go_ret
    exact MOut.no HM0.out HV.out (hbW.step b1) _
  have hsz : st.size < 128 := (hr.1 rfl).1
  clear hr hs
  have q3 := row_below r3 b1
  have c7 := q3.at_ (i := 7) rfl
  simp only [Nat.zero_add] at c7
  have b01 : Below w.heap.size w w1 := hbW.step b1
  have hw1s : w.heap.size + 1 ≤ w1.heap.size := Nat.le_trans hWs b1.size
  clear r3 b1 hbW hWs
  obtain ⟨L, hL⟩ : ∃ L, L = st.size + 1 := ⟨_, rfl⟩
  have HLI := hide (show (L : Int) = (st.size : Int) + 1 by omega)
  have HL := hide hL
  have hLle : L ≤ 128 := by omega
  clear hL
  go_wp2_with (refine wpList_makeD ty_words rfl _ _ rfl .i64 .i64 L (by first | rfl | (rw [HLI.out]; rfl)) (by first | rfl | (rw [HLI.out]; rfl)) (by omega) (by omega) ?_)
  intro D w2 lD sD oD b2
  rw [made_words', ← txt_zero st L] at oD
  have q3' := row_below q3 b2
  have b02 : Below w.heap.size w w2 := b01.step b2
  have hw2s : w1.heap.size ≤ w2.heap.size := b2.size
  clear q3 b2 c7 b01
  have hbA : Below w2.heap.size w2 (w2.alloc (.cells #[.int .u8 2, .int .u8 2, .slice (some ⟨D, 0, none⟩) L L, .slice none 0 0] 76)) := (Below.refl _ _).alloc (Nat.le_refl _) _
  have HX0 := hide (show TX w [.int .u8 kind, .int .u8 x, .int .u8 i, .int .u8 X, .int .u8 Y, .int .u16 N, .int .u64 V, .string st] st B3 w2.heap.size D L 0 (w2.alloc (.cells #[.int .u8 2, .int .u8 2, .slice (some ⟨D, 0, none⟩) L L, .slice none 0 0] 76)) from ⟨row_below q3' hbA, RowAt.of_alloc w2 _ 76, own_below oD hbA, b02.step hbA⟩)
  have n3D : ¬ B3 = D := by have := HB3.out; omega
  have n5D : ¬ w2.heap.size = D := by omega
  have hDw : w.heap.size ≤ D := by omega
  clear oD q3' b02 hbA
  go_wp2_with fail
  obtain ⟨B5, hB5⟩ : ∃ B, B = w2.heap.size := ⟨_, rfl⟩
  rw [← hB5] at HX0 n5D ⊢
  have HB5 := hide (show w.heap.size + 1 ≤ B5 by omega)
  generalize w2.alloc (.cells #[.int .u8 2, .int .u8 2, .slice (some ⟨D, 0, none⟩) L L, .slice none 0 0] 76) = w3 at *
  clear hB5
  go_loopw [6] (fun q wr => ∃ k : Nat, k ≤ st.size ∧ q = .int .i64 k ∧ Hid (TX w [.int .u8 kind, .int .u8 x, .int .u8 i, .int .u8 X, .int .u8 Y, .int .u16 N, .int .u64 V, .string st] st B3 B5 D L k wr)) (fun q _ => st.size - (intOf q).toNat)
  case atStart => exact ⟨0, by omega, by simp, HX0⟩
  case round =>
    clear HX0
    obtain ⟨k, hk, rfl, H⟩ := hrel
    have c7 := H.out.r3.at_ (i := 7) rfl
    have c52 := H.out.r5.at_ (i := 2) rfl
    simp only [Nat.zero_add] at c7 c52
    by_cases hlt : k < st.size
    · have hkL : k < L := by have := HL.out; omega
      have dc := own_cell H.out.oD (i := k) (u := .int .u64 ((txt st L k).getD k 0 : Nat)) (by
        have hl : k < (txt st L k).length := by rw [txt_length]; exact hkL
        simp [cellsK, hl])
      obtain ⟨dc1, dc2⟩ := dc
      have hzk := hide (zOf_get hlt)
      have HST := hide (fun nq => H.out.step hkL n3D n5D hDw nq)
      generalize (txt st L k).getD k 0 = old at *
      go_wp2_with fail
      refine wp_region_qd 8 (by kernel_rfl) (by kernel_rfl) ?_
      simp only [List.take_succ_cons, List.take_zero, List.drop_succ_cons, List.drop_zero]
      repeat (go_big_quiet_step (fail))
      refine wpQuiet_nil ?_
      rintro _ ⟨nq, rfl⟩
      have hzl : ((st[k]'hlt).toNat) < 256 := UInt8.toNat_lt _
      go_wp2_with fail
      go_roundw
      case rel => exact ⟨k + 1, by omega, by go_num, hide (by have := HST.out nq; rw [hzk.out] at this; exact this)⟩
      case measure => simp [intOf]; omega
    · have hke : k = st.size := by omega
      subst hke
      clear hlt hk
      have u3 := H.out.r3
      have k0 := u3.at_ (i := 0) rfl
      have k1 := u3.at_ (i := 1) rfl
      have k2 := u3.at_ (i := 2) rfl
      have k3 := u3.at_ (i := 3) rfl
      have k4 := u3.at_ (i := 4) rfl
      have k5 := u3.at_ (i := 5) rfl
      have k6 := u3.at_ (i := 6) rfl
      have k7 := u3.at_ (i := 7) rfl
      have u5 := H.out.r5
      have n0 := u5.at_ (i := 0) rfl
      have n1 := u5.at_ (i := 1) rfl
      have n2 := u5.at_ (i := 2) rfl
      have n3 := u5.at_ (i := 3) rfl
      simp only [Nat.zero_add] at k0 k1 k2 k3 k4 k5 k6 k7 n0 n1 n2 n3
      have hb3 := HB3.out
      have hb5 := HB5.out
      have n35 : ¬ B3 = B5 := by omega
      have h5l : B5 < wr.heap.size := lt_of_cell n0
      have h3l : B3 < wr.heap.size := lt_of_cell k0
      have bA : Below wr.heap.size wr (wr.alloc (.cells #[.int .u8 2, .int .u16 0, .int .u8 0, .int .u8 0, .int .u8 2, .int .u16 (L : Int)] 62)) := (Below.refl _ _).alloc (Nat.le_refl _) _
      have HBA := hide (H.out.kb.step bA)
      have HBA2 := hide bA
      clear bA hb3 u3 u5 c7 c52
      go_wp2_with fail
      refine (mroom_calls (HM0.out.below HBA.out) HV.out ⟨kind, x, i, X, Y, N, V, st⟩ HOP.out ⟨2, 0, 0, 0, 2, L⟩ ⟨by first | decide | (dsimp only; omega), by first | decide | (dsimp only; omega), by first | decide | (dsimp only; omega), by first | decide | (dsimp only; omega), by first | decide | (dsimp only; omega), by dsimp only; omega⟩ 1 (by omega) HHH.out).mono ?_
      rintro e w5 ⟨⟨b, rfl, hbt⟩, b5⟩
      cases b
      · go_wp2_with fail
        go_ret
        exact MOut.no HM0.out HV.out (HBA.out.step b5) _
      have rp := hbt rfl
      have hwl := words_list rp.2.2.2.1 (by omega)
      have HRP := hide rp
      have HWL := hide hwl.2
      have b05 : Below w.heap.size w w5 := HBA.out.step b5
      have oD5 := own_below (own_below H.out.oD HBA2.out) b5
      have z3 := row_below (row_below H.out.r3 HBA2.out) b5
      have kk0 := z3.at_ (i := 0) rfl
      have kk1 := z3.at_ (i := 1) rfl
      have kk2 := z3.at_ (i := 2) rfl
      have kk3 := z3.at_ (i := 3) rfl
      have kk4 := z3.at_ (i := 4) rfl
      have kk5 := z3.at_ (i := 5) rfl
      have kk6 := z3.at_ (i := 6) rfl
      have kk7 := z3.at_ (i := 7) rfl
      have z5 := row_below (row_below H.out.r5 HBA2.out) b5
      have nn0 := z5.at_ (i := 0) rfl
      have nn1 := z5.at_ (i := 1) rfl
      have nn2 := z5.at_ (i := 2) rfl
      have nn3 := z5.at_ (i := 3) rfl
      have z7 := row_below (RowAt.of_alloc wr [.int .u8 2, .int .u16 0, .int .u8 0, .int .u8 0, .int .u8 2, .int .u16 (L : Int)] 62) b5
      have ll0 := z7.at_ (i := 0) rfl
      have ll1 := z7.at_ (i := 1) rfl
      have ll2 := z7.at_ (i := 2) rfl
      have ll3 := z7.at_ (i := 3) rfl
      have ll4 := z7.at_ (i := 4) rfl
      have ll5 := z7.at_ (i := 5) rfl
      simp only [Nat.zero_add] at kk0 kk1 kk2 kk3 kk4 kk5 kk6 kk7 nn0 nn1 nn2 nn3 ll0 ll1 ll2 ll3 ll4 ll5
      clear z3 z5 z7
      have HO5 := hide oD5
      have HB05 := hide b05
      clear hbt rp hwl b5 b05 oD5 k0 k1 k2 k3 k4 k5 k6 k7 n0 n1 n2 n3
      go_wp2_with fail
      refine (mhang_calls ((MS.refl HM0.out).below HB05.out) HV.out ⟨kind, x, i, X, Y, N, V, st⟩ HOP.out ⟨2, 0, 0, 0, 2, L⟩ ⟨by first | decide | (dsimp only; omega), by first | decide | (dsimp only; omega), by first | decide | (dsimp only; omega), by first | decide | (dsimp only; omega), by first | decide | (dsimp only; omega), by dsimp only; omega⟩ ⟨2, 2, txt st L st.size, []⟩ (.slice (some ⟨D, 0, none⟩) L L) (.slice none 0 0) ?_ (World.ownsRow_nil _ _ _ _) ?_ (fun j hj => by cases hj) (fun j _ hj => by cases hj) (ok_words (N := L) (by omega) (by omega) (txt_length _ _ _) (txt_mem _ _ _)) HHH.out HRP.out.1 HRP.out.2.2.1).mono ?_
      · show World.ownsRow _ 0 31 1 _ (txt st L st.size).length _
        rw [txt_length]
        exact HO5.out
      · intro j hj
        have : D = j := by simpa [Value.ownBlock] using hj
        exact ⟨by omega, HNM.out j (by omega)⟩
      · rintro e w6 ⟨rfl, h', s'⟩
        go_wp2_with fail
        go_ret
        refine ⟨⟨_, rfl⟩, h', _, s', invM_room HV.out HRP.out (by omega) (new_words (X := 2) (by omega) (by omega) hLle (txt_length _ _ _) (fun j _ => txt_getD _ _ _ _)) ?_⟩
        rcases HWL.out with z | z
        · rw [z.2.2]
          show twB ⟨2, 2, txt st L st.size, []⟩ 0 0 ≤ _
          unfold twB
          rw [if_neg (by dsimp only; omega), if_neg (by dsimp only; omega), if_neg (by dsimp only; omega)]
          show ((txt st L st.size).length * 2 ^ (2 - 2) + 7) / 8 ≤ _
          rw [txt_length]; exact Nat.le_refl _
        · omega
end Go.Proofs.YgcfaaGreat
