import Derived.Test.YgcfaaGreatFresh
namespace Go.Proofs.YgcfaaGreat
open Go.RowKit Bits Bd
set_option linter.unusedVariables false
set_option maxRecDepth 100000
set_option linter.unusedSimpArgs false
attribute [local go_sem] World.cell?_ext World.frozen?_ext

theorem cutG {F G : Nat → Nat → Nat → World → Prop} {R : Prop} (h1 : (∀ D K U w, F D K U w → G D K U w) → R) (h2 : ∀ D K U w, F D K U w → G D K U w) : R := h1 h2
/-- Two rows and a variable, new. -/
structure Fct48 (w0 : World) (d q D K U : Nat) (w : World) : Prop where
  oD : w.ownsRow 0 31 1 (.slice (some ⟨D, 0, none⟩) d d) d (cellsK .u64 (List.replicate d 0))
  oK : w.ownsRow 0 40 1 (.slice (some ⟨K, 0, none⟩) q q) q (kidsC (List.replicate q 0))
  rU : RowAt w U 0 zNdC
  lt : D < w.heap.size ∧ K < w.heap.size ∧ U < w.heap.size
  ge : w0.heap.size ≤ D ∧ w0.heap.size ≤ K ∧ w0.heap.size ≤ U
  ne : ¬ D = K ∧ ¬ D = U ∧ ¬ K = U
  kb : Below w0.heap.size w0 w
/-- A struct being made: result cell R, variable U, rows D and K. -/
structure S48 (w : World) (d q R D K U j : Nat) (w' : World) : Prop where
  rR : RowAt w' R 0 zNdC
  rU : RowAt w' U 0 [.int .u8 1, .int .u8 0, .slice (some ⟨D, 0, none⟩) d d, .slice (some ⟨K, 0, none⟩) q q]
  oD : w'.ownsRow 0 31 1 (.slice (some ⟨D, 0, none⟩) d d) d (cellsK .u64 (List.replicate d 0))
  oK : w'.ownsRow 0 40 1 (.slice (some ⟨K, 0, none⟩) q q) q (kidsC (List.replicate j (-1) ++ List.replicate (q - j) 0))
  kb : Below w.heap.size w w'
theorem S48.step {w w' : World} {d q R D K U j : Nat} (s : S48 w d q R D K U j w') (hj : j < q) (h1 : ¬ K = R) (h2 : ¬ K = U) (h3 : ¬ D = K) (h4 : w.heap.size ≤ K) : S48 w d q R D K U (j + 1) (w'.setCell ⟨K, j, none⟩ (.int .i16 (-1))) := by
  have ks := keeps_set w' K j (.int .i16 (-1))
  refine ⟨s.rR.keeps ks (fun _ e => h1 e.symm), s.rU.keeps ks (fun _ e => h2 e.symm), own_keeps s.oD ks (fun i hi e => ?_), ?_, s.kb.trans (Keeps.below ((Keeps.refl (fun k => k = K) w').setCell (fun _ => rfl) _) s.kb.size (fun k hk e => by have e' : k = K := e; omega))⟩
  · have : D = i := by simpa [Value.ownBlock] using hi
    omega
  · have := own_set s.oK j (.int .i16 (-1))
    have e : (kidsC (List.replicate j (-1) ++ List.replicate (q - j) 0)).set j (.int .i16 (-1)) = kidsC (List.replicate (j + 1) (-1) ++ List.replicate (q - (j + 1)) 0) := by
      unfold kidsC
      rw [← List.map_set (f := fun k => Value.int .i16 k), List.set_append_right _ _ (by rw [List.length_replicate]; omega), List.length_replicate, Nat.sub_self, show q - j = (q - (j + 1)) + 1 by omega, List.replicate_succ, List.set_cons_zero, List.replicate_succ', List.append_assoc]
      rfl
    rw [e] at this
    exact this

set_option maxHeartbeats 16000000 in
theorem structOf_calls (w : World) (d q : Nat) (hd : d < 256) (hq : q < 256) :
    Calls Faag.prog 48 #[.int .u8 d, .int .u8 q] w fun e w' => ∃ dv kv, e = .returned (.agg #[.int .u8 1, .int .u8 0, dv, kv]) ∧ w'.ownsRow 0 31 1 dv d (cellsK .u64 (List.replicate d 0)) ∧ w'.ownsRow 0 40 1 kv q (kidsC (List.replicate q (-1))) ∧
      (∀ j, dv.ownBlock = some j → w.heap.size ≤ j) ∧ (∀ j, kv.ownBlock = some j → w.heap.size ≤ j) ∧ (∀ j, dv.ownBlock = some j → ¬ kv.ownBlock = some j) ∧ Below w.heap.size w w' := by
  go_enter Faag.func48, Faag.ntmps48
  go_wp2_with fail
  obtain ⟨w0, hw0⟩ : ∃ w0, w0 = w.alloc (Obj.cells #[.int .u8 0, .int .u8 0, .slice none 0 0, .slice none 0 0] 76) := ⟨_, rfl⟩
  rw [← hw0]
  have HW0 := hide hw0
  clear hw0
  refine wp_region_seg (fun _ => True) 6 [0, 2] 4 (by kernel_rfl) (by kernel_rfl) ?_ trivial ?_
  · intro d v c a w hx
    cases d <;> exact hx
  simp only [pickOps, List.getElem?_cons_zero, List.getElem?_cons_succ, Option.toList_some, List.cons_append, List.nil_append, List.drop_succ_cons, List.drop_zero]
  repeat (go_big_quiet_step (fail))
  refine wpQuiet_nil ?_
  apply cutG (F := Fct48 w0 d q)
  case h1 =>
    intro key
    refine segH_three (i := 1) (j := 3) (k := 5) (by kernel_rfl) rfl rfl rfl (by omega) (by omega) (by omega) ?_ ?_ ?_
    · go_wp2_with (first | (refine wpList_makeD ty_words rfl _ _ rfl .u8 .u8 d rfl rfl (by omega) (by omega) ?_; intro D w1 lD sD oD b1) | fail)
      refine segH_two (i := 3) (j := 5) (by kernel_rfl) rfl rfl (by omega) (by omega) ?_ ?_
      · go_wp2_with (first | (refine wpList_makeD ty_kids rfl _ _ rfl .u8 .u8 q rfl rfl (by omega) (by omega) ?_; intro K w2 lK sK oK b2) | fail)
        refine segH_two (i := 4) (j := 5) (by kernel_rfl) rfl rfl (by omega) (by omega) ?_ ?_
        · go_wp2_with fail
          refine segH_one (i := 5) (by kernel_rfl) rfl (by omega) ?_
          · go_wp2_with (first | (refine wpList_allocD rfl 76 rfl zNdC info76 (by decide) ?_; intro U w3 lU sU rU b3) | fail)
            have k1 : Below w1.heap.size w1 w3 := b2.trans (b3.mono b2.size)
            have hs1 := b1.size
            have hs2 := b2.size
            have hs3 := b3.size
            have hD : D < w3.heap.size := by omega
            have hK : K < w3.heap.size := by omega
            have hU : U < w3.heap.size := by omega
            have oD' : w3.ownsRow 0 31 1 (.slice (some ⟨D, 0, none⟩) d d) d (cellsK .u64 (List.replicate d 0)) := by
              rw [made_words] at oD
              first | exact oD | exact own_below oD b3 | exact own_below oD k1
            have oK' : w3.ownsRow 0 40 1 (.slice (some ⟨K, 0, none⟩) q q) q (kidsC (List.replicate q 0)) := by
              rw [made_kids] at oK
              first | exact oK | exact own_below oK b3 | exact own_below oK k1
            have rU' : RowAt w3 U 0 zNdC := by first | exact rU | exact row_below rU b3 | exact row_below rU k1
            have hDK : ¬ D = K := by omega
            have hDU : ¬ D = U := by omega
            have hKU : ¬ K = U := by omega
            have kb : Below w0.heap.size w0 w3 := (below_drew w0).trans ((b1.trans (b2.mono hs1)).trans (b3.mono (Nat.le_trans hs1 hs2)))
            have hdr : w0.drew.heap.size = w0.heap.size := rfl
            refine ⟨by kernel_rfl, ?_⟩
            exact key D K U w3 ⟨oD', oK', rU', ⟨hD, hK, hU⟩, ⟨by omega, by omega, by omega⟩, ⟨hDK, hDU, hKU⟩, kb⟩
        · go_wp2_with (first | (refine wpList_allocD rfl 76 rfl zNdC info76 (by decide) ?_; intro U w3 lU sU rU b3) | fail)
          refine segH_one (i := 4) (by kernel_rfl) rfl (by omega) ?_
          · go_wp2_with fail
            have k1 : Below w1.heap.size w1 w3 := b2.trans (b3.mono b2.size)
            have hs1 := b1.size
            have hs2 := b2.size
            have hs3 := b3.size
            have hD : D < w3.heap.size := by omega
            have hK : K < w3.heap.size := by omega
            have hU : U < w3.heap.size := by omega
            have oD' : w3.ownsRow 0 31 1 (.slice (some ⟨D, 0, none⟩) d d) d (cellsK .u64 (List.replicate d 0)) := by
              rw [made_words] at oD
              first | exact oD | exact own_below oD b3 | exact own_below oD k1
            have oK' : w3.ownsRow 0 40 1 (.slice (some ⟨K, 0, none⟩) q q) q (kidsC (List.replicate q 0)) := by
              rw [made_kids] at oK
              first | exact oK | exact own_below oK b3 | exact own_below oK k1
            have rU' : RowAt w3 U 0 zNdC := by first | exact rU | exact row_below rU b3 | exact row_below rU k1
            have hDK : ¬ D = K := by omega
            have hDU : ¬ D = U := by omega
            have hKU : ¬ K = U := by omega
            have kb : Below w0.heap.size w0 w3 := (below_drew w0).trans ((b1.trans (b2.mono hs1)).trans (b3.mono (Nat.le_trans hs1 hs2)))
            have hdr : w0.drew.heap.size = w0.heap.size := rfl
            refine ⟨by kernel_rfl, ?_⟩
            exact key D K U w3 ⟨oD', oK', rU', ⟨hD, hK, hU⟩, ⟨by omega, by omega, by omega⟩, ⟨hDK, hDU, hKU⟩, kb⟩
      · go_wp2_with (first | (refine wpList_allocD rfl 76 rfl zNdC info76 (by decide) ?_; intro U w2 lU sU rU b2) | fail)
        refine segH_one (i := 3) (by kernel_rfl) rfl (by omega) ?_
        · go_wp2_with (first | (refine wpList_makeD ty_kids rfl _ _ rfl .u8 .u8 q rfl rfl (by omega) (by omega) ?_; intro K w3 lK sK oK b3) | fail)
          refine segH_one (i := 4) (by kernel_rfl) rfl (by omega) ?_
          · go_wp2_with fail
            have k1 : Below w1.heap.size w1 w3 := b2.trans (b3.mono b2.size)
            have hs1 := b1.size
            have hs2 := b2.size
            have hs3 := b3.size
            have hD : D < w3.heap.size := by omega
            have hK : K < w3.heap.size := by omega
            have hU : U < w3.heap.size := by omega
            have oD' : w3.ownsRow 0 31 1 (.slice (some ⟨D, 0, none⟩) d d) d (cellsK .u64 (List.replicate d 0)) := by
              rw [made_words] at oD
              first | exact oD | exact own_below oD b3 | exact own_below oD k1
            have oK' : w3.ownsRow 0 40 1 (.slice (some ⟨K, 0, none⟩) q q) q (kidsC (List.replicate q 0)) := by
              rw [made_kids] at oK
              first | exact oK | exact own_below oK b3 | exact own_below oK k1
            have rU' : RowAt w3 U 0 zNdC := by first | exact rU | exact row_below rU b3 | exact row_below rU k1
            have hDK : ¬ D = K := by omega
            have hDU : ¬ D = U := by omega
            have hKU : ¬ K = U := by omega
            have kb : Below w0.heap.size w0 w3 := (below_drew w0).trans ((b1.trans (b2.mono hs1)).trans (b3.mono (Nat.le_trans hs1 hs2)))
            have hdr : w0.drew.heap.size = w0.heap.size := rfl
            refine ⟨by kernel_rfl, ?_⟩
            exact key D K U w3 ⟨oD', oK', rU', ⟨hD, hK, hU⟩, ⟨by omega, by omega, by omega⟩, ⟨hDK, hDU, hKU⟩, kb⟩
    · go_wp2_with (first | (refine wpList_makeD ty_kids rfl _ _ rfl .u8 .u8 q rfl rfl (by omega) (by omega) ?_; intro K w1 lK sK oK b1) | fail)
      refine segH_two (i := 1) (j := 5) (by kernel_rfl) rfl rfl (by omega) (by omega) ?_ ?_
      · go_wp2_with (first | (refine wpList_makeD ty_words rfl _ _ rfl .u8 .u8 d rfl rfl (by omega) (by omega) ?_; intro D w2 lD sD oD b2) | fail)
        refine segH_two (i := 4) (j := 5) (by kernel_rfl) rfl rfl (by omega) (by omega) ?_ ?_
        · go_wp2_with fail
          refine segH_one (i := 5) (by kernel_rfl) rfl (by omega) ?_
          · go_wp2_with (first | (refine wpList_allocD rfl 76 rfl zNdC info76 (by decide) ?_; intro U w3 lU sU rU b3) | fail)
            have k1 : Below w1.heap.size w1 w3 := b2.trans (b3.mono b2.size)
            have hs1 := b1.size
            have hs2 := b2.size
            have hs3 := b3.size
            have hD : D < w3.heap.size := by omega
            have hK : K < w3.heap.size := by omega
            have hU : U < w3.heap.size := by omega
            have oD' : w3.ownsRow 0 31 1 (.slice (some ⟨D, 0, none⟩) d d) d (cellsK .u64 (List.replicate d 0)) := by
              rw [made_words] at oD
              first | exact oD | exact own_below oD b3 | exact own_below oD k1
            have oK' : w3.ownsRow 0 40 1 (.slice (some ⟨K, 0, none⟩) q q) q (kidsC (List.replicate q 0)) := by
              rw [made_kids] at oK
              first | exact oK | exact own_below oK b3 | exact own_below oK k1
            have rU' : RowAt w3 U 0 zNdC := by first | exact rU | exact row_below rU b3 | exact row_below rU k1
            have hDK : ¬ D = K := by omega
            have hDU : ¬ D = U := by omega
            have hKU : ¬ K = U := by omega
            have kb : Below w0.heap.size w0 w3 := (below_drew w0).trans ((b1.trans (b2.mono hs1)).trans (b3.mono (Nat.le_trans hs1 hs2)))
            have hdr : w0.drew.heap.size = w0.heap.size := rfl
            refine ⟨by kernel_rfl, ?_⟩
            exact key D K U w3 ⟨oD', oK', rU', ⟨hD, hK, hU⟩, ⟨by omega, by omega, by omega⟩, ⟨hDK, hDU, hKU⟩, kb⟩
        · go_wp2_with (first | (refine wpList_allocD rfl 76 rfl zNdC info76 (by decide) ?_; intro U w3 lU sU rU b3) | fail)
          refine segH_one (i := 4) (by kernel_rfl) rfl (by omega) ?_
          · go_wp2_with fail
            have k1 : Below w1.heap.size w1 w3 := b2.trans (b3.mono b2.size)
            have hs1 := b1.size
            have hs2 := b2.size
            have hs3 := b3.size
            have hD : D < w3.heap.size := by omega
            have hK : K < w3.heap.size := by omega
            have hU : U < w3.heap.size := by omega
            have oD' : w3.ownsRow 0 31 1 (.slice (some ⟨D, 0, none⟩) d d) d (cellsK .u64 (List.replicate d 0)) := by
              rw [made_words] at oD
              first | exact oD | exact own_below oD b3 | exact own_below oD k1
            have oK' : w3.ownsRow 0 40 1 (.slice (some ⟨K, 0, none⟩) q q) q (kidsC (List.replicate q 0)) := by
              rw [made_kids] at oK
              first | exact oK | exact own_below oK b3 | exact own_below oK k1
            have rU' : RowAt w3 U 0 zNdC := by first | exact rU | exact row_below rU b3 | exact row_below rU k1
            have hDK : ¬ D = K := by omega
            have hDU : ¬ D = U := by omega
            have hKU : ¬ K = U := by omega
            have kb : Below w0.heap.size w0 w3 := (below_drew w0).trans ((b1.trans (b2.mono hs1)).trans (b3.mono (Nat.le_trans hs1 hs2)))
            have hdr : w0.drew.heap.size = w0.heap.size := rfl
            refine ⟨by kernel_rfl, ?_⟩
            exact key D K U w3 ⟨oD', oK', rU', ⟨hD, hK, hU⟩, ⟨by omega, by omega, by omega⟩, ⟨hDK, hDU, hKU⟩, kb⟩
      · go_wp2_with (first | (refine wpList_allocD rfl 76 rfl zNdC info76 (by decide) ?_; intro U w2 lU sU rU b2) | fail)
        refine segH_one (i := 1) (by kernel_rfl) rfl (by omega) ?_
        · go_wp2_with (first | (refine wpList_makeD ty_words rfl _ _ rfl .u8 .u8 d rfl rfl (by omega) (by omega) ?_; intro D w3 lD sD oD b3) | fail)
          refine segH_one (i := 4) (by kernel_rfl) rfl (by omega) ?_
          · go_wp2_with fail
            have k1 : Below w1.heap.size w1 w3 := b2.trans (b3.mono b2.size)
            have hs1 := b1.size
            have hs2 := b2.size
            have hs3 := b3.size
            have hD : D < w3.heap.size := by omega
            have hK : K < w3.heap.size := by omega
            have hU : U < w3.heap.size := by omega
            have oD' : w3.ownsRow 0 31 1 (.slice (some ⟨D, 0, none⟩) d d) d (cellsK .u64 (List.replicate d 0)) := by
              rw [made_words] at oD
              first | exact oD | exact own_below oD b3 | exact own_below oD k1
            have oK' : w3.ownsRow 0 40 1 (.slice (some ⟨K, 0, none⟩) q q) q (kidsC (List.replicate q 0)) := by
              rw [made_kids] at oK
              first | exact oK | exact own_below oK b3 | exact own_below oK k1
            have rU' : RowAt w3 U 0 zNdC := by first | exact rU | exact row_below rU b3 | exact row_below rU k1
            have hDK : ¬ D = K := by omega
            have hDU : ¬ D = U := by omega
            have hKU : ¬ K = U := by omega
            have kb : Below w0.heap.size w0 w3 := (below_drew w0).trans ((b1.trans (b2.mono hs1)).trans (b3.mono (Nat.le_trans hs1 hs2)))
            have hdr : w0.drew.heap.size = w0.heap.size := rfl
            refine ⟨by kernel_rfl, ?_⟩
            exact key D K U w3 ⟨oD', oK', rU', ⟨hD, hK, hU⟩, ⟨by omega, by omega, by omega⟩, ⟨hDK, hDU, hKU⟩, kb⟩
    · go_wp2_with (first | (refine wpList_allocD rfl 76 rfl zNdC info76 (by decide) ?_; intro U w1 lU sU rU b1) | fail)
      refine segH_two (i := 1) (j := 3) (by kernel_rfl) rfl rfl (by omega) (by omega) ?_ ?_
      · go_wp2_with (first | (refine wpList_makeD ty_words rfl _ _ rfl .u8 .u8 d rfl rfl (by omega) (by omega) ?_; intro D w2 lD sD oD b2) | fail)
        refine segH_one (i := 3) (by kernel_rfl) rfl (by omega) ?_
        · go_wp2_with (first | (refine wpList_makeD ty_kids rfl _ _ rfl .u8 .u8 q rfl rfl (by omega) (by omega) ?_; intro K w3 lK sK oK b3) | fail)
          refine segH_one (i := 4) (by kernel_rfl) rfl (by omega) ?_
          · go_wp2_with fail
            have k1 : Below w1.heap.size w1 w3 := b2.trans (b3.mono b2.size)
            have hs1 := b1.size
            have hs2 := b2.size
            have hs3 := b3.size
            have hD : D < w3.heap.size := by omega
            have hK : K < w3.heap.size := by omega
            have hU : U < w3.heap.size := by omega
            have oD' : w3.ownsRow 0 31 1 (.slice (some ⟨D, 0, none⟩) d d) d (cellsK .u64 (List.replicate d 0)) := by
              rw [made_words] at oD
              first | exact oD | exact own_below oD b3 | exact own_below oD k1
            have oK' : w3.ownsRow 0 40 1 (.slice (some ⟨K, 0, none⟩) q q) q (kidsC (List.replicate q 0)) := by
              rw [made_kids] at oK
              first | exact oK | exact own_below oK b3 | exact own_below oK k1
            have rU' : RowAt w3 U 0 zNdC := by first | exact rU | exact row_below rU b3 | exact row_below rU k1
            have hDK : ¬ D = K := by omega
            have hDU : ¬ D = U := by omega
            have hKU : ¬ K = U := by omega
            have kb : Below w0.heap.size w0 w3 := (below_drew w0).trans ((b1.trans (b2.mono hs1)).trans (b3.mono (Nat.le_trans hs1 hs2)))
            have hdr : w0.drew.heap.size = w0.heap.size := rfl
            refine ⟨by kernel_rfl, ?_⟩
            exact key D K U w3 ⟨oD', oK', rU', ⟨hD, hK, hU⟩, ⟨by omega, by omega, by omega⟩, ⟨hDK, hDU, hKU⟩, kb⟩
      · go_wp2_with (first | (refine wpList_makeD ty_kids rfl _ _ rfl .u8 .u8 q rfl rfl (by omega) (by omega) ?_; intro K w2 lK sK oK b2) | fail)
        refine segH_one (i := 1) (by kernel_rfl) rfl (by omega) ?_
        · go_wp2_with (first | (refine wpList_makeD ty_words rfl _ _ rfl .u8 .u8 d rfl rfl (by omega) (by omega) ?_; intro D w3 lD sD oD b3) | fail)
          refine segH_one (i := 4) (by kernel_rfl) rfl (by omega) ?_
          · go_wp2_with fail
            have k1 : Below w1.heap.size w1 w3 := b2.trans (b3.mono b2.size)
            have hs1 := b1.size
            have hs2 := b2.size
            have hs3 := b3.size
            have hD : D < w3.heap.size := by omega
            have hK : K < w3.heap.size := by omega
            have hU : U < w3.heap.size := by omega
            have oD' : w3.ownsRow 0 31 1 (.slice (some ⟨D, 0, none⟩) d d) d (cellsK .u64 (List.replicate d 0)) := by
              rw [made_words] at oD
              first | exact oD | exact own_below oD b3 | exact own_below oD k1
            have oK' : w3.ownsRow 0 40 1 (.slice (some ⟨K, 0, none⟩) q q) q (kidsC (List.replicate q 0)) := by
              rw [made_kids] at oK
              first | exact oK | exact own_below oK b3 | exact own_below oK k1
            have rU' : RowAt w3 U 0 zNdC := by first | exact rU | exact row_below rU b3 | exact row_below rU k1
            have hDK : ¬ D = K := by omega
            have hDU : ¬ D = U := by omega
            have hKU : ¬ K = U := by omega
            have kb : Below w0.heap.size w0 w3 := (below_drew w0).trans ((b1.trans (b2.mono hs1)).trans (b3.mono (Nat.le_trans hs1 hs2)))
            have hdr : w0.drew.heap.size = w0.heap.size := rfl
            refine ⟨by kernel_rfl, ?_⟩
            exact key D K U w3 ⟨oD', oK', rU', ⟨hD, hK, hU⟩, ⟨by omega, by omega, by omega⟩, ⟨hDK, hDU, hKU⟩, kb⟩
  case h2 =>
    intro D K U w3 fc
    have HF := hide fc
    have c0 := fc.rU.at_ (i := 0) rfl
    have c1 := fc.rU.at_ (i := 1) rfl
    have c2 := fc.rU.at_ (i := 2) rfl
    have c3 := fc.rU.at_ (i := 3) rfl
    have l0 := fc.rU.live 0 (by decide)
    have l1 := fc.rU.live 1 (by decide)
    have l2 := fc.rU.live 2 (by decide)
    have l3 := fc.rU.live 3 (by decide)
    simp only [Nat.zero_add] at c0 c1 c2 c3 l0 l1 l2 l3
    have hUl := fc.lt.2.2
    clear fc
    go_wp2_with fail
    have HR0 := hide (show RowAt w0 w.heap.size 0 zNdC from by rw [HW0.out]; exact RowAt.of_alloc w zNdC 76)
    have hRs : w.heap.size < w0.heap.size := by rw [HW0.out, World.size_alloc]; omega
    have hRge := HF.out.ge
    have hRlt := HF.out.lt
    have hRne := HF.out.ne
    obtain ⟨R, hR⟩ : ∃ R, R = w.heap.size := ⟨_, rfl⟩
    have hb0 : Below w.heap.size w w0 := by rw [HW0.out]; exact (Below.refl _ _).alloc (Nat.le_refl _) _
    have hS : S48 w d q R D K U 0 ((((w3.setCell ⟨U, 0, none⟩ (.int .u8 1)).setCell ⟨U, 1, none⟩ (.int .u8 0)).setCell ⟨U, 2, none⟩ (.slice (some ⟨D, 0, none⟩) d d)).setCell ⟨U, 3, none⟩ (.slice (some ⟨K, 0, none⟩) q q)) := by
      have ks : Keeps (fun k => k = U) w3 ((((w3.setCell ⟨U, 0, none⟩ (.int .u8 1)).setCell ⟨U, 1, none⟩ (.int .u8 0)).setCell ⟨U, 2, none⟩ (.slice (some ⟨D, 0, none⟩) d d)).setCell ⟨U, 3, none⟩ (.slice (some ⟨K, 0, none⟩) q q)) :=
        ((((Keeps.refl (fun k => k = U) w3).setCell (fun _ => rfl) _).setCell (fun _ => rfl) _).setCell (fun _ => rfl) _).setCell (fun _ => rfl) _
      refine ⟨?_, ?_, own_keeps HF.out.oD ks (fun i hi e => ?_), ?_, ?_⟩
      · rw [hR]
        exact (row_below HR0.out HF.out.kb).keeps ks (fun _ e => by have e' : w.heap.size = U := e; omega)
      · have r1 := (((HF.out.rU.set (i := 0) (by decide) (.int .u8 1)).set (i := 1) (by decide) (.int .u8 0)).set (i := 2) (by decide) (.slice (some ⟨D, 0, none⟩) d d)).set (i := 3) (by simp [zNdC]) (.slice (some ⟨K, 0, none⟩) q q)
        simp only [Nat.zero_add] at r1
        exact r1
      · have : D = i := by simpa [Value.ownBlock] using hi
        have e' : i = U := e
        omega
      · have := own_keeps HF.out.oK ks (fun i hi e => by
          have : K = i := by simpa [Value.ownBlock] using hi
          have e' : i = U := e
          omega)
        rw [List.replicate_zero, List.nil_append, Nat.sub_zero]
        exact this
      · exact hb0.trans ((HF.out.kb.mono (Nat.le_of_lt hRs)).trans (ks.below (Nat.le_trans (Nat.le_of_lt hRs) HF.out.kb.size) (fun k hk e => by have e' : k = U := e; omega)))
    have HS := hide hS
    clear hS c0 c1 c2 c3 l0 l1 l2 l3
    have HNE := hide (show ¬ K = R ∧ ¬ K = U ∧ ¬ D = K ∧ w.heap.size ≤ K ∧ ¬ D = R ∧ ¬ U = R ∧ w.heap.size ≤ D from ⟨by omega, by omega, by omega, by omega, by omega, by omega, by omega⟩)
    rw [← hR]
    have HRR := hide hR
    clear hR hRs hRge hRlt hRne hUl HF HR0 HW0
    generalize ((((w3.setCell ⟨U, 0, none⟩ (.int .u8 1)).setCell ⟨U, 1, none⟩ (.int .u8 0)).setCell ⟨U, 2, none⟩ (.slice (some ⟨D, 0, none⟩) d d)).setCell ⟨U, 3, none⟩ (.slice (some ⟨K, 0, none⟩) q q)) = w4 at *
    go_loopw [15] (fun x wr => ∃ j : Nat, j ≤ q ∧ x = .int .i64 (j : Nat) ∧ Hid (S48 w d q R D K U j wr)) (fun x _ => 65536 - (intOf x).toNat)
    case atStart => exact ⟨0, by omega, by simp, HS⟩
    case round =>
      clear HS
      obtain ⟨j, hj, rfl, H⟩ := hrel
      have c0 := H.out.rU.at_ (i := 0) rfl
      have c1 := H.out.rU.at_ (i := 1) rfl
      have c2 := H.out.rU.at_ (i := 2) rfl
      have c3 := H.out.rU.at_ (i := 3) rfl
      have r0 := H.out.rR.at_ (i := 0) rfl
      have r1 := H.out.rR.at_ (i := 1) rfl
      have r2 := H.out.rR.at_ (i := 2) rfl
      have r3 := H.out.rR.at_ (i := 3) rfl
      have l0 := H.out.rR.live 0 (by decide)
      have l1 := H.out.rR.live 1 (by decide)
      have l2 := H.out.rR.live 2 (by decide)
      have l3 := H.out.rR.live 3 (by decide)
      simp only [Nat.zero_add] at c0 c1 c2 c3 l0 l1 l2 l3 r0 r1 r2 r3
      by_cases hgj : j < q
      · obtain ⟨n1, n2, n3, n4, _⟩ := HNE.out
        obtain ⟨kc, kf⟩ := own_cell H.out.oK (i := j) (u := .int .i16 0) (by
          unfold kidsC
          rw [List.getElem?_map, List.getElem?_append_right (by rw [List.length_replicate]; omega), List.length_replicate, Nat.sub_self, List.getElem?_replicate, if_pos (by omega)]; rfl)
        have HS2 := hide (H.out.step hgj n1 n2 n3 n4)
        clear r0 r1 r2 r3 l0 l1 l2 l3 n1 n2 n3 n4
        go_wp2_with fail
        go_roundw
        case rel => exact ⟨j + 1, by omega, by go_num, HS2⟩
        case measure => simp [intOf]; omega
      · have hjq : j = q := by omega
        subst hjq
        have HS2 := hide H.out
        clear H
        obtain ⟨n1, n2, n3, n4, n5, n6, n7⟩ := HNE.out
        have hRl : R < wr.heap.size := lt_of_cell r0
        go_wp2_with fail
        have q1 := (((HS2.out.rR.set (i := 0) (by decide) (.int .u8 1)).set (i := 1) (by decide) (.int .u8 0)).set (i := 2) (by decide) (.slice (some ⟨D, 0, none⟩) d d)).set (i := 3) (by simp [zNdC]) (.slice (some ⟨K, 0, none⟩) j j)
        simp only [Nat.zero_add] at q1
        have ks : Keeps (fun k => k = R) wr ((((wr.setCell ⟨R, 0, none⟩ (.int .u8 1)).setCell ⟨R, 1, none⟩ (.int .u8 0)).setCell ⟨R, 2, none⟩ (.slice (some ⟨D, 0, none⟩) d d)).setCell ⟨R, 3, none⟩ (.slice (some ⟨K, 0, none⟩) j j)) :=
          ((((Keeps.refl (fun k => k = R) wr).setCell (fun _ => rfl) _).setCell (fun _ => rfl) _).setCell (fun _ => rfl) _).setCell (fun _ => rfl) _
        generalize ((((wr.setCell ⟨R, 0, none⟩ (.int .u8 1)).setCell ⟨R, 1, none⟩ (.int .u8 0)).setCell ⟨R, 2, none⟩ (.slice (some ⟨D, 0, none⟩) d d)).setCell ⟨R, 3, none⟩ (.slice (some ⟨K, 0, none⟩) j j)) = w5 at *
        have e0 := q1.at_ (i := 0) rfl
        have e1 := q1.at_ (i := 1) rfl
        have e2 := q1.at_ (i := 2) rfl
        have e3 := q1.at_ (i := 3) rfl
        simp only [Nat.zero_add] at e0 e1 e2 e3
        refine bodyPost_ret (v := .agg #[.int .u8 1, .int .u8 0, .slice (some ⟨D, 0, none⟩) d d, .slice (some ⟨K, 0, none⟩) j j]) (w := w5) (by simp [results, Faag.results48, go_sem, e0, e1, e2, e3, asAddr]) rfl ?_
        refine ⟨_, _, rfl, own_keeps HS2.out.oD ks (fun i hi e => ?_), ?_, fun i hi => ?_, fun i hi => ?_, fun i hi hi2 => ?_, HS2.out.kb.trans (ks.below HS2.out.kb.size (fun k hk e => ?_))⟩
        · have : D = i := by simpa [Value.ownBlock] using hi
          have e' : i = R := e
          omega
        · have := own_keeps HS2.out.oK ks (fun i hi e => by
            have : K = i := by simpa [Value.ownBlock] using hi
            have e' : i = R := e
            omega)
          rw [Nat.sub_self, List.replicate_zero, List.append_nil] at this
          exact this
        · have : D = i := by simpa [Value.ownBlock] using hi
          omega
        · have : K = i := by simpa [Value.ownBlock] using hi
          omega
        · have h1 : D = i := by simpa [Value.ownBlock] using hi
          have h2 : K = i := by simpa [Value.ownBlock] using hi2
          omega
        · have e' : k = R := e
          have := HRR.out
          omega
end Go.Proofs.YgcfaaGreat
