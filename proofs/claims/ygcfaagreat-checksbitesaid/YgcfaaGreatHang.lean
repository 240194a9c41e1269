import Derived.Test.YgcfaaGreatGrow
namespace Go.Proofs.YgcfaaGreat
open Go.RowKit Bits Bd
set_option linter.unusedVariables false
set_option maxRecDepth 100000
set_option linter.unusedSimpArgs false
attribute [local go_sem] World.cell?_ext World.frozen?_ext Kw.cell Kw.frozen

theorem one_cells {w : World} {g : Nat} {v : Value} (hc : w.cell? ⟨g, 0, none⟩ = some v) : ∀ (j : Nat) (u : Value), [v][j]? = some u → w.cell? ⟨g, j, none⟩ = some u := by
  intro j u hj
  match j, hj with
  | 0, hj => simp at hj; subst hj; exact hc
theorem alloc_cell {w : World} {g : Nat} {v : Value} {t : TypeId} (hg : g = w.heap.size) : (w.alloc (.cells #[v] t)).cell? ⟨g, 0, none⟩ = some v := by
  subst hg
  simp
theorem one_one {v : Value} (hv : v.oneCell' = true) : ∀ u ∈ [v], u.oneCell' = true := by
  intro u hu
  simp at hu
  subst hu
  exact hv

set_option maxHeartbeats 8000000 in
theorem hang_calls (q : Ptr) (hq : q.Ok) (up via depth : Nat) (hup : up < 256) (hvia : via < 256) (hdepth : depth < 256) {w : World} {p : Nat} {h : Nat → Value} {B : Bld} (hb : HB w p h B) (hO : B.obj.length ≤ 500000)
     (h1 : B.up.length ≤ 500000) (h2 : B.via.length ≤ 500000) (h3 : B.depth.length ≤ 500000) (h4 : B.dead.length ≤ 500000) :
    Calls Faag.prog 39 #[.pointer (some ⟨p, 0, none⟩), .agg (ptrC q).toArray, .int .u8 up, .int .u8 via, .int .u8 depth] w fun e w' => RetN e ∧ ∃ h', HB w' p h' (hangB B q up via depth) ∧ Mv p h h' w w' := by
  have HQ := hide hq
  obtain ⟨kind, at_, data, ptrs, code, count⟩ := q
  unfold ptrC
  dsimp only
  obtain ⟨c1, c2⟩ := hb.cell 1 (by omega)
  simp only [fOff, Nat.reduceAdd] at c1 c2
  have HH := hide hb
  have n1 : some p ≠ (h 1).ownBlock := fun e => by
    have := hb.apart 2 0 p (by simp only [blks]; exact e.symm) rfl
    omega
  have n2 : some w.heap.size ≠ (h 1).ownBlock := fun e => by
    have := ((hb.own 1 (by omega)).lt _ e.symm).2
    omega
  have hp : p < w.heap.size := hb.lt ⟨0, rfl⟩
  clear hb hq
  have hne : ∀ w0 : World, Nonempty (Kw (fun k => some k = (h 1).ownBlock) w0) := fun w0 => ⟨⟨w0, Keeps.refl _ _⟩⟩
  go_enter Faag.func39, Faag.ntmps39
  go_wp2_with fail
  refine wp_region_ql (fun w' => ∃ x : Kw (fun k => some k = (h 1).ownBlock) _, w' = x.to) 8 [0, 1, 2, 3, 4, 5] [6, 7] (by kernel_rfl) (by kernel_rfl) ?_ ⟨⟨_, (Keeps.refl _ _).drew⟩, rfl⟩ ?_
  · intro d v c a w hx
    cases d <;> exact hx
  simp only [pickOps, List.getElem?_cons_zero, List.getElem?_cons_succ, Option.toList_some, List.cons_append, List.nil_append, List.drop_succ_cons, List.drop_zero]
  repeat (go_big_quiet_step (fail))
  refine wpQuiet_nil ?_
  refine wpLd_cons ?_
  go_wp2_with fail
  refine ⟨⟨⟨_, ((Keeps.refl _ _).drew).alloc _⟩, rfl⟩, ?_⟩
  refine wpLd_one rfl ?_
  have hx1 := HH.out.kp ((((Keeps.refl (fun _ => False) w).alloc (.cells #[.int .u8 kind, .int .u16 at_, .int .u8 data, .int .u8 ptrs, .int .u8 code, .int .u16 count] 62)).alloc (.cells #[.int .u8 kind, .int .u16 at_, .int .u8 data, .int .u8 ptrs, .int .u8 code, .int .u16 count] 62)).drew)
  have mv1 : Mv p h h w _ := Mv.of_kp ((((Keeps.refl (fun _ => False) w).alloc (.cells #[.int .u8 kind, .int .u16 at_, .int .u8 data, .int .u8 ptrs, .int .u8 code, .int .u16 count] 62)).alloc (.cells #[.int .u8 kind, .int .u16 at_, .int .u8 data, .int .u8 ptrs, .int .u8 code, .int .u16 count] 62)).drew)
  refine wp_app 1 (by omega) _ _ _ rfl rfl _ _ _ rfl (hx1.own 1 (by omega)) (w.heap.size + 1) 1 1 (ptrC ⟨kind, at_, data, ptrs, code, count⟩) rfl rfl ?c1 ?c2 (by omega) ?c4 ?_
  case c1 => 
    intro j u hj
    match j, hj with
    | 0, hj => simp [ptrC] at hj; subst hj; simp
    | 1, hj => simp [ptrC] at hj; subst hj; simp
    | 2, hj => simp [ptrC] at hj; subst hj; simp
    | 3, hj => simp [ptrC] at hj; subst hj; simp
    | 4, hj => simp [ptrC] at hj; subst hj; simp
    | 5, hj => simp [ptrC] at hj; subst hj; simp
    | j + 6, hj => simp [ptrC] at hj
  case c2 => intro u hu; simp [ptrC] at hu; rcases hu with rfl | rfl | rfl | rfl | rfl | rfl <;> rfl
  case c4 => simp only [Bld.len]; omega
  intro v' w1 ho hk hbk
  refine ⟨⟨⟨w1, ?_⟩, rfl⟩, ?_⟩
  · exact Keeps.trans (((Keeps.refl _ _).alloc _).drew) hk
  obtain ⟨g, c, rfl⟩ := own_form ho (by omega)
  have kn := hx1.app_cell (i := 1) (by omega) hk
  obtain ⟨k1, k2⟩ := kn 1 (by omega)
  obtain ⟨k3, k4⟩ := kn 2 (by omega)
  simp only [fOff, Nat.reduceAdd] at k1 k2 k3 k4
  have HF := hide (And.intro (hx1.app (by omega) hk ho hbk (row_obj B _) (ok_obj hx1.ok HQ.out)) (mv1.trans (hx1.app_mv (by omega) hk hbk)))
  clear hx1 mv1 hk ho hbk HH kn c1 c2 n1 n2 hne
  simp only [fOff, Nat.reduceAdd] at HF
  unfold wpLd
  go_wp2_with (first
    | (at_builtin; refine wpList_app 2 (by omega) rfl _ _ _ rfl rfl _ _ _ rfl ((HF.out.1.alloc _).own 2 (by omega)) w1.heap.size 1 1 [.int .u8 up] rfl rfl ?c1 (one_one rfl) (by omega) ?c4 ?_)
    | fail)
  case c1 => exact one_cells (alloc_cell (by simp))
  case c4 => simp only [Bld.len]; omega
  intro v' w3 ho hk hbk
  obtain ⟨g, c, rfl⟩ := own_form ho (by omega)
  have hx := HF.out.1.alloc (.cells #[.int .u8 up] 5)
  have mvx := HF.out.2.trans (Mv.of_kp (((Keeps.refl (fun _ => False) _).alloc (.cells #[.int .u8 up] 5))))
  have kn := hx.app_cell (i := 2) (by omega) hk
  obtain ⟨k1, k2⟩ := kn 2 (by omega)
  obtain ⟨k3, k4⟩ := kn 3 (by omega)
  simp only [fOff, Nat.reduceAdd] at k1 k2 k3 k4
  replace HF := hide (And.intro (hx.app (i := 2) (by omega) hk ho hbk (row_up _ up) (ok_up hx.ok hup)) (mvx.trans (hx.app_mv (i := 2) (by omega) hk hbk)))
  clear hx mvx hk ho hbk kn
  simp only [fOff, Nat.reduceAdd] at HF
  go_wp2_with (first
    | (at_builtin; refine wpList_app 3 (by omega) rfl _ _ _ rfl rfl _ _ _ rfl ((HF.out.1.alloc _).own 3 (by omega)) w3.heap.size 1 1 [.int .u8 via] rfl rfl ?c1 (one_one rfl) (by omega) ?c4 ?_)
    | fail)
  case c1 => exact one_cells (alloc_cell (by simp))
  case c4 => simp only [Bld.len]; omega
  intro v' w4 ho hk hbk
  obtain ⟨g, c, rfl⟩ := own_form ho (by omega)
  have hx := HF.out.1.alloc (.cells #[.int .u8 via] 5)
  have mvx := HF.out.2.trans (Mv.of_kp (((Keeps.refl (fun _ => False) _).alloc (.cells #[.int .u8 via] 5))))
  have kn := hx.app_cell (i := 3) (by omega) hk
  obtain ⟨k1, k2⟩ := kn 3 (by omega)
  obtain ⟨k3, k4⟩ := kn 4 (by omega)
  simp only [fOff, Nat.reduceAdd] at k1 k2 k3 k4
  replace HF := hide (And.intro (hx.app (i := 3) (by omega) hk ho hbk (row_via _ via) (ok_via hx.ok hvia)) (mvx.trans (hx.app_mv (i := 3) (by omega) hk hbk)))
  clear hx mvx hk ho hbk kn
  simp only [fOff, Nat.reduceAdd] at HF
  go_wp2_with (first
    | (at_builtin; refine wpList_app 4 (by omega) rfl _ _ _ rfl rfl _ _ _ rfl ((HF.out.1.alloc _).own 4 (by omega)) w4.heap.size 1 1 [.int .u8 depth] rfl rfl ?c1 (one_one rfl) (by omega) ?c4 ?_)
    | fail)
  case c1 => exact one_cells (alloc_cell (by simp))
  case c4 => simp only [Bld.len]; omega
  intro v' w5 ho hk hbk
  obtain ⟨g, c, rfl⟩ := own_form ho (by omega)
  have hx := HF.out.1.alloc (.cells #[.int .u8 depth] 5)
  have mvx := HF.out.2.trans (Mv.of_kp (((Keeps.refl (fun _ => False) _).alloc (.cells #[.int .u8 depth] 5))))
  have kn := hx.app_cell (i := 4) (by omega) hk
  obtain ⟨k1, k2⟩ := kn 4 (by omega)
  obtain ⟨k3, k4⟩ := kn 5 (by omega)
  simp only [fOff, Nat.reduceAdd] at k1 k2 k3 k4
  replace HF := hide (And.intro (hx.app (i := 4) (by omega) hk ho hbk (row_depth _ depth) (ok_depth hx.ok hdepth)) (mvx.trans (hx.app_mv (i := 4) (by omega) hk hbk)))
  clear hx mvx hk ho hbk kn
  simp only [fOff, Nat.reduceAdd] at HF
  go_wp2_with (first
    | (at_builtin; refine wpList_app 5 (by omega) rfl _ _ _ rfl rfl _ _ _ rfl ((HF.out.1.alloc _).own 5 (by omega)) w5.heap.size 1 1 [.bool false] rfl rfl ?c1 (one_one rfl) (by omega) ?c4 ?_)
    | fail)
  case c1 => exact one_cells (alloc_cell (by simp))
  case c4 => simp only [Bld.len]; omega
  intro v' w6 ho hk hbk
  obtain ⟨g, c, rfl⟩ := own_form ho (by omega)
  have hx := HF.out.1.alloc (.cells #[.bool false] 4)
  have mvx := HF.out.2.trans (Mv.of_kp (((Keeps.refl (fun _ => False) _).alloc (.cells #[.bool false] 4))))
  have kn := hx.app_cell (i := 5) (by omega) hk
  obtain ⟨k1, k2⟩ := kn 5 (by omega)
  simp only [fOff, Nat.reduceAdd] at k1 k2
  replace HF := hide (And.intro (hx.app (i := 5) (by omega) hk ho hbk (row_dead _ false) (ok_dead hx.ok)) (mvx.trans (hx.app_mv (i := 5) (by omega) hk hbk)))
  clear hx mvx hk ho hbk kn
  simp only [fOff, Nat.reduceAdd] at HF
  go_wp2_with fail
  refine bodyPost_fall (v := .tuple #[]) (by simp [results, Faag.results39, go_sem]) rfl ⟨rfl, ?_⟩
  exact ⟨_, HF.out⟩
end Go.Proofs.YgcfaaGreat
