import Derived.Test.YgcfaaGreatRoom
namespace Go.Proofs.YgcfaaGreat
open Go.RowKit Bits Bd
set_option linter.unusedVariables false
set_option maxRecDepth 100000
set_option linter.unusedSimpArgs false
attribute [local go_sem] World.cell?_ext World.frozen?_ext

/-- It hands back whether there is a new builder. -/
def RetO (e : Ending) (o : Option Bld) : Prop := e = .returned (.bool o.isSome)

theorem ext_alloc (w : World) (o : Obj) : ∃ x, (w.alloc o).drew = w.ext x := World.ext_of_below ⟨rfl, rfl, rfl, by simp, fun k hk => heap_alloc_old w o hk⟩
theorem ext_self (w : World) : ∃ x, w = w.ext x := ⟨{ w with heap := #[] }, by simp [World.ext]⟩
theorem ext_drew (w : World) : ∃ x, w.drew = w.ext x := World.ext_of_below ⟨rfl, rfl, rfl, Nat.le_refl _, fun _ _ => rfl⟩

theorem Keeps.ext {X : Nat → Prop} {w w' : World} (h : Keeps X w w') (x : World) : Keeps X w (w'.ext x) :=
  ⟨h.os, h.tape, h.output, by rw [World.size_ext]; exact Nat.le_trans h.size (Nat.le_add_right _ _), fun k hk hx => (World.block_ext w' x (Nat.lt_of_lt_of_le hk h.size)).trans (h.block k hk hx)⟩
/-- A box that is none of the builder's blocks stays. -/
theorem Mv.step {p : Nat} {h h' : Nat → Value} {W W' : World} {b : Nat} {vs : List Value} (mv : Mv p h h' W W') (box : RowAt W b 0 vs) (hvs : 0 < vs.length) (nb : ¬ blk p h b) : RowAt W' b 0 vs ∧ ¬ blk p h' b :=
  ⟨box.keeps mv.keeps (fun _ => nb), fun e => (mv.fresh _ e).elim nb (fun hle => by have := box.lt hvs; omega)⟩

/-- The builder and two boxes, in the world W. -/
structure St (p : Nat) (w : World) (h : Nat → Value) (b1 : Nat) (vs1 : List Value) (b2 : Nat) (vs2 : List Value) (W : World) (h' : Nat → Value) (B : Bld) : Prop where
  hb : HB W p h' B
  mv : Mv p h h' w W
  r1 : RowAt W b1 0 vs1
  n1 : ¬ blk p h' b1
  r2 : RowAt W b2 0 vs2
  n2 : ¬ blk p h' b2
section
variable {p : Nat} {w W W' : World} {h h' h'' : Nat → Value} {b1 b2 : Nat} {vs1 vs2 : List Value} {B B' : Bld}
theorem St.step (s : St p w h b1 vs1 b2 vs2 W h' B) (l1 : 0 < vs1.length) (l2 : 0 < vs2.length) (hb : HB W' p h'' B') (mv : Mv p h' h'' W W') : St p w h b1 vs1 b2 vs2 W' h'' B' :=
  ⟨hb, s.mv.trans mv, (mv.step s.r1 l1 s.n1).1, (mv.step s.r1 l1 s.n1).2, (mv.step s.r2 l2 s.n2).1, (mv.step s.r2 l2 s.n2).2⟩
theorem St.ext (s : St p w h b1 vs1 b2 vs2 W h' B) (l1 : 0 < vs1.length) (l2 : 0 < vs2.length) (x : World) : St p w h b1 vs1 b2 vs2 (W.ext x) h' B :=
  s.step l1 l2 (s.hb.ext x) (Mv.of_below (World.below_ext _ _))
/-- Two boxes are laid. -/
theorem St.two (hb : HB w p h B) (vs1 : List Value) (t1 : TypeId) (vs2 : List Value) (t2 : TypeId) : St p w h w.heap.size vs1 (w.heap.size + 1) vs2 ((w.alloc (.cells vs1.toArray t1)).alloc (.cells vs2.toArray t2)).drew h B := by
  have k : Keeps (fun _ => False) w ((w.alloc (.cells vs1.toArray t1)).alloc (.cells vs2.toArray t2)).drew := (((Keeps.refl _ _).alloc _).alloc _).drew
  refine ⟨hb.kp k, Mv.of_kp k, ?_, hb.not_new (Nat.le_refl _), ?_, hb.not_new (by omega)⟩
  · exact (RowAt.of_alloc w vs1 t1).keeps (((Keeps.refl (fun _ => False) _).alloc _).drew) (fun _ => id)
  · have := (RowAt.of_alloc (w.alloc (.cells vs1.toArray t1)) vs2 t2).keeps ((Keeps.refl (fun _ => False) _).drew) (fun _ => id)
    simpa using this
end

theorem set_ok {B : Bld} (ok : B.Ok) {i v : Nat} (hv : v < 18446744073709551616) : (setA B i v).Ok := ⟨getD_set_lt ok.A hv, ok.slot, ok.four, ok.obj, ok.up, ok.via, ok.depth⟩
theorem set_row (B : Bld) (i v : Nat) : RowIs B (setA B i v) 0 (B.len 0) ((B.row 0).set i (.int .u64 (v : Int))) := by
  refine ⟨by simp [Bld.row, setA, U_set], by simp [Bld.len, setA], ?_, ?_, rfl⟩ <;>
  · intro j hj hne
    match j, hj with
    | 0, _ => exact absurd rfl hne
    | 1, _ => rfl
    | 2, _ => rfl
    | 3, _ => rfl
    | 4, _ => rfl
    | 5, _ => rfl
/-- A word of the arena is written. -/
theorem HB.setA {w : World} {p : Nat} {h : Nat → Value} {B : Bld} (hb : HB w p h B) {g m c i v : Nat} (hg : h 0 = .slice (some ⟨g, 0, none⟩) m c) (hv : v < 18446744073709551616) :
    HB (w.setCell ⟨g, i, none⟩ (.int .u64 (v : Int))) p h (Bd.setA B i v) := hb.put (i := 0) (by omega) hg (set_row B i v) (set_ok hb.ok hv)

theorem roomB_lt {B : Bld} {x i m n a : Nat} (h : roomB B x i m n = some a) : a < B.A.length ∧ B.A.length + m ≤ 256 ∧ B.obj.length + n ≤ 256 ∧ B.depth.getD x 0 < 8 ∧ B.A.getD a 0 = 0 := by
  unfold roomB at h
  split at h
  · cases h
  · rename_i b hb
    split at h
    · rename_i h1
      cases h
      unfold slotB at hb
      split at hb
      · cases hb
      · split at hb
        · rename_i h2; cases hb; exact ⟨h2, h1.2.2.1, h1.2.2.2, h1.2.1, h1.1⟩
        · cases hb
    · cases h

set_option maxHeartbeats 8000000 in
theorem newStruct_calls (op : Opn) (hop : op.Ok) {w : World} {p : Nat} {h : Nat → Value} {B : Bld} (hb : HB w p h B) (hl : Live B op.h) :
    Calls Faag.prog 40 #[.pointer (some ⟨p, 0, none⟩), .agg (opC op).toArray] w fun e w' => RetO e (newStructB B op) ∧ ∃ h', HB w' p h' ((newStructB B op).getD B) ∧ Mv p h h' w w' := by
  obtain ⟨⟨a1, a2⟩, ⟨a3, a4⟩, _, _, a5, _⟩ := hl.even
  have hopH := hide hop
  obtain ⟨q, hq⟩ : ∃ q : Ptr, q = ⟨1, B.A.length, op.x, op.y, 0, 0⟩ := ⟨_, rfl⟩
  have hqok : q.Ok := by rw [hq]; exact ⟨by dsimp only; omega, by dsimp only; omega, hop.x, hop.y, by dsimp only; omega, by dsimp only; omega⟩
  have HW := hide (words_calls q hqok)
  have hwl := words_le q
  have hnsB : newStructB B op = match roomB B op.h op.i (words q) 1 with | none => none | some a => some (hangB (markB (growB (setA B a (mkStruct a B.A.length op.x op.y)) (words q)) (B.A.length + op.x) op.y true) q op.h op.i (B.depth.getD op.h 0 + 1)) := by rw [hq]; rfl
  have HR := hide (fun (W : World) (hW : HB W p h B) => room_calls op hop (words q) 1 (by omega) (by omega) hW hl)
  generalize hwq : words q = m at *
  have HN := hide hnsB
  obtain ⟨c0, _⟩ := hb.cell 0 (by omega)
  obtain ⟨b0, cp0, hv0, _⟩ := own_len (hb.own 0 (by omega))
  simp only [fOff, Nat.reduceAdd, Bld.len] at c0 hv0
  rw [hv0] at c0
  have hp : p < w.heap.size := hb.lt ⟨0, rfl⟩
  have HH := hide hb
  obtain ⟨kind, x, i, X, Y, N, V, s⟩ := op
  obtain ⟨o1, o2, o3, o4, o5, o6, o7⟩ := hop
  unfold opC at HR ⊢
  dsimp only at o1 o2 o3 o4 o5 o6 o7 hl hq HR HN ⊢
  subst hq
  unfold ptrC at HW
  dsimp only at HW
  have hHl := hide hl
  clear hb hl hwq hnsB hqok
  go_enter Faag.func40, Faag.ntmps40
  go_wp2_with fail
  refine wp_region_ql (fun w' => ∃ x, w' = (w.alloc _).ext x) 12 [0, 1, 2, 3, 4, 5, 6, 7, 8, 9, 10] [11] (by kernel_rfl) (by kernel_rfl) ?_ (ext_drew _) ?_
  · intro d v c a w hx
    cases d <;> exact hx
  simp only [pickOps, List.getElem?_cons_zero, List.getElem?_cons_succ, Option.toList_some, List.cons_append, List.nil_append, List.drop_succ_cons, List.drop_zero]
  repeat (go_big_quiet_step (fail))
  refine wpQuiet_nil ?_
  refine wpLd_cons ?_
  go_wp2_with fail
  refine ⟨ext_alloc _ _, ?_⟩
  unfold wpLd
  go_wp2_with fail
  have hst := St.two HH.out [.int .u8 kind, .int .u8 x, .int .u8 i, .int .u8 X, .int .u8 Y, .int .u16 N, .int .u64 V, .string s] 55 [.int .u8 1, .int .u16 B.A.length, .int .u8 X, .int .u8 Y, .int .u8 0, .int .u16 0] 62
  obtain ⟨W, hW⟩ : ∃ W, W = ((w.alloc (.cells #[.int .u8 kind, .int .u8 x, .int .u8 i, .int .u8 X, .int .u8 Y, .int .u16 N, .int .u64 V, .string s] 55)).alloc (.cells #[.int .u8 1, .int .u16 B.A.length, .int .u8 X, .int .u8 Y, .int .u8 0, .int .u16 0] 62)).drew := ⟨_, rfl⟩
  rw [← hW] at hst ⊢
  have HS := hide hst
  clear c0 hp HH
  obtain ⟨c0, c0f⟩ := hst.hb.cell 0 (by omega)
  simp only [fOff] at c0 c0f
  have bx := fun j u hu => hst.r1.at_ (i := j) (v := u) hu
  have e1 := bx 1 _ rfl
  have e2 := bx 2 _ rfl
  have e3 := bx 3 _ rfl
  have e4 := bx 4 _ rfl
  have e0 := bx 0 _ rfl
  have e5 := bx 5 _ rfl
  have e6 := bx 6 _ rfl
  have e7 := bx 7 _ rfl
  have by_ := fun j u hu => hst.r2.at_ (i := j) (v := u) hu
  have f0 := by_ 0 _ rfl
  have f1 := by_ 1 _ rfl
  have f2 := by_ 2 _ rfl
  have f3 := by_ 3 _ rfl
  have f4 := by_ 4 _ rfl
  have f5 := by_ 5 _ rfl
  simp only [Nat.zero_add, Nat.reduceAdd] at e0 e1 e2 e3 e4 e5 e6 e7 f0 f1 f2 f3 f4 f5
  clear bx by_ hst hW
  refine (HW.out _).mono ?_
  rintro e w1 ⟨rfl, hb1⟩
  obtain ⟨x1, rfl⟩ := World.ext_of_below hb1
  clear hb1
  go_wp2_with fail
  refine (HR.out _ (HS.out.hb.ext x1)).mono ?_
  rintro e w2 ⟨⟨a, r, rfl, hr, hal⟩, hb2⟩
  obtain ⟨x2, rfl⟩ := ext_below ⟨x1, rfl⟩ hb2
  clear hb2
  rcases hr with ⟨rfl, hr⟩ | ⟨rfl, hr⟩
  · have HN2 := HN.out
    rw [hr] at HN2
    dsimp only at HN2
    replace HN2 := hide HN2
    obtain ⟨r1, r2, r3, r4, _⟩ := roomB_lt hr
    have hb0 := HS.out.hb
    obtain ⟨ga, ca, hga, hgl, hgp, cA, cAf⟩ := hb0.aAt r1
    have HM := hide (mkStruct_calls a B.A.length X Y (by omega) (by omega) o4 o5)
    have hml := mkStruct_lt a B.A.length X Y
    obtain ⟨M, hM⟩ : ∃ M, M = mkStruct a B.A.length X Y := ⟨_, rfl⟩
    rw [← hM] at HM hml HN2
    rw [hga] at c0
    have HGA := hide hga
    clear HN hr hb0 hM hv0 hga
    go_wp2_with fail
    refine wp_region_qy W 13 (by kernel_rfl) (by kernel_rfl) ⟨_, rfl⟩ ?_
    simp only [List.take_succ_cons, List.take_zero, List.drop_succ_cons, List.drop_zero]
    repeat (go_big_quiet_step ((go_at_call 81; exact Calls.ext_of_same (HM.out _))))
    refine wpQuiet_nil ?_
    rintro _ ⟨x3, rfl⟩
    go_wp2_with fail
    have HS2 := hide (show St p w h _ _ _ _ ((W.ext x3).setCell ⟨ga, a, none⟩ (.int .u64 (M : Int))) h (Bd.setA B a M) from
      (HS.out.ext (by simp) (by simp) x3).step (by simp) (by simp) ((HS.out.ext (by simp) (by simp) x3).hb.setA HGA.out hml) (HB.put_mv p (i := 0) (by omega) HGA.out))
    have hDlt := HS.out.hb.ok.depth x
    clear HS e0 e1 e2 e3 e4 e5 e6 e7 f0 f1 f2 f3 f4 f5 c0 c0f cA cAf HGA HM HR HW
    refine (grow_calls m HS2.out.hb (by simp [Bd.setA]; omega) (by omega)).mono ?_
    rintro e w4 ⟨rfl, h4, hb4, mv4⟩
    have HS3 := hide (HS2.out.step (by simp) (by simp) hb4 mv4)
    clear hb4 mv4 HS2
    have bx := fun j u hu => HS3.out.r1.at_ (i := j) (v := u) hu
    have e1 := bx 1 _ rfl
    have e2 := bx 2 _ rfl
    have e3 := bx 3 _ rfl
    have e4 := bx 4 _ rfl
    have by_ := fun j u hu => HS3.out.r2.at_ (i := j) (v := u) hu
    have f0 := by_ 0 _ rfl
    have f1 := by_ 1 _ rfl
    have f2 := by_ 2 _ rfl
    have f3 := by_ 3 _ rfl
    have f4 := by_ 4 _ rfl
    have f5 := by_ 5 _ rfl
    simp only [Nat.zero_add, Nat.reduceAdd] at e1 e2 e3 e4 f0 f1 f2 f3 f4 f5
    clear bx by_
    go_wp2_with fail
    refine (mark_calls (B.A.length + X) Y (by omega) (by omega) true HS3.out.hb).mono ?_
    rintro e w5 ⟨rfl, hb5, mv5⟩
    have HS4 := hide (HS3.out.step (by simp) (by simp) hb5 mv5)
    clear hb5 mv5 HS3 e1 e2 e3 e4 f0 f1 f2 f3 f4 f5
    have bx := fun j u hu => HS4.out.r1.at_ (i := j) (v := u) hu
    have e1 := bx 1 _ rfl
    have e2 := bx 2 _ rfl
    have e3 := bx 3 _ rfl
    have e4 := bx 4 _ rfl
    have by_ := fun j u hu => HS4.out.r2.at_ (i := j) (v := u) hu
    have f0 := by_ 0 _ rfl
    have f1 := by_ 1 _ rfl
    have f2 := by_ 2 _ rfl
    have f3 := by_ 3 _ rfl
    have f4 := by_ 4 _ rfl
    have f5 := by_ 5 _ rfl
    simp only [Nat.zero_add, Nat.reduceAdd] at e1 e2 e3 e4 f0 f1 f2 f3 f4 f5
    clear bx by_
    obtain ⟨gd, cd, hgd, hgdl, cD⟩ := HS4.out.hb.dAt (j := x) (by show x < B.depth.length; have := hHl.out.lt; omega)
    obtain ⟨c4, _⟩ := HS4.out.hb.cell 4 (by omega)
    simp only [fOff, Nat.reduceAdd] at c4
    rw [hgd] at c4
    have hxd : x < B.depth.length := by have := hHl.out.lt; omega
    change w5.cell? _ = some (.slice _ B.depth.length cd) at c4
    change w5.cell? _ = some (.int .u8 (B.depth.getD x 0 : Nat)) at cD
    obtain ⟨D, hD⟩ : ∃ D, D = B.depth.getD x 0 := ⟨_, rfl⟩
    rw [← hD] at cD r4 hDlt HN2
    clear hgd hD
    go_wp2_with fail
    refine wp_region_qy w5 15 (by kernel_rfl) (by kernel_rfl) (ext_self _) ?_
    simp only [List.take_succ_cons, List.take_zero, List.drop_succ_cons, List.drop_zero]
    repeat (go_big_quiet_step (fail))
    refine wpQuiet_nil ?_
    rintro _ ⟨x6, rfl⟩
    go_wp2_with fail
    have hev := hHl.out.even
    refine (hang_calls ⟨1, B.A.length, X, Y, 0, 0⟩ ⟨by dsimp only; omega, by dsimp only; omega, o4, o5, by dsimp only; omega, by dsimp only; omega⟩ x i (D + 1) o2 o3 (by omega) (HS4.out.hb.ext x6)
      (by show B.obj.length ≤ _; omega) (by show B.up.length ≤ _; have := hev.2.2.1; omega) (by show B.via.length ≤ _; have := hev.2.2.2.1; omega) (by show B.depth.length ≤ _; omega) (by show B.dead.length ≤ _; have := hev.2.2.2.2.2; omega)).mono ?_
    rintro e w7 ⟨rfl, h7, hb7, mv7⟩
    have HF := hide (And.intro hb7 ((HS4.out.ext (by simp) (by simp) x6).mv.trans mv7))
    clear hb7 mv7 hev HS4 e1 e2 e3 e4 f0 f1 f2 f3 f4 f5 c4 cD
    go_wp2_with fail
    go_ret
    rw [HN2.out]
    exact ⟨rfl, h7, HF.out⟩
  · have HN2 := HN.out
    rw [hr] at HN2
    dsimp only at HN2
    replace HN2 := hide HN2
    clear HN hr
    go_wp2_with fail
    go_ret
    rw [HN2.out]
    exact ⟨rfl, h, (HS.out.ext (by simp) (by simp) _).hb, (HS.out.ext (by simp) (by simp) _).mv⟩
end Go.Proofs.YgcfaaGreat
