import Derived.Test.YgcfaaGreatWipe
namespace Go.Proofs.YgcfaaGreat
open Go.RowKit Bits Bd Utf
set_option linter.unusedVariables false
set_option maxRecDepth 100000
set_option linter.unusedSimpArgs false
attribute [local go_sem] World.cell?_ext World.frozen?_ext

theorem clearGo_len : ∀ (k i : Nat) (l : List Nat), (clearGo k i l).length = l.length
  | 0, _, _ => rfl
  | k + 1, i, l => by rw [clearGo, clearGo_len k]; simp
theorem dropGo_succ (oh oi : Nat) : ∀ (k h : Nat) (d : Drp), dropGo oh oi (k + 1) h d = dropStep oh oi (h + k) (dropGo oh oi k h d)
  | 0, h, d => rfl
  | k + 1, h, d => by
    rw [dropGo, dropGo_succ oh oi k (h + 1) (dropStep oh oi h d), show h + 1 + k = h + (k + 1) by omega]
    rfl
/-- What a step of drop leaves as it was. -/
structure Same (B B' : Bld) : Prop where
  A : B'.A.length = B.A.length
  obj : B'.obj = B.obj
  up : B'.up = B.up
  via : B'.via = B.via
  depth : B'.depth = B.depth
  dead : B'.dead.length = B.dead.length
theorem Same.refl (B : Bld) : Same B B := ⟨rfl, rfl, rfl, rfl, rfl, rfl⟩
theorem Same.trans {B B' B'' : Bld} (a : Same B B') (b : Same B' B'') : Same B B'' :=
  ⟨b.A.trans a.A, b.obj.trans a.obj, b.up.trans a.up, b.via.trans a.via, b.depth.trans a.depth, b.dead.trans a.dead⟩
theorem dropStep_same (oh oi h : Nat) (d : Drp) : Same d.B (dropStep oh oi h d).B ∧ (dropStep oh oi h d).gone.length = d.gone.length := by
  unfold dropStep
  split
  · exact ⟨⟨by simp [wipeB, markB, clearGo_len], rfl, rfl, rfl, rfl, by simp [wipeB, markB]⟩, by simp⟩
  · exact ⟨Same.refl _, rfl⟩
theorem dropGo_same (oh oi : Nat) : ∀ (k h : Nat) (d : Drp), Same d.B (dropGo oh oi k h d).B ∧ (dropGo oh oi k h d).gone.length = d.gone.length
  | 0, h, d => ⟨Same.refl _, rfl⟩
  | k + 1, h, d => by
    rw [dropGo]
    have h1 := dropStep_same oh oi h d
    have h2 := dropGo_same oh oi k (h + 1) (dropStep oh oi h d)
    exact ⟨h1.1.trans h2.1, h2.2.trans h1.2⟩

theorem dead_ok {B : Bld} (ok : B.Ok) (i : Nat) (v : Bool) : ({ B with dead := B.dead.set i v } : Bld).Ok := ⟨ok.A, ok.slot, ok.four, ok.obj, ok.up, ok.via, ok.depth⟩
theorem dead_row (B : Bld) (i : Nat) (v : Bool) : RowIs B { B with dead := B.dead.set i v } 5 (B.len 5) ((B.row 5).set i (.bool v)) := by
  refine ⟨by simp [Bld.row, rowB, List.map_set], by simp [Bld.len], ?_, ?_, rfl⟩ <;>
  · intro j hj hne
    match j, hj with
    | 0, _ => rfl
    | 1, _ => rfl
    | 2, _ => rfl
    | 3, _ => rfl
    | 4, _ => rfl
    | 5, _ => exact absurd rfl hne
theorem rowB_get {l : List Bool} {j : Nat} (hj : j < l.length) : (rowB l)[j]? = some (.bool (l.getD j false)) := by simp [rowB, hj]

theorem St.box2 {p : Nat} {w W : World} {h h' : Nat → Value} {b1 b2 : Nat} {vs1 vs2 : List Value} {B : Bld} (s : St p w h b1 vs1 b2 vs2 W h' B) {j : Nat} (hj : j < vs2.length) (hne : b1 ≠ b2) (hnew : w.heap.size ≤ b2) (v : Value) :
    St p w h b1 vs1 b2 (vs2.set j v) (W.setCell ⟨b2, j, none⟩ v) h' B := by
  have k : Keeps (fun b => b = b2) W (W.setCell ⟨b2, j, none⟩ v) := (Keeps.refl (fun b => b = b2) W).setCell (p := ⟨b2, j, none⟩) (fun _ => rfl) v
  refine ⟨s.hb.keeps k (fun b hb e => s.n2 (e ▸ hb)), ⟨s.mv.keeps.setCell (p := ⟨b2, j, none⟩) (fun hlt => absurd hlt (Nat.not_lt.2 hnew)) v, s.mv.fresh⟩, s.r1.other (.inl (fun e => hne e.symm)) v, s.n1, ?_, s.n2⟩
  have := s.r2.set hj v
  simpa using this
theorem step_no {dd f gg bu bv : Bool} {U x V i : Nat} (hu : bu = true ↔ U = x) (hv : bv = true ↔ V = i) (hh : (dd || !((!f && (bu && bv)) || gg)) = true) : ¬ (dd = false ∧ ((f = false ∧ U = x ∧ V = i) ∨ gg = true)) := by
  rw [← hu, ← hv]
  revert hh
  cases dd <;> cases f <;> cases gg <;> cases bu <;> cases bv <;> simp
theorem step_yes {dd f gg bu bv : Bool} {U x V i : Nat} (hu : bu = true ↔ U = x) (hv : bv = true ↔ V = i) (hh : (dd || !((!f && (bu && bv)) || gg)) = false) : dd = false ∧ ((f = false ∧ U = x ∧ V = i) ∨ gg = true) := by
  rw [← hu, ← hv]
  revert hh
  cases dd <;> cases f <;> cases gg <;> cases bu <;> cases bv <;> simp
theorem zero80 : Faag.zeroCells137 = (rowB (List.replicate 256 false)).toArray := by kernel_rfl
/-- One box, then blocks, then a second box. -/
theorem St.twoX {p : Nat} {w W1 : World} {h : Nat → Value} {B : Bld} (hb : HB w p h B) (vs1 : List Value) (t1 : TypeId) (x1 : World) (hW : W1 = (w.alloc (.cells vs1.toArray t1)).ext x1) (vs2 : List Value) (t2 : TypeId) : St p w h w.heap.size vs1 W1.heap.size vs2 (W1.alloc (.cells vs2.toArray t2)) h B := by
  have k1 : Keeps (fun _ => False) w W1 := by rw [hW]; exact Keeps.ext ((Keeps.refl _ _).alloc _) x1
  have k : Keeps (fun _ => False) w (W1.alloc (.cells vs2.toArray t2)) := k1.alloc _
  refine ⟨hb.kp k, Mv.of_kp k, ?_, hb.not_new (Nat.le_refl _), RowAt.of_alloc W1 vs2 t2, hb.not_new k1.size⟩
  have h1 := (RowAt.of_alloc w vs1 t1).keeps (Keeps.ext (Keeps.refl (fun _ => False) _) x1) (fun _ => id)
  rw [← hW] at h1
  exact h1.alloc _

set_option maxHeartbeats 16000000 in
theorem drop_calls (op : Opn) (hop : op.Ok) {w : World} {p : Nat} {h : Nat → Value} {B : Bld} (hb : HB w p h B) (hl : Live B op.h) :
    Calls Faag.prog 45 #[.pointer (some ⟨p, 0, none⟩), .agg (opC op).toArray] w fun e w' => RetO e (dropB B op) ∧ ∃ h', HB w' p h' ((dropB B op).getD B) ∧ Mv p h h' w w' := by
  obtain ⟨⟨a1, a2⟩, ⟨a3, a4⟩, a6, a7, a5, a8⟩ := hl.even
  have hD : (slotB B op.h op.i = none → dropB B op = none) ∧ ∀ a, slotB B op.h op.i = some a → dropB B op = if B.A.getD a 0 = 0 then none else some (Bd.setA (dropGo op.h op.i (B.obj.length - 1) 1 ⟨false, List.replicate 256 false, B⟩).B a 0) := by
    unfold dropB
    exact ⟨fun e => by rw [e], fun a e => by rw [e]⟩
  have hSlt : ∀ a, slotB B op.h op.i = some a → a < B.A.length := by
    intro a ha
    unfold slotB at ha
    split at ha
    · cases ha
    · split at ha
      · rename_i h1; cases ha; exact h1
      · cases ha
  have HD := hide (And.intro hD hSlt)
  have hsc := hide (fun o => slot_calls op.h op.i hop.h hop.i (hb.alloc o) hl.lt (by omega) hl.at_)
  generalize dropB B op = S at *
  obtain ⟨T, hT⟩ : ∃ T, T = slotB B op.h op.i := ⟨_, rfl⟩
  rw [← hT] at HD hsc
  have HH := hide hb
  obtain ⟨b0, cp0, c0, hv0⟩ := hb.lens 0 (by omega)
  simp only [fOff, Bld.len] at c0 hv0
  have hp : p < w.heap.size := hb.lt ⟨0, rfl⟩
  obtain ⟨kind, x, i, X, Y, N, V, s⟩ := op
  obtain ⟨o1, o2, o3, o4, o5, o6, o7⟩ := hop
  unfold opC
  dsimp only at o1 o2 o3 o4 o5 o6 o7 HD hsc hl ⊢
  clear hb hT hD hSlt
  go_enter Faag.func45, Faag.ntmps45
  go_wp2_with fail
  refine (hsc.out _).mono ?_
  rintro e w1 ⟨⟨a, r, rfl, hr, hal⟩, hb1⟩
  obtain ⟨x1, rfl⟩ := World.ext_of_below hb1
  clear hb1
  rcases hr with ⟨rfl, hr⟩ | ⟨rfl, hr⟩
  · have ha := HD.out.2 a hr
    have hS := HD.out.1.2 a hr
    obtain ⟨ga, ca, hga, hgl, hgp, cA, cAf⟩ := HH.out.aAt ha
    rw [hga] at hv0
    cases hv0
    by_cases e1 : B.A.getD a 0 = 0
    · rw [if_pos e1] at hS
      have HS2 := hide hS
      rw [e1] at cA
      clear hS HD hsc hga
      go_wp2_with fail
      go_ret
      rw [HS2.out]
      exact ⟨rfl, h, (HH.out.alloc _).ext _, (Mv.of_below ((Below.refl _ w).alloc (Nat.le_refl _) _)).trans (Mv.of_below (World.below_ext _ _))⟩
    · rw [if_neg e1] at hS
      have HS2 := hide hS
      have hAv := HH.out.ok.A a
      have g1 : ((B.A.getD a 0 : Int) == 0) = false := by simp only [beq_eq_false_iff_ne, ne_eq]; omega
      generalize B.A.getD a 0 = Av at *
      have HGA := hide hga
      clear hS HD hsc hga e1
      go_wp2_with fail
      obtain ⟨W1, hW1⟩ : ∃ W1, W1 = (w.alloc (.cells #[.int .u8 kind, .int .u8 x, .int .u8 i, .int .u8 X, .int .u8 Y, .int .u16 N, .int .u64 V, .string s] 55)).ext x1 := ⟨_, rfl⟩
      rw [← hW1]
      have hst := St.twoX HH.out [.int .u8 kind, .int .u8 x, .int .u8 i, .int .u8 X, .int .u8 Y, .int .u16 N, .int .u64 V, .string s] 55 x1 hW1 (rowB (List.replicate 256 false)) 137
      rw [← zero80] at hst
      have HS := hide hst
      have hW1' := hW1
      clear hst hW1 HH c0 cA cAf hp
      obtain ⟨G, hG⟩ : ∃ G, G = W1.heap.size := ⟨_, rfl⟩
      rw [← hG] at HS ⊢
      have hevH := hide hl.even
      have hGw : w.heap.size < G := by rw [hG, hW1']; rw [World.size_ext, World.size_alloc]; omega
      clear hl hG hW1'
      go_loopw [8, 9] (fun f q wr => ∃ k : Nat, k ≤ B.obj.length - 1 ∧ q = .int .i64 (1 + k : Nat) ∧ f = .bool (dropGo x i k 1 ⟨false, List.replicate 256 false, B⟩).found ∧ Hid (∃ h', St p w h w.heap.size [.int .u8 kind, .int .u8 x, .int .u8 i, .int .u8 X, .int .u8 Y, .int .u16 N, .int .u64 V, .string s] G (rowB (dropGo x i k 1 ⟨false, List.replicate 256 false, B⟩).gone) wr h' (dropGo x i k 1 ⟨false, List.replicate 256 false, B⟩).B)) (fun _ q _ => 65536 - (intOf q).toNat)
      case atStart => exact ⟨0, by omega, rfl, rfl, hide ⟨h, HS.out⟩⟩
      case round =>
        clear HS
        obtain ⟨k, hk, rfl, rfl, H1⟩ := hrel
        obtain ⟨h3, hs3⟩ := H1.out
        have HS := hide hs3
        obtain ⟨hsm, hgl3⟩ := dropGo_same x i k 1 ⟨false, List.replicate 256 false, B⟩
        have hsucc := hide (dropGo_succ x i k 1 ⟨false, List.replicate 256 false, B⟩)
        clear H1 hs3
        obtain ⟨d, hdd0⟩ : ∃ d, d = dropGo x i k 1 ⟨false, List.replicate 256 false, B⟩ := ⟨_, rfl⟩
        have HDD := hide hdd0.symm
        rw [← hdd0] at HS hsm hgl3 hsucc ⊢
        clear hdd0
        dsimp only at hsm
        simp only [List.length_replicate] at hgl3
        obtain ⟨b1, cp1, c1, hv1⟩ := HS.out.hb.lens 1 (by omega)
        simp only [fOff, Nat.reduceAdd, Bld.len] at c1 hv1
        rw [hsm.obj] at c1 hv1
        have HK := hide hk
        obtain ⟨J, hJ⟩ : ∃ J, J = 1 + k := ⟨_, rfl⟩
        rw [← hJ] at hsucc ⊢
        have HJ := hide hJ
        have hJ1 : 1 ≤ J := by omega
        by_cases hlt : J < B.obj.length
        · obtain ⟨g2, q2, v2, l2, n2, r2⟩ := HS.out.hb.rowAt 2 (by omega) (by simp only [Bld.len]; rw [hsm.up]; omega)
          obtain ⟨g3, q3, v3, l3, n3, r3⟩ := HS.out.hb.rowAt 3 (by omega) (by simp only [Bld.len]; rw [hsm.via]; omega)
          obtain ⟨g5, q5, v5, l5, n5, r5⟩ := HS.out.hb.rowAt 5 (by omega) (by simp only [Bld.len]; rw [hsm.dead]; omega)
          obtain ⟨go, co, vo, lo, ro⟩ := HS.out.hb.objAt (i := J) (by rw [hsm.obj]; exact hlt)
          obtain ⟨k2, _⟩ := HS.out.hb.cell 2 (by omega)
          obtain ⟨k3, _⟩ := HS.out.hb.cell 3 (by omega)
          obtain ⟨k5, _⟩ := HS.out.hb.cell 5 (by omega)
          simp only [fOff, Nat.reduceAdd, Bld.len] at k2 k3 k5 v2 v3 v5
          rw [v2, hsm.up] at k2
          rw [v3, hsm.via] at k3
          rw [v5, hsm.dead] at k5
          rw [vo, hsm.obj] at hv1
          cases hv1
          have cU := (r2 J _ (rowU8_get (by rw [hsm.up]; omega))).1
          have cV := (r3 J _ (rowU8_get (by rw [hsm.via]; omega))).1
          obtain ⟨cX, cXf⟩ := r5 J _ (rowB_get (by rw [hsm.dead]; omega))
          have hUl : d.B.up.getD J 0 < 256 := HS.out.hb.ok.up _
          have hVl : d.B.via.getD J 0 < 256 := HS.out.hb.ok.via _
          have cG := HS.out.r2.at_ (i := d.B.up.getD J 0) (rowB_get (by omega))
          have cH := HS.out.r2.at_ (i := J) (rowB_get (by omega))
          have cHf := HS.out.r2.live J (by simp [rowB]; omega)
          have e1 := HS.out.r1.at_ (i := 1) rfl
          have e2 := HS.out.r1.at_ (i := 2) rfl
          have hqok : (d.B.o J).Ok := HS.out.hb.ok.obj _
          simp only [Nat.zero_add] at cG cH cHf e1 e2
          have hstep := hide (show dropStep x i J d = if d.B.dead.getD J false = false ∧ ((d.found = false ∧ d.B.up.getD J 0 = x ∧ d.B.via.getD J 0 = i) ∨ d.gone.getD (d.B.up.getD J 0) false = true)
            then ⟨true, d.gone.set J true, wipeB { d.B with dead := d.B.dead.set J true } (d.B.o J)⟩ else d from rfl)
          have HWi := hide (fun (W : World) (H : Nat → Value) (B' : Bld) (hb' : HB W p H B') (hx : B'.A.length = B.A.length) => wipe_calls (d.B.o J) hqok hb' (by omega) (by omega))
          obtain ⟨q, hq⟩ : ∃ q, q = d.B.o J := ⟨_, rfl⟩
          rw [← hq] at ro HWi hstep
          obtain ⟨U, hU⟩ : ∃ U, U = d.B.up.getD J 0 := ⟨_, rfl⟩
          obtain ⟨Vv, hVv⟩ : ∃ Vv, Vv = d.B.via.getD J 0 := ⟨_, rfl⟩
          obtain ⟨dd, hdd⟩ : ∃ dd, dd = d.B.dead.getD J false := ⟨_, rfl⟩
          obtain ⟨gg, hgg⟩ : ∃ gg, gg = d.gone.getD (d.B.up.getD J 0) false := ⟨_, rfl⟩
          obtain ⟨g1, hg1⟩ : ∃ g1, g1 = d.gone.getD J false := ⟨_, rfl⟩
          rw [← hgg, ← hU] at cG
          rw [← hg1] at cH
          rw [← hU] at cU hUl
          rw [← hVv] at cV hVl
          rw [← hdd] at cX
          rw [← hU, ← hVv, ← hdd] at hstep
          rw [hU, ← hgg, ← hU] at hstep
          obtain ⟨qk, qa, qd, qp, qc, qn⟩ := q
          unfold ptrC at HWi
          have d0 := ro 0 _ rfl
          have d1 := ro 1 _ rfl
          have d2 := ro 2 _ rfl
          have d3 := ro 3 _ rfl
          have d4 := ro 4 _ rfl
          have d5 := ro 5 _ rfl
          dsimp only at d0 d1 d2 d3 d4 d5 HWi
          simp only [Nat.add_zero] at d0
          have HV5 := hide v5
          have HVo := hide vo
          obtain ⟨f, hf⟩ : ∃ f, f = d.found := ⟨_, rfl⟩
          have HFo := hide hf.symm
          rw [← hf] at hstep ⊢
          have HSM := hide hsm
          generalize B.up.length = nu at *
          clear ro r2 r3 r5 v2 v3 v5 hU hVv hdd hgg hg1 hq hf hsm hqok vo
          clear hJ hk
          have hGp : ¬ G = p := fun e => HS.out.n2 (e ▸ ⟨0, rfl⟩)
          have hG5 : ¬ G = g5 := fun e => HS.out.n2 (e ▸ blk_row p (i := 5) (by omega) HV5.out)
          have hGo : ¬ G = go := fun e => HS.out.n2 (e ▸ blk_row p (i := 1) (by omega) HVo.out)
          have h5o : ¬ g5 = go := fun e => blks_ne_row HS.out.hb (i := 5) (by omega) HV5.out (j := 1) (by omega) (by omega) (by rw [HVo.out, e]; rfl)
          have h5p : ¬ g5 = p := n5
          have hcomb : f = true ∨ (f = false ∧ ((U : Int) == x) = false) ∨ (f = false ∧ ((U : Int) == x) = true ∧ ((Vv : Int) == i) = false) ∨ (f = false ∧ ((U : Int) == x) = true ∧ ((Vv : Int) == i) = true) := by
            cases f <;> cases ((U : Int) == x) <;> cases ((Vv : Int) == i) <;> simp
          have hUx := hide (show (((U : Int) == x) = true ↔ U = x) by simp only [beq_iff_eq]; omega)
          have hVi := hide (show (((Vv : Int) == i) = true ↔ Vv = i) by simp only [beq_iff_eq]; omega)
          rcases hcomb with rfl | ⟨rfl, gU⟩ | ⟨rfl, gU, gV⟩ | ⟨rfl, gU, gV⟩
          all_goals cases dd
          all_goals cases gg
          all_goals
            first
              | have HSt := hide (show dropStep x i J d = d from by rw [hstep.out, if_neg (step_no hUx.out hVi.out (by first | rfl | (rw [gU]; rfl) | (rw [gU, gV]; rfl)))])
              | have HSt := hide (show dropStep x i J d = ⟨true, d.gone.set J true, wipeB { d.B with dead := d.B.dead.set J true } ⟨qk, qa, qd, qp, qc, qn⟩⟩ from by rw [hstep.out, if_pos (step_yes hUx.out hVi.out (by first | rfl | (rw [gU]; rfl) | (rw [gU, gV]; rfl)))])
            clear hstep hUx hVi
            go_wp2_with fail
            refine wp_region_qd 24 (by kernel_rfl) (by kernel_rfl) ?_
            simp only [List.take_succ_cons, List.take_zero, List.drop_succ_cons, List.drop_zero]
            repeat (go_big_quiet_step (fail))
            refine wpQuiet_nil ?_
            rintro _ ⟨nq, rfl⟩
            go_wp2_with fail
          all_goals first
            | (refine ⟨⟨k + 1, ?_, ?_, ?_, ?_⟩, ?_⟩
               · have := HJ.out; omega
               · have := HJ.out; simp only [Value.int.injEq, true_and]; omega
               · rw [hsucc.out, HSt.out, HFo.out]
               · rw [hsucc.out, HSt.out]
                 have hst := HS.out.step (by simp) (by simp [rowB]; omega) (HS.out.hb.kp ((Keeps.refl _ _).drewN nq)) (Mv.of_kp ((Keeps.refl _ _).drewN nq))
                 exact hide ⟨h3, hst⟩
               · have := HJ.out; simp [intOf]; omega)
            | skip
          all_goals
            have hstA := HS.out.step (by simp) (by simp [rowB]; omega) (HS.out.hb.kp ((Keeps.refl _ _).drewN nq)) (Mv.of_kp ((Keeps.refl _ _).drewN nq))
            have hstB := hstA.box2 (j := J) (by simp [rowB]; omega) (by omega) (by omega) (.bool true)
            have hstC := hstB.step (by simp) (by simp [rowB]; omega) (hstB.hb.put (i := 5) (j := J) (u := .bool true) (by omega) HV5.out (dead_row d.B J true) (dead_ok hstB.hb.ok J true)) (HB.put_mv p (i := 5) (by omega) HV5.out)
            refine (HWi.out _ _ _ hstC.hb HSM.out.A).mono ?_
            rintro e w4 ⟨rfl, h4, hb4, mv4⟩
            have hstD := hstC.step (by simp) (by simp [rowB]; omega) hb4 mv4
            have hrow : (rowB d.gone).set J (.bool true) = rowB (d.gone.set J true) := by simp [rowB, List.map_set]
            rw [hrow] at hstD
            have HSD := hide hstD
            clear hstA hstB hstC hstD hb4 mv4 hrow
            go_wp2_with fail
            refine ⟨⟨k + 1, ?_, ?_, ?_, ?_⟩, ?_⟩
            · have := HJ.out; omega
            · have := HJ.out; simp only [Value.int.injEq, true_and]; omega
            · rw [hsucc.out, HSt.out]
            · rw [hsucc.out, HSt.out]
              exact hide ⟨h4, HSD.out⟩
            · have := HJ.out; simp [intOf]; omega
        · have hkk : k = B.obj.length - 1 := by omega
          have HSA := HS2.out
          rw [← hkk, HDD.out] at HSA
          replace HSA := hide HSA
          obtain ⟨gz, cz, hgz, lz, nz, cZ, cZf⟩ := HS.out.hb.aAt (j := a) (by rw [hsm.A]; exact ha)
          obtain ⟨k0, _⟩ := HS.out.hb.cell 0 (by omega)
          simp only [fOff] at k0
          rw [hgz, hsm.A] at k0
          have HGZ := hide hgz
          clear hkk hgz hsm hk HK hsucc
          go_wp2_with fail
          go_ret
          rw [HSA.out]
          have hstZ := HS.out.step (by simp) (by simp [rowB]; omega) (HS.out.hb.setA (i := a) (v := 0) HGZ.out (by omega)) (HB.put_mv p (i := 0) (by omega) HGZ.out)
          exact ⟨rfl, h3, hstZ.hb, hstZ.mv⟩
  · have HS2 := hide (HD.out.1.1 hr)
    clear HD hsc
    go_wp2_with fail
    go_ret
    rw [HS2.out]
    exact ⟨rfl, h, (HH.out.alloc _).ext _, (Mv.of_below ((Below.refl _ w).alloc (Nat.le_refl _) _)).trans (Mv.of_below (World.below_ext _ _))⟩
end Go.Proofs.YgcfaaGreat
