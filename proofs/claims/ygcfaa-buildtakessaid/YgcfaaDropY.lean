import Derived.Test.YgcfaaDropK
namespace Go.Proofs.Ygcfaa
open Go.RowKit Bits Bd
set_option linter.unusedVariables false
set_option maxRecDepth 100000
set_option linter.unusedSimpArgs false
attribute [local go_sem] World.cell?_ext World.frozen?_ext

theorem putSet_same (K : Bk) {h : Nat} (hh : h < K.e.length) (x : List Bool) (i : Nat) : ((K.putSet h x).at_ i).up = (K.at_ i).up ∧ ((K.putSet h x).at_ i).via = (K.at_ i).via := by
  rw [putSet_at K hh]
  split
  · rename_i e; rw [e]; exact ⟨rfl, rfl⟩
  · exact ⟨rfl, rfl⟩

theorem drop_ks {w : World} {b : Nat} {r : Value} {s : Nat → Value} {K : Bk} (hb : HK w b r s K) {op : Opn} (hlt : op.h < K.e.length) {gs c2 m : Nat} (hs : s op.h = .slice (some ⟨gs, 0, none⟩) m c2) (x : World) :
    KS (blkK b r s K.e.length) w b w.heap.size ((((w.alloc (.cells (opC op).toArray 46)).ext x).setCell ⟨gs, op.i, none⟩ (.bool false)).heap.size) (opC op) (rowB (List.replicate 256 false)) ((((w.alloc (.cells (opC op).toArray 46)).ext x).setCell ⟨gs, op.i, none⟩ (.bool false)).alloc (.cells (rowB (List.replicate 256 false)).toArray 80)) r s (K.putSet op.h ((K.at_ op.h).set.set op.i false)) := by
  have h0 : HK ((w.alloc (.cells (opC op).toArray 46)).ext x) b r s K := (hb.alloc _).ext x
  have h1 := h0.setBit (i := op.i) hlt hs false
  have bl : Below w.heap.size w ((w.alloc (.cells (opC op).toArray 46)).ext x) := ((Below.refl _ w).alloc (Nat.le_refl _) _).trans ((World.below_ext _ x).mono (by simp))
  have sz : w.heap.size + 1 ≤ ((w.alloc (.cells (opC op).toArray 46)).ext x).heap.size := by
    have := (World.below_ext (w.alloc (.cells (opC op).toArray 46)) x).size
    simpa using this
  have ro : RowAt ((w.alloc (.cells (opC op).toArray 46)).ext x) w.heap.size 0 (opC op) := (RowAt.of_alloc w (opC op) 46).keeps (Keeps.of_below (World.below_ext _ x)) (fun h1 h2 => by simp at h2; omega)
  have no : ¬ blkK b r s K.e.length w.heap.size := fun h => by have := hb.lt h; omega
  have mv : Keeps (blkK b r s K.e.length) w (((w.alloc (.cells (opC op).toArray 46)).ext x).setCell ⟨gs, op.i, none⟩ (.bool false)) :=
    Keeps.trans ((Keeps.of_below bl).mono (fun k hk hx => by omega)) h1.2.keeps
  have ro2 := ro.keeps h1.2.keeps (fun _ => no)
  have hk2 := h1.1
  have hsz2 : ((w.alloc (.cells (opC op).toArray 46)).ext x).heap.size ≤ (((w.alloc (.cells (opC op).toArray 46)).ext x).setCell ⟨gs, op.i, none⟩ (.bool false)).heap.size := h1.2.keeps.size
  generalize ((w.alloc (.cells (opC op).toArray 46)).ext x).setCell ⟨gs, op.i, none⟩ (.bool false) = W at *
  refine ⟨hk2.alloc _, ⟨mv.alloc _, fun k hk => .inl (by rw [putSet_len] at hk; exact hk)⟩, ro2.alloc _, RowAt.of_alloc W _ _, by rw [putSet_len]; exact no, fun h => ?_, by omega, Nat.le_refl _, by omega, by simp [opC], by simp [rowB]⟩
  have := hk2.lt h
  omega

set_option maxHeartbeats 8000000 in
theorem dropK_yes (op : Opn) (hop : op.Ok) {w : World} {b : Nat} {r : Value} {s : Nat → Value} {K K' : Bk} (hb : HK w b r s K) (hlt : op.h < K.e.length) (fit : K.Fit) (fit2 : K.Fit2) (hyes : dropK K op = some K') :
    Calls Faag.prog 83 #[.pointer (some ⟨b, 0, none⟩), .agg (opC op).toArray] w fun e w' => e = .returned (.bool true) ∧ HK w' b r s K' ∧ MvX (blkK b r s K.e.length) b r s K'.e.length w w' := by
  obtain ⟨h1, h2, hK'⟩ : op.i < (K.at_ op.h).set.length ∧ (K.at_ op.h).set.getD op.i false = true ∧ K' = (dropGoK op.h op.i (K.e.length - 1) 1 ⟨List.replicate 256 false, K.putSet op.h ((K.at_ op.h).set.set op.i false)⟩).K := by
    unfold dropK at hyes
    split at hyes
    · rename_i h
      cases hyes
      exact ⟨h.1, h.2, rfl⟩
    · cases hyes
  clear hyes
  obtain ⟨g, c, hr, hg, hgb, hcs⟩ := hb.entAt hlt
  obtain ⟨a, c2, hs, hset⟩ := hb.setAt hlt
  obtain ⟨gs, rfl, hgs, hgsb, hgsr, bit⟩ := hset (by omega)
  have c9 := (hcs 9 _ rfl).1
  have hbl : b < w.heap.size := hb.lt ⟨0, rfl⟩
  obtain ⟨b1, b2⟩ := bit op.i h1
  rw [h2] at b1
  rw [hs] at c9
  subst hr
  have HN := hide (fun (W : World) (hW : Below w.heap.size w W) => named_calls op hop (hb.below hW) hlt fit.n rfl (fit.set _))
  obtain ⟨D0, hD0⟩ : ∃ D0 : Dk, D0 = ⟨List.replicate 256 false, K.putSet op.h ((K.at_ op.h).set.set op.i false)⟩ := ⟨_, rfl⟩
  have HST := hide (fun (x : World) => show KS (blkK b (.slice (some ⟨g, 0, none⟩) K.e.length c) s K.e.length) w b w.heap.size ((((w.alloc (.cells (opC op).toArray 46)).ext x).setCell ⟨gs, op.i, none⟩ (.bool false)).heap.size) (opC op) (rowB D0.under) ((((w.alloc (.cells (opC op).toArray 46)).ext x).setCell ⟨gs, op.i, none⟩ (.bool false)).alloc (.cells Faag.zeroCells80 80)) (.slice (some ⟨g, 0, none⟩) K.e.length c) s D0.K from by
    rw [hD0, zero80]
    exact drop_ks hb hlt hs x)
  have dL : decide (op.i < (K.at_ op.h).set.length) = true := by simpa using h1
  have hL := fit.set op.h
  have hn := fit.n
  -- the entries along the loop
  have HUV := hide (fun (k : Nat) (i : Nat) => show ((dropGoK op.h op.i k 1 D0).K.at_ i).up < 256 ∧ ((dropGoK op.h op.i k 1 D0).K.at_ i).via < 65536 ∧
      (dropGoK op.h op.i k 1 D0).K.e.length = K.e.length ∧ (dropGoK op.h op.i k 1 D0).under.length = 256 from by
    obtain ⟨a1, a2⟩ := dropGoK_same op.h op.i k 1 D0
    rw [hD0] at a1 a2 ⊢
    obtain ⟨p1, p2⟩ := putSet_same K hlt ((K.at_ op.h).set.set op.i false) i
    refine ⟨?_, ?_, ?_, ?_⟩
    · rw [a1.up, p1]; exact fit2.up i
    · rw [a1.via, p2]; exact fit2.via i
    · rw [a1.n]; exact putSet_len _ _ _
    · rw [a2]; simp)
  have HK' := hide (show K' = (dropGoK op.h op.i (K.e.length - 1) 1 D0).K from by rw [hD0]; exact hK')
  clear hD0 hK'
  generalize hLL : (K.at_ op.h).set.length = L at *
  generalize hnn : K.e.length = n at *
  have hn1 : 1 ≤ n := by omega
  clear hLL hnn hcs hs hb bit hset fit fit2
  obtain ⟨kind, x, i, X, Y, N, V, st⟩ := op
  obtain ⟨o1, o2, o3, o4, o5, o6, o7⟩ := hop
  dsimp only at *
  unfold opC at HN HST ⊢
  dsimp only at *
  go_enter Faag.func83, Faag.ntmps83
  go_wp2_with fail
  refine (HN.out _ ((Below.refl _ w).alloc (Nat.le_refl _) _)).mono ?_
  rintro e w1 ⟨rfl, bl1⟩
  obtain ⟨x1, rfl⟩ := World.ext_of_below bl1
  rw [dL]
  clear bl1 HN
  go_wp2_with fail
  refine wp_region_qy _ 9 (by kernel_rfl) (by kernel_rfl) ⟨x1, rfl⟩ ?_
  simp only [List.take_succ_cons, List.take_zero, List.drop_succ_cons, List.drop_zero]
  repeat (go_big_quiet_step (fail))
  refine wpQuiet_nil ?_
  rintro _ ⟨x2, rfl⟩
  go_wp2_with fail
  refine wp_region_qy _ 6 (by kernel_rfl) (by kernel_rfl) ⟨x2, rfl⟩ ?_
  simp only [List.take_succ_cons, List.take_zero, List.drop_succ_cons, List.drop_zero]
  repeat (go_big_quiet_step (fail))
  refine wpQuiet_nil ?_
  rintro _ ⟨x3, rfl⟩
  go_wp2_with fail
  have ST1 := HST.out x3
  have hszz : ∀ (W : World) (a : Addr) (v : Value), (W.setCell a v).heap.size = W.heap.size := fun W a v => by simp [World.setCell]
  rw [hszz] at ST1
  clear hszz
  generalize hmb : (World.ext _ x3).heap.size = mb at ST1 ⊢
  generalize hW5 : World.alloc (World.setCell _ _ (Value.bool false)) _ = w5 at ST1 ⊢
  clear hmb hW5
  obtain ⟨OC, hOC⟩ : ∃ OC : List Value, OC = [.int .u8 (kind : Int), .int .u8 (x : Int), .int .u8 (i : Int), .int .u8 (X : Int), .int .u8 (Y : Int), .int .u16 (N : Int), .int .u64 (V : Int), .string st] := ⟨_, rfl⟩
  rw [← hOC] at ST1
  have H5 := hide ST1
  clear ST1 HST c9 b1 b2 x1 x2 hbl hg hgs
  have HOC := hide hOC
  clear hOC
  generalize w.heap.size = ob at H5 ⊢
  go_loopw [8] (fun q wr => ∃ k : Nat, k ≤ n - 1 ∧ q = .int .i64 (1 + k : Nat) ∧ Hid (KS (blkK b (.slice (some ⟨g, 0, none⟩) n c) s n) w b ob mb OC (rowB (dropGoK x i k 1 D0).under) wr (.slice (some ⟨g, 0, none⟩) n c) s (dropGoK x i k 1 D0).K)) (fun q _ => n - (intOf q).toNat)
  case atStart => exact ⟨0, by omega, rfl, H5⟩
  case round =>
    clear H5
    obtain ⟨k, hk, rfl, H1⟩ := hrel
    by_cases hlast : k < n - 1
    · obtain ⟨u1, u2, u3, u4⟩ := HUV.out k (1 + k)
      have hsucc := dropGoK_succ x i k 1 D0
      generalize hdd : dropGoK x i k 1 D0 = d at *
      clear hdd
      have HSC := hide hsucc
      clear hsucc
      obtain ⟨J, hJ⟩ : ∃ J, J = 1 + k := ⟨_, rfl⟩
      rw [← hJ] at u1 u2 HSC ⊢
      have hJn : J < n := by omega
      have hkJ : k + 1 = J := by omega
      have HKJ := hide (And.intro hJ hkJ)
      clear hJ hkJ
      obtain ⟨g', c', hr', hg', hgb', hcs'⟩ := H1.out.hk.entAt (i := J) (by rw [u3]; exact hJn)
      rw [u3] at hr'
      simp only [Value.slice.injEq, Option.some.injEq, Addr.mk.injEq, and_true, true_and] at hr'
      obtain ⟨rfl, rfl⟩ := hr'
      have c0 := hcs' 0 _ rfl
      have c7 := (hcs' 7 _ rfl).1
      have c8 := (hcs' 8 _ rfl).1
      simp only [Nat.add_zero] at c0
      clear hcs'
      obtain ⟨l0, _, _, _⟩ := H1.out.hk.lenAt
      have r1 := H1.out.ro.at_ (i := 1) (by rw [HOC.out]; rfl)
      have r2 := H1.out.ro.at_ (i := 2) (by rw [HOC.out]; rfl)
      have un := fun (q : Nat) (hq : q < 256) => H1.out.rm.at_ (i := q) (rowB_get (by rw [u4]; exact hq))
      have unf := fun (q : Nat) (hq : q < 256) => H1.out.rm.live q (by simp only [rowB, List.length_map]; rw [u4]; exact hq)
      have un7 := un (d.K.at_ J).up u1
      have unJ := un J (by omega)
      have unfJ := unf J (by omega)
      simp only [Nat.zero_add] at r1 r2 un7 unJ unfJ
      have hbw : b < wr.heap.size := H1.out.hk.lt ⟨0, rfl⟩
      have how : ob < wr.heap.size := H1.out.lto
      have hmw : mb < wr.heap.size := H1.out.ltm
      have hmg : ¬ mb = g := fun e => H1.out.nm ⟨1, by rw [e]; rfl⟩
      have hgm : ¬ g = mb := fun e => hmg e.symm
      -- what comes next
      have HY := hide (fun (yes : (d.K.at_ J).dead = false ∧ (((d.K.at_ J).up = x ∧ (d.K.at_ J).via = i) ∨ d.under.getD (d.K.at_ J).up false = true)) (xx : World) => show KS (blkK b (.slice (some ⟨g, 0, none⟩) n c) s n) w b ob mb OC (rowB (dropGoK x i J 1 D0).under) (((wr.ext xx).setCell ⟨g, J * 10, none⟩ (.bool true)).setCell ⟨mb, J, none⟩ (.bool true)) (.slice (some ⟨g, 0, none⟩) n c) s (dropGoK x i J 1 D0).K from by
        rw [show dropGoK x i J 1 D0 = dropStepK x i J d from (congrArg (fun z => dropGoK x i z 1 D0) HKJ.out.2.symm).trans HSC.out]
        unfold dropStepK
        rw [if_pos yes]
        have s1 := H1.out.ext xx
        have s2 := s1.stepK (by
          have h := s1.hk.setDead (h := J) (by rw [u3]; exact hJn) rfl true
          exact ⟨h.1, by rw [putDead_len]; exact h.2⟩)
        have s3 := s2.putm (i := J) (by simp only [rowB, List.length_map]; rw [u4]; omega) (.bool true)
        rw [rowB_set] at s3
        exact s3)
      have HNN := hide (fun (no : ¬ ((d.K.at_ J).dead = false ∧ (((d.K.at_ J).up = x ∧ (d.K.at_ J).via = i) ∨ d.under.getD (d.K.at_ J).up false = true))) (xx : World) => show KS (blkK b (.slice (some ⟨g, 0, none⟩) n c) s n) w b ob mb OC (rowB (dropGoK x i J 1 D0).under) (wr.ext xx) (.slice (some ⟨g, 0, none⟩) n c) s (dropGoK x i J 1 D0).K from by
        rw [show dropGoK x i J 1 D0 = dropStepK x i J d from (congrArg (fun z => dropGoK x i z 1 D0) HKJ.out.2.symm).trans HSC.out]
        unfold dropStepK
        rw [if_neg no]
        exact H1.out.ext xx)
      generalize (d.K.at_ J).dead = dd at *
      generalize (d.K.at_ J).up = U at *
      generalize (d.K.at_ J).via = VV at *
      generalize d.under.getD U false = gg at *
      clear H1 HUV HSC un unf u3 u4
      cases dd with
      | true =>
        go_wp2_with fail
        refine wp_region_qx 32 (by kernel_rfl) (by kernel_rfl) ?_
        simp only [List.take_succ_cons, List.take_zero, List.drop_succ_cons, List.drop_zero]
        repeat (go_big_quiet_step (fail))
        refine wpQuiet_nil ?_
        rintro _ ⟨xx, rfl⟩
        go_wp2_with fail
        go_roundw
        case rel => exact ⟨J, by omega, by rw [Int.natCast_add]; go_num, hide (HNN.out (by simp) xx)⟩
        case measure => simp [intOf]; omega
      | false =>
        by_cases hU : U = x
        · subst hU
          by_cases hV : VV = i
          · subst hV
            go_wp2_with fail
            refine wp_region_qx 32 (by kernel_rfl) (by kernel_rfl) ?_
            simp only [List.take_succ_cons, List.take_zero, List.drop_succ_cons, List.drop_zero]
            repeat (go_big_quiet_step (fail))
            refine wpQuiet_nil ?_
            rintro _ ⟨xx, rfl⟩
            go_wp2_with fail
            go_roundw
            case rel => exact ⟨J, by omega, by rw [Int.natCast_add]; go_num, hide (HY.out (by simp) xx)⟩
            case measure => simp [intOf]; omega
          · have bV : ((VV : Int) == (i : Int)) = false := by simp; omega
            cases gg with
            | true =>
              go_wp2_with fail
              refine wp_region_qx 32 (by kernel_rfl) (by kernel_rfl) ?_
              simp only [List.take_succ_cons, List.take_zero, List.drop_succ_cons, List.drop_zero]
              repeat (go_big_quiet_step (fail))
              refine wpQuiet_nil ?_
              rintro _ ⟨xx, rfl⟩
              go_wp2_with fail
              go_roundw
              case rel => exact ⟨J, by omega, by rw [Int.natCast_add]; go_num, hide (HY.out (by simp) xx)⟩
              case measure => simp [intOf]; omega
            | false =>
              go_wp2_with fail
              refine wp_region_qx 32 (by kernel_rfl) (by kernel_rfl) ?_
              simp only [List.take_succ_cons, List.take_zero, List.drop_succ_cons, List.drop_zero]
              repeat (go_big_quiet_step (fail))
              refine wpQuiet_nil ?_
              rintro _ ⟨xx, rfl⟩
              go_wp2_with fail
              go_roundw
              case rel => exact ⟨J, by omega, by rw [Int.natCast_add]; go_num, hide (HNN.out (by simp [hV]) xx)⟩
              case measure => simp [intOf]; omega
        · have bU : ((U : Int) == (x : Int)) = false := by simp; omega
          cases gg with
          | true =>
            go_wp2_with fail
            refine wp_region_qx 32 (by kernel_rfl) (by kernel_rfl) ?_
            simp only [List.take_succ_cons, List.take_zero, List.drop_succ_cons, List.drop_zero]
            repeat (go_big_quiet_step (fail))
            refine wpQuiet_nil ?_
            rintro _ ⟨xx, rfl⟩
            go_wp2_with fail
            go_roundw
            case rel => exact ⟨J, by omega, by rw [Int.natCast_add]; go_num, hide (HY.out (by simp) xx)⟩
            case measure => simp [intOf]; omega
          | false =>
            go_wp2_with fail
            refine wp_region_qx 32 (by kernel_rfl) (by kernel_rfl) ?_
            simp only [List.take_succ_cons, List.take_zero, List.drop_succ_cons, List.drop_zero]
            repeat (go_big_quiet_step (fail))
            refine wpQuiet_nil ?_
            rintro _ ⟨xx, rfl⟩
            go_wp2_with fail
            go_roundw
            case rel => exact ⟨J, by omega, by rw [Int.natCast_add]; go_num, hide (HNN.out (by simp [hU]) xx)⟩
            case measure => simp [intOf]; omega
    · have hkn : k = n - 1 := by omega
      have H9 := hide (show KS (blkK b (.slice (some ⟨g, 0, none⟩) n c) s n) w b ob mb OC (rowB (dropGoK x i (n - 1) 1 D0).under) wr (.slice (some ⟨g, 0, none⟩) n c) s (dropGoK x i (n - 1) 1 D0).K from by rw [← hkn]; exact H1.out)
      obtain ⟨l0, _, _, _⟩ := H1.out.hk.lenAt
      have hge : ¬ (1 + k < n) := by omega
      clear H1 hkn
      go_wp2_with fail
      go_ret
      exact ⟨rfl, by rw [HK'.out]; exact H9.out.hk, by rw [HK'.out]; exact H9.out.mv⟩

theorem dropK_calls (op : Opn) (hop : op.Ok) {w : World} {b : Nat} {r : Value} {s : Nat → Value} {K : Bk} (hb : HK w b r s K) (hlt : op.h < K.e.length) (fit : K.Fit) (fit2 : K.Fit2) :
    Calls Faag.prog 83 #[.pointer (some ⟨b, 0, none⟩), .agg (opC op).toArray] w (KOut b r s K w (dropK K op)) := by
  cases hR : dropK K op with
  | none =>
    refine (dropK_no op hop hb hlt fit hR).mono ?_
    rintro e w' ⟨rfl, bl2⟩
    exact ⟨rfl, r, s, hb.below bl2, MvK.of_below bl2⟩
  | some K' =>
    refine (dropK_yes op hop hb hlt fit fit2 hR).mono ?_
    rintro e w' ⟨rfl, hk, mv⟩
    exact ⟨rfl, r, s, hk, ⟨mv.keeps, mv.fresh⟩⟩
end Go.Proofs.Ygcfaa
