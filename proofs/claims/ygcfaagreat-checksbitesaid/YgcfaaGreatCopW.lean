import Derived.Test.YgcfaaGreatCop
namespace Go.Proofs.YgcfaaGreat
open Go.RowKit Bits Bd
set_option linter.unusedVariables false
set_option maxRecDepth 100000
set_option linter.unusedSimpArgs false
attribute [local go_sem] World.cell?_ext World.frozen?_ext

theorem one_cellsK (k : IntKind) (l : List Nat) : ∀ u ∈ cellsK k l, u.oneCell' = true := fun u hu => by
  unfold cellsK at hu
  obtain ⟨x, _, rfl⟩ := List.mem_map.1 hu
  rfl
theorem one_kidsC (l : List Int) : ∀ u ∈ kidsC l, u.oneCell' = true := fun u hu => by
  unfold kidsC at hu
  obtain ⟨x, _, rfl⟩ := List.mem_map.1 hu
  rfl
/-- A row of n zero nodes and a variable, new. -/
structure Fct9 (w0 : World) (n G U X : Nat) (w : World) : Prop where
  oG : w.ownsRow 0 76 4 (.slice (some ⟨G, 0, none⟩) n n) n (nodesC nilH 0 (List.replicate n zNd))
  rU : RowAt w U 0 zTrC
  lt : G < w.heap.size ∧ U < w.heap.size
  ge : w0.heap.size ≤ G ∧ w0.heap.size ≤ U
  ne : ¬ G = U
  kb : Below w0.heap.size w0 w
/-- A copy being made: result cell R, variable U, of M's first i nodes. -/
structure S9 (w : World) (R U G : Nat) (M : Mo) (i : Nat) (w' : World) : Prop where
  rR : RowAt w' R 0 zTrC
  hm : ∃ h', HM false w' U h' (M.cp i) ∧ (∀ j, mblk U h' M.N.length j → w.heap.size < j) ∧ h' 0 = .slice (some ⟨G, 0, none⟩) M.N.length M.N.length
  kb : Below w.heap.size w w'
theorem S9.below {w w' w2 : World} {R U G i : Nat} {M : Mo} (s : S9 w R U G M i w') (k : Below w'.heap.size w' w2) : S9 w R U G M i w2 := by
  obtain ⟨h', a, b, c⟩ := s.hm
  exact ⟨row_below s.rR k, ⟨h', a.below k, b, c⟩, s.kb.trans (k.mono s.kb.size)⟩
theorem S9.step {w w' : World} {R U G i : Nat} {M : Mo} (s : S9 w R U G M i w') (hi : i < M.N.length) (hR : R = w.heap.size) (hok : (M.nd i).Ok) {dv kv : Value}
    (hd : w'.ownsRow 0 31 1 dv (M.nd i).data.length (cellsK .u64 (M.nd i).data)) (hk : w'.ownsRow 0 40 1 kv (M.nd i).kids.length (kidsC (M.nd i).kids)) (w2 : World) (s2 : S9 w R U G M i w2) (kb : Below w2.heap.size w2 w')
    (fd : ∀ j, dv.ownBlock = some j → w2.heap.size ≤ j) (fk : ∀ j, kv.ownBlock = some j → w2.heap.size ≤ j) (fdk : ∀ j, dv.ownBlock = some j → ¬ kv.ownBlock = some j) :
    S9 w R U G M (i + 1) ((((w'.setCell ⟨G, i * 4, none⟩ (.int .u8 ((M.nd i).kind : Int))).setCell ⟨G, i * 4 + 1, none⟩ (.int .u8 ((M.nd i).code : Int))).setCell ⟨G, i * 4 + 2, none⟩ dv).setCell ⟨G, i * 4 + 3, none⟩ kv) := by
  obtain ⟨h', a, b, c⟩ := s2.hm
  have hl : (M.cp i).N.length = M.N.length := cp_len (by omega)
  have hgm : mblk U h' M.N.length G := .inr ⟨0, by omega, by rw [c]; rfl⟩
  have hGw := b G hgm
  have hm2 : ∀ j, w2.heap.size ≤ j → ¬ mblk U h' (M.cp i).N.length j := fun j hj q => by have := a.blk_lt q; omega
  have hsz := s2.kb.size
  have m' := a.below kb
  have p1 := m'.putNode (i := i) (by rw [hl]; exact hi) (by rw [hl]; exact c) hok hd hk (fun j hj => hm2 j (fd j hj)) (fun j hj => hm2 j (fk j hj)) fdk
  rw [← cp_succ hi] at p1
  have ks : Keeps (fun k => k = G) w' ((((w'.setCell ⟨G, i * 4, none⟩ (.int .u8 ((M.nd i).kind : Int))).setCell ⟨G, i * 4 + 1, none⟩ (.int .u8 ((M.nd i).code : Int))).setCell ⟨G, i * 4 + 2, none⟩ dv).setCell ⟨G, i * 4 + 3, none⟩ kv) :=
    ((((Keeps.refl (fun k => k = G) w').setCell (fun _ => rfl) _).setCell (fun _ => rfl) _).setCell (fun _ => rfl) _).setCell (fun _ => rfl) _
  refine ⟨(row_below s2.rR kb).keeps ks (fun _ e => by have e' : R = G := e; omega), ⟨_, p1, fun j hj => ?_, ?_⟩, (s2.kb.trans (kb.mono hsz)).trans (ks.below (Nat.le_trans hsz kb.size) (fun k hk e => by have e' : k = G := e; omega))⟩
  · rcases hj with q | ⟨x, hx, q⟩
    · exact b j (.inl q)
    · dsimp only at q
      by_cases h3 : x = 2 * i + 3
      · rw [if_pos h3] at q
        have := fk j q
        have := a.lt
        have := b U (.inl rfl)
        omega
      · rw [if_neg h3] at q
        by_cases h2 : x = 2 * i + 2
        · rw [if_pos h2] at q
          have := fd j q
          have := a.lt
          have := b U (.inl rfl)
          omega
        · rw [if_neg h2] at q
          exact b j (.inr ⟨x, hx, q⟩)
  · rw [if_neg (by omega), if_neg (by omega)]; exact c

set_option maxHeartbeats 16000000 in
theorem copied_calls {full : Bool} {w : World} {p : Nat} {h : Nat → Value} {M : Mo} (m : HM full w p h M) :
    Calls Faag.prog 9 #[.pointer (some ⟨p, 0, none⟩)] w fun e w' => ∃ h' U, HM false w' U h' ⟨M.N, M.root, []⟩ ∧ e = .returned (.agg #[h' 0, .int .i16 M.root]) ∧ (∀ j, mblk U h' M.N.length j → w.heap.size ≤ j) ∧ Below w.heap.size w w' := by
  obtain ⟨na, nc, hg⟩ := m.n0
  have hnn := m.nn
  have hrt := m.rt
  have hpl := m.lt
  obtain ⟨n, hn⟩ : ∃ n, n = M.N.length := ⟨_, rfl⟩
  obtain ⟨root, hroot⟩ : ∃ r, r = M.root := ⟨_, rfl⟩
  obtain ⟨w0, hw0⟩ : ∃ w0, w0 = w.alloc (Obj.cells #[.slice none 0 0, .int .i16 0] 42) := ⟨_, rfl⟩
  have hb0 : Below w.heap.size w w0 := by rw [hw0]; exact (Below.refl _ _).alloc (Nat.le_refl _) _
  have f0 := (m.below hb0).f0.1
  have f1 := (m.below hb0).f1.1
  rw [hg, ← hn] at f0
  rw [← hroot] at f1
  rw [← hn] at hnn
  rw [← hroot] at hrt
  have HM0 := hide m
  have HN := hide hn
  have HG := hide hg
  have HR := hide hroot
  have HW0 := hide hw0
  have HB0 := hide hb0
  go_enter Faag.func9, Faag.ntmps9
  clear m hn hg hroot
  go_wp2_with fail
  rw [← hw0]
  clear hw0 hb0
  apply cutG (F := Fct9 w0 n)
  case h1 =>
    intro key
    refine wp_region_seg (fun w' => ∃ x, w' = w0.ext x) 12 [0, 1, 2, 3, 4, 5, 6, 7, 8] 3 (by kernel_rfl) (by kernel_rfl) ?_ (ext_drew _) ?_
    · intro d v c a w hx
      cases d <;> exact hx
    simp only [pickOps, List.getElem?_cons_zero, List.getElem?_cons_succ, Option.toList_some, List.cons_append, List.nil_append, List.drop_succ_cons, List.drop_zero]
    repeat (go_big_quiet_step (fail))
    refine wpQuiet_nil ?_
    refine segH_two (i := 9) (j := 11) (by kernel_rfl) rfl rfl (by omega) (by omega) ?_ ?_
    · go_wp2_with (first | (refine wpList_makeD ty_nodes rfl _ _ rfl .i64 .i64 n rfl rfl (by omega) (by omega) ?_; intro G w1 lG sG oG b1) | fail)
      refine ⟨World.ext_of_below ((below_drew w0).trans b1), ?_⟩
      refine segH_two (i := 10) (j := 11) (by kernel_rfl) rfl rfl (by omega) (by omega) ?_ ?_
      · go_wp2_with fail
        refine ⟨World.ext_of_below ((below_drew w0).trans b1), ?_⟩
        refine segH_one (i := 11) (by kernel_rfl) rfl (by omega) ?_
        · go_wp2_with (first | (refine wpList_allocD rfl 42 rfl zTrC info42 (by decide) ?_; intro U w2 lU sU rU b2) | fail)
          refine ⟨World.ext_of_below ((below_drew w0).trans (b1.trans (b2.mono b1.size))), ?_⟩
          have k1 : Below w1.heap.size w1 w2 := b2
          have hs1 := b1.size
          have hs2 := b2.size
          have hdr : w0.drew.heap.size = w0.heap.size := rfl
          have oG' : w2.ownsRow 0 76 4 (.slice (some ⟨G, 0, none⟩) n n) n (nodesC nilH 0 (List.replicate n zNd)) := by
            rw [made_nodes] at oG
            first | exact oG | exact own_below oG b2
          have rU' : RowAt w2 U 0 zTrC := by first | exact rU | exact row_below rU b2
          obtain ⟨X, _⟩ : ∃ X : Nat, X = 0 := ⟨0, rfl⟩
          refine ⟨by kernel_rfl, ?_⟩
          exact key G U X w2 ⟨oG', rU', ⟨by omega, by omega⟩, ⟨by omega, by omega⟩, by omega, (below_drew w0).trans (b1.trans (b2.mono b1.size))⟩
      · go_wp2_with (first | (refine wpList_allocD rfl 42 rfl zTrC info42 (by decide) ?_; intro U w2 lU sU rU b2) | fail)
        refine ⟨World.ext_of_below ((below_drew w0).trans (b1.trans (b2.mono b1.size))), ?_⟩
        refine segH_one (i := 10) (by kernel_rfl) rfl (by omega) ?_
        · go_wp2_with fail
          refine ⟨World.ext_of_below ((below_drew w0).trans (b1.trans (b2.mono b1.size))), ?_⟩
          have k1 : Below w1.heap.size w1 w2 := b2
          have hs1 := b1.size
          have hs2 := b2.size
          have hdr : w0.drew.heap.size = w0.heap.size := rfl
          have oG' : w2.ownsRow 0 76 4 (.slice (some ⟨G, 0, none⟩) n n) n (nodesC nilH 0 (List.replicate n zNd)) := by
            rw [made_nodes] at oG
            first | exact oG | exact own_below oG b2
          have rU' : RowAt w2 U 0 zTrC := by first | exact rU | exact row_below rU b2
          obtain ⟨X, _⟩ : ∃ X : Nat, X = 0 := ⟨0, rfl⟩
          refine ⟨by kernel_rfl, ?_⟩
          exact key G U X w2 ⟨oG', rU', ⟨by omega, by omega⟩, ⟨by omega, by omega⟩, by omega, (below_drew w0).trans (b1.trans (b2.mono b1.size))⟩
    · go_wp2_with (first | (refine wpList_allocD rfl 42 rfl zTrC info42 (by decide) ?_; intro U w1 lU sU rU b1) | fail)
      refine ⟨World.ext_of_below ((below_drew w0).trans b1), ?_⟩
      refine segH_one (i := 9) (by kernel_rfl) rfl (by omega) ?_
      · go_wp2_with (first | (refine wpList_makeD ty_nodes rfl _ _ rfl .i64 .i64 n rfl rfl (by omega) (by omega) ?_; intro G w2 lG sG oG b2) | fail)
        refine ⟨World.ext_of_below ((below_drew w0).trans (b1.trans (b2.mono b1.size))), ?_⟩
        refine segH_one (i := 10) (by kernel_rfl) rfl (by omega) ?_
        · go_wp2_with fail
          refine ⟨World.ext_of_below ((below_drew w0).trans (b1.trans (b2.mono b1.size))), ?_⟩
          have k1 : Below w1.heap.size w1 w2 := b2
          have hs1 := b1.size
          have hs2 := b2.size
          have hdr : w0.drew.heap.size = w0.heap.size := rfl
          have oG' : w2.ownsRow 0 76 4 (.slice (some ⟨G, 0, none⟩) n n) n (nodesC nilH 0 (List.replicate n zNd)) := by
            rw [made_nodes] at oG
            first | exact oG | exact own_below oG b2
          have rU' : RowAt w2 U 0 zTrC := by first | exact rU | exact row_below rU b2
          obtain ⟨X, _⟩ : ∃ X : Nat, X = 0 := ⟨0, rfl⟩
          refine ⟨by kernel_rfl, ?_⟩
          exact key G U X w2 ⟨oG', rU', ⟨by omega, by omega⟩, ⟨by omega, by omega⟩, by omega, (below_drew w0).trans (b1.trans (b2.mono b1.size))⟩
  case h2 =>
    intro G U X w3 fc
    have HF := hide fc
    have c0 := fc.rU.at_ (i := 0) rfl
    have c1 := fc.rU.at_ (i := 1) rfl
    have l0 := fc.rU.live 0 (by decide)
    have l1 := fc.rU.live 1 (by decide)
    simp only [Nat.zero_add] at c0 c1 l0 l1
    have hUl := fc.lt.2
    have g0 := (HM0.out.below (HB0.out.trans (fc.kb.mono HB0.out.size))).f0.1
    have hpU : ¬ p = U := by have := fc.ge; have := HB0.out.size; omega
    rw [HG.out, ← HN.out] at g0
    clear fc f0 f1
    go_wp2_with fail
    have hRs : w.heap.size < w0.heap.size := by rw [HW0.out, World.size_alloc]; omega
    obtain ⟨R, hR⟩ : ∃ R, R = w.heap.size := ⟨_, rfl⟩
    rw [← hR]
    have hS : S9 w R U G M 0 ((w3.setCell ⟨U, 0, none⟩ (.slice (some ⟨G, 0, none⟩) n n)).setCell ⟨U, 1, none⟩ (.int .i16 root)) := by
      have ks : Keeps (fun k => k = U) w3 ((w3.setCell ⟨U, 0, none⟩ (.slice (some ⟨G, 0, none⟩) n n)).setCell ⟨U, 1, none⟩ (.int .i16 root)) := ((Keeps.refl (fun k => k = U) w3).setCell (fun _ => rfl) _).setCell (fun _ => rfl) _
      have hge := HF.out.ge
      have r1 := (HF.out.rU.set (i := 0) (by decide) (.slice (some ⟨G, 0, none⟩) n n)).set (i := 1) (by simp [zTrC]) (.int .i16 root)
      simp only [Nat.zero_add] at r1
      have hst := HM.start (U := U) (G := G) (n := n) (root := root) r1 (own_keeps HF.out.oG ks (fun j hj e => by
        have h1 : G = j := by simpa [Value.ownBlock] using hj
        have e' : j = U := e
        exact HF.out.ne (by omega))) HF.out.ne hrt hnn
      refine ⟨?_, ⟨fun x => if x = 0 then .slice (some ⟨G, 0, none⟩) n n else .slice none 0 0, ?_, fun j hj => ?_, ?_⟩, ?_⟩
      · have hr0 : RowAt w0 w.heap.size 0 zTrC := by rw [HW0.out]; exact RowAt.of_alloc w zTrC 42
        rw [hR]
        exact (row_below hr0 HF.out.kb).keeps ks (fun _ e => by have e' : w.heap.size = U := e; omega)
      · rw [show M.cp 0 = ⟨List.replicate n zNd, root, []⟩ by unfold Mo.cp; rw [← HN.out, ← HR.out, Nat.sub_zero]; rfl]
        exact hst
      · rcases hj with q | ⟨x, hx, q⟩
        · omega
        · dsimp only at q
          by_cases h0 : x = 0
          · rw [if_pos h0] at q
            have : G = j := by simpa [Value.ownBlock] using q
            omega
          · rw [if_neg h0] at q; cases q
      · dsimp only; rw [if_pos rfl, ← HN.out]
      · exact (HB0.out.trans (HF.out.kb.mono (Nat.le_of_lt hRs))).trans (ks.below (Nat.le_trans (Nat.le_of_lt hRs) HF.out.kb.size) (fun k hk e => by have e' : k = U := e; omega))
    have HS := hide hS
    have HRR := hide hR
    clear hS c0 c1 l0 l1 g0 HF hR hRs hUl hpU HB0 HW0
    generalize ((w3.setCell ⟨U, 0, none⟩ (.slice (some ⟨G, 0, none⟩) n n)).setCell ⟨U, 1, none⟩ (.int .i16 root)) = w4 at *
    go_loopw [22] (fun q wr => ∃ i : Nat, i ≤ n ∧ q = .int .i64 (i : Nat) ∧ Hid (S9 w R U G M i wr)) (fun q _ => 65536 - (intOf q).toNat)
    case atStart => exact ⟨0, by omega, by simp, HS⟩
    case round =>
      clear HS
      obtain ⟨i, hi, rfl, H⟩ := hrel
      by_cases hgi : i < n
      · have hiN : i < M.N.length := by rw [← HN.out]; exact hgi
        have hmr := HM0.out.below H.out.kb
        obtain ⟨g, gc, hgv, hcells⟩ := hmr.node hiN
        rw [HG.out] at hgv
        have hnae : na = some ⟨g, 0, none⟩ := by cases hgv; rfl
        subst hnae
        obtain ⟨ka, kc, hka⟩ := hmr.nk_ hiN
        obtain ⟨da, dc, hda⟩ := hmr.nd_ hiN
        have c0 := (hcells 0 _ rfl).1
        have c1 := (hcells 1 _ rfl).1
        have c2 := (hcells 2 _ rfl).1
        have c3 := (hcells 3 _ rfl).1
        rw [hda] at c2
        rw [hka] at c3
        simp only [Nat.add_zero] at c0
        have hgl : g < wr.heap.size := lt_of_cell c0
        have HOD := hide (hmr.dat i hiN)
        have HOK := hide (hmr.kid i hiN)
        rw [hda] at HOD
        rw [hka] at HOK
        have hdl := (nd_dl hmr i).1
        have hkl := (nd_dl hmr i).2
        have HND := hide (show ∃ nd : Nd, nd = M.nd i from ⟨_, rfl⟩)
        obtain ⟨kd, hkd⟩ : ∃ kd, kd = (M.nd i).kind := ⟨_, rfl⟩
        obtain ⟨cd, hcd⟩ : ∃ cd, cd = (M.nd i).code := ⟨_, rfl⟩
        obtain ⟨dl, hdle⟩ : ∃ dl, dl = (M.nd i).data.length := ⟨_, rfl⟩
        obtain ⟨kl, hkle⟩ : ∃ kl, kl = (M.nd i).kids.length := ⟨_, rfl⟩
        rw [← hkd] at c0
        rw [← hcd] at c1
        rw [← hdle] at c2 hdl HOD
        rw [← hkle] at c3 hkl HOK
        have HEQ := hide (And.intro hkd (And.intro hcd (And.intro hdle hkle)))
        clear hkd hcd hdle hkle hcells hgv hka hda hmr HND
        go_wp2_with fail
        obtain ⟨V, hV⟩ : ∃ V, V = wr.heap.size := ⟨_, rfl⟩
        obtain ⟨w5, hw5⟩ : ∃ w5, w5 = wr.alloc (Obj.cells #[.int .u8 kd, .int .u8 cd, .slice da dl dc, .slice ka kl kc] 76) := ⟨_, rfl⟩
        have hb5 : Below wr.heap.size wr w5 := by rw [hw5]; exact (Below.refl _ _).alloc (Nat.le_refl _) _
        have rV : RowAt w5 V 0 [.int .u8 kd, .int .u8 cd, .slice da dl dc, .slice ka kl kc] := by rw [hw5, hV]; exact RowAt.of_alloc wr _ 76
        have HS5 := hide (H.out.below hb5)
        have HOD5 := hide (own_below HOD.out hb5)
        have HOK5 := hide (own_below HOK.out hb5)
        have v0 := rV.at_ (i := 0) rfl
        have v1 := rV.at_ (i := 1) rfl
        have v2 := rV.at_ (i := 2) rfl
        have v3 := rV.at_ (i := 3) rfl
        simp only [Nat.zero_add] at v0 v1 v2 v3
        have hVl : V < w5.heap.size := lt_of_cell v0
        obtain ⟨h', mu, bu, hu0⟩ := HS5.out.hm
        have u0 := mu.f0.1
        have hUl : U < w5.heap.size := mu.lt
        rw [hu0, ← HN.out] at u0
        rw [← hw5, ← hV]
        clear hw5 hV hb5 rV mu bu hu0 c0 c1 c2 c3 HOD HOK H hgl
        refine wp_region_seg (fun w' => ∃ x, w' = w5.ext x) 14 [0, 1, 2, 3, 4, 5, 6, 7, 8, 10, 11] 3 (by kernel_rfl) (by kernel_rfl) ?_ (ext_drew _) ?_
        · intro d v c a w hx
          cases d <;> exact hx
        simp only [pickOps, List.getElem?_cons_zero, List.getElem?_cons_succ, Option.toList_some, List.cons_append, List.nil_append, List.drop_succ_cons, List.drop_zero]
        repeat (go_big_quiet_step (fail))
        refine wpQuiet_nil ?_
        refine segH_one (i := 9) (by kernel_rfl) rfl (by omega) ?_
        go_wp2_with (first | (refine wpList_dup ty_words rfl _ _ rfl rfl (.slice da dl dc) dl (cellsK .u64 (M.nd i).data) (own_below HOD5.out (below_drew w5)) rfl (one_cellsK _ _) (by omega) (by omega) ?_; intro xa xc w6 o6 f6 b6) | fail)
        have b6' : Below w5.heap.size w5 w6 := (below_drew w5).trans b6
        refine ⟨World.ext_of_below b6', ?_⟩
        refine segH_one (i := 12) (by kernel_rfl) rfl (by omega) ?_
        go_wp2_with (first | (refine wpList_dup ty_kids rfl _ _ rfl rfl (.slice ka kl kc) kl (kidsC (M.nd i).kids) (own_below HOK5.out b6') rfl (one_kidsC _) (by omega) (by omega) ?_; intro ya yc w7 o7 f7 b7) | fail)
        have b7' : Below w5.heap.size w5 w7 := b6'.trans (b7.mono b6'.size)
        refine ⟨World.ext_of_below b7', ?_⟩
        refine segH_one (i := 13) (by kernel_rfl) rfl (by omega) ?_
        go_wp2_with fail
        refine ⟨World.ext_of_below b7', ?_⟩
        refine ⟨by kernel_rfl, ?_⟩
        have HS7 := hide (HS5.out.below b7')
        obtain ⟨h2, m2, b2, e2⟩ := HS7.out.hm
        obtain ⟨gq, gqc, hgq, hcq⟩ := m2.node (i := i) (by rw [cp_len (by omega)]; exact hiN)
        have hgqe : gq = G := by
          have := congrArg Value.ownBlock (e2.symm.trans hgq)
          simpa [Value.ownBlock] using this.symm
        subst hgqe
        obtain ⟨z0, y0⟩ := hcq 0 _ rfl
        obtain ⟨z1, y1⟩ := hcq 1 _ rfl
        obtain ⟨z2, y2⟩ := hcq 2 _ rfl
        obtain ⟨z3, y3⟩ := hcq 3 _ rfl
        simp only [Nat.add_zero] at z0 y0
        have hGl : gq < w7.heap.size := lt_of_cell z0
        have HFin := hide (HS7.out.step hiN HRR.out (HM0.out.ok i) (dv := .slice xa dl xc) (kv := .slice ya kl yc) (by rw [← HEQ.out.2.2.1]; exact own_below o6 b7) (by rw [← HEQ.out.2.2.2]; exact o7) w5 HS5.out b7' (fun j hj => f6 j hj) (fun j hj => Nat.le_trans b6.size (f7 j hj)) (fun j hj hk => by
          have h1 := (o6.lt j hj).2
          have h2 := f7 j hk
          omega))
        rw [← HEQ.out.1, ← HEQ.out.2.1] at HFin
        clear m2 b2 e2 hgq hcq o6 o7 f6 f7 b6 b7 b6' b7' HS7 HS5 HOD5 HOK5 v0 v1 v2 v3 u0
        generalize ndC h2 i ((M.cp i).nd i) = zzz at *
        go_wp2_with fail
        go_roundw
        case rel => exact ⟨i + 1, by omega, by go_num, HFin⟩
        case measure => simp [intOf]; omega
      · have hin : i = n := by omega
        subst hin
        obtain ⟨h', mu, bu, hu0⟩ := H.out.hm
        have u0 := mu.f0.1
        have u1 := mu.f1.1
        rw [hu0, ← HN.out] at u0
        rw [show (M.cp i).root = root from HR.out.symm] at u1
        have r0 := H.out.rR.at_ (i := 0) rfl
        have r1 := H.out.rR.at_ (i := 1) rfl
        have l0 := H.out.rR.live 0 (by decide)
        have l1 := H.out.rR.live 1 (by decide)
        simp only [Nat.zero_add] at r0 r1 l0 l1
        have hRl : R < wr.heap.size := lt_of_cell r0
        have HMU := hide mu
        have HBU := hide bu
        have HU0 := hide hu0
        clear mu bu hu0
        go_wp2_with fail
        have q1 := (H.out.rR.set (i := 0) (by decide) (.slice (some ⟨G, 0, none⟩) i i)).set (i := 1) (by simp [zTrC]) (.int .i16 root)
        simp only [Nat.zero_add] at q1
        have ks : Keeps (fun k => k = R) wr ((wr.setCell ⟨R, 0, none⟩ (.slice (some ⟨G, 0, none⟩) i i)).setCell ⟨R, 1, none⟩ (.int .i16 root)) := ((Keeps.refl (fun k => k = R) wr).setCell (fun _ => rfl) _).setCell (fun _ => rfl) _
        generalize ((wr.setCell ⟨R, 0, none⟩ (.slice (some ⟨G, 0, none⟩) i i)).setCell ⟨R, 1, none⟩ (.int .i16 root)) = w5 at *
        have e0 := q1.at_ (i := 0) rfl
        have e1 := q1.at_ (i := 1) rfl
        simp only [Nat.zero_add] at e0 e1
        refine bodyPost_ret (v := .agg #[.slice (some ⟨G, 0, none⟩) i i, .int .i16 root]) (w := w5) (by simp [results, Faag.results9, go_sem, e0, e1, asAddr]) rfl ?_
        refine ⟨h', U, ?_, ?_, fun j hj => Nat.le_of_lt (HBU.out j hj), H.out.kb.trans (ks.below H.out.kb.size (fun k hk e => ?_))⟩
        · have := HMU.out.keeps ks (fun j hj e => by
            have e' : j = R := e
            rw [show (M.cp i).N.length = M.N.length from cp_len (by rw [HN.out]; exact Nat.le_refl _)] at hj
            have := HBU.out j hj
            have := HRR.out
            omega)
          rw [HN.out, cp_end] at this
          exact this
        · rw [HU0.out, ← HN.out, ← HR.out]
        · have e' : k = R := e
          have := HRR.out
          omega
end Go.Proofs.YgcfaaGreat
