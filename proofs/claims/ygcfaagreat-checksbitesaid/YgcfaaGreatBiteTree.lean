import Derived.Test.YgcfaaGreatOrphW
namespace Go.Proofs.YgcfaaGreat
open Go.RowKit Bits Bd
set_option linter.unusedVariables false
set_option maxRecDepth 100000
set_option linter.unusedSimpArgs false
attribute [local go_sem] World.cell?_ext World.frozen?_ext

theorem index80_0 (w : World) (x : Int) : (Instr.index 80 (.agg #[.int .i16 x, .int .i16 (-2)]) (.int .i64 0)).run Faag.prog w = .ok (.int .i16 x) w := by kernel_rfl
theorem index80_1 (w : World) (x : Int) : (Instr.index 80 (.agg #[.int .i16 x, .int .i16 (-2)]) (.int .i64 1)).run Faag.prog w = .ok (.int .i16 (-2)) w := by kernel_rfl
attribute [local go_sem] index80_0 index80_1
section
variable {M : Mo}
theorem bt_shape {i : Nat} (hi : i < M.N.length) {n' : Nd} (hp : preT { M with N := M.N.set i n' }) :
    if n'.kind = 1 then n'.code = 0 ∧ n'.data.length ≤ 8 ∧ n'.kids.length ≤ 8
    else n'.kind = 2 ∧ n'.data.length ≤ 128 ∧ n'.kids.length ≤ 128 ∧
     (if 2 ≤ n'.code ∧ n'.code ≤ 5 then (∀ j, j < n'.data.length → n'.data.getD j 0 ≤ limC n'.code) ∧ n'.kids.length = 0
      else if n'.code = 7 then (∀ j, j < n'.kids.length → ∃ k : Nat, n'.kids.getD j 0 = (k : Int) ∧ (Mo.nd { M with N := M.N.set i n' } k).kind = 1) ∧ n'.data.length = 0
      else n'.code = 6 ∧ n'.data.length = 0) := by
  have := (hp.2.2.1 i (by show i < (M.N.set i n').length; rw [List.length_set]; exact hi)).2
  rw [nd_set hi n' i, if_pos rfl] at this
  exact this
theorem bt_kind {i : Nat} (hi : i < M.N.length) : ¬ preT { M with N := M.N.set i { M.nd i with kind := 0 } } := fun hp => by
  have := bt_shape hi hp
  rw [if_neg (by show ¬ (0:Nat) = 1; decide)] at this
  exact absurd this.1 (by show ¬ (0:Nat) = 2; decide)
theorem bt_code5 {i : Nat} (hi : i < M.N.length) (hk : (M.nd i).kind = 1) : ¬ preT { M with N := M.N.set i { M.nd i with code := 5 } } := fun hp => by
  have := bt_shape hi hp
  rw [if_pos (show (M.nd i).kind = 1 from hk)] at this
  exact absurd this.1 (by show ¬ (5:Nat) = 0; decide)
theorem bt_code1 {i : Nat} (hi : i < M.N.length) (hk : (M.nd i).kind = 2) : ¬ preT { M with N := M.N.set i { M.nd i with code := 1 } } := fun hp => by
  have := bt_shape hi hp
  rw [if_neg (show ¬ (M.nd i).kind = 1 by rw [hk]; decide)] at this
  have t := this.2.2.2
  rw [if_neg (show ¬ (2 ≤ (1:Nat) ∧ (1:Nat) ≤ 5) by decide), if_neg (show ¬ (1:Nat) = 7 by decide)] at t
  exact absurd t.1 (by show ¬ (1:Nat) = 6; decide)
theorem bt_kids {i c : Nat} (hi : i < M.N.length) (hk : (M.nd i).kind = 2) (hc : (M.nd i).code = c) (h25 : 2 ≤ c ∧ c ≤ 5) : ¬ preT { M with N := M.N.set i { M.nd i with kids := [-1] } } := fun hp => by
  have := bt_shape hi hp
  rw [if_neg (show ¬ (M.nd i).kind = 1 by rw [hk]; decide)] at this
  have t := this.2.2.2
  rw [if_pos (show 2 ≤ (M.nd i).code ∧ (M.nd i).code ≤ 5 by rw [hc]; exact h25)] at t
  exact absurd t.2 (by show ¬ (1:Nat) = 0; decide)
theorem bt_data {i : Nat} (hi : i < M.N.length) (hk : (M.nd i).kind = 2) (hc : (M.nd i).code = 6) : ¬ preT { M with N := M.N.set i { M.nd i with data := [0] } } := fun hp => by
  have := bt_shape hi hp
  rw [if_neg (show ¬ (M.nd i).kind = 1 by rw [hk]; decide)] at this
  have t := this.2.2.2
  rw [if_neg (show ¬ (2 ≤ (M.nd i).code ∧ (M.nd i).code ≤ 5) by rw [hc]; decide), if_neg (show ¬ (M.nd i).code = 7 by rw [hc]; decide)] at t
  exact absurd t.2 (by show ¬ (1:Nat) = 0; decide)
theorem bt_none {i : Nat} (hi : i < M.N.length) (hk : (M.nd i).kind = 2) (hc : (M.nd i).code = 7) (h0 : 0 < (M.nd i).kids.length) : ¬ preT { M with N := M.N.set i { M.nd i with kids := (M.nd i).kids.set 0 (-1) } } := fun hp => by
  have := bt_shape hi hp
  rw [if_neg (show ¬ (M.nd i).kind = 1 by rw [hk]; decide)] at this
  have t := this.2.2.2
  rw [if_neg (show ¬ (2 ≤ (M.nd i).code ∧ (M.nd i).code ≤ 5) by rw [hc]; decide), if_pos (show (M.nd i).code = 7 from hc)] at t
  obtain ⟨k, e, _⟩ := t.1 0 (by show 0 < ((M.nd i).kids.set 0 (-1)).length; rw [List.length_set]; exact h0)
  have e' : ((M.nd i).kids.set 0 (-1)).getD 0 0 = (k : Int) := e
  rw [List.getD_eq_getElem?_getD, List.getElem?_set_self h0] at e'
  have e2 : (-1 : Int) = k := e'
  omega
end

set_option maxHeartbeats 16000000 in
theorem biteTree0_calls {w : World} {p : Nat} {h : Nat → Value} {M : Mo} (m : HM false w p h M) :
    Calls Faag.prog 11 #[.pointer (some ⟨p, 0, none⟩), .int .i64 0] w fun e w' => e = .returned (.bool true) ∧ Keeps (mblk p h M.N.length) w w' := by
  obtain ⟨na, nc, hg⟩ := m.n0
  have f0 := m.f0.1
  rw [hg] at f0
  have hnn := m.nn
  obtain ⟨n, hn⟩ : ∃ n, n = M.N.length := ⟨_, rfl⟩
  rw [← hn] at f0 hnn
  have f1 := m.f1
  obtain ⟨f1a, f1b⟩ := f1
  have hpl := m.lt
  have HC := hide (tcheck_no (m.setRoot (r := (n : Int)) (by omega)) (fun hp => by have := hp.1; have h2 : (n : Int) < (M.N.length : Int) := this.2; omega))
  clear hg m hn
  go_enter Faag.func11, Faag.ntmps11
  go_wp2_with fail
  refine HC.out.mono ?_
  rintro e w2 ⟨rfl, b2⟩
  have HB := hide b2
  clear b2 HC
  go_wp2_with fail
  go_ret
  exact ⟨rfl, ((Stp.keep ((Keeps.refl _ w).setCell (p := ⟨p, 1, none⟩) (fun _ => .inl rfl) _)).trans (Stp.below HB.out)).kp⟩

set_option maxHeartbeats 16000000 in
theorem biteTree1_calls {w : World} {p : Nat} {h : Nat → Value} {M : Mo} (m : HM false w p h M) :
    Calls Faag.prog 11 #[.pointer (some ⟨p, 0, none⟩), .int .i64 1] w fun e w' => e = .returned (.bool true) ∧ Keeps (mblk p h M.N.length) w w' := by
  obtain ⟨na, nc, hg⟩ := m.n0
  have f0 := m.f0.1
  rw [hg] at f0
  have hnn := m.nn
  obtain ⟨n, hn⟩ : ∃ n, n = M.N.length := ⟨_, rfl⟩
  rw [← hn] at f0 hnn
  have f1 := m.f1
  obtain ⟨f1a, f1b⟩ := f1
  have hpl := m.lt
  have HC := hide (tcheck_no (m.setRoot (r := -2) (by omega)) (fun hp => by have := hp.1; have h2 : (-1 : Int) ≤ -2 := this.1; omega))
  clear hg m hn
  go_enter Faag.func11, Faag.ntmps11
  go_wp2_with fail
  refine HC.out.mono ?_
  rintro e w2 ⟨rfl, b2⟩
  have HB := hide b2
  clear b2 HC
  go_wp2_with fail
  go_ret
  exact ⟨rfl, ((Stp.keep ((Keeps.refl _ w).setCell (p := ⟨p, 1, none⟩) (fun _ => .inl rfl) _)).trans (Stp.below HB.out)).kp⟩

set_option maxHeartbeats 16000000 in
theorem biteTree11_calls {w : World} {p : Nat} {h : Nat → Value} {M : Mo} (m : HM false w p h M) {n0 : Nat} {own : Nat → Nat × Nat} {dp wd : Nat → Nat} {nm : Nat → Bool} (t : InvT M n0 own dp wd nm) (hn0 : n0 = M.N.length) :
    Calls Faag.prog 11 #[.pointer (some ⟨p, 0, none⟩), .int .i64 11] w fun e w' => e = .returned (.bool true) ∧ Keeps (mblk p h M.N.length) w w' := by
  have HC := hide (orphan_calls m t hn0)
  clear m t
  go_enter Faag.func11, Faag.ntmps11
  go_wp2_with fail
  refine HC.out.mono ?_
  rintro e w2 ⟨rfl, b2⟩
  have HB := hide b2
  clear b2 HC
  go_wp2_with fail
  go_ret
  exact ⟨rfl, HB.out⟩

set_option maxHeartbeats 16000000 in
theorem biteTree2_calls {w : World} {p : Nat} {h : Nat → Value} {M : Mo} (m : HM false w p h M) :
    Calls Faag.prog 11 #[.pointer (some ⟨p, 0, none⟩), .int .i64 2] w fun e w' => e = .returned (.bool true) ∧ Keeps (mblk p h M.N.length) w w' := by
  have hnn := m.nn
  have HC := hide (last_calls m 1 0 (by omega) (by omega))
  have HM0 := hide m
  clear m
  go_enter Faag.func11, Faag.ntmps11
  go_wp2_with fail
  refine HC.out.mono ?_
  rintro e w2 ⟨hr, rfl⟩
  rcases hr with rfl | ⟨g, gc, i, hg, hi, hkd, hcd, rfl⟩
  · clear HC
    go_wp2_with fail
    go_ret
    exact ⟨rfl, Keeps.refl _ _⟩
  · clear HC
    obtain ⟨g', gc', hg', hcells⟩ := HM0.out.node hi
    have hgg : g' = g := by rw [hg] at hg'; cases hg'; rfl
    subst hgg
    obtain ⟨c0, c0f⟩ := hcells 0 _ rfl
    have hgl : g' < w2.heap.size := lt_of_cell c0
    have HE := hide (tcheck_no (HM0.out.setKC hi hg' (c := 0) (v := 0) (by omega) (by omega) (n' := { M.nd i with kind := 0 }) rfl) (bt_kind hi))
    have HB0 := hide (show mblk p h M.N.length g' from .inr ⟨0, by omega, by rw [hg']; rfl⟩)
    try simp only [Nat.add_zero] at c0 c0f HE
    generalize (M.nd i).kind = kd0 at c0
    clear hcells hg' hg hkd hcd hi
    go_wp2_with fail
    refine HE.out.mono ?_
    rintro e w3 ⟨rfl, b3⟩
    have HB := hide b3
    clear b3 HE
    go_wp2_with fail
    go_ret
    exact ⟨rfl, ((Stp.keep ((Keeps.refl _ w2).setCell (fun _ => HB0.out) _)).trans (Stp.below HB.out)).kp⟩

set_option maxHeartbeats 16000000 in
theorem biteTree3_calls {w : World} {p : Nat} {h : Nat → Value} {M : Mo} (m : HM false w p h M) :
    Calls Faag.prog 11 #[.pointer (some ⟨p, 0, none⟩), .int .i64 3] w fun e w' => e = .returned (.bool true) ∧ Keeps (mblk p h M.N.length) w w' := by
  have hnn := m.nn
  have HC := hide (last_calls m 1 0 (by omega) (by omega))
  have HM0 := hide m
  clear m
  go_enter Faag.func11, Faag.ntmps11
  go_wp2_with fail
  refine HC.out.mono ?_
  rintro e w2 ⟨hr, rfl⟩
  rcases hr with rfl | ⟨g, gc, i, hg, hi, hkd, hcd, rfl⟩
  · clear HC
    go_wp2_with fail
    go_ret
    exact ⟨rfl, Keeps.refl _ _⟩
  · clear HC
    obtain ⟨g', gc', hg', hcells⟩ := HM0.out.node hi
    have hgg : g' = g := by rw [hg] at hg'; cases hg'; rfl
    subst hgg
    obtain ⟨c0, c0f⟩ := hcells 1 _ rfl
    have hgl : g' < w2.heap.size := lt_of_cell c0
    have HE := hide (tcheck_no (HM0.out.setKC hi hg' (c := 1) (v := 5) (by omega) (by omega) (n' := { M.nd i with code := 5 }) rfl) (bt_code5 hi hkd))
    have HB0 := hide (show mblk p h M.N.length g' from .inr ⟨0, by omega, by rw [hg']; rfl⟩)
    try simp only [Nat.add_zero] at c0 c0f HE
    generalize (M.nd i).code = kd0 at c0
    clear hcells hg' hg hkd hcd hi
    go_wp2_with fail
    refine HE.out.mono ?_
    rintro e w3 ⟨rfl, b3⟩
    have HB := hide b3
    clear b3 HE
    go_wp2_with fail
    go_ret
    exact ⟨rfl, ((Stp.keep ((Keeps.refl _ w2).setCell (fun _ => HB0.out) _)).trans (Stp.below HB.out)).kp⟩

set_option maxHeartbeats 16000000 in
theorem biteTree4_calls {w : World} {p : Nat} {h : Nat → Value} {M : Mo} (m : HM false w p h M) :
    Calls Faag.prog 11 #[.pointer (some ⟨p, 0, none⟩), .int .i64 4] w fun e w' => e = .returned (.bool true) ∧ Keeps (mblk p h M.N.length) w w' := by
  have hnn := m.nn
  have HC := hide (last_calls m 2 6 (by omega) (by omega))
  have HM0 := hide m
  clear m
  go_enter Faag.func11, Faag.ntmps11
  go_wp2_with fail
  refine HC.out.mono ?_
  rintro e w2 ⟨hr, rfl⟩
  rcases hr with rfl | ⟨g, gc, i, hg, hi, hkd, hcd, rfl⟩
  · clear HC
    go_wp2_with fail
    go_ret
    exact ⟨rfl, Keeps.refl _ _⟩
  · clear HC
    obtain ⟨g', gc', hg', hcells⟩ := HM0.out.node hi
    have hgg : g' = g := by rw [hg] at hg'; cases hg'; rfl
    subst hgg
    obtain ⟨c0, c0f⟩ := hcells 1 _ rfl
    have hgl : g' < w2.heap.size := lt_of_cell c0
    have HE := hide (tcheck_no (HM0.out.setKC hi hg' (c := 1) (v := 1) (by omega) (by omega) (n' := { M.nd i with code := 1 }) rfl) (bt_code1 hi hkd))
    have HB0 := hide (show mblk p h M.N.length g' from .inr ⟨0, by omega, by rw [hg']; rfl⟩)
    try simp only [Nat.add_zero] at c0 c0f HE
    generalize (M.nd i).code = kd0 at c0
    clear hcells hg' hg hkd hcd hi
    go_wp2_with fail
    refine HE.out.mono ?_
    rintro e w3 ⟨rfl, b3⟩
    have HB := hide b3
    clear b3 HE
    go_wp2_with fail
    go_ret
    exact ⟨rfl, ((Stp.keep ((Keeps.refl _ w2).setCell (fun _ => HB0.out) _)).trans (Stp.below HB.out)).kp⟩

set_option maxHeartbeats 16000000 in
theorem biteTree5_calls {w : World} {p : Nat} {h : Nat → Value} {M : Mo} (m : HM false w p h M) :
    Calls Faag.prog 11 #[.pointer (some ⟨p, 0, none⟩), .int .i64 5] w fun e w' => e = .returned (.bool true) ∧ Keeps (mblk p h M.N.length) w w' := by
  have hnn := m.nn
  have HC := hide (last_calls m 2 2 (by omega) (by omega))
  have HM0 := hide m
  clear m
  go_enter Faag.func11, Faag.ntmps11
  go_wp2_with fail
  refine HC.out.mono ?_
  rintro e w2 ⟨hr, rfl⟩
  rcases hr with rfl | ⟨g, gc, i, hg, hi, hkd, hcd, rfl⟩
  · clear HC
    have HC := hide (last_calls HM0.out 2 5 (by omega) (by omega))
    go_wp2_with fail
    refine HC.out.mono ?_
    rintro e w2 ⟨hr, rfl⟩
    rcases hr with rfl | ⟨g, gc, i, hg, hi, hkd, hcd, rfl⟩
    · clear HC
      go_wp2_with fail
      go_ret
      exact ⟨rfl, Keeps.refl _ _⟩
    · clear HC
      obtain ⟨g', gc', hg', hcells⟩ := HM0.out.node hi
      have hgg : g' = g := by rw [hg] at hg'; cases hg'; rfl
      subst hgg
      obtain ⟨ra, rc, hra⟩ := HM0.out.nk_ hi
      obtain ⟨c0, c0f⟩ := hcells 3 _ rfl
      rw [hra] at c0
      have hgl : g' < w2.heap.size := lt_of_cell c0
      have HB0 := hide (show mblk p h M.N.length g' from .inr ⟨0, by omega, by rw [hg']; rfl⟩)
      have hbel : Below w2.heap.size w2 (w2.alloc (.cells #[.int .i16 (-1)] 40)) := (Below.refl _ w2).alloc (Nat.le_refl _) _
      have ok := HM0.out.ok i
      have HE := hide (tcheck_no (HM0.out.newRow (w1 := w2.alloc (.cells #[.int .i16 (-1)] 40)) hi hg' (b := 1) (by omega) (v' := .slice (some ⟨w2.heap.size, 0, none⟩) 1 1) (n' := { M.nd i with kids := [-1] }) ((Keeps.of_below hbel).mono (fun k hk hx => by have hx' : w2.heap.size ≤ k := hx; omega))
        (fun j hj => .inr (fun q => by
          have hj' : w2.heap.size = j := by simpa [Value.ownBlock] using hj
          have := HM0.out.blk_lt q
          omega)) ⟨rfl, rfl⟩ (fun e => absurd e (by omega)) (fun _ => ⟨rfl, own_lit w2 40 _⟩) ⟨ok.kind, ok.code, ok.data, fun k hk => by have e := List.mem_singleton.1 hk; rw [e]; omega, ok.dl, by show (1:Nat) ≤ 1000; omega⟩) (bt_kids hi hkd hcd (by omega)))
      have HA := hide hbel
      rw [show i * 4 + (2 + 1) = i * 4 + 3 from rfl, World.setCell_alloc_past _ _ _ _ hgl] at HE
      generalize (M.nd i).kids.length = rl at c0
      clear hcells hg' hg hkd hcd hi hra ok hbel
      go_wp2_with fail
      refine HE.out.mono ?_
      rintro e w3 ⟨rfl, b3⟩
      have HB := hide b3
      clear b3 HE
      go_wp2_with fail
      go_ret
      exact ⟨rfl, ((Stp.keep (((Keeps.refl _ w2).setCell (fun _ => HB0.out) _).alloc _)).trans (Stp.below HB.out)).kp⟩
  · clear HC
    obtain ⟨g', gc', hg', hcells⟩ := HM0.out.node hi
    have hgg : g' = g := by rw [hg] at hg'; cases hg'; rfl
    subst hgg
    obtain ⟨ra, rc, hra⟩ := HM0.out.nk_ hi
    obtain ⟨c0, c0f⟩ := hcells 3 _ rfl
    rw [hra] at c0
    have hgl : g' < w2.heap.size := lt_of_cell c0
    have HB0 := hide (show mblk p h M.N.length g' from .inr ⟨0, by omega, by rw [hg']; rfl⟩)
    have hbel : Below w2.heap.size w2 (w2.alloc (.cells #[.int .i16 (-1)] 40)) := (Below.refl _ w2).alloc (Nat.le_refl _) _
    have ok := HM0.out.ok i
    have HE := hide (tcheck_no (HM0.out.newRow (w1 := w2.alloc (.cells #[.int .i16 (-1)] 40)) hi hg' (b := 1) (by omega) (v' := .slice (some ⟨w2.heap.size, 0, none⟩) 1 1) (n' := { M.nd i with kids := [-1] }) ((Keeps.of_below hbel).mono (fun k hk hx => by have hx' : w2.heap.size ≤ k := hx; omega))
      (fun j hj => .inr (fun q => by
        have hj' : w2.heap.size = j := by simpa [Value.ownBlock] using hj
        have := HM0.out.blk_lt q
        omega)) ⟨rfl, rfl⟩ (fun e => absurd e (by omega)) (fun _ => ⟨rfl, own_lit w2 40 _⟩) ⟨ok.kind, ok.code, ok.data, fun k hk => by have e := List.mem_singleton.1 hk; rw [e]; omega, ok.dl, by show (1:Nat) ≤ 1000; omega⟩) (bt_kids hi hkd hcd (by omega)))
    have HA := hide hbel
    rw [show i * 4 + (2 + 1) = i * 4 + 3 from rfl, World.setCell_alloc_past _ _ _ _ hgl] at HE
    generalize (M.nd i).kids.length = rl at c0
    clear hcells hg' hg hkd hcd hi hra ok hbel
    go_wp2_with fail
    refine HE.out.mono ?_
    rintro e w3 ⟨rfl, b3⟩
    have HB := hide b3
    clear b3 HE
    go_wp2_with fail
    go_ret
    exact ⟨rfl, ((Stp.keep (((Keeps.refl _ w2).setCell (fun _ => HB0.out) _).alloc _)).trans (Stp.below HB.out)).kp⟩

set_option maxHeartbeats 16000000 in
theorem biteTree6_calls {w : World} {p : Nat} {h : Nat → Value} {M : Mo} (m : HM false w p h M) :
    Calls Faag.prog 11 #[.pointer (some ⟨p, 0, none⟩), .int .i64 6] w fun e w' => e = .returned (.bool true) ∧ Keeps (mblk p h M.N.length) w w' := by
  have hnn := m.nn
  have HC := hide (last_calls m 2 6 (by omega) (by omega))
  have HM0 := hide m
  clear m
  go_enter Faag.func11, Faag.ntmps11
  go_wp2_with fail
  refine HC.out.mono ?_
  rintro e w2 ⟨hr, rfl⟩
  rcases hr with rfl | ⟨g, gc, i, hg, hi, hkd, hcd, rfl⟩
  · clear HC
    go_wp2_with fail
    go_ret
    exact ⟨rfl, Keeps.refl _ _⟩
  · clear HC
    obtain ⟨g', gc', hg', hcells⟩ := HM0.out.node hi
    have hgg : g' = g := by rw [hg] at hg'; cases hg'; rfl
    subst hgg
    obtain ⟨ra, rc, hra⟩ := HM0.out.nd_ hi
    obtain ⟨c0, c0f⟩ := hcells 2 _ rfl
    rw [hra] at c0
    have hgl : g' < w2.heap.size := lt_of_cell c0
    have HB0 := hide (show mblk p h M.N.length g' from .inr ⟨0, by omega, by rw [hg']; rfl⟩)
    have hbel : Below w2.heap.size w2 (w2.alloc (.cells #[.int .u64 0] 31)) := (Below.refl _ w2).alloc (Nat.le_refl _) _
    have ok := HM0.out.ok i
    have HE := hide (tcheck_no (HM0.out.newRow (w1 := w2.alloc (.cells #[.int .u64 0] 31)) hi hg' (b := 0) (by omega) (v' := .slice (some ⟨w2.heap.size, 0, none⟩) 1 1) (n' := { M.nd i with data := [0] }) ((Keeps.of_below hbel).mono (fun k hk hx => by have hx' : w2.heap.size ≤ k := hx; omega))
      (fun j hj => .inr (fun q => by
        have hj' : w2.heap.size = j := by simpa [Value.ownBlock] using hj
        have := HM0.out.blk_lt q
        omega)) ⟨rfl, rfl⟩ (fun _ => ⟨rfl, own_lit w2 31 _⟩) (fun e => absurd e (by omega)) ⟨ok.kind, ok.code, fun k hk => by have e := List.mem_singleton.1 hk; rw [e]; omega, ok.kids, by show (1:Nat) ≤ 1000; omega, ok.kl⟩) (bt_data hi hkd hcd))
    have HA := hide hbel
    rw [show i * 4 + (2 + 0) = i * 4 + 2 from rfl, World.setCell_alloc_past _ _ _ _ hgl] at HE
    generalize (M.nd i).data.length = rl at c0
    clear hcells hg' hg hkd hcd hi hra ok hbel
    go_wp2_with fail
    refine HE.out.mono ?_
    rintro e w3 ⟨rfl, b3⟩
    have HB := hide b3
    clear b3 HE
    go_wp2_with fail
    go_ret
    exact ⟨rfl, ((Stp.keep (((Keeps.refl _ w2).setCell (fun _ => HB0.out) _).alloc _)).trans (Stp.below HB.out)).kp⟩

set_option maxHeartbeats 16000000 in
theorem biteTree7_calls {w : World} {p : Nat} {h : Nat → Value} {M : Mo} (m : HM false w p h M) :
    Calls Faag.prog 11 #[.pointer (some ⟨p, 0, none⟩), .int .i64 7] w fun e w' => e = .returned (.bool true) ∧ Keeps (mblk p h M.N.length) w w' := by
  have hnn := m.nn
  have HC := hide (last_calls m 1 0 (by omega) (by omega))
  have HM0 := hide m
  clear m
  go_enter Faag.func11, Faag.ntmps11
  go_wp2_with fail
  refine HC.out.mono ?_
  rintro e w2 ⟨hr, rfl⟩
  rcases hr with rfl | ⟨g, gc, i, hg, hi, hkd, hcd, rfl⟩
  · clear HC
    go_wp2_with fail
    go_ret
    exact ⟨rfl, Keeps.refl _ _⟩
  · clear HC
    have HE := hide (biteKid_calls HM0.out hg hi 7 (by omega))
    clear hg hi hkd hcd
    go_wp2_with fail
    refine HE.out.mono ?_
    rintro e w3 ⟨rfl, b3⟩
    have HB := hide b3
    clear b3 HE
    go_wp2_with fail
    go_ret
    exact ⟨rfl, HB.out⟩

set_option maxHeartbeats 16000000 in
theorem biteTree8_calls {w : World} {p : Nat} {h : Nat → Value} {M : Mo} (m : HM false w p h M) :
    Calls Faag.prog 11 #[.pointer (some ⟨p, 0, none⟩), .int .i64 8] w fun e w' => e = .returned (.bool true) ∧ Keeps (mblk p h M.N.length) w w' := by
  have hnn := m.nn
  have HC := hide (last_calls m 1 0 (by omega) (by omega))
  have HM0 := hide m
  clear m
  go_enter Faag.func11, Faag.ntmps11
  go_wp2_with fail
  refine HC.out.mono ?_
  rintro e w2 ⟨hr, rfl⟩
  rcases hr with rfl | ⟨g, gc, i, hg, hi, hkd, hcd, rfl⟩
  · clear HC
    go_wp2_with fail
    go_ret
    exact ⟨rfl, Keeps.refl _ _⟩
  · clear HC
    have HE := hide (biteKid_calls HM0.out hg hi 8 (by omega))
    clear hg hi hkd hcd
    go_wp2_with fail
    refine HE.out.mono ?_
    rintro e w3 ⟨rfl, b3⟩
    have HB := hide b3
    clear b3 HE
    go_wp2_with fail
    go_ret
    exact ⟨rfl, HB.out⟩

set_option maxHeartbeats 16000000 in
theorem biteTree9_calls {w : World} {p : Nat} {h : Nat → Value} {M : Mo} (m : HM false w p h M) :
    Calls Faag.prog 11 #[.pointer (some ⟨p, 0, none⟩), .int .i64 9] w fun e w' => e = .returned (.bool true) ∧ Keeps (mblk p h M.N.length) w w' := by
  have hnn := m.nn
  have HC := hide (last_calls m 2 7 (by omega) (by omega))
  have HM0 := hide m
  clear m
  go_enter Faag.func11, Faag.ntmps11
  go_wp2_with fail
  refine HC.out.mono ?_
  rintro e w2 ⟨hr, rfl⟩
  rcases hr with rfl | ⟨g, gc, i, hg, hi, hkd, hcd, rfl⟩
  · clear HC
    go_wp2_with fail
    go_ret
    exact ⟨rfl, Keeps.refl _ _⟩
  · clear HC
    obtain ⟨g', gc', hg', hcells⟩ := HM0.out.node hi
    have hgg : g' = g := by rw [hg] at hg'; cases hg'; rfl
    subst hgg
    obtain ⟨ka, kc, hka⟩ := HM0.out.nk_ hi
    obtain ⟨c3, c3f⟩ := hcells 3 _ rfl
    rw [hka] at c3
    have hgl : g' < w2.heap.size := lt_of_cell c3
    have hkl := (nd_dl HM0.out i).2
    by_cases h0 : (M.nd i).kids.length = 0
    · rw [h0] at c3
      clear hcells hg' hg hkd hcd hi hka hkl
      go_wp2_with fail
      go_ret
      exact ⟨rfl, Keeps.refl _ _⟩
    · obtain ⟨kb, kc2, hkb, hkc, hkf⟩ := HM0.out.kcell hi (j := 0) (by omega)
      have hkae : ka = some ⟨kb, 0, none⟩ := by rw [hkb] at hka; cases hka; rfl
      subst hkae
      have HE := hide (tcheck_no (HM0.out.setKid hi (j := 0) (by omega) hkb (v := -1) (by omega)) (bt_none hi hkd hcd (by omega)))
      have HB0 := hide (show mblk p h M.N.length kb from .inr ⟨2 * i + 3, by omega, by rw [hkb]; rfl⟩)
      generalize (M.nd i).kids.length = kl at *
      generalize (M.nd i).kids.getD 0 0 = kv at hkc
      have hkl' : kb < w2.heap.size := lt_of_cell hkc
      clear hcells hg' hg hkd hcd hi hka hkb
      go_wp2_with fail
      refine HE.out.mono ?_
      rintro e w3 ⟨rfl, b3⟩
      have HB := hide b3
      clear b3 HE
      go_wp2_with fail
      go_ret
      exact ⟨rfl, ((Stp.keep ((Keeps.refl _ w2).setCell (fun _ => HB0.out) _)).trans (Stp.below HB.out)).kp⟩

set_option maxHeartbeats 16000000 in
theorem biteTree10_calls {w : World} {p : Nat} {h : Nat → Value} {M : Mo} (m : HM false w p h M) :
    Calls Faag.prog 11 #[.pointer (some ⟨p, 0, none⟩), .int .i64 10] w fun e w' => e = .returned (.bool true) ∧ Keeps (mblk p h M.N.length) w w' := by
  have hnn := m.nn
  have HC := hide (last_calls m 1 0 (by omega) (by omega))
  have HM0 := hide m
  clear m
  go_enter Faag.func11, Faag.ntmps11
  go_wp2_with fail
  refine HC.out.mono ?_
  rintro e w2 ⟨hr, rfl⟩
  rcases hr with rfl | ⟨g, gc, i, hg, hi, hkd, hcd, rfl⟩
  · clear HC
    go_wp2_with fail
    go_ret
    exact ⟨rfl, Keeps.refl _ _⟩
  · clear HC
    have HE := hide (biteKid_calls HM0.out hg hi 10 (by omega))
    clear hg hi hkd hcd
    go_wp2_with fail
    refine HE.out.mono ?_
    rintro e w3 ⟨rfl, b3⟩
    have HB := hide b3
    clear b3 HE
    go_wp2_with fail
    go_ret
    exact ⟨rfl, HB.out⟩

theorem biteTree_calls {w : World} {p : Nat} {h : Nat → Value} {M : Mo} (m : HM false w p h M) {n0 : Nat} {own : Nat → Nat × Nat} {dp wd : Nat → Nat} {nm : Nat → Bool} (t : InvT M n0 own dp wd nm) (hn0 : n0 = M.N.length) (k : Nat) (hk : k < 12) :
    Calls Faag.prog 11 #[.pointer (some ⟨p, 0, none⟩), .int .i64 (k : Int)] w fun e w' => e = .returned (.bool true) ∧ Keeps (mblk p h M.N.length) w w' := by
  match k, hk with
  | 0, _ => exact biteTree0_calls m
  | 1, _ => exact biteTree1_calls m
  | 2, _ => exact biteTree2_calls m
  | 3, _ => exact biteTree3_calls m
  | 4, _ => exact biteTree4_calls m
  | 5, _ => exact biteTree5_calls m
  | 6, _ => exact biteTree6_calls m
  | 7, _ => exact biteTree7_calls m
  | 8, _ => exact biteTree8_calls m
  | 9, _ => exact biteTree9_calls m
  | 10, _ => exact biteTree10_calls m
  | 11, _ => exact biteTree11_calls m t hn0
end Go.Proofs.YgcfaaGreat
