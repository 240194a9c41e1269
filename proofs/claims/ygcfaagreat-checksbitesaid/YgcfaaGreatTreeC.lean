import Derived.Test.YgcfaaGreatTreeB
namespace Go.Proofs.YgcfaaGreat
open Go.RowKit Bits Bd
set_option linter.unusedVariables false
set_option maxRecDepth 100000
set_option linter.unusedSimpArgs false
attribute [local go_sem] World.cell?_ext World.frozen?_ext

namespace Bd
/-- The greatest element of a list of code 2 to 5. -/
def limC (c : Nat) : Nat := 2 ^ (8 * 2 ^ (c - 2)) - 1
/-- tree.shaped -/
def shapedP (M : Mo) (i : Nat) : Prop :=
  (∀ j, j < (M.nd i).kids.length → (M.nd i).kids.getD j 0 = -1 ∨ ((i : Int) < (M.nd i).kids.getD j 0 ∧ (M.nd i).kids.getD j 0 < M.N.length)) ∧
  (if (M.nd i).kind = 1 then (M.nd i).code = 0 ∧ (M.nd i).data.length ≤ 8 ∧ (M.nd i).kids.length ≤ 8
   else (M.nd i).kind = 2 ∧ (M.nd i).data.length ≤ 128 ∧ (M.nd i).kids.length ≤ 128 ∧
    (if 2 ≤ (M.nd i).code ∧ (M.nd i).code ≤ 5 then (∀ j, j < (M.nd i).data.length → (M.nd i).data.getD j 0 ≤ limC (M.nd i).code) ∧ (M.nd i).kids.length = 0
     else if (M.nd i).code = 7 then (∀ j, j < (M.nd i).kids.length → ∃ k : Nat, (M.nd i).kids.getD j 0 = (k : Int) ∧ (M.nd k).kind = 1) ∧ (M.nd i).data.length = 0
     else (M.nd i).code = 6 ∧ (M.nd i).data.length = 0))
end Bd

theorem lim_int (cd : Nat) (h : cd ≤ 3) : (18446744073709551615 : Int) / 2 ^ min (IntKind.u64.wrap (64 - IntKind.u64.wrap (8 * 2 ^ cd))).toNat 64 = ((limC (cd + 2) : Nat) : Int) := by
  match cd, h with
  | 0, _ => rfl
  | 1, _ => rfl
  | 2, _ => rfl
  | 3, _ => rfl
set_option maxHeartbeats 16000000 in
theorem shaped_calls {full : Bool} {w : World} {p : Nat} {h : Nat → Value} {M : Mo} (m : HM full w p h M) {i : Nat} (hi : i < M.N.length) :
    Calls Faag.prog 31 #[.pointer (some ⟨p, 0, none⟩), .int .i64 i] w fun e w' => RetB e (shapedP M i) ∧ w' = w := by
  obtain ⟨R, hR⟩ : ∃ R, R = shapedP M i := ⟨_, rfl⟩
  rw [← hR]
  unfold shapedP at hR
  obtain ⟨g, c, hg, _⟩ := m.node hi
  obtain ⟨da, ka, dc, kc, nd⟩ := m.ndAt hi hg
  obtain ⟨hdl, hkl⟩ := nd_dl m i
  have f0 := m.f0.1
  rw [hg] at f0
  have hnn := m.nn
  have c0 := nd.c0
  have c1 := nd.c1
  have c2 := nd.c2
  have c3 := nd.c3
  have hko := (m.ok i).kind
  have hco := (m.ok i).code
  have HKid := hide nd.kid
  have HDat := hide nd.dat
  have HNk := hide (show ∀ k, k < M.N.length → w.cell? ⟨g, k * 4, none⟩ = some (.int .u8 ((M.nd k).kind : Int)) ∧ (M.nd k).kind < 256 from fun k hk => by
    obtain ⟨da, ka, dc, kc, nd⟩ := m.ndAt hk hg
    exact ⟨nd.c0, (m.ok k).kind⟩)
  have HKr := hide (fun j => (m.ok i).kids ((M.nd i).kids.getD j 0))
  have HDr := hide (fun j => (m.ok i).data ((M.nd i).data.getD j 0))
  obtain ⟨n, hn⟩ : ∃ n, n = M.N.length := ⟨_, rfl⟩
  rw [← hn] at f0 hi HNk hR hnn
  have HMn := hide hn
  clear m hg nd hn
  obtain ⟨nn, hnn2⟩ : ∃ nn, nn = M.nd i := ⟨_, rfl⟩
  rw [← hnn2] at c0 c1 c2 c3 hko hco hdl hkl HKid HDat HKr HDr hR
  clear hnn2
  obtain ⟨kind, code, data, kids⟩ := nn
  dsimp only at c0 c1 c2 c3 hko hco hdl hkl HKid HDat HKr HDr hR
  obtain ⟨dl, hdl2⟩ : ∃ dl, dl = data.length := ⟨_, rfl⟩
  obtain ⟨kl, hkl2⟩ : ∃ kl, kl = kids.length := ⟨_, rfl⟩
  rw [← hdl2] at c2 hdl HDat hR
  rw [← hkl2] at c3 hkl HKid hR
  have HR := hide hR
  have HDl := hide hdl2
  have HKl := hide hkl2
  clear hR hdl2 hkl2
  go_enter Faag.func31, Faag.ntmps31
  go_wp2_with fail
  go_loopw [23] (fun q wr => ∃ j : Nat, j ≤ kl ∧ q = .int .i64 (j : Nat) ∧ Hid (∀ x, x < j → kids.getD x 0 = -1 ∨ ((i : Int) < kids.getD x 0 ∧ kids.getD x 0 < n)) ∧ Hid (wr = w)) (fun q _ => 65536 - (intOf q).toNat)
  case atStart => exact ⟨0, by omega, by simp, hide (fun x hx => by omega), hide rfl⟩
  case round =>
    obtain ⟨j, hj, rfl, HS, HW⟩ := hrel
    have e1 := HW.out
    subst e1
    clear HW
    by_cases hgo : j < kl
    · obtain ⟨b, e, hc⟩ := HKid.out j hgo
      subst e
      have hrng := HKr.out j (by
        rw [List.getD_eq_getElem?_getD, List.getElem?_eq_getElem (by rw [← HKl.out]; exact hgo)]
        exact List.getElem_mem _)
      obtain ⟨k, hk⟩ : ∃ k, k = kids.getD j 0 := ⟨_, rfl⟩
      rw [← hk] at hc hrng
      have hcs : (k = -1) ∨ ((k != -1) = true ∧ ¬ k = -1 ∧ (i : Int) < k ∧ k < n) ∨ ((k != -1) = true ∧ ¬ k = -1 ∧ (k ≤ (i : Int) ∨ ((i : Int) < k ∧ (n : Int) ≤ k))) := by
        by_cases h1 : k = -1
        · exact .inl h1
        · have : (k != -1) = true := by simpa using h1
          by_cases h2 : (i : Int) < k ∧ k < n
          · exact .inr (.inl ⟨this, h1, h2⟩)
          · exact .inr (.inr ⟨this, h1, by omega⟩)
      have HGo := hide (show (k = -1 ∨ ((i : Int) < k ∧ k < n)) → ∀ x, x < j + 1 → kids.getD x 0 = -1 ∨ ((i : Int) < kids.getD x 0 ∧ kids.getD x 0 < n) from fun hh x hx => by
        by_cases hxj : x = j
        · subst hxj; rw [← hk]; exact hh
        · exact HS.out x (by omega))
      have HBad := hide (show ¬ (k = -1 ∨ ((i : Int) < k ∧ k < n)) → R = False from fun hh => by
        rw [HR.out]
        refine eq_false (fun hall => hh ?_)
        have := hall.1 j hgo
        rw [← hk] at this; exact this)
      clear hk
      rcases hcs with rfl | ⟨h1, h2, h3, h4⟩ | ⟨h1, h2, h3 | ⟨h3, h4⟩⟩
      · go_wp2_with fail
        go_roundw
        case rel => exact ⟨j + 1, by omega, by go_num, hide (HGo.out (.inl rfl)), hide (by simp)⟩
        case measure => simp [intOf]; omega
      · have HG2 := hide (HGo.out (.inr ⟨h3, h4⟩))
        clear h2
        go_wp2_with fail
        go_roundw
        case rel => exact ⟨j + 1, by omega, by go_num, HG2, hide (by simp)⟩
        case measure => simp [intOf]; omega
      · have HF := hide (HBad.out (fun q => by omega))
        clear h2
        go_wp2_with fail
        go_ret
        exact ⟨RetB.of (by rw [HF.out]; simp), rfl⟩
      · have HF := hide (HBad.out (fun q => by omega))
        clear h2
        go_wp2_with fail
        go_ret
        exact ⟨RetB.of (by rw [HF.out]; simp), rfl⟩
    · have hR2 := HR.out
      rw [eq_true (show ∀ x, x < kl → kids.getD x 0 = -1 ∨ ((i : Int) < kids.getD x 0 ∧ kids.getD x 0 < n) from fun x hx => HS.out x (by omega)), true_and] at hR2
      have HKok := hide (show ∀ x, x < kl → kids.getD x 0 = -1 ∨ ((i : Int) < kids.getD x 0 ∧ kids.getD x 0 < n) from fun x hx => HS.out x (by omega))
      clear HR HS
      by_cases k1 : kind = 1
      · subst k1
        rw [if_pos rfl] at hR2
        have HR2 := hide hR2
        clear hR2
        by_cases a1 : code = 0
        · have a1' : ((code : Int) == 0) = true := by simp; omega
          by_cases a2 : dl ≤ 8
          · by_cases a3 : kl ≤ 8
            · have HF := hide (show R = True from by rw [HR2.out]; exact eq_true ⟨a1, a2, a3⟩)
              clear a1
              go_wp2_with fail
              go_ret
              exact ⟨RetB.of (by rw [HF.out]; simp; omega), rfl⟩
            · have HF := hide (show R = False from by rw [HR2.out]; exact eq_false (fun q => a3 q.2.2))
              clear a1
              go_wp2_with fail
              go_ret
              exact ⟨RetB.of (by rw [HF.out]; simp; omega), rfl⟩
          · have HF := hide (show R = False from by rw [HR2.out]; exact eq_false (fun q => a2 q.2.1))
            clear a1
            go_wp2_with fail
            go_ret
            exact ⟨RetB.of (by rw [HF.out]; simp), rfl⟩
        · have a1' : ((code : Int) == 0) = false := by simp; omega
          have HF := hide (show R = False from by rw [HR2.out]; exact eq_false (fun q => a1 q.1))
          clear a1
          go_wp2_with fail
          go_ret
          exact ⟨RetB.of (by rw [HF.out]; simp), rfl⟩
      · rw [if_neg k1] at hR2
        have g1 : ((kind : Int) == 1) = false := by simp; omega
        by_cases k2 : kind = 2
        · have g2 : ((kind : Int) != 2) = false := by simp; omega
          by_cases a2 : 128 < dl
          · have HF := hide (show R = False from by rw [hR2]; exact eq_false (fun q => by omega))
            clear k1 k2 hR2
            go_wp2_with fail
            go_ret
            exact ⟨RetB.of (by rw [HF.out]; simp), rfl⟩
          by_cases a3 : 128 < kl
          · have HF := hide (show R = False from by rw [hR2]; exact eq_false (fun q => by omega))
            clear k1 k2 hR2
            go_wp2_with fail
            go_ret
            exact ⟨RetB.of (by rw [HF.out]; simp), rfl⟩
          have a2' : dl ≤ 128 := by omega
          have a3' : kl ≤ 128 := by omega
          have hR3 : R = (if 2 ≤ code ∧ code ≤ 5 then (∀ j, j < dl → data.getD j 0 ≤ limC code) ∧ kl = 0
              else if code = 7 then (∀ j, j < kl → ∃ k : Nat, kids.getD j 0 = (k : Int) ∧ (M.nd k).kind = 1) ∧ dl = 0
              else code = 6 ∧ dl = 0) := by
            rw [hR2]
            exact propext ⟨fun q => q.2.2.2, fun q => ⟨k2, a2', a3', q⟩⟩
          clear hR2 k1 k2 a2 a3
          by_cases c25 : 2 ≤ code ∧ code ≤ 5
          · rw [if_pos c25] at hR3
            have HR3 := hide hR3
            obtain ⟨x1, x2⟩ := c25
            clear hR3
            obtain ⟨w0, hw0⟩ : ∃ w0, w0 = wr := ⟨_, rfl⟩
            obtain ⟨cd, hcd⟩ : ∃ cd, code = cd + 2 := ⟨code - 2, by omega⟩
            have hcd3 : cd ≤ 3 := by omega
            have hci : (code : Int) - 2 = (cd : Int) := by omega
            have hlim := lim_int cd hcd3
            rw [← hcd] at hlim
            obtain ⟨Lm, hLm⟩ : ∃ Lm, Lm = limC code := ⟨_, rfl⟩
            rw [← hLm] at hlim
            have HLm := hide hLm
            have HCd := hide hcd
            clear hcd hLm
            go_wp2_with fail
            go_loopw [113] (fun q wr => ∃ j : Nat, j ≤ dl ∧ q = .int .i64 (j : Nat) ∧ Hid (∀ x, x < j → data.getD x 0 ≤ limC code) ∧ Hid (wr = w0)) (fun q _ => 65536 - (intOf q).toNat)
            case atStart => exact ⟨0, by omega, by simp, hide (fun x hx => by omega), hide hw0.symm⟩
            case round =>
              obtain ⟨j, hj, rfl, HS, HW⟩ := hrel
              have e1 := HW.out
              rw [← e1] at hw0
              have e2 := hw0
              subst e2
              clear hw0 e1
              by_cases hgo : j < dl
              · obtain ⟨b, e, hc⟩ := HDat.out j hgo
                subst e
                obtain ⟨v, hv⟩ : ∃ v, v = data.getD j 0 := ⟨_, rfl⟩
                rw [← hv] at hc
                by_cases hvl : v ≤ Lm
                · have hvl' : (v : Int) ≤ (Lm : Int) := by omega
                  have HG2 := hide (show ∀ x, x < j + 1 → data.getD x 0 ≤ limC code from fun x hx => by
                    by_cases hxj : x = j
                    · subst hxj; rw [← hv, ← HLm.out]; exact hvl
                    · exact HS.out x (by omega))
                  clear hv
                  go_wp2_with fail
                  go_roundw
                  case rel => exact ⟨j + 1, by omega, by go_num, HG2, HW⟩
                  case measure => simp [intOf]; omega
                · have hvl' : (Lm : Int) < (v : Int) := by omega
                  have HF := hide (show R = False from by
                    rw [HR3.out]
                    refine eq_false (fun q => hvl ?_)
                    have := q.1 j hgo
                    rw [← hv, ← HLm.out] at this; exact this)
                  clear hv
                  go_wp2_with fail
                  go_ret
                  exact ⟨RetB.of (by rw [HF.out]; simp), rfl⟩
              · have hall : ∀ x, x < dl → data.getD x 0 ≤ limC code := fun x hx => HS.out x (by omega)
                by_cases kz : kl = 0
                · have kz' : ((kl : Int) == 0) = true := by simp; omega
                  have HF := hide (show R = True from by rw [HR3.out]; exact eq_true ⟨hall, kz⟩)
                  clear kz hall
                  go_wp2_with fail
                  go_ret
                  exact ⟨RetB.of (by rw [HF.out]; simp), rfl⟩
                · have kz' : ((kl : Int) == 0) = false := by simp; omega
                  have HF := hide (show R = False from by rw [HR3.out]; exact eq_false (fun q => kz q.2))
                  clear kz hall
                  go_wp2_with fail
                  go_ret
                  exact ⟨RetB.of (by rw [HF.out]; simp), rfl⟩
          · rw [if_neg c25] at hR3
            by_cases c7 : code = 7
            · rw [if_pos c7] at hR3
              have HR3 := hide hR3
              clear hR3 c25
              have g7 : ((code : Int) == 7) = true := by simp; omega
              have g6 : ((code : Int) == 6) = false := by simp; omega
              have x1 : 2 ≤ code := by omega
              have x2 : ¬ code ≤ 5 := by omega
              clear c7
              obtain ⟨w0, hw0⟩ : ∃ w0, w0 = wr := ⟨_, rfl⟩
              go_wp2_with fail
              go_loopw [145] (fun q wr => ∃ j : Nat, j ≤ kl ∧ q = .int .i64 (j : Nat) ∧ Hid (∀ x, x < j → ∃ k : Nat, kids.getD x 0 = (k : Int) ∧ (M.nd k).kind = 1) ∧ Hid (wr = w0)) (fun q _ => 65536 - (intOf q).toNat)
              case atStart => exact ⟨0, by omega, by simp, hide (fun x hx => by omega), hide hw0.symm⟩
              case round =>
                obtain ⟨j, hj, rfl, HS, HW⟩ := hrel
                have e1 := HW.out
                rw [← e1] at hw0
                have e2 := hw0
                subst e2
                clear hw0 e1
                by_cases hgo : j < kl
                · obtain ⟨b, e, hc⟩ := HKid.out j hgo
                  subst e
                  rcases HKok.out j hgo with hm1 | ⟨hm1, hm2⟩
                  · rw [hm1] at hc
                    have HF := hide (show R = False from by
                      rw [HR3.out]
                      refine eq_false (fun q => ?_)
                      obtain ⟨k, e, _⟩ := q.1 j hgo
                      rw [hm1] at e; omega)
                    clear hm1
                    go_wp2_with fail
                    go_ret
                    exact ⟨RetB.of (by rw [HF.out]; simp), rfl⟩
                  · obtain ⟨k, hk⟩ : ∃ k : Nat, kids.getD j 0 = (k : Int) := ⟨(kids.getD j 0).toNat, by omega⟩
                    rw [hk] at hc hm1 hm2
                    have hkn : k < n := by omega
                    obtain ⟨nc, ncl⟩ := HNk.out k hkn
                    have km1 : ((k : Int) == -1) = false := by rw [beq_eq_false_iff_ne]; omega
                    by_cases kk : (M.nd k).kind = 1
                    · rw [kk] at nc
                      have HG2 := hide (show ∀ x, x < j + 1 → ∃ k : Nat, kids.getD x 0 = (k : Int) ∧ (M.nd k).kind = 1 from fun x hx => by
                        by_cases hxj : x = j
                        · subst hxj; exact ⟨k, hk, kk⟩
                        · exact HS.out x (by omega))
                      clear hk kk ncl
                      go_wp2_with fail
                      go_roundw
                      case rel => exact ⟨j + 1, by omega, by go_num, HG2, HW⟩
                      case measure => simp [intOf]; omega
                    · obtain ⟨kq, hkq⟩ : ∃ kq, kq = (M.nd k).kind := ⟨_, rfl⟩
                      rw [← hkq] at nc ncl kk
                      have kk' : ((kq : Int) != 1) = true := by simp; omega
                      have HF := hide (show R = False from by
                        rw [HR3.out]
                        refine eq_false (fun q => kk ?_)
                        obtain ⟨k2, e, e2⟩ := q.1 j hgo
                        rw [hk] at e
                        have : k = k2 := by omega
                        rw [hkq, this]; exact e2)
                      clear hk kk hkq
                      go_wp2_with fail
                      go_ret
                      exact ⟨RetB.of (by rw [HF.out]; simp), rfl⟩
                · have hall : ∀ x, x < kl → ∃ k : Nat, kids.getD x 0 = (k : Int) ∧ (M.nd k).kind = 1 := fun x hx => HS.out x (by omega)
                  by_cases d0 : dl = 0
                  · have d0' : ((dl : Int) == 0) = true := by simp; omega
                    have HF := hide (show R = True from by rw [HR3.out]; exact eq_true ⟨hall, d0⟩)
                    clear d0 hall
                    go_wp2_with fail
                    go_ret
                    exact ⟨RetB.of (by rw [HF.out]; simp), rfl⟩
                  · have d0' : ((dl : Int) == 0) = false := by simp; omega
                    have HF := hide (show R = False from by rw [HR3.out]; exact eq_false (fun q => d0 q.2))
                    clear d0 hall
                    go_wp2_with fail
                    go_ret
                    exact ⟨RetB.of (by rw [HF.out]; simp), rfl⟩
            · rw [if_neg c7] at hR3
              have HR3 := hide hR3
              clear hR3
              have g7 : ((code : Int) == 7) = false := by simp; omega
              have hcs : (2 ≤ code ∧ ¬ code ≤ 5) ∨ ¬ 2 ≤ code := by omega
              by_cases c6 : code = 6
              · have g6 : ((code : Int) == 6) = true := by simp; omega
                by_cases d0 : dl = 0
                · have d0' : ((dl : Int) == 0) = true := by simp; omega
                  have HF := hide (show R = True from by rw [HR3.out]; exact eq_true ⟨c6, d0⟩)
                  have x1 : 2 ≤ code := by omega
                  have x2 : ¬ code ≤ 5 := by omega
                  clear c6 c7 c25 d0 hcs
                  go_wp2_with fail
                  go_ret
                  exact ⟨RetB.of (by rw [HF.out]; simp), rfl⟩
                · have d0' : ((dl : Int) == 0) = false := by simp; omega
                  have HF := hide (show R = False from by rw [HR3.out]; exact eq_false (fun q => d0 q.2))
                  have x1 : 2 ≤ code := by omega
                  have x2 : ¬ code ≤ 5 := by omega
                  clear c6 c7 c25 d0 hcs
                  go_wp2_with fail
                  go_ret
                  exact ⟨RetB.of (by rw [HF.out]; simp), rfl⟩
              · have g6 : ((code : Int) == 6) = false := by simp; omega
                have HF := hide (show R = False from by rw [HR3.out]; exact eq_false (fun q => c6 q.1))
                clear c6 c7 c25
                rcases hcs with ⟨x1, x2⟩ | x1
                all_goals
                  go_wp2_with fail
                  go_ret
                  exact ⟨RetB.of (by rw [HF.out]; simp), rfl⟩
        · have g2 : ((kind : Int) != 2) = true := by simp; omega
          have HF := hide (show R = False from by rw [hR2]; exact eq_false (fun q => k2 q.1))
          clear k1 k2 hR2
          go_wp2_with fail
          go_ret
          exact ⟨RetB.of (by rw [HF.out]; simp), rfl⟩
end Go.Proofs.YgcfaaGreat
