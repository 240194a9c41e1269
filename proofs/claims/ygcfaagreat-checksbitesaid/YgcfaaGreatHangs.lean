import Derived.Test.YgcfaaGreatMarkS
namespace Go.Proofs.YgcfaaGreat
open Go.RowKit Bits Bd
set_option linter.unusedVariables false
set_option maxRecDepth 100000
set_option linter.unusedSimpArgs false
attribute [local go_sem] World.cell?_ext World.frozen?_ext
attribute [local go_sem] equalIn_obj eqObj_ptr

namespace Bd
/-- What a pointer word resolves to is the object: of one without words the place does not count. -/
def sameObj (want got : Ptr) : Prop := (if words want = 0 then { got with at_ := want.at_ } else got) = want
def sameD (want got : Ptr) : Decidable (sameObj want got) := ptrD _ _
/-- Builder.hangs, of one handle. -/
def hang1 (B : Bld) (s : List Nat) (h : Nat) : Option (List Nat) :=
  match slotB B (B.up.getD h 0) (B.via.getD h 0) with
  | none => none
  | some a =>
    if B.dead.getD (B.up.getD h 0) false = true ∨ tb s a = true then none
    else match resolveN B.A a with
      | none => none
      | some got => haveI := sameD (B.o h) got; if sameObj (B.o h) got then some (putS s a) else none
def hangGo (B : Bld) (e : List Nat) : Nat → Nat → List Nat → Option (List Nat)
  | 0, _, s => some s
  | k + 1, h, s =>
    if tb e h = true ∨ B.dead.getD h false = true then hangGo B e k (h + 1) s
    else match hang1 B s h with
      | none => none
      | some s' => hangGo B e k (h + 1) s'
end Bd

theorem hangGo_none {B : Bld} {e : List Nat} {s : List Nat} {k h : Nat} (h1 : ¬ (tb e h = true ∨ B.dead.getD h false = true)) (h2 : hang1 B s h = none) : hangGo B e (k + 1) h s = none := by
  rw [hangGo, if_neg h1, h2]
theorem hangGo_some {B : Bld} {e : List Nat} {s s' : List Nat} {k h : Nat} (h1 : ¬ (tb e h = true ∨ B.dead.getD h false = true)) (h2 : hang1 B s h = some s') : hangGo B e (k + 1) h s = hangGo B e k (h + 1) s' := by
  rw [hangGo, if_neg h1, h2]
theorem hangGo_skip {B : Bld} {e : List Nat} {s : List Nat} {k h : Nat} (h1 : tb e h = true ∨ B.dead.getD h false = true) : hangGo B e (k + 1) h s = hangGo B e k (h + 1) s := by
  rw [hangGo, if_pos h1]

theorem slotB_lt {B : Bld} {h i a : Nat} (ha : slotB B h i = some a) : a < B.A.length := by
  unfold slotB at ha
  split at ha
  · cases ha
  · split at ha
    · rename_i h1; cases ha; exact h1
    · cases ha
/-- hangs hands back true and the set, or false. -/
def HungOut (w : World) (bh : Nat) (o : Option (List Nat)) (e : Ending) (w' : World) : Prop :=
  (match o with | some s' => e = .returned (.bool true) ∧ SetAt w' bh s' | none => e = .returned (.bool false)) ∧ Keeps (fun k => k = bh) w w'

set_option maxHeartbeats 16000000 in
theorem hangs_calls {w : World} {p : Nat} {hh : Nat → Value} {B : Bld} (hb : HB w p hh B) (hev : evenP B) (hup : ∀ h, 1 ≤ h → h < B.obj.length → B.up.getD h 0 < h) (hat : ∀ x, x < B.obj.length → (B.o x).at_ ≤ 60000)
    (be bh : Nat) (e s0 : List Nat) (he : SetAt w be e) (hs0 : SetAt w bh s0) (hne : be ≠ bh) (hnb : ¬ blk p hh bh) :
    Calls Faag.prog 21 #[.pointer (some ⟨p, 0, none⟩), .pointer (some ⟨be, 0, none⟩), .pointer (some ⟨bh, 0, none⟩)] w (HungOut w bh (hangGo B e (B.obj.length - 1) 1 s0)) := by
  have HEV := hide hev
  obtain ⟨⟨a1, a2⟩, ⟨a3, a4⟩, a5, a6, a7, a8⟩ := hev
  obtain ⟨R, hR⟩ : ∃ R, R = hangGo B e (B.obj.length - 1) 1 s0 := ⟨_, rfl⟩
  rw [← hR]
  have HR := hide hR
  clear hR
  have HS := hide (And.intro hb (And.intro he hs0))
  have HN := hide (And.intro hne hnb)
  have HU := hide (And.intro hup hat)
  have HL := hide (And.intro a5 (And.intro a6 (And.intro a7 a8)))
  have HOK := hide hb.ok
  clear hb he hs0 hup hat a5 a6 a7 a8 hnb hne
  generalize hno : B.obj.length = no at *
  have HNO := hide hno
  clear hno
  go_enter Faag.func21, Faag.ntmps21
  go_wp2_with fail
  go_loopw [7] (fun q wr => ∃ k : Nat, 1 ≤ k ∧ k ≤ no ∧ q = .int .i64 k ∧ Hid (HB wr p hh B ∧ SetAt wr be e ∧ Keeps (fun k => k = bh) w wr ∧ ∃ s, SetAt wr bh s ∧ R = hangGo B e (no - k) k s)) (fun q _ => no - (intOf q).toNat)
  case atStart => exact ⟨1, by omega, by omega, rfl, hide ⟨HS.out.1, HS.out.2.1, Keeps.refl _ _, s0, HS.out.2.2, HR.out⟩⟩
  case round =>
    obtain ⟨k, hk1, hk, rfl, H⟩ := hrel
    obtain ⟨hbr, her, hkr, s, hsr, hRr⟩ := H.out
    obtain ⟨a, c, see⟩ := hbr.see HEV.out
    have f1 := see.f1
    rw [HNO.out] at f1
    by_cases hlt : k < no
    · have hkm : no - k = (no - k - 1) + 1 := by omega
      rw [hkm] at hRr
      have HRr := hide hRr
      have hhas := hide (has_calls be k e (by omega) wr her)
      obtain ⟨tk, htk⟩ : ∃ t, t = tb e k := ⟨_, rfl⟩
      rw [← htk] at hhas
      have HTK := hide htk
      obtain ⟨l5, l6, l7, l8⟩ := HL.out
      have f2 := see.f2
      have f3 := see.f3
      have f5 := see.f5
      rw [l5] at f2
      rw [l6] at f3
      rw [l8] at f5
      have z1 := see.deads k (by omega)
      have hZ := hide (show B.dead.getD k false = B.dead.getD k false from rfl)
      obtain ⟨dk, hdk⟩ : ∃ d, d = B.dead.getD k false := ⟨_, rfl⟩
      rw [← hdk] at z1
      have HDK := hide hdk
      have HH := hide (And.intro hbr (And.intro her (And.intro hkr hsr)))
      have u1 := see.ups k (by omega)
      have v1 := see.vias k (by omega)
      have u2 := HU.out.1 k hk1 hlt
      obtain ⟨u, hu⟩ : ∃ u, u = B.up.getD k 0 := ⟨_, rfl⟩
      obtain ⟨v, hv⟩ : ∃ v, v = B.via.getD k 0 := ⟨_, rfl⟩
      rw [← hu] at u1 u2
      rw [← hv] at v1
      have vl : v < 256 := by rw [hv]; exact HOK.out.via k
      have HUV := hide (And.intro hu hv)
      have hslot := hide (slot_calls u v (by omega) vl hbr (by rw [HNO.out]; omega) (by omega) (HU.out.2 u (by omega)))
      have HSEE := hide see
      clear htk hdk hu hv hbr her hkr hsr hRr l5 l6 l7 l8 hZ H see
      cases tk with
      | true =>
        go_wp2_with fail
        refine (hhas.out).mono ?_
        rintro r w' ⟨rfl, rfl⟩
        go_wp2_with fail
        go_roundw
        case rel => exact ⟨k + 1, by omega, by omega, by go_num, hide ⟨HH.out.1, HH.out.2.1, HH.out.2.2.1, s, HH.out.2.2.2, by rw [HRr.out, hangGo_skip (.inl HTK.out.symm), Nat.sub_sub]⟩⟩
        case measure => simp [intOf]; omega
      | false =>
        cases dk with
        | true =>
          go_wp2_with fail
          refine (hhas.out).mono ?_
          rintro r w' ⟨rfl, rfl⟩
          go_wp2_with fail
          go_roundw
          case rel => exact ⟨k + 1, by omega, by omega, by go_num, hide ⟨HH.out.1, HH.out.2.1, HH.out.2.2.1, s, HH.out.2.2.2, by rw [HRr.out, hangGo_skip (.inr HDK.out.symm), Nat.sub_sub]⟩⟩
          case measure => simp [intOf]; omega
        | false =>
          have HGO := hide (show ¬ (tb e k = true ∨ B.dead.getD k false = true) from by rw [← HTK.out, ← HDK.out]; simp)
          clear HTK HDK
          go_wp2_with fail
          refine (hhas.out).mono ?_
          rintro r w' ⟨rfl, rfl⟩
          go_wp2_with fail
          refine (hslot.out).mono ?_
          rintro r w1 ⟨⟨A, r', rfl, hr, hal⟩, hb1⟩
          have K1 := hide (Keeps.of_below hb1)
          have SE1 := hide (HSEE.out.below hb1)
          have HB1 := hide (HH.out.1.below hb1)
          have ST1 := hide (HH.out.2.2.2.below hb1)
          have SE1e := hide (HH.out.2.1.below hb1)
          have KW1 := hide (show Keeps (fun k => k = bh) w w1 from HH.out.2.2.1.trans ((Keeps.of_below hb1).mono (fun j hj hx => by omega)))
          clear hb1 hhas hslot f1 f2 f3 f5 z1 u1 v1
          have f5 := SE1.out.f5
          rw [HL.out.2.2.2] at f5
          have z1 := SE1.out.deads u (by have := HL.out.2.2.2; omega)
          obtain ⟨du, hdu⟩ : ∃ d, d = B.dead.getD u false := ⟨_, rfl⟩
          rw [← hdu] at z1
          have HDU := hide hdu
          clear hdu
          have hH1 : hang1 B s k = match slotB B u v with
              | none => none
              | some a =>
                if B.dead.getD u false = true ∨ tb s a = true then none
                else match resolveN B.A a with
                  | none => none
                  | some got => haveI := sameD (B.o k) got; if sameObj (B.o k) got then some (putS s a) else none := by
            unfold hang1; rw [← HUV.out.1, ← HUV.out.2]
          rw [← HDU.out] at hH1
          rcases hr with ⟨rfl, hr⟩ | ⟨rfl, hr⟩
          · rw [hr] at hH1
            have hAl : A < B.A.length := slotB_lt hr
            have HH1 := hide hH1
            clear hH1
            cases du with
            | true =>
              have HNONE := hide (show R = none from by rw [HRr.out]; exact hangGo_none HGO.out (by rw [HH1.out]; simp))
              have KW := KW1
              go_wp2_with fail
              go_ret
              exact ⟨by rw [HNONE.out]; rfl, KW.out⟩
            | false =>
              have hhas2 := hide (has_calls bh A s (by omega) w1 ST1.out)
              obtain ⟨ta, hta⟩ : ∃ t, t = tb s A := ⟨_, rfl⟩
              rw [← hta] at hhas2
              have HTA := hide hta
              clear hta
              cases ta with
              | true =>
                have HNONE := hide (show R = none from by rw [HRr.out]; exact hangGo_none HGO.out (by rw [HH1.out]; simp [← HTA.out]))
                have KW := KW1
                go_wp2_with fail
                refine (hhas2.out).mono ?_
                rintro r w1' ⟨rfl, e1'⟩
                rw [e1']
                clear e1'
                go_wp2_with fail
                go_ret
                exact ⟨by rw [HNONE.out]; rfl, KW.out⟩
              | false =>
                have hput := hide (putS_calls bh A s (by omega) w1 ST1.out)
                have HH2 := hide (show hang1 B s k = match resolveN B.A A with
                  | none => none
                  | some got => haveI := sameD (B.o k) got; if sameObj (B.o k) got then some (putS s A) else none from by rw [HH1.out]; simp [← HTA.out])
                clear HH1 HTA
                go_wp2_with fail
                refine (hhas2.out).mono ?_
                rintro r w1' ⟨rfl, e1'⟩
                rw [e1']
                clear e1'
                go_wp2_with fail
                refine (hput.out).mono ?_
                rintro r w2 ⟨rfl, nq, hw2⟩
                have hK2 : Keeps (fun k => k = bh) w1 w2 := by
                  rw [hw2]
                  exact ((Keeps.refl (fun k => k = bh) w1).drewN nq).setCell (p := ⟨bh, A / 64, none⟩) (fun _ => rfl) _
                have ST2 := hide (show SetAt w2 bh (putS s A) from by
                  rw [hw2]
                  exact putS_at (w := w1.drewN nq) ⟨ST1.out.row.drewN nq, ST1.out.four, ST1.out.lt⟩ (by omega))
                have HB2 := hide (HB1.out.keeps hK2 (fun j hj e => HN.out.2 (e ▸ hj)))
                have SE2e := hide (SE1e.out.keeps hK2 HN.out.1)
                have KW2 := hide (KW1.out.trans hK2)
                clear hw2 hK2 hhas2 hput SE1 HB1 ST1 SE1e KW1 f5 z1 HSEE HH
                obtain ⟨a', c', see2⟩ := HB2.out.see HEV.out
                have f0 := see2.f0
                have hres := hide (resolve_calls (a' 0) B.A (c' 0) A a2 (by omega) w2 ⟨see2.words, HOK.out.A⟩)
                have SEE2 := hide see2
                clear see2
                go_wp2_with fail
                refine (hres.out).mono ?_
                rintro r w3 ⟨⟨G, r', hGok, rfl, hr2⟩, hb3⟩
                have f1 := (SEE2.out.below hb3).f1
                rw [HNO.out] at f1
                have bo := (SEE2.out.below hb3).objs k (by rw [HNO.out]; omega)
                have KW := hide (show Keeps (fun k => k = bh) w w3 from KW2.out.trans ((Keeps.of_below hb3).mono (fun j hj hx => by omega)))
                have HB3 := hide (HB2.out.below hb3)
                have ST3 := hide (ST2.out.below hb3)
                have SE3e := hide (SE2e.out.below hb3)
                have hwd := hide (words_calls (B.o k) (HOK.out.obj k))
                have hsm := hide (show sameObj (B.o k) G = ((if words (B.o k) = 0 then { G with at_ := (B.o k).at_ } else G) = B.o k) from rfl)
                have lo := HOK.out.obj k
                change (B.o k).Ok at lo
                clear hb3 hres f0 SEE2 HB2 ST2 SE2e KW2
                generalize words (B.o k) = wd at *
                have HP := hide (show B.o k = B.o k from rfl)
                generalize B.o k = P at *
                obtain ⟨k1, k2, k3, k4, k5, k6⟩ := P
                obtain ⟨j1, j2, j3, j4, j5, j6⟩ := G
                have d0 := bo 0 _ rfl
                have d1 := bo 1 _ rfl
                have d2 := bo 2 _ rfl
                have d3 := bo 3 _ rfl
                have d4 := bo 4 _ rfl
                have d5 := bo 5 _ rfl
                dsimp only at d0 d1 d2 d3 d4 d5 hsm
                simp only [Nat.add_zero] at d0
                unfold ptrC at hwd ⊢
                dsimp only at hwd ⊢
                obtain ⟨l1, l2, l3, l4, l5, l6⟩ := lo
                obtain ⟨m1, m2, m3, m4, m5, m6⟩ := hGok
                dsimp only at l1 l2 l3 l4 l5 l6 m1 m2 m3 m4 m5 m6
                have hp : p < w3.heap.size := lt_of_cell f1
                have hg1 : a' 1 < w3.heap.size := lt_of_cell d0
                clear bo
                have z1 : w3.heap.size < w3.heap.size + 1 := by omega
                by_cases hw0 : wd = 0
                · subst hw0
                  obtain ⟨D, hD⟩ : ∃ D, ptrEq j1 k2 j3 j4 j5 j6 k1 k2 k3 k4 k5 k6 = D := ⟨_, rfl⟩
                  have HD := hide (show D = true ↔ sameObj ⟨k1, k2, k3, k4, k5, k6⟩ ⟨j1, j2, j3, j4, j5, j6⟩ from by
                    rw [← hD, hsm.out]; unfold ptrEq; rw [decide_eq_true_eq, if_pos rfl, Ptr.mk.injEq]; omega)
                  rcases hr2 with ⟨rfl, hr2⟩ | ⟨rfl, hr2, _⟩
                  · cases D with
                    | false =>
                      have HNONE := hide (show R = none from by rw [HRr.out]; exact hangGo_none HGO.out (by rw [HH2.out, hr2]; dsimp only; rw [if_neg (fun h => by have := HD.out.2 h; cases this)]))
                      clear HD hr2 hsm HH2
                      go_wp2_with fail
                      refine (hwd.out _).mono ?_
                      rintro r w4 ⟨rfl, hb4⟩
                      obtain ⟨x4, rfl⟩ := World.ext_of_below hb4
                      clear hb4 hwd
                      go_wp2_with fail
                      go_ret
                      exact ⟨by rw [HNONE.out]; rfl, KW.out.trans ((Keeps.of_below (((((Below.refl w3.heap.size w3).alloc (Nat.le_refl _) _).alloc (by rw [World.size_alloc]; omega) _).step (World.below_ext _ _)).setCell (p := ⟨w3.heap.size, 1, none⟩) (Nat.le_refl _) _)).mono (fun j hj hx => by omega))⟩
                    | true =>
                      have HYES := hide (show R = hangGo B e (no - (k + 1)) (k + 1) (putS s A) from by rw [HRr.out, hangGo_some HGO.out (s' := putS s A) (by rw [HH2.out, hr2]; dsimp only; rw [if_pos (HD.out.1 rfl)]), Nat.sub_sub])
                      clear HD hr2 hsm HH2
                      go_wp2_with fail
                      refine (hwd.out _).mono ?_
                      rintro r w4 ⟨rfl, hb4⟩
                      obtain ⟨x4, rfl⟩ := World.ext_of_below hb4
                      clear hb4 hwd
                      go_wp2_with fail
                      go_roundw
                      case rel => exact ⟨k + 1, by omega, by omega, by go_num, hide ⟨HB3.out.below (((((Below.refl w3.heap.size w3).alloc (Nat.le_refl _) _).alloc (by rw [World.size_alloc]; omega) _).step (World.below_ext _ _)).setCell (p := ⟨w3.heap.size, 1, none⟩) (Nat.le_refl _) _), SE3e.out.below (((((Below.refl w3.heap.size w3).alloc (Nat.le_refl _) _).alloc (by rw [World.size_alloc]; omega) _).step (World.below_ext _ _)).setCell (p := ⟨w3.heap.size, 1, none⟩) (Nat.le_refl _) _), KW.out.trans ((Keeps.of_below (((((Below.refl w3.heap.size w3).alloc (Nat.le_refl _) _).alloc (by rw [World.size_alloc]; omega) _).step (World.below_ext _ _)).setCell (p := ⟨w3.heap.size, 1, none⟩) (Nat.le_refl _) _)).mono (fun j hj hx => by omega)), _, ST3.out.below (((((Below.refl w3.heap.size w3).alloc (Nat.le_refl _) _).alloc (by rw [World.size_alloc]; omega) _).step (World.below_ext _ _)).setCell (p := ⟨w3.heap.size, 1, none⟩) (Nat.le_refl _) _), HYES.out⟩⟩
                      case measure => simp [intOf]; omega
                  · have HNONE := hide (show R = none from by rw [HRr.out]; exact hangGo_none HGO.out (by rw [HH2.out, hr2]))
                    clear HD hr2 hsm HH2
                    go_wp2_with fail
                    refine (hwd.out _).mono ?_
                    rintro r w4 ⟨rfl, hb4⟩
                    obtain ⟨x4, rfl⟩ := World.ext_of_below hb4
                    clear hb4 hwd
                    go_wp2_with fail
                    go_ret
                    exact ⟨by rw [HNONE.out]; rfl, KW.out.trans ((Keeps.of_below (((((Below.refl w3.heap.size w3).alloc (Nat.le_refl _) _).alloc (by rw [World.size_alloc]; omega) _).step (World.below_ext _ _)).setCell (p := ⟨w3.heap.size, 1, none⟩) (Nat.le_refl _) _)).mono (fun j hj hx => by omega))⟩
                · have g0 : ((wd : Int) == 0) = false := by simp; omega
                  obtain ⟨D, hD⟩ : ∃ D, ptrEq j1 j2 j3 j4 j5 j6 k1 k2 k3 k4 k5 k6 = D := ⟨_, rfl⟩
                  have HD := hide (show D = true ↔ sameObj ⟨k1, k2, k3, k4, k5, k6⟩ ⟨j1, j2, j3, j4, j5, j6⟩ from by
                    rw [← hD, hsm.out]; unfold ptrEq; rw [decide_eq_true_eq, if_neg hw0, Ptr.mk.injEq]; omega)
                  rcases hr2 with ⟨rfl, hr2⟩ | ⟨rfl, hr2, _⟩
                  · cases D with
                    | false =>
                      have HNONE := hide (show R = none from by rw [HRr.out]; exact hangGo_none HGO.out (by rw [HH2.out, hr2]; dsimp only; rw [if_neg (fun h => by have := HD.out.2 h; cases this)]))
                      clear HD hr2 hsm HH2
                      go_wp2_with fail
                      refine (hwd.out _).mono ?_
                      rintro r w4 ⟨rfl, hb4⟩
                      obtain ⟨x4, rfl⟩ := World.ext_of_below hb4
                      clear hb4 hwd
                      go_wp2_with fail
                      go_ret
                      exact ⟨by rw [HNONE.out]; rfl, KW.out.trans ((Keeps.of_below ((((Below.refl w3.heap.size w3).alloc (Nat.le_refl _) _).alloc (by rw [World.size_alloc]; omega) _).step (World.below_ext _ _))).mono (fun j hj hx => by omega))⟩
                    | true =>
                      have HYES := hide (show R = hangGo B e (no - (k + 1)) (k + 1) (putS s A) from by rw [HRr.out, hangGo_some HGO.out (s' := putS s A) (by rw [HH2.out, hr2]; dsimp only; rw [if_pos (HD.out.1 rfl)]), Nat.sub_sub])
                      clear HD hr2 hsm HH2
                      go_wp2_with fail
                      refine (hwd.out _).mono ?_
                      rintro r w4 ⟨rfl, hb4⟩
                      obtain ⟨x4, rfl⟩ := World.ext_of_below hb4
                      clear hb4 hwd
                      go_wp2_with fail
                      go_roundw
                      case rel => exact ⟨k + 1, by omega, by omega, by go_num, hide ⟨HB3.out.below ((((Below.refl w3.heap.size w3).alloc (Nat.le_refl _) _).alloc (by rw [World.size_alloc]; omega) _).step (World.below_ext _ _)), SE3e.out.below ((((Below.refl w3.heap.size w3).alloc (Nat.le_refl _) _).alloc (by rw [World.size_alloc]; omega) _).step (World.below_ext _ _)), KW.out.trans ((Keeps.of_below ((((Below.refl w3.heap.size w3).alloc (Nat.le_refl _) _).alloc (by rw [World.size_alloc]; omega) _).step (World.below_ext _ _))).mono (fun j hj hx => by omega)), _, ST3.out.below ((((Below.refl w3.heap.size w3).alloc (Nat.le_refl _) _).alloc (by rw [World.size_alloc]; omega) _).step (World.below_ext _ _)), HYES.out⟩⟩
                      case measure => simp [intOf]; omega
                  · have HNONE := hide (show R = none from by rw [HRr.out]; exact hangGo_none HGO.out (by rw [HH2.out, hr2]))
                    clear HD hr2 hsm HH2
                    go_wp2_with fail
                    refine (hwd.out _).mono ?_
                    rintro r w4 ⟨rfl, hb4⟩
                    obtain ⟨x4, rfl⟩ := World.ext_of_below hb4
                    clear hb4 hwd
                    go_wp2_with fail
                    go_ret
                    exact ⟨by rw [HNONE.out]; rfl, KW.out.trans ((Keeps.of_below ((((Below.refl w3.heap.size w3).alloc (Nat.le_refl _) _).alloc (by rw [World.size_alloc]; omega) _).step (World.below_ext _ _))).mono (fun j hj hx => by omega))⟩
          · rw [hr] at hH1
            have HNONE := hide (show R = none from by rw [HRr.out]; exact hangGo_none HGO.out hH1)
            have KW := KW1
            clear hH1
            go_wp2_with fail
            go_ret
            exact ⟨by rw [HNONE.out]; rfl, KW.out⟩
    · go_wp2_with fail
      go_ret
      have : no - k = 0 := by omega
      rw [this] at hRr
      unfold HungOut
      rw [hRr]
      exact ⟨⟨rfl, hsr⟩, hkr⟩
end Go.Proofs.YgcfaaGreat
