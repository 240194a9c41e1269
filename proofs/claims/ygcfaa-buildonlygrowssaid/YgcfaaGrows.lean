import Derived.Test.YgcfaaLaw
import Derived.Test.YgcfaaSame
import Derived.Test.YgcfaaMay
namespace Go.Proofs.Ygcfaa
open Go.RowKit Bits Bd Utf
set_option linter.unusedVariables false
set_option maxRecDepth 100000
set_option linter.unusedSimpArgs false
attribute [local go_sem] World.cell?_ext World.frozen?_ext

/-- What a round begins with. -/
def Turn (W : World) (p : Nat) (wr : World) : Prop := ∃ h B, HB wr p h B ∧ Good B ∧ Below W.heap.size W wr ∧ ∀ k, blk p h k → W.heap.size ≤ k

/-- What Do left. -/
structure Took (W : World) (p q : Nat) (o : Nat) (op : Opn) (B B' : Bld) (w3 : World) : Prop where
  mine : ∃ h, HB w3 p h B' ∧ Below W.heap.size W w3 ∧ ∀ k, blk p h k → W.heap.size ≤ k
  was : ∃ h, HB w3 q h B
  box : RowAt w3 o 0 (opC op)
  good : Good B
  good' : Good B'
  opok : op.Ok
  took : ∃ c1 c2, doB B op c1 c2 = some B'

theorem may_calls {q : Ptr} {op : Opn} {a m : Nat} (hq : q.Ok) (hop : op.Ok) (h : MayIs q op a m) (w : World) :
    Calls Faag.prog 38 #[.agg (ptrC q).toArray, .agg (opC op).toArray] w fun e w' => e = .returned (.tuple #[.int .i64 (a : Int), .int .u64 (m : Int)]) ∧ Below w.heap.size w w' := by
  by_cases h3 : op.kind = 3
  · obtain ⟨h1, rfl, rfl⟩ := h.data h3
    exact mayData_calls q hq op hop h3 h1 w
  · by_cases h4 : op.kind = 4
    · obtain ⟨h1, rfl, rfl⟩ := h.elem h4
      exact mayElem_calls q hq op hop h4 h1 w
    · obtain ⟨h1, rfl, rfl⟩ := h.slot h3 h4
      exact maySlot_calls q hq op hop h3 h4 h1 w

/-- .. for the walk: words of both builders, the object, the box. -/
theorem Took.facts {W : World} {p q o : Nat} {op : Opn} {B B' : Bld} {w3 : World} (t : Took W p q o op B B' w3) :
    ∃ ap cp aq cq, See w3 p B' ap cp ∧ See w3 q B aq cq ∧ (∀ j u, (opC op)[j]? = some u → w3.cell? ⟨o, j, none⟩ = some u) ∧ B.A.length ≤ B'.A.length ∧ B'.A.length ≤ 256 ∧ B.obj.length ≤ 256 ∧ (∀ w4, Below w3.heap.size w3 w4 → Turn W p w4) ∧
      (op.kind ≠ 5 → ∃ (a m : Nat), a < 200000 ∧ m < 18446744073709551616 ∧ op.h < B.obj.length ∧ (∀ w, Calls Faag.prog 38 #[.agg (ptrC (B.o op.h)).toArray, .agg (opC op).toArray] w fun e w' => e = .returned (.tuple #[.int .i64 (a : Int), .int .u64 (m : Int)]) ∧ Below w.heap.size w w') ∧
        ∀ j, j < B.A.length → (j ≠ a → B'.A.getD j 0 = B.A.getD j 0) ∧ (j = a → InMask (B.A.getD j 0) (B'.A.getD j 0) m) ∧ B.A.getD j 0 < 18446744073709551616 ∧ B'.A.getD j 0 < 18446744073709551616) := by
  obtain ⟨⟨h, hb, bl, fr⟩, ⟨h', hq⟩, box, hG, hG', hop, c1, c2, hdo⟩ := t
  obtain ⟨ap, cp, sp⟩ := hb.see hG'.even
  obtain ⟨aq, cq, sq⟩ := hq.see hG.even
  refine ⟨ap, cp, aq, cq, sp, sq, fun j u hu => by simpa using box.at_ hu, doB_len hop hq.ok hG hdo, hG'.even.1.2, hG.even.2.1.2, fun w4 bl4 => ⟨h, B', hb.below bl4, hG', bl.trans (bl4.mono bl.size), fr⟩, fun h5 => ?_⟩
  obtain ⟨a, m, hm, g, im, hlt⟩ := grows hop hq.ok hG h5 hdo
  have hok := hq.ok.obj op.h
  change (B.o op.h).Ok at hok
  have hat := hG.at_ op.h
  refine ⟨a, m, ?_, ?_, hlt, fun w => may_calls hok hop hm w, fun j hj => ⟨fun hne => g.words j hj hne, fun e => by rw [e]; exact im, hq.ok.A j, hb.ok.A j⟩⟩
  · obtain ⟨q1, q2, q3, q4, q5, q6⟩ := hok
    have := hop.i
    have hn := hop.n
    by_cases h3 : op.kind = 3
    · obtain ⟨h1, rfl, _⟩ := hm.data h3
      rcases h1 with e | e | e | e | e <;> rw [e] <;> omega
    · by_cases h4 : op.kind = 4
      · obtain ⟨h1, rfl, _⟩ := hm.elem h4
        have := width_le (B.o op.h).code
        have : op.n * width (B.o op.h).code ≤ op.n * 8 := Nat.mul_le_mul_left _ this
        omega
      · obtain ⟨h1, rfl, _⟩ := hm.slot h3 h4
        split <;> omega
  · by_cases h3 : op.kind = 3
    · obtain ⟨h1, _, rfl⟩ := hm.data h3
      refine ones_lt ?_
      rcases h1 with e | e | e | e | e <;> rw [e] <;> omega
    · by_cases h4 : op.kind = 4
      · obtain ⟨h1, _, rfl⟩ := hm.elem h4
        refine ones_lt ?_
        rcases h1 with e | e | e | e <;> rw [e] <;> simp [width] <;> omega
      · obtain ⟨h1, _, rfl⟩ := hm.slot h3 h4
        omega

/-- What a round does, up to the end of Do. -/
theorem step_facts {W wr : World} {p : Nat} {h : Nat → Value} {B : Bld} {op : Opn} (hb : HB wr p h B) (hG : Good B) (bl : Below W.heap.size W wr) (fr : ∀ k, blk p h k → W.heap.size ≤ k) (hop : op.Ok) (hsz : op.s.size ≤ 9223372036854775807) :
    Calls Faag.prog 36 #[.pointer (some ⟨p, 0, none⟩)] (wr.alloc (.cells (opC op).toArray 46)) (fun e w' => ∃ q h', e = .returned (.pointer (some ⟨q, 0, none⟩)) ∧ HB w' q h' B ∧ Below (wr.alloc (.cells (opC op).toArray 46)).heap.size (wr.alloc (.cells (opC op).toArray 46)) w' ∧ (∀ k, blk q h' k → (wr.alloc (.cells (opC op).toArray 46)).heap.size ≤ k)) ∧
    ∀ (w2 : World) (q : Nat) (h2 : Nat → Value), (HB w2 q h2 B ∧ Below (wr.alloc (.cells (opC op).toArray 46)).heap.size (wr.alloc (.cells (opC op).toArray 46)) w2 ∧ (∀ k, blk q h2 k → (wr.alloc (.cells (opC op).toArray 46)).heap.size ≤ k)) →
      (∀ j u, (opC op)[j]? = some u → w2.cell? ⟨wr.heap.size, j, none⟩ = some u) ∧
      Calls Faag.prog 26 #[.pointer (some ⟨p, 0, none⟩), .agg (opC op).toArray] w2 (fun e w3 => ∃ R : Option Bld, e = .returned (.bool R.isSome) ∧
        match R with
        | none => True ∧ Calls Faag.prog 37 #[.pointer (some ⟨q, 0, none⟩), .pointer (some ⟨p, 0, none⟩)] w3 (fun e w4 => e = .returned (.bool true) ∧ Below w3.heap.size w3 w4) ∧ ∀ w4, Below w3.heap.size w3 w4 → Turn W p w4
        | some B' => Took W p q wr.heap.size op B B' w3) := by
  refine ⟨copied_calls (hb.alloc _) hG.even, fun w2 q h2 ⟨hq2, bl2, fr2⟩ => ?_⟩
  have hp2 : HB w2 p h B := (hb.alloc _).below bl2
  have sz : (wr.alloc (.cells (opC op).toArray 46)).heap.size = wr.heap.size + 1 := by simp
  have box2 : RowAt w2 wr.heap.size 0 (opC op) := (RowAt.of_alloc wr (opC op) 46).keeps (Keeps.of_below bl2) (fun _ hx => by omega)
  refine ⟨fun j u hu => by simpa using box2.at_ hu, ?_⟩
  obtain ⟨c1, hc1⟩ : ∃ c : Bool, c = true ↔ contentP op.s := by
    by_cases hc : contentP op.s
    · exact ⟨true, by simp [hc]⟩
    · exact ⟨false, by simp [hc]⟩
  obtain ⟨c2, hc2⟩ : ∃ c : Bool, c = true ↔ insideP B.A.length (B.o op.h) := by
    by_cases hc : insideP B.A.length (B.o op.h)
    · exact ⟨true, by simp [hc]⟩
    · exact ⟨false, by simp [hc]⟩
  refine (do_calls op hop hsz c1 c2 hc1 hc2 hp2 hG).mono ?_
  rintro e w3 ⟨he, h3, hb3, mv3⟩
  have hq3 : HB w3 q h2 B := hq2.keeps mv3.keeps (fun j hj hx => by
    have := fr2 j hj
    have := hb.lt hx
    omega)
  have box3 : RowAt w3 wr.heap.size 0 (opC op) := box2.keeps mv3.keeps (fun _ hx => by
    have := hb.lt hx
    omega)
  have szW := bl.size
  have bl3 : Below W.heap.size W w3 := ((bl.alloc bl.size (.cells (opC op).toArray 46)).trans (bl2.mono (by omega))).trans (mv3.below (Nat.le_trans (by omega) bl2.size) (fun k hk hx => by have := fr k hx; omega))
  have fr3 : ∀ k, blk p h3 k → W.heap.size ≤ k := fun k hk => by
    rcases mv3.fresh k hk with h1 | h1
    · exact fr k h1
    · have := bl2.size
      omega
  refine ⟨doB B op c1 c2, he, ?_⟩
  cases hR : doB B op c1 c2 with
  | none =>
    rw [hR] at hb3
    have hb3' : HB w3 p h3 B := hb3
    exact ⟨trivial, sameBuilder_calls hq3 hb3' hG.even, fun w4 bl4 => ⟨h3, B, hb3'.below bl4, hG, bl3.trans (bl4.mono bl3.size), fr3⟩⟩
  | some B' =>
    rw [hR] at hb3
    exact ⟨⟨h3, hb3, bl3, fr3⟩, ⟨h2, hq3⟩, box3, hG, doB_good hop hb.ok hG hR, hop, c1, c2, hR⟩

set_option maxHeartbeats 8000000 in
theorem onlyGrows_calls (a : Option Addr) (len cap : Nat) (hl : len ≤ cap) (hcap : cap ≤ 9223372036854775807) (ops : Nat → Opn) (W : World)
    (hops : ∀ i, i < len → (ops i).Ok ∧ (ops i).s.size ≤ 9223372036854775807)
    (hcells : 0 < len → ∃ b off, a = some ⟨b, off, none⟩ ∧ b < W.heap.size ∧ ∀ i, i < len → ∀ j u, (opC (ops i))[j]? = some u → W.cell? ⟨b, off + i * 8 + j, none⟩ = some u) :
    Calls Faag.prog 9 #[.slice a len cap] W fun e w' => e = .returned (.bool true) ∧ Below W.heap.size W w' := by
  have HC := hide hcells
  have HO := hide hops
  clear hcells hops
  obtain ⟨n, hn, hnl, hN64, hn64⟩ : ∃ n, n ≤ len ∧ n ≤ cap ∧ n ≤ 64 ∧ ((len = n ∧ (len : Int) ≤ 64) ∨ (n = 64 ∧ ¬ (len : Int) ≤ 64)) := by
    by_cases h : len ≤ 64
    · exact ⟨len, Nat.le_refl _, hl, h, .inl ⟨rfl, by omega⟩⟩
    · exact ⟨64, by omega, by omega, by omega, .inr ⟨rfl, by omega⟩⟩
  rcases hn64 with ⟨rfl, h64⟩ | ⟨rfl, h64⟩
  all_goals
    go_enter Faag.func9, Faag.ntmps9
    go_wp2_with fail
    refine new_calls.mono ?_
    rintro e w0 ⟨p, h0, rfl, hb0, bl0, fr0⟩
    have HT := hide (show Turn W p w0 from ⟨h0, newB, hb0, newB_good, bl0, fr0⟩)
    clear hb0 bl0 fr0
    go_wp2_with fail
  · go_loopw [19] (fun q wr => ∃ k : Nat, k ≤ len ∧ q = .int .i64 k ∧ Hid (Turn W p wr)) (fun q _ => len - (intOf q).toNat)
    case atStart => exact ⟨0, by omega, rfl, HT⟩
    case round =>
      obtain ⟨k, hk, rfl, HT1⟩ := hrel
      by_cases hlt : k < len
      · obtain ⟨h, B, hb, hG, bl, fr⟩ := HT1.out
        obtain ⟨b, off, rfl, hbW, hcs⟩ := HC.out (by omega)
        obtain ⟨hop, hsz⟩ := HO.out k (by omega)
        have hcs := hcs k (by omega)
        generalize ops k = op at hop hsz hcs
        have hbr : b < wr.heap.size := Nat.lt_of_lt_of_le hbW bl.size
        have cs : ∀ j u, (opC op)[j]? = some u → wr.cell? ⟨b, off + k * 8 + j, none⟩ = some u := fun j u hu => (bl.cell (p := ⟨b, off + k * 8 + j, none⟩) hbW).trans (hcs j u hu)
        clear hcs
        have HD := hide (step_facts hb hG bl fr hop hsz)
        obtain ⟨okind, x, i, X, Y, N, V, s⟩ := op
        have d0 := cs 0 _ rfl
        have d1 := cs 1 _ rfl
        have d2 := cs 2 _ rfl
        have d3 := cs 3 _ rfl
        have d4 := cs 4 _ rfl
        have d5 := cs 5 _ rfl
        have d6 := cs 6 _ rfl
        have d7 := cs 7 _ rfl
        simp only [Nat.add_zero] at d0
        clear cs hb hG bl fr hop hsz HT1 HT HC HO
        unfold opC at HD
        go_wp2_with fail
        refine HD.out.1.mono ?_
        rintro e w2 ⟨q, h2, rfl, H2⟩
        have HD2 := hide (HD.out.2 w2 q h2 H2)
        clear HD H2 d0 d1 d2 d3 d4 d5 d6 d7
        have d0 := HD2.out.1 0 _ rfl
        have d1 := HD2.out.1 1 _ rfl
        have d2 := HD2.out.1 2 _ rfl
        have d3 := HD2.out.1 3 _ rfl
        have d4 := HD2.out.1 4 _ rfl
        have d5 := HD2.out.1 5 _ rfl
        have d6 := HD2.out.1 6 _ rfl
        have d7 := HD2.out.1 7 _ rfl
        go_wp2_with fail
        refine HD2.out.2.mono ?_
        rintro e w3 ⟨R, rfl, H3⟩
        clear d0 d1 d2 d3 d4 d5 d6 d7 HD2
        cases R with
        | none =>
          have HN := hide H3
          clear H3
          go_wp2_with fail
          refine HN.out.2.1.mono ?_
          rintro e w4 ⟨rfl, bl4⟩
          have HT4 := hide (HN.out.2.2 w4 bl4)
          clear HN bl4
          go_wp2_with fail
          go_roundw
          case rel => exact ⟨k + 1, by omega, by go_num, HT4⟩
          case measure => simp [intOf]; omega
        | some B' =>
          obtain ⟨ap, cp, aq, cq, sp, sq, bx, hlen, hl2, hl3, nxt, may⟩ := Took.facts H3
          clear H3
          have HX := hide (And.intro nxt may)
          have HP := hide sp
          have HQ := hide sq
          clear nxt may
          have p0 := sp.f0
          have q0 := sq.f0
          have q1 := sq.f1
          clear sp sq
          have d0 := bx 0 _ rfl
          have d1 := bx 1 _ rfl
          have d2 := bx 2 _ rfl
          have d3 := bx 3 _ rfl
          have d4 := bx 4 _ rfl
          have d5 := bx 5 _ rfl
          have d6 := bx 6 _ rfl
          have d7 := bx 7 _ rfl
          clear bx
          have hge : decide ((B'.A.length : Int) < (B.A.length : Int)) = false := by simp; omega
          have hge' : decide (B'.A.length < B.A.length) = false := by simp; omega
          go_wp2_with fail
          refine wp_region_qy w3 10 (by kernel_rfl) (by kernel_rfl) (ext_self w3) ?_
          simp only [List.take_succ_cons, List.take_zero, List.drop_succ_cons, List.drop_zero]
          repeat (go_big_quiet_step (fail))
          refine wpQuiet_nil ?_
          rintro _ ⟨x1, rfl⟩
          by_cases h5 : okind = 5
          · have hk5 : ((okind : Int) == 5) = true := by simp; omega
            go_wp2_with fail
            go_roundw
            case rel => exact ⟨k + 1, by omega, by go_num, hide (HX.out.1 _ (World.below_ext _ _))⟩
            case measure => simp [intOf]; omega
          · have hk5 : ((okind : Int) == 5) = false := by simp; omega
            obtain ⟨a, m, ha, hm, hlo, hmay, hw⟩ := HX.out.2 h5
            have HM := hide hmay
            have HW := hide hw
            clear hmay hw
            have ob := HQ.out.objs x hlo
            generalize B.o x = P at HM ob
            obtain ⟨kind, at_, data, ptrs, code, count⟩ := P
            have b0 := ob 0 _ rfl
            have b1 := ob 1 _ rfl
            have b2 := ob 2 _ rfl
            have b3 := ob 3 _ rfl
            have b4 := ob 4 _ rfl
            have b5 := ob 5 _ rfl
            simp only [Nat.add_zero] at b0
            clear ob
            unfold ptrC opC at HM
            go_wp2_with fail
            refine wp_region_qy w3 14 (by kernel_rfl) (by kernel_rfl) ⟨x1, rfl⟩ ?_
            simp only [List.take_succ_cons, List.take_zero, List.drop_succ_cons, List.drop_zero]
            repeat (go_big_quiet_step ((go_at_call 38; exact Calls.ext_of (HM.out _))))
            refine wpQuiet_nil ?_
            rintro _ ⟨x2, rfl⟩
            go_wp2_with fail
            go_loop [65] (fun q => ∃ j : Nat, j ≤ B.A.length ∧ q = .int .i64 j) (fun q => B.A.length - (intOf q).toNat)
            case atStart => exact ⟨0, by omega, rfl⟩
            case round =>
              obtain ⟨j, hj, rfl⟩ := hrel
              by_cases hjl : j < B.A.length
              · have y0 := HQ.out.words j hjl
                have y1 := HP.out.words j (by omega)
                have hjl' : j < B'.A.length := by omega
                obtain ⟨w1, w2, w3', w4⟩ := HW.out j hjl
                by_cases hja : j = a
                · subst hja
                  have hm2 := w2 rfl
                  clear w1 w2
                  generalize B.A.getD j 0 = y at *
                  generalize B'.A.getD j 0 = z at *
                  obtain ⟨D, e1, e2⟩ : ∃ D : Int, bits .xor .u64 (y : Int) (z : Int) = D ∧ bits .andNot .u64 D (m : Int) = 0 :=
                    ⟨_, u64_xor_nat y z w3' w4, by rw [u64_andNot_nat _ m (Nat.xor_lt_two_pow (n := 64) w3' w4) hm, show (y ^^^ z) &&& (18446744073709551615 - m) = 0 from hm2]; rfl⟩
                  clear hm2
                  go_wp2_with fail
                  all_goals
                    go_round
                    case rel => exact ⟨j + 1, by omega, by go_num⟩
                    case measure => simp [intOf]; omega
                · have e := w1 hja
                  rw [e] at y1
                  clear w1 w2 e
                  generalize B.A.getD j 0 = y at *
                  have e1 : bits .xor .u64 (y : Int) (y : Int) = 0 := by rw [u64_xor_nat y y w3' w3', Nat.xor_self]; rfl
                  go_wp2_with fail
                  all_goals
                    go_round
                    case rel => exact ⟨j + 1, by omega, by go_num⟩
                    case measure => simp [intOf]; omega
              · go_wp2_with fail
                go_roundw
                case rel => exact ⟨k + 1, by omega, by go_num, hide (HX.out.1 _ (World.below_ext _ _))⟩
                case measure => simp [intOf]; omega
      · go_wp2_with fail
        go_ret
        obtain ⟨h, B, hb, hG, bl, fr⟩ := HT1.out
        exact ⟨rfl, bl⟩
  · go_loopw [19] (fun q wr => ∃ k : Nat, k ≤ 64 ∧ q = .int .i64 k ∧ Hid (Turn W p wr)) (fun q _ => 64 - (intOf q).toNat)
    case atStart => exact ⟨0, by omega, rfl, HT⟩
    case round =>
      obtain ⟨k, hk, rfl, HT1⟩ := hrel
      by_cases hlt : k < 64
      · obtain ⟨h, B, hb, hG, bl, fr⟩ := HT1.out
        obtain ⟨b, off, rfl, hbW, hcs⟩ := HC.out (by omega)
        obtain ⟨hop, hsz⟩ := HO.out k (by omega)
        have hcs := hcs k (by omega)
        generalize ops k = op at hop hsz hcs
        have hbr : b < wr.heap.size := Nat.lt_of_lt_of_le hbW bl.size
        have cs : ∀ j u, (opC op)[j]? = some u → wr.cell? ⟨b, off + k * 8 + j, none⟩ = some u := fun j u hu => (bl.cell (p := ⟨b, off + k * 8 + j, none⟩) hbW).trans (hcs j u hu)
        clear hcs
        have HD := hide (step_facts hb hG bl fr hop hsz)
        obtain ⟨okind, x, i, X, Y, N, V, s⟩ := op
        have d0 := cs 0 _ rfl
        have d1 := cs 1 _ rfl
        have d2 := cs 2 _ rfl
        have d3 := cs 3 _ rfl
        have d4 := cs 4 _ rfl
        have d5 := cs 5 _ rfl
        have d6 := cs 6 _ rfl
        have d7 := cs 7 _ rfl
        simp only [Nat.add_zero] at d0
        clear cs hb hG bl fr hop hsz HT1 HT HC HO
        unfold opC at HD
        go_wp2_with fail
        refine HD.out.1.mono ?_
        rintro e w2 ⟨q, h2, rfl, H2⟩
        have HD2 := hide (HD.out.2 w2 q h2 H2)
        clear HD H2 d0 d1 d2 d3 d4 d5 d6 d7
        have d0 := HD2.out.1 0 _ rfl
        have d1 := HD2.out.1 1 _ rfl
        have d2 := HD2.out.1 2 _ rfl
        have d3 := HD2.out.1 3 _ rfl
        have d4 := HD2.out.1 4 _ rfl
        have d5 := HD2.out.1 5 _ rfl
        have d6 := HD2.out.1 6 _ rfl
        have d7 := HD2.out.1 7 _ rfl
        go_wp2_with fail
        refine HD2.out.2.mono ?_
        rintro e w3 ⟨R, rfl, H3⟩
        clear d0 d1 d2 d3 d4 d5 d6 d7 HD2
        cases R with
        | none =>
          have HN := hide H3
          clear H3
          go_wp2_with fail
          refine HN.out.2.1.mono ?_
          rintro e w4 ⟨rfl, bl4⟩
          have HT4 := hide (HN.out.2.2 w4 bl4)
          clear HN bl4
          go_wp2_with fail
          go_roundw
          case rel => exact ⟨k + 1, by omega, by go_num, HT4⟩
          case measure => simp [intOf]; omega
        | some B' =>
          obtain ⟨ap, cp, aq, cq, sp, sq, bx, hlen, hl2, hl3, nxt, may⟩ := Took.facts H3
          clear H3
          have HX := hide (And.intro nxt may)
          have HP := hide sp
          have HQ := hide sq
          clear nxt may
          have p0 := sp.f0
          have q0 := sq.f0
          have q1 := sq.f1
          clear sp sq
          have d0 := bx 0 _ rfl
          have d1 := bx 1 _ rfl
          have d2 := bx 2 _ rfl
          have d3 := bx 3 _ rfl
          have d4 := bx 4 _ rfl
          have d5 := bx 5 _ rfl
          have d6 := bx 6 _ rfl
          have d7 := bx 7 _ rfl
          clear bx
          have hge : decide ((B'.A.length : Int) < (B.A.length : Int)) = false := by simp; omega
          have hge' : decide (B'.A.length < B.A.length) = false := by simp; omega
          go_wp2_with fail
          refine wp_region_qy w3 10 (by kernel_rfl) (by kernel_rfl) (ext_self w3) ?_
          simp only [List.take_succ_cons, List.take_zero, List.drop_succ_cons, List.drop_zero]
          repeat (go_big_quiet_step (fail))
          refine wpQuiet_nil ?_
          rintro _ ⟨x1, rfl⟩
          by_cases h5 : okind = 5
          · have hk5 : ((okind : Int) == 5) = true := by simp; omega
            go_wp2_with fail
            go_roundw
            case rel => exact ⟨k + 1, by omega, by go_num, hide (HX.out.1 _ (World.below_ext _ _))⟩
            case measure => simp [intOf]; omega
          · have hk5 : ((okind : Int) == 5) = false := by simp; omega
            obtain ⟨a, m, ha, hm, hlo, hmay, hw⟩ := HX.out.2 h5
            have HM := hide hmay
            have HW := hide hw
            clear hmay hw
            have ob := HQ.out.objs x hlo
            generalize B.o x = P at HM ob
            obtain ⟨kind, at_, data, ptrs, code, count⟩ := P
            have b0 := ob 0 _ rfl
            have b1 := ob 1 _ rfl
            have b2 := ob 2 _ rfl
            have b3 := ob 3 _ rfl
            have b4 := ob 4 _ rfl
            have b5 := ob 5 _ rfl
            simp only [Nat.add_zero] at b0
            clear ob
            unfold ptrC opC at HM
            go_wp2_with fail
            refine wp_region_qy w3 14 (by kernel_rfl) (by kernel_rfl) ⟨x1, rfl⟩ ?_
            simp only [List.take_succ_cons, List.take_zero, List.drop_succ_cons, List.drop_zero]
            repeat (go_big_quiet_step ((go_at_call 38; exact Calls.ext_of (HM.out _))))
            refine wpQuiet_nil ?_
            rintro _ ⟨x2, rfl⟩
            go_wp2_with fail
            go_loop [65] (fun q => ∃ j : Nat, j ≤ B.A.length ∧ q = .int .i64 j) (fun q => B.A.length - (intOf q).toNat)
            case atStart => exact ⟨0, by omega, rfl⟩
            case round =>
              obtain ⟨j, hj, rfl⟩ := hrel
              by_cases hjl : j < B.A.length
              · have y0 := HQ.out.words j hjl
                have y1 := HP.out.words j (by omega)
                have hjl' : j < B'.A.length := by omega
                obtain ⟨w1, w2, w3', w4⟩ := HW.out j hjl
                by_cases hja : j = a
                · subst hja
                  have hm2 := w2 rfl
                  clear w1 w2
                  generalize B.A.getD j 0 = y at *
                  generalize B'.A.getD j 0 = z at *
                  obtain ⟨D, e1, e2⟩ : ∃ D : Int, bits .xor .u64 (y : Int) (z : Int) = D ∧ bits .andNot .u64 D (m : Int) = 0 :=
                    ⟨_, u64_xor_nat y z w3' w4, by rw [u64_andNot_nat _ m (Nat.xor_lt_two_pow (n := 64) w3' w4) hm, show (y ^^^ z) &&& (18446744073709551615 - m) = 0 from hm2]; rfl⟩
                  clear hm2
                  go_wp2_with fail
                  all_goals
                    go_round
                    case rel => exact ⟨j + 1, by omega, by go_num⟩
                    case measure => simp [intOf]; omega
                · have e := w1 hja
                  rw [e] at y1
                  clear w1 w2 e
                  generalize B.A.getD j 0 = y at *
                  have e1 : bits .xor .u64 (y : Int) (y : Int) = 0 := by rw [u64_xor_nat y y w3' w3', Nat.xor_self]; rfl
                  go_wp2_with fail
                  all_goals
                    go_round
                    case rel => exact ⟨j + 1, by omega, by go_num⟩
                    case measure => simp [intOf]; omega
              · go_wp2_with fail
                go_roundw
                case rel => exact ⟨k + 1, by omega, by go_num, hide (HX.out.1 _ (World.below_ext _ _))⟩
                case measure => simp [intOf]; omega
      · go_wp2_with fail
        go_ret
        obtain ⟨h, B, hb, hG, bl, fr⟩ := HT1.out
        exact ⟨rfl, bl⟩
end Go.Proofs.Ygcfaa
