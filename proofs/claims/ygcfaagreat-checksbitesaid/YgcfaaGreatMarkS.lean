import Derived.Test.YgcfaaGreatDeep
namespace Go.Proofs.YgcfaaGreat
open Go.RowKit Bits Bd
set_option linter.unusedVariables false
set_option maxRecDepth 100000
set_option linter.unusedSimpArgs false
attribute [local go_sem] World.cell?_ext World.frozen?_ext

theorem keeps_cellS {X : Nat → Prop} {w w' : World} (h : Keeps X w w') {p : Addr} {v : Value} (hc : w.cell? p = some v) (hx : ¬ X p.block) : w'.cell? p = some v := by
  rw [h.cell (lt_of_cell hc) hx]; exact hc
theorem See.keeps {X : Nat → Prop} {w w' : World} {p : Nat} {B : Bld} {a c : Nat → Nat} (s : See w p B a c) (k : Keeps X w w') (hp : ¬ X p) (ha : ∀ i, i < 6 → ¬ X (a i)) : See w' p B a c :=
  ⟨keeps_cellS k s.f0 hp, keeps_cellS k s.f1 hp, keeps_cellS k s.f2 hp, keeps_cellS k s.f3 hp, keeps_cellS k s.f4 hp, keeps_cellS k s.f5 hp, keeps_cellS k s.s0 hp, keeps_cellS k s.s1 hp, keeps_cellS k s.s2 hp, keeps_cellS k s.s3 hp,
    fun i hi => keeps_cellS k (s.words i hi) (ha 0 (by omega)), fun i hi j u hu => keeps_cellS k (s.objs i hi j u hu) (ha 1 (by omega)), fun i hi => keeps_cellS k (s.ups i hi) (ha 2 (by omega)), fun i hi => keeps_cellS k (s.vias i hi) (ha 3 (by omega)), fun i hi => keeps_cellS k (s.depths i hi) (ha 4 (by omega)), fun i hi => keeps_cellS k (s.deads i hi) (ha 5 (by omega))⟩
theorem SetAt.keeps {X : Nat → Prop} {w w' : World} {b : Nat} {s : List Nat} (h : SetAt w b s) (k : Keeps X w w') (hx : ¬ X b) : SetAt w' b s := ⟨h.row.keeps k (fun _ => hx), h.four, h.lt⟩
/-- The blocks that a reader of the builder looks into. -/
theorem See.lt {w : World} {p : Nat} {B : Bld} {a c : Nat → Nat} (s : See w p B a c) (hev : evenP B) : p < w.heap.size ∧ ∀ i, i < 6 → a i < w.heap.size := by
  obtain ⟨⟨a1, a2⟩, ⟨a3, a4⟩, a5, a6, a7, a8⟩ := hev
  refine ⟨lt_of_cell s.f0, fun i hi => ?_⟩
  match i, hi with
  | 0, _ => exact lt_of_cell (s.words 0 (by omega))
  | 1, _ => exact lt_of_cell (s.objs 0 (by omega) 0 _ rfl)
  | 2, _ => exact lt_of_cell (s.ups 0 (by omega))
  | 3, _ => exact lt_of_cell (s.vias 0 (by omega))
  | 4, _ => exact lt_of_cell (s.depths 0 (by omega))
  | 5, _ => exact lt_of_cell (s.deads 0 (by omega))
/-- A word of a set is written. -/
theorem SetAt.put {w : World} {b j n : Nat} {s : List Nat} (h : SetAt w b s) (hj : j < 4) (hn : n < 18446744073709551616) : SetAt (w.setCell ⟨b, j, none⟩ (.int .u64 (n : Int))) b (s.set j n) := by
  refine ⟨?_, by simpa using h.four, fun i => ?_⟩
  · have := h.row.set (i := j) (by rw [U_length, h.four]; omega) (.int .u64 (n : Int))
    rw [Nat.zero_add, U_set] at this
    exact this
  · rw [getD_set _ _ _ _ (by rw [h.four]; omega)]
    split
    · exact hn
    · exact h.lt _

set_option maxHeartbeats 8000000 in
theorem markSet_calls (a n : Nat) (ha : a < 65536) (hn : n < 65536) (on : Bool) {w : World} {b : Nat} {s0 : List Nat} (hb : SetAt w b s0) :
    Calls Faag.prog 61 #[.pointer (some ⟨b, 0, none⟩), .int .u16 a, .int .u16 n, .bool on] w fun e w' => RetN e ∧ SetAt w' b (markGo on ((a + n) % 65536 - a) a s0) ∧ Keeps (fun k => k = b) w w' := by
  obtain ⟨E, hE⟩ : ∃ E, E = (a + n) % 65536 := ⟨_, rfl⟩
  have hwr : IntKind.u16.wrap ((a : Int) + n) = (E : Nat) := by rw [IntKind.wrap_u16]; omega
  have hEl : E < 65536 := by omega
  have HB0 := hide hb
  rw [← hE]
  clear hb hE
  go_enter Faag.func61, Faag.ntmps61
  go_wp2_with fail
  go_loopw [8] (fun q wr => ∃ k : Nat, (k = 0 ∨ (a + k ≤ E ∧ a + k ≤ 256)) ∧ q = .int .u16 (a + k : Nat) ∧ Hid (SetAt wr b (markGo on k a s0) ∧ Keeps (fun k => k = b) w wr)) (fun q _ => 65536 - (intOf q).toNat)
  case atStart => exact ⟨0, .inl rfl, by simp, hide ⟨HB0.out, Keeps.refl _ _⟩⟩
  case round =>
    obtain ⟨k, hk, rfl, H1⟩ := hrel
    by_cases hgo : a + k < E ∧ a + k < 256
    · obtain ⟨g1, g2⟩ := hgo
      obtain ⟨hb1, mv1⟩ := H1.out
      obtain ⟨j, hj⟩ : ∃ j, j = (a + k) / 64 := ⟨_, rfl⟩
      have hj4 : j < 4 := by omega
      have c1 := hb1.row.at_ (i := j) (U_get (by rw [hb1.four]; exact hj4))
      have c2 := hb1.row.live j (by rw [U_length, hb1.four]; exact hj4)
      rw [Nat.zero_add] at c1 c2
      have q1 := u16_quo ((a : Int) + k) 64 (by omega) (by omega) (by omega)
      obtain ⟨s, hs⟩ : ∃ s, s = (markGo on k a s0).getD j 0 := ⟨_, rfl⟩
      have hsl : s < 18446744073709551616 := by rw [hs]; exact hb1.lt j
      rw [← hs] at c1
      have hjI : ((a : Int) + k) / 64 = (j : Int) := by omega
      rw [hjI] at q1
      have hmI : ((a : Int) + k) % 64 = (((a + k) % 64 : Nat) : Int) := by omega
      obtain ⟨m, hm⟩ : ∃ m, m = (a + k) % 64 := ⟨_, rfl⟩
      rw [← hm] at hmI
      have hm64 : m < 64 := by omega
      obtain ⟨V, hV⟩ : ∃ V : Nat, V = (if on then 1 else 0) := ⟨_, rfl⟩
      have hVl : V < 2 := by rw [hV]; split <;> omega
      obtain ⟨r, hr⟩ : ∃ r, r = putN s V m 1 := ⟨_, rfl⟩
      have hput : Hid (∀ W, Calls Faag.prog 87 #[.int .u64 s, .int .u64 V, .int .u8 m, .int .u8 1] W fun e w' => e = .returned (.int .u64 (r : Nat)) ∧ w' = W) := hide (by rw [hr]; exact put_calls s V m 1 hsl (by omega) (by omega) (by omega))
      have hrl : r < 18446744073709551616 := by rw [hr]; exact putN_lt hsl _ _
      have HF := hide (show ∀ x, SetAt ((wr.ext x).setCell ⟨b, j, none⟩ (.int .u64 (r : Int))) b (markGo on (k + 1) a s0) ∧ Keeps (fun k => k = b) w ((wr.ext x).setCell ⟨b, j, none⟩ (.int .u64 (r : Int))) from by
        intro x
        refine ⟨?_, (Keeps.ext mv1 x).setCell (p := ⟨b, j, none⟩) (fun _ => rfl) _⟩
        have := (hb1.below (World.below_ext wr x)).put hj4 hrl
        rw [markGo_add on k 1 a s0 (by omega)]
        simp only [markGo]
        rw [if_pos (by omega : a + k < 256), ← hj, ← hm, ← hs, ← hV, ← hr]
        exact this)
      clear hb1 mv1 H1 HB0 hr hs hj hm
      cases on
      all_goals
        simp only [if_true, if_false, Bool.false_eq_true] at hV
        subst hV
        go_wp2_with fail
        refine wp_region_qx 15 (by kernel_rfl) (by kernel_rfl) ?_
        simp only [List.take_succ_cons, List.take_zero, List.drop_succ_cons, List.drop_zero]
        repeat (go_big_quiet_step ((go_at_call 87; exact Calls.ext_of_same (hput.out _))))
        refine wpQuiet_nil ?_
        rintro _ ⟨x, rfl⟩
        go_wp2_with fail
        go_roundw
        case rel => exact ⟨k + 1, by omega, by go_num, hide (HF.out x)⟩
        case measure => simp [intOf]; omega
    · go_wp2_with fail
      all_goals
        refine bodyPost_fall (v := .tuple #[]) (by simp [results, Faag.results61, go_sem]) rfl ⟨rfl, ?_⟩
        obtain ⟨hb1, mv1⟩ := H1.out
        refine ⟨?_, mv1⟩
        have e : markGo on (E - a) a s0 = markGo on k a s0 := by
          rcases hk with rfl | ⟨hk1, hk2⟩
          · by_cases h1 : E - a = 0
            · rw [h1]
            · rw [markGo_end on _ _ _ (by omega)]; rfl
          · by_cases h1 : E - a = k
            · rw [h1]
            · rw [show E - a = k + (E - a - k) by omega, markGo_add on k _ a _ hk2, markGo_end on _ _ _ (by omega)]
        rw [e]
        exact hb1
end Go.Proofs.YgcfaaGreat
