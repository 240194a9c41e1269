import Derived.Test.YgcfaaGreatMoSet
namespace Go.Proofs.YgcfaaGreat
open Go.RowKit Bits Bd
set_option linter.unusedVariables false
set_option maxRecDepth 100000

section
variable {full : Bool} {w w1 : World} {p : Nat} {h : Nat → Value} {M : Mo}
/-- A row of the model has grown, in its own block or in a new one: the others stay. -/
theorem HM.others (m : HM full w p h M) {s : Nat} (hs : s < 2 * M.N.length + 2) (kp : Keeps (fun j => some j = (h s).ownBlock) w w1) {i : Nat} (hi : i < 2 * M.N.length + 2) (hne : ¬ i = s) {e : TypeId} {size n : Nat} {xs : List Value} (ho : w.ownsRow 0 e size (h i) n xs) : w1.ownsRow 0 e size (h i) n xs :=
  own_keeps ho kp (fun j hj e => hne (m.ap i s j hi hs hj e.symm))
theorem HM.rowKeeps (m : HM full w p h M) {s : Nat} (hs : s < 2 * M.N.length + 2) (kp : Keeps (fun j => some j = (h s).ownBlock) w w1) : RowAt w1 p 0 (h 0 :: .int .i16 M.root :: (if full then [h 1] else [])) :=
  m.row.keeps kp (fun _ e => m.pp s hs e.symm)

/-- The kids (b = 1) or the data (b = 0) of a node are another row. -/
theorem HM.newRow (m : HM full w p h M) {i : Nat} (hi : i < M.N.length) {g gc : Nat} (hg : h 0 = .slice (some ⟨g, 0, none⟩) M.N.length gc) {b : Nat} (hb : b < 2) {v' : Value} {n' : Nd}
    (kp : Keeps (fun j => some j = (h (2 * i + 2 + b)).ownBlock) w w1) (bf : ∀ j, v'.ownBlock = some j → (h (2 * i + 2 + b)).ownBlock = some j ∨ ¬ mblk p h M.N.length j)
    (hkc : n'.kind = (M.nd i).kind ∧ n'.code = (M.nd i).code) (hd : b = 0 → n'.kids = (M.nd i).kids ∧ w1.ownsRow 0 31 1 v' n'.data.length (cellsK .u64 n'.data)) (hk : b = 1 → n'.data = (M.nd i).data ∧ w1.ownsRow 0 40 1 v' n'.kids.length (kidsC n'.kids)) (hok : n'.Ok) :
    HM full (w1.setCell ⟨g, i * 4 + (2 + b), none⟩ v') p (fun x => if x = 2 * i + 2 + b then v' else h x) { M with N := M.N.set i n' } := by
  have hs : 2 * i + 2 + b < 2 * M.N.length + 2 := by omega
  have hgb : (h 0).ownBlock = some g := by rw [hg]; rfl
  have hgp : ¬ g = p := fun e => m.pp 0 (by omega) (by rw [hgb, e])
  have hN : { M with N := M.N.set i n' }.N.length = M.N.length := List.length_set
  have hnd := fun k => nd_set hi n' k
  have hks := keeps_set w1 g (i * 4 + (2 + b)) v'
  have hoth : ∀ {x : Nat}, x < 2 * M.N.length + 2 → ¬ x = 2 * i + 2 + b → ¬ x = 0 → ∀ {e : TypeId} {size n : Nat} {xs : List Value}, w.ownsRow 0 e size (h x) n xs → (w1.setCell ⟨g, i * 4 + (2 + b), none⟩ v').ownsRow 0 e size (h x) n xs := fun hx h1 h2 _ _ _ _ ho =>
    own_keeps (m.others hs kp hx h1 ho) hks (fun j hj e => h2 (m.ap _ 0 g hx (by omega) (by rw [hj, e]) hgb))
  have hvg : ∀ j, v'.ownBlock = some j → ¬ j = g := fun j hj e => by
    rcases bf j hj with q | q
    · exact absurd (m.ap _ 0 g hs (by omega) (by rw [q, e]) hgb) (by omega)
    · exact q (.inr ⟨0, by omega, by rw [hgb, e]⟩)
  refine ⟨?_, ?_, ?_, fun k hk' => ?_, fun k hk' => ?_, fun a c x ha hc h1 h2 => ?_, fun a ha h1 => ?_, fun k => ?_, m.hok, m.rt, by rw [hN]; exact m.nn, m.nh⟩
  · have := (m.rowKeeps hs kp).keeps hks (fun _ e => hgp e.symm)
    simp only [show ¬ (0 = 2 * i + 2 + b) by omega, show ¬ (1 = 2 * i + 2 + b) by omega, if_false]
    exact this
  · have ho := m.others hs kp (i := 0) (by omega) (by omega) m.nodes
    rw [hg] at ho
    have h1 := own_set ho (i * 4 + (2 + b)) v'
    have h2 := nodesC_set h (fun x => if x = 2 * i + 2 + b then v' else h x) n' (2 + b) v' (by omega) M.N 0 i hi (by
      rw [Nat.zero_add]
      show (ndC h i (M.nd i)).set (2 + b) v' = _
      unfold ndC
      rw [hkc.1, hkc.2]
      have : b = 0 ∨ b = 1 := by omega
      rcases this with rfl | rfl
      · simp
      · simp) (fun j hj hne => by rw [Nat.zero_add]; exact ⟨if_neg (by omega), if_neg (by omega)⟩)
    rw [h2] at h1
    rw [hN]
    show World.ownsRow _ 0 76 4 (if 0 = 2 * i + 2 + b then v' else h 0) _ _
    rw [if_neg (by omega), hg]
    exact h1
  · show World.ownsRow _ 0 89 7 (if 1 = 2 * i + 2 + b then v' else h 1) _ _
    rw [if_neg (by omega)]
    exact hoth (by omega) (by omega) (by omega) m.hands
  · rw [hN] at hk'
    rw [hnd k]
    by_cases hsl : 2 * k + 2 = 2 * i + 2 + b
    · have hb0 : b = 0 := by omega
      have hki : k = i := by omega
      subst hki
      rw [if_pos rfl, if_pos hsl]
      exact own_keeps (hd hb0).2 hks (fun j hj e => hvg j hj e)
    · rw [if_neg hsl]
      have := hoth (x := 2 * k + 2) (by omega) hsl (by omega) (m.dat k hk')
      by_cases hki : k = i
      · subst hki
        rw [if_pos rfl, (hk (by omega)).1]
        exact this
      · rw [if_neg hki]; exact this
  · rw [hN] at hk'
    rw [hnd k]
    by_cases hsl : 2 * k + 3 = 2 * i + 2 + b
    · have hb1 : b = 1 := by omega
      have hki : k = i := by omega
      subst hki
      rw [if_pos rfl, if_pos hsl]
      exact own_keeps (hk hb1).2 hks (fun j hj e => hvg j hj e)
    · rw [if_neg hsl]
      have := hoth (x := 2 * k + 3) (by omega) hsl (by omega) (m.kid k hk')
      by_cases hki : k = i
      · subst hki
        rw [if_pos rfl, (hd (by omega)).1]
        exact this
      · rw [if_neg hki]; exact this
  · rw [hN] at ha hc
    by_cases ea : a = 2 * i + 2 + b
    · rw [if_pos ea] at h1
      by_cases ec : c = 2 * i + 2 + b
      · omega
      · rw [if_neg ec] at h2
        rcases bf x h1 with q | q
        · rw [ea]; exact m.ap _ c x hs hc q h2
        · exact absurd (.inr ⟨c, hc, h2⟩) q
    · rw [if_neg ea] at h1
      by_cases ec : c = 2 * i + 2 + b
      · rw [if_pos ec] at h2
        rcases bf x h2 with q | q
        · rw [ec]; exact m.ap a _ x ha hs h1 q
        · exact absurd (.inr ⟨a, ha, h1⟩) q
      · rw [if_neg ec] at h2
        exact m.ap a c x ha hc h1 h2
  · rw [hN] at ha
    by_cases ea : a = 2 * i + 2 + b
    · rw [if_pos ea] at h1
      rcases bf p h1 with q | q
      · exact m.pp _ hs q
      · exact q (.inl rfl)
    · rw [if_neg ea] at h1
      exact m.pp a ha h1
  · rw [hnd k]
    by_cases hki : k = i
    · rw [if_pos hki]; exact hok
    · rw [if_neg hki]; exact m.ok k

/-- A node is appended. -/
theorem HM.appN (m : HM full w p h M) {v0 dv kv : Value} {nd : Nd} (kp : Keeps (fun j => some j = (h 0).ownBlock) w w1) (bf : ∀ j, v0.ownBlock = some j → (h 0).ownBlock = some j ∨ ¬ mblk p h M.N.length j)
    (ho : w1.ownsRow 0 76 4 v0 (M.N.length + 1) (nodesC h 0 M.N ++ [.int .u8 (nd.kind : Int), .int .u8 (nd.code : Int), dv, kv]))
    (hd : w1.ownsRow 0 31 1 dv nd.data.length (cellsK .u64 nd.data)) (hk : w1.ownsRow 0 40 1 kv nd.kids.length (kidsC nd.kids)) (hok : nd.Ok) (hn : M.N.length < 1000)
    (fd : ∀ j, dv.ownBlock = some j → ¬ mblk p h M.N.length j ∧ ¬ v0.ownBlock = some j ∧ ¬ kv.ownBlock = some j) (fk : ∀ j, kv.ownBlock = some j → ¬ mblk p h M.N.length j ∧ ¬ v0.ownBlock = some j) :
    HM full (w1.setCell ⟨p, 0, none⟩ v0) p (fun x => if x = 0 then v0 else if x = 2 * M.N.length + 2 then dv else if x = 2 * M.N.length + 3 then kv else h x) { M with N := M.N ++ [nd] } := by
  have hN : { M with N := M.N ++ [nd] }.N.length = M.N.length + 1 := by simp
  have hnd : ∀ k, Mo.nd { M with N := M.N ++ [nd] } k = if k = M.N.length then nd else M.nd k := fun k => by
    unfold Mo.nd
    by_cases hk : k = M.N.length
    · subst hk; rw [if_pos rfl, List.getD_eq_getElem?_getD, List.getElem?_append_right (Nat.le_refl _), Nat.sub_self]; rfl
    · rw [if_neg hk]
      by_cases hl : k < M.N.length
      · rw [List.getD_eq_getElem?_getD, List.getElem?_append_left hl, List.getD_eq_getElem?_getD]
      · rw [List.getD_eq_getElem?_getD, List.getElem?_eq_none (by simp; omega), List.getD_eq_getElem?_getD, List.getElem?_eq_none (by omega)]
  have hks := keeps_set w1 p 0 v0
  have hv0p : ¬ v0.ownBlock = some p := fun e => by
    rcases bf p e with q | q
    · exact m.pp 0 (by omega) q
    · exact q (.inl rfl)
  have hoth : ∀ {x : Nat}, x < 2 * M.N.length + 2 → ¬ x = 0 → ∀ {e : TypeId} {size n : Nat} {xs : List Value}, w.ownsRow 0 e size (h x) n xs → (w1.setCell ⟨p, 0, none⟩ v0).ownsRow 0 e size (h x) n xs := fun hx h1 _ _ _ _ ho =>
    own_keeps (m.others (s := 0) (by omega) kp hx h1 ho) hks (fun j hj e => m.pp _ hx (by rw [hj, e]))
  have hval : ∀ x, (if x = 0 then v0 else if x = 2 * M.N.length + 2 then dv else if x = 2 * M.N.length + 3 then kv else h x) = if x = 0 then v0 else if x = 2 * M.N.length + 2 then dv else if x = 2 * M.N.length + 3 then kv else h x := fun _ => rfl
  refine ⟨?_, ?_, ?_, fun k hk' => ?_, fun k hk' => ?_, fun a c x ha hc h1 h2 => ?_, fun a ha h1 => ?_, fun k => ?_, m.hok, m.rt, by rw [hN]; omega, m.nh⟩
  · have := (m.rowKeeps (s := 0) (by omega) kp).set (i := 0) (by simp) v0
    simp only [if_true, show ¬ ((1 : Nat) = 0) by omega, show ¬ (1 = 2 * M.N.length + 2) by omega, show ¬ (1 = 2 * M.N.length + 3) by omega, if_false]
    exact this
  · rw [hN]
    have e : nodesC (fun x => if x = 0 then v0 else if x = 2 * M.N.length + 2 then dv else if x = 2 * M.N.length + 3 then kv else h x) 0 (M.N ++ [nd]) = nodesC h 0 M.N ++ [.int .u8 (nd.kind : Int), .int .u8 (nd.code : Int), dv, kv] := by
      rw [nodesC_app, nodesC_congr h]
      · congr 1
        unfold ndC
        rw [Nat.zero_add]
        simp
      · intro j hj
        rw [Nat.zero_add]
        exact ⟨by rw [if_neg (by omega), if_neg (by omega), if_neg (by omega)], by rw [if_neg (by omega), if_neg (by omega), if_neg (by omega)]⟩
    show World.ownsRow _ 0 76 4 (if 0 = 0 then v0 else _) _ (nodesC _ 0 (M.N ++ [nd]))
    rw [e, if_pos rfl]
    exact own_keeps ho hks (fun j hj e => hv0p (by rw [hj, e]))
  · show World.ownsRow _ 0 89 7 (if 1 = 0 then v0 else _) _ _
    rw [if_neg (by omega), if_neg (by omega), if_neg (by omega)]
    exact hoth (by omega) (by omega) m.hands
  · rw [hN] at hk'
    rw [hnd k]
    by_cases hkn : k = M.N.length
    · subst hkn
      rw [if_pos rfl, if_neg (by omega), if_pos rfl]
      exact own_keeps hd hks (fun j hj e => (fd j hj).1 (.inl e))
    · rw [if_neg hkn, if_neg (by omega), if_neg (by omega), if_neg (by omega)]
      exact hoth (by omega) (by omega) (m.dat k (by omega))
  · rw [hN] at hk'
    rw [hnd k]
    by_cases hkn : k = M.N.length
    · subst hkn
      rw [if_pos rfl, if_neg (by omega), if_neg (by omega), if_pos rfl]
      exact own_keeps hk hks (fun j hj e => (fk j hj).1 (.inl e))
    · rw [if_neg hkn, if_neg (by omega), if_neg (by omega), if_neg (by omega)]
      exact hoth (by omega) (by omega) (m.kid k (by omega))
  · rw [hN] at ha hc
    have key : ∀ a, a < 2 * (M.N.length + 1) + 2 → (if a = 0 then v0 else if a = 2 * M.N.length + 2 then dv else if a = 2 * M.N.length + 3 then kv else h a).ownBlock = some x → (a = 0 ∧ v0.ownBlock = some x) ∨ (a = 2 * M.N.length + 2 ∧ dv.ownBlock = some x) ∨ (a = 2 * M.N.length + 3 ∧ kv.ownBlock = some x) ∨ (¬ a = 0 ∧ a < 2 * M.N.length + 2 ∧ (h a).ownBlock = some x) := by
      intro a ha hx
      by_cases e1 : a = 0
      · rw [if_pos e1] at hx; exact .inl ⟨e1, hx⟩
      · rw [if_neg e1] at hx
        by_cases e2 : a = 2 * M.N.length + 2
        · rw [if_pos e2] at hx; exact .inr (.inl ⟨e2, hx⟩)
        · rw [if_neg e2] at hx
          by_cases e3 : a = 2 * M.N.length + 3
          · rw [if_pos e3] at hx; exact .inr (.inr (.inl ⟨e3, hx⟩))
          · rw [if_neg e3] at hx; exact .inr (.inr (.inr ⟨e1, by omega, hx⟩))
    rcases key a ha h1 with ⟨a1, a2⟩ | ⟨a1, a2⟩ | ⟨a1, a2⟩ | ⟨a0, a1, a2⟩ <;> rcases key c hc h2 with ⟨c1, c2⟩ | ⟨c1, c2⟩ | ⟨c1, c2⟩ | ⟨c0, c1, c2⟩
    · omega
    · exact absurd a2 (fd x c2).2.1
    · exact absurd a2 (fk x c2).2
    · rcases bf x a2 with q | q
      · exact absurd (m.ap 0 c x (by omega) c1 q c2) (fun e => c0 e.symm)
      · exact absurd (.inr ⟨c, c1, c2⟩) q
    · exact absurd c2 (fd x a2).2.1
    · omega
    · exact absurd c2 (fd x a2).2.2
    · exact absurd (.inr ⟨c, c1, c2⟩) (fd x a2).1
    · exact absurd c2 (fk x a2).2
    · exact absurd a2 (fd x c2).2.2
    · omega
    · exact absurd (.inr ⟨c, c1, c2⟩) (fk x a2).1
    · rcases bf x c2 with q | q
      · exact absurd (m.ap a 0 x a1 (by omega) a2 q) a0
      · exact absurd (.inr ⟨a, a1, a2⟩) q
    · exact absurd (.inr ⟨a, a1, a2⟩) (fd x c2).1
    · exact absurd (.inr ⟨a, a1, a2⟩) (fk x c2).1
    · exact m.ap a c x a1 c1 a2 c2
  · rw [hN] at ha
    by_cases e1 : a = 0
    · rw [if_pos e1] at h1; exact hv0p h1
    · rw [if_neg e1] at h1
      by_cases e2 : a = 2 * M.N.length + 2
      · rw [if_pos e2] at h1; exact (fd p h1).1 (.inl rfl)
      · rw [if_neg e2] at h1
        by_cases e3 : a = 2 * M.N.length + 3
        · rw [if_pos e3] at h1; exact (fk p h1).1 (.inl rfl)
        · rw [if_neg e3] at h1; exact m.pp a (by omega) h1
  · rw [hnd k]
    by_cases hkn : k = M.N.length
    · rw [if_pos hkn]; exact hok
    · rw [if_neg hkn]; exact m.ok k
/-- A handle is appended. -/
theorem HM.appH (m : HM true w p h M) {v1 : Value} {x : Hd} (kp : Keeps (fun j => some j = (h 1).ownBlock) w w1) (bf : ∀ j, v1.ownBlock = some j → (h 1).ownBlock = some j ∨ ¬ mblk p h M.N.length j)
    (ho : w1.ownsRow 0 89 7 v1 (M.H.length + 1) (handsC M.H ++ hdC x)) (hok : x.Ok) (hn : M.H.length < 1000) :
    HM true (w1.setCell ⟨p, 2, none⟩ v1) p (fun y => if y = 1 then v1 else h y) { M with H := M.H ++ [x] } := by
  have hks := keeps_set w1 p 2 v1
  have hv1p : ¬ v1.ownBlock = some p := fun e => by
    rcases bf p e with q | q
    · exact m.pp 1 (by omega) q
    · exact q (.inl rfl)
  have hoth : ∀ {y : Nat}, y < 2 * M.N.length + 2 → ¬ y = 1 → ∀ {e : TypeId} {size n : Nat} {xs : List Value}, w.ownsRow 0 e size (h y) n xs → (w1.setCell ⟨p, 2, none⟩ v1).ownsRow 0 e size (h y) n xs := fun hx h1 _ _ _ _ ho =>
    own_keeps (m.others (s := 1) (by omega) kp hx h1 ho) hks (fun j hj e => m.pp _ hx (by rw [hj, e]))
  have hcg : nodesC (fun y => if y = 1 then v1 else h y) 0 M.N = nodesC h 0 M.N := nodesC_congr h _ M.N 0 (fun j hj => ⟨if_neg (by omega), if_neg (by omega)⟩)
  refine ⟨?_, ?_, ?_, fun k hk' => ?_, fun k hk' => ?_, fun a c z ha hc h1 h2 => ?_, fun a ha h1 => ?_, m.ok, fun k => ?_, m.rt, m.nn, by simp; omega⟩
  · have := (m.rowKeeps (s := 1) (by omega) kp).set (i := 2) (by simp) v1
    exact this
  · show World.ownsRow _ 0 76 4 (if 0 = 1 then v1 else h 0) _ (nodesC _ 0 M.N)
    rw [if_neg (by omega), hcg]
    exact hoth (by omega) (by omega) m.nodes
  · show World.ownsRow _ 0 89 7 (if 1 = 1 then v1 else h 1) (M.H ++ [x]).length (handsC (M.H ++ [x]))
    rw [if_pos rfl, handsC_app, List.length_append]
    exact own_keeps ho hks (fun j hj e => hv1p (by rw [hj, e]))
  · have hk2 : k < M.N.length := hk'
    show World.ownsRow _ 0 31 1 (if 2 * k + 2 = 1 then v1 else h (2 * k + 2)) _ _
    rw [if_neg (by omega)]
    exact hoth (by omega) (by omega) (m.dat k hk')
  · have hk2 : k < M.N.length := hk'
    show World.ownsRow _ 0 40 1 (if 2 * k + 3 = 1 then v1 else h (2 * k + 3)) _ _
    rw [if_neg (by omega)]
    exact hoth (by omega) (by omega) (m.kid k hk')
  · by_cases ea : a = 1
    · rw [if_pos ea] at h1
      by_cases ec : c = 1
      · omega
      · rw [if_neg ec] at h2
        rcases bf z h1 with q | q
        · rw [ea]; exact m.ap 1 c z (by omega) hc q h2
        · exact absurd (.inr ⟨c, hc, h2⟩) q
    · rw [if_neg ea] at h1
      by_cases ec : c = 1
      · rw [if_pos ec] at h2
        rcases bf z h2 with q | q
        · rw [ec]; exact m.ap a 1 z ha (by omega) h1 q
        · exact absurd (.inr ⟨a, ha, h1⟩) q
      · rw [if_neg ec] at h2
        exact m.ap a c z ha hc h1 h2
  · by_cases ea : a = 1
    · rw [if_pos ea] at h1; exact hv1p h1
    · rw [if_neg ea] at h1; exact m.pp a ha h1
  · unfold Mo.hd
    by_cases hk : k = M.H.length
    · subst hk
      show ((M.H ++ [x]).getD M.H.length zHd).Ok
      rw [List.getD_eq_getElem?_getD, List.getElem?_append_right (Nat.le_refl _), Nat.sub_self]
      exact hok
    · show ((M.H ++ [x]).getD k zHd).Ok
      by_cases hl : k < M.H.length
      · have := m.hok k
        unfold Mo.hd at this
        rw [List.getD_eq_getElem?_getD, List.getElem?_append_left hl, ← List.getD_eq_getElem?_getD]; exact this
      · have := m.hok k
        unfold Mo.hd at this
        rw [List.getD_eq_getElem?_getD, List.getElem?_eq_none (by omega)] at this
        rw [List.getD_eq_getElem?_getD, List.getElem?_eq_none (by simp; omega)]; exact this
end
end Go.Proofs.YgcfaaGreat
