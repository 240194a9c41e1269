import Derived.Test.YgcfaaGreatProg
import Derived.Test.YgcfaaGreatBase
import Derived.Test.YgcfaaGreatUtf8Plain
import Derived.LoopN
import Derived.Lib.OthersKept
import Derived.Laws.RangeString
import Derived.Lib.Strings
namespace Go.Proofs.YgcfaaGreat
open Go.RowKit Utf
def BytesAt (w : World) (a : Option Addr) (n : Nat) (z : Nat → Nat) : Prop :=
  (∀ k, z k < 256) ∧ (0 < n → ∃ b o, a = some ⟨b, o, none⟩ ∧ ∀ i, i < n → w.cell? ⟨b, o + i, none⟩ = some (.int .u8 (z i : Nat)))

/-- It hands back whether p. -/
def RetIs (e : Ending) (p : Prop) : Prop := ∃ r : Bool, e = .returned (.bool r) ∧ (r = true ↔ p)
theorem RetIs.yes {p : Prop} (h : p) : RetIs (.returned (.bool true)) p := ⟨true, rfl, by simp [h]⟩
theorem RetIs.no {p : Prop} (h : ¬ p) : RetIs (.returned (.bool false)) p := ⟨false, rfl, by simp [h]⟩

set_option linter.unusedVariables false
/-- The bytes of a string. -/
def zOf (s : ByteArray) : Nat → Nat := fun k => (s.get! k).toNat
theorem zOf_lt (s : ByteArray) (k : Nat) : zOf s k < 256 := UInt8.toNat_lt _

theorem next_at (w : World) (s : ByteArray) (p : Nat) (hp : p < s.size) (ty : TypeId) :
    (Instr.next (.pointer (some ⟨w.heap.size, 0, none⟩)) true ty).run Faag.prog (w.iter s p) =
      .ok (.tuple #[.bool true, .int .i64 p, .int .i32 (decodeF (zOf s) s.size p).1]) (w.iter s (p + (decodeF (zOf s) s.size p).2)) := by
  have h := Lib.run_next_any_at (P := Faag.prog) (w.iter s p) w.heap.size s p ty (World.iter_heap w s p) hp
  rw [decode_eq s p] at h
  change _ = Result.ok (Value.tuple #[.bool true, .int .i64 p, .int .i32 (decodeF (zOf s) s.size p).1]) ((w.iter s p).iterAt w.heap.size s (p + (decodeF (zOf s) s.size p).2)) at h
  rw [show (w.iter s p).iterAt w.heap.size s (p + (decodeF (zOf s) s.size p).2) = w.iter s (p + (decodeF (zOf s) s.size p).2) from World.iter_set w s p _] at h
  exact h

theorem iterPos_iter (w : World) (s : ByteArray) (p : Nat) : (w.iter s p).iterPos w.heap.size = p := by simp [World.iterPos, World.iter_heap w s p]

theorem three (s : ByteArray) (p : Nat) (h : p + 3 ≤ s.size) : (s.extract p (p + 3)).toList = [s.get! p, s.get! (p + 1), s.get! (p + 2)] := by
  rw [ByteArray.toList_eq, Lib.extract_data]
  have hs : p + 3 ≤ s.data.size := h
  apply List.ext_getElem
  · simp; omega
  · intro i h1 h2
    have hi : i < 3 := by simpa using h2
    rcases (by omega : i = 0 ∨ i = 1 ∨ i = 2) with rfl | rfl | rfl
    · rw [List.getElem_take, List.getElem_drop]
      have e : s.get! (p) = s.data[p]'(by omega) := by show s.data[p]! = _; rw [getElem!_pos]
      simp [e]
    · rw [List.getElem_take, List.getElem_drop]
      have e : s.get! (p + 1) = s.data[p + 1]'(by omega) := by show s.data[p + 1]! = _; rw [getElem!_pos]
      simp [e]
    · rw [List.getElem_take, List.getElem_drop]
      have e : s.get! (p + 2) = s.data[p + 2]'(by omega) := by show s.data[p + 2]! = _; rw [getElem!_pos]
      simp [e]
theorem byte_eq (b : UInt8) (n : Nat) (h : n < 256) : (b == UInt8.ofNat n) = decide (b.toNat = n) := by
  rw [Bool.eq_iff_iff, beq_iff_eq, decide_eq_true_iff]
  constructor
  · intro e; subst e; simp; omega
  · intro e; subst e; simp
theorem three_eq (s : ByteArray) (p : Nat) (h : p + 3 ≤ s.size) : ((s.extract p (p + 3)).toList == [239, 191, 189]) = decide (zOf s p = 239 ∧ zOf s (p + 1) = 191 ∧ zOf s (p + 2) = 189) := by
  rw [three s p h]
  have e1 := byte_eq (s.get! p) 239 (by omega)
  have e2 := byte_eq (s.get! (p + 1)) 191 (by omega)
  have e3 := byte_eq (s.get! (p + 2)) 189 (by omega)
  show (s.get! p == UInt8.ofNat 239 && (s.get! (p + 1) == UInt8.ofNat 191 && (s.get! (p + 2) == UInt8.ofNat 189 && true))) = _
  rw [e1, e2, e3, Bool.and_true, Bool.eq_iff_iff]
  simp only [zOf, Bool.and_eq_true, decide_eq_true_eq]
  exact decide_eq_true_iff.symm

set_option maxRecDepth 100000 in
set_option maxHeartbeats 4000000 in
theorem validUTF8_calls (s : ByteArray) (hs : s.size ≤ 140737488355328) (w : World) :
    Calls Faag.prog 100 #[.string s] w fun e w' => RetIs e (Utf8Ok (zOf s) s.size 0) ∧ Below w.heap.size w w' := by
  go_enter Faag.func100, Faag.ntmps100
  go_wp2
  go_loopw [3] (fun _ wr => ∃ p : Nat, p ≤ s.size ∧ wr = w.iter s p ∧ Hid (Utf8Ok (zOf s) s.size 0 ↔ Utf8Ok (zOf s) s.size p)) (fun _ wr => s.size - wr.iterPos w.heap.size)
  case atStart => exact ⟨0, by omega, rfl, hide Iff.rfl⟩
  case round =>
    obtain ⟨p, hp, rfl, hG⟩ := hrel
    by_cases hlt : p < s.size
    · have hnext := next_at w s p hlt
      obtain ⟨dc, dw, hd⟩ : ∃ dc dw, decodeF (zOf s) s.size p = (dc, dw) := ⟨_, _, rfl⟩
      rw [hd] at hnext
      dsimp only at hnext
      have hbad := hide (Utf8Ok_bad (zOf_lt s) hlt)
      have hgood := hide (Utf8Ok_next (zOf_lt s) hlt)
      unfold badF at hbad hgood
      rw [hd] at hbad hgood
      dsimp only at hbad hgood
      clear hd
      by_cases hc : dc = 65533
      · subst hc
        by_cases hl : s.size < p + 3
        · go_wp2
          go_ret
          exact ⟨RetIs.no (fun h => hbad.out ⟨by first | rfl | trivial, .inl hl⟩ (hG.out.1 h)), (Below.refl _ _).alloc (Nat.le_refl _) _⟩
        · have h3 := three_eq s p (by omega)
          by_cases heq : zOf s p = 239 ∧ zOf s (p + 1) = 191 ∧ zOf s (p + 2) = 189
          · rw [decide_eq_true heq] at h3
            have hg := hgood.out (fun hx => by rcases hx.2 with h | h; exact hl h; exact h heq)
            have Hg := hide hg
            clear hg
            go_wp2
            exact ⟨⟨p + dw, Hg.out.2.2, rfl, hide (hG.out.trans Hg.out.1)⟩, by rw [iterPos_iter, iterPos_iter]; have := Hg.out.2.1; omega⟩
          · rw [decide_eq_false heq] at h3
            go_wp2
            go_ret
            exact ⟨RetIs.no (fun h => hbad.out ⟨by first | rfl | trivial, .inr heq⟩ (hG.out.1 h)), (Below.refl _ _).alloc (Nat.le_refl _) _⟩
      · have hc' : ((dc : Int) == 65533) = false := by simp; omega
        have hg := hgood.out (fun hx => hc hx.1)
        have Hg := hide hg
        clear hg
        go_wp2
        exact ⟨⟨p + dw, Hg.out.2.2, rfl, hide (hG.out.trans Hg.out.1)⟩, by rw [iterPos_iter, iterPos_iter]; have := Hg.out.2.1; omega⟩
    · have hend := fun ty => run_next_end (P := Faag.prog) w s p ty hlt
      go_wp2
      go_ret
      exact ⟨RetIs.yes (hG.out.2 (Utf8Ok_end (by omega))), (Below.refl _ _).alloc (Nat.le_refl _) _⟩

theorem RetIs.same {e1 e2 : Ending} {p : Prop} (h1 : RetIs e1 p) (h2 : RetIs e2 p) : ∃ r, e1 = .returned (.bool r) ∧ e2 = .returned (.bool r) := by
  obtain ⟨r1, a1, b1⟩ := h1
  obtain ⟨r2, a2, b2⟩ := h2
  refine ⟨r1, a1, ?_⟩
  rw [a2, Bool.eq_iff_iff.2 (b1.trans b2.symm)]

end Go.Proofs.YgcfaaGreat
