import Derived.Test.YgcfaaBookOps
import Derived.Laws.OwnMore
namespace Go.Proofs.Ygcfaa
open Go.RowKit Bits Bd
set_option linter.unusedVariables false
set_option maxRecDepth 100000
set_option linter.unusedSimpArgs false
attribute [local go_sem] World.cell?_ext World.frozen?_ext

theorem ent_info : (Faag.prog.info? 70).map (fun i => (i.zero, i.size, i.bytes)) = some (some (.agg (entC ent0 (.slice none 0 0)).toArray), 10, 80) := by kernel_rfl
theorem ents_under : Faag.prog.underlying 71 = some (.slice 70) := by kernel_rfl

/-- An entry is appended onto the book's row. -/
theorem wp_appK {w : World} {o : Oper} {a : Act} {C : Act → World → Prop} {Q : Exit → Act → World → Prop} (s x : Operand)
    (ho : o.op = .call { callee := .builtin .append, args := #[s, x], argTypes := #[71, 71] })
    (v : Value) (n : Nat) (xs : List Value) (hs : a.eval s = v) (hown : w.ownsRow 0 70 10 v n xs)
    (g c : Nat) (news : List Value) (hx : a.eval x = .slice (some ⟨g, 0, none⟩) 1 c) (hl : news.length = 10) (hnews : ∀ j u, news[j]? = some u → w.cell? ⟨g, j, none⟩ = some u) (h1 : ∀ u ∈ news, u.oneCell' = true)
    (hnm : n + 1 ≤ 1000000)
    (h : ∀ v' w', w'.ownsRow 0 70 10 v' (n + 1) (xs ++ news) → Keeps (fun k => some k = v.ownBlock) w w' → BlkOf w v v' → C (a.put o.dst v') w') : o.wp Faag.prog a w C Q := by
  obtain ⟨I, hI, hz, hsz, hby⟩ := info_of ent_info
  refine wp_append_at w s x 71 ho 70 I _ 10 80 ents_under hI hz hsz hby rfl (by omega) v n xs hs hown ⟨g, 0, none⟩ 1 c news hx (by omega) ?_ h1 (by omega) (by unfold maxLen; omega) (by omega) h
  intro j u hu
  have := hnews j u hu
  rw [show (⟨g, 0, none⟩ : Addr).add j = ⟨g, j, none⟩ by unfold Addr.add; split <;> simp_all]
  exact this

theorem bools_under : Faag.prog.underlying 59 = some (.slice 4) := by kernel_rfl
theorem made_bools (n : Nat) : (madeCells (Value.bool false).cells (n * 1)).toList = rowB (List.replicate n false) := by
  simp only [madeCells, rowB, Nat.mul_one]
  apply List.ext_getElem?
  intro i
  by_cases hi : i < n
  · simp [hi, Value.cells, Nat.mod_one]
  · simp [hi]
theorem mk_bools (w : World) (n : Nat) (hn : n ≤ 65536) : ∃ w', (Instr.makeSlice 59 (.int .i64 (n : Int)) (.int .i64 (n : Int))).run Faag.prog w = .ok (.slice (some ⟨w.heap.size, 0, none⟩) n n) w' ∧
    w'.ownsRow 0 4 1 (.slice (some ⟨w.heap.size, 0, none⟩) n n) n (rowB (List.replicate n false)) ∧ Keeps (fun _ => False) w w' := by
  obtain ⟨I, hI, hz, hsz, hby⟩ := info_of el_info5
  obtain ⟨w', h1, h2, h3⟩ := run_makeSlice_full (P := Faag.prog) w 0 59 4 I (.bool false) 1 bools_under hI hz hsz .i64 .i64 n (by omega) (by rw [hby]; omega) (by unfold maxLen; omega) (Nat.zero_le _)
  rw [made_bools] at h2
  exact ⟨w', h1, h2, (keeps_of_grown h3).mono (fun k _ e => by cases e)⟩
end Go.Proofs.Ygcfaa
