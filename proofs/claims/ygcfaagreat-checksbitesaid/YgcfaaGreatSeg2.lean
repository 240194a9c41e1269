import Derived.Test.YgcfaaGreatSeg
namespace Go
open Go.RowKit

section
variable {P : Program} {md : Region.Mode} {C : World → Prop} {Q : Exit → Act → World → Prop}
/-- HeadInv, by looking. -/
def Region.headB (md : Region.Mode) (ops : Array Oper) (n : Nat) (listed : Array Bool) : Bool :=
  decide (listed.size = ops.size) && (List.range ops.size).all fun i =>
    (!listed.getD i false || ((ops[i]?).map fun o => o.after.all fun e => !Region.binds md e || listed.getD e.on false).getD true) && (decide (i < n) || !listed.getD i true)
theorem headB_spec {ops : Array Oper} {n : Nat} {listed : Array Bool} (h : Region.headB md ops n listed = true) : HeadInv md ops n listed := by
  unfold Region.headB at h
  rw [Bool.and_eq_true, decide_eq_true_eq, List.all_eq_true] at h
  obtain ⟨h1, h2⟩ := h
  refine ⟨h1, fun j oj hj hl e he hb => ?_, fun t ht hlt => ?_⟩
  · have hlt : j < ops.size := by
      rcases Nat.lt_or_ge j ops.size with q | q
      · exact q
      · rw [Array.getElem?_eq_none q] at hj; cases hj
    have := h2 j (List.mem_range.2 hlt)
    rw [hj, Bool.and_eq_true, hl] at this
    have h3 := this.1
    simp only [Bool.not_true, Bool.false_or, Option.map_some, Option.getD_some] at h3
    have h4 := Array.all_eq_true_iff_forall_mem.1 h3 e he
    rw [hb] at h4
    simpa using h4
  · have := h2 t (List.mem_range.2 hlt)
    rw [Bool.and_eq_true] at this
    have h3 := this.2
    rw [Bool.or_eq_true, decide_eq_true_eq] at h3
    rcases h3 with q | q
    · omega
    · simpa using q
def Region.moreB (md : Region.Mode) (ops : Array Oper) (n : Nat) (qs : List Nat) (listed : Array Bool) : Bool :=
  Region.noSelect ops && decide (n < ops.size) && Region.sinkB md ops n && Region.chainB md ops n && Region.segQ md ops n qs listed && Region.headB md ops n listed
/-- Quiet operations again. -/
theorem segH_more {n f : Nat} {l : List Oper} (qs : List Nat) {listed : Array Bool} {a : Act} {w : World} (hB : Region.moreB md l.toArray n qs listed = true)
    (hQ : ∀ d v c a w, Q (.panic c) (Act.put a d v) w → Q (.panic c) a w) (hw : C w)
    (h : wpQuiet P l.toArray C (fun a' => segH P md l.toArray C Q n (TailL P md l Q n) f (endL qs listed) a' w) (pickOps l qs) a) :
    segH P md l.toArray C Q n (TailL P md l Q n) (qs.length + f) listed a w := by
  simp only [Region.moreB, Bool.and_eq_true, decide_eq_true_eq] at hB
  obtain ⟨⟨⟨⟨⟨hsel, hn⟩, hs⟩, hc⟩, hq⟩, hh⟩ := hB
  exact segH_quietG hsel hs hc hn hQ qs listed a w hq (headB_spec hh) hw h
end
end Go
