import Derived.Test.YgcfaaGreatPerm
import Derived.Test.YgcfaaGreatTwo
namespace Go
open Go.RowKit

/-! ### A region that draws its order: quiet operations first, then the head's others by the ready sets, then the tail. -/
section
variable {P : Program} {md : Region.Mode} {C : World → Prop} {Q : Exit → Act → World → Prop}

/-- What stands behind the head: the tail, in its order. -/
def TailL (P : Program) (md : Region.Mode) (l : List Oper) (Q : Exit → Act → World → Prop) (n : Nat) (listed : Array Bool) (a : Act) (w : World) : Prop :=
  Region.seqB md l.toArray (l.toArray.size - n) n listed = true ∧ wpList P l.toArray Q (l.drop n) a w

def Region.segQ (md : Region.Mode) (ops : Array Oper) (n : Nat) : List Nat → Array Bool → Bool
  | [], _ => true
  | i :: qs, listed => (Region.ready md ops listed).contains i && Region.free md ops listed i && decide (i < n) && ((ops[i]?).map (·.op.valueHead)).getD false && Region.segQ md ops n qs (listed.setIfInBounds i true)

theorem segH_quietG {n f : Nat} {l : List Oper} (hsel : Region.noSelect l.toArray = true) (hs : Region.sinkB md l.toArray n = true) (hc : Region.chainB md l.toArray n = true) (hn : n < l.toArray.size)
    (hQ : ∀ d v c a w, Q (.panic c) (Act.put a d v) w → Q (.panic c) a w) :
    ∀ (qs : List Nat) (listed : Array Bool) (a : Act) (w : World), Region.segQ md l.toArray n qs listed = true → HeadInv md l.toArray n listed → C w →
    wpQuiet P l.toArray C (fun a' => segH P md l.toArray C Q n (TailL P md l Q n) f (endL qs listed) a' w) (pickOps l qs) a →
    segH P md l.toArray C Q n (TailL P md l Q n) (qs.length + f) listed a w
  | [], listed, a, w, hB, inv, hw, h => by
    rw [List.length_nil, Nat.zero_add]
    exact h
  | i :: qs, listed, a, w, hB, inv, hw, h => by
    simp only [Region.segQ, Bool.and_eq_true, decide_eq_true_eq] at hB
    obtain ⟨⟨⟨⟨hr, hf⟩, hin⟩, hv⟩, hB'⟩ := hB
    have hr' : i ∈ Region.ready md l.toArray listed := by simpa using hr
    obtain ⟨_, o, ho, _⟩ := mem_ready.1 hr'
    have ho' : l[i]? = some o := by simpa using ho
    have hp : pickOps l (i :: qs) = o :: pickOps l qs := by simp [pickOps, ho']
    rw [hp] at h
    have hv' : o.op.valueHead = true := by simpa [ho'] using hv
    have hst : qOp P l.toArray C i (wpQuiet P l.toArray C (fun a' => segH P md l.toArray C Q n (TailL P md l Q n) f (endL (i :: qs) listed) a' w) (pickOps l qs)) a := by unfold qOp; simp only [ho]; exact h
    obtain ⟨v, hy, hK⟩ := yieldsIn_of_qOp ho hst
    rw [show (i :: qs).length + f = (qs.length + f) + 1 by simp only [List.length_cons]; omega]
    exact segH_first ho (Region.noSelect_spec hsel) hs hc hn hin (fun c a w => hQ _ _ c a w) (fun listed' a' w' hL => seqB_ready hL.1) _ listed a w inv (Region.free_spec ho hf) hr' (hy.still hv') hw
      (segH_quietG hsel hs hc hn hQ qs _ _ w hB' (inv.set hr' hin) hw hK)

def Region.segB (md : Region.Mode) (ops : Array Oper) (n : Nat) (qs : List Nat) (f : Nat) : Bool :=
  Region.noSelect ops && decide (n < ops.size) && Region.sinkB md ops n && Region.chainB md ops n && decide (qs.length + f = n) && Region.segQ md ops n qs (Array.replicate ops.size false)

theorem wp_region_seg {id : Nat} {a : Act} {w : World} {l : List Oper} (C : World → Prop) (n : Nat) (qs : List Nat) (f : Nat) (hm : P.follows .mixedOrders = true) (hB : Region.segB .any l.toArray n qs f = true)
    (hQ : ∀ d v c a w, Q (.panic c) (Act.put a d v) w → Q (.panic c) a w) (hC : C w.drew)
    (h : wpQuiet P l.toArray C (fun a' => segH P .any l.toArray C Q n (TailL P .any l Q n) f (endL qs (Array.replicate l.toArray.size false)) a' w.drew) (pickOps l qs) a) : (Code.region id l.toArray true).wp P Q a w := by
  simp only [Region.segB, Bool.and_eq_true, decide_eq_true_eq] at hB
  obtain ⟨⟨⟨⟨⟨hsel, hn⟩, hs⟩, hc⟩, hlen⟩, hq⟩ := hB
  have inv0 : HeadInv .any l.toArray n (Array.replicate l.toArray.size false) :=
    ⟨by simp, fun j oj _ hl => (by rw [getD_replicate_false] at hl; cases hl), fun t _ ht => getD_in (by simpa using ht) (getD_replicate_false _ _)⟩
  have hdl : (l.drop n).length = l.toArray.size - n := by simp
  have H := segH_quietG (P := P) (md := .any) (f := f) hsel hs hc hn hQ qs _ a w.drew hq inv0 hC h
  refine wp_region_any hm ?_
  have := wpAny_of_segH (g := l.toArray.size - n) (fun listed a' w' hL => by
    have := wpAny_of_seq (md := .any) (Q' := Q) (l.drop n) n listed a' w' (fun j => by simp [List.getElem?_drop]) (by rw [hdl]; exact hL.1) hL.2
    rwa [hdl] at this) _ _ _ _ H
  rw [hlen, show n + (l.toArray.size - n) = l.toArray.size by omega] at this
  exact this

theorem segH_at {n f i : Nat} {l : List Oper} {o : Oper} {L : Array Bool → Act → World → Prop} {listed : Array Bool} {a : Act} {w : World} (ho : l[i]? = some o)
    (h : wpList P l.toArray (aft Q (fun a' w' => C w' ∧ segH P md l.toArray C Q n L f (listed.setIfInBounds i true) a' w')) [o] a w) :
    wpOp P l.toArray Q i (fun a' w' => C w' ∧ segH P md l.toArray C Q n L f (listed.setIfInBounds i true) a' w') a w := by
  have ho' : l.toArray[i]? = some o := by simpa using ho
  unfold wpOp
  simp only [ho']
  unfold wpList at h
  split
  · rename_i hw
    rw [if_pos hw] at h
    exact (match h with | .inl h1 => .inl (wp_of_aft h1) | .inr h2 => .inr h2)
  · rename_i hw
    rw [if_neg hw] at h
    exact h
theorem segH_one {n f i : Nat} {l : List Oper} {o : Oper} {L : Array Bool → Act → World → Prop} {listed : Array Bool} {a : Act} {w : World} (hr : Region.ready md l.toArray listed = [i]) (ho : l[i]? = some o) (hi : i < n)
    (h : wpList P l.toArray (aft Q (fun a' w' => C w' ∧ segH P md l.toArray C Q n L f (listed.setIfInBounds i true) a' w')) [o] a w) : segH P md l.toArray C Q n L (f + 1) listed a w := by
  refine ⟨by rw [hr]; simp, fun x hx => ?_⟩
  rw [hr] at hx
  have : x = i := by simpa using hx
  subst this
  exact ⟨hi, segH_at ho h⟩
theorem segH_two {n f i j : Nat} {l : List Oper} {o u : Oper} {L : Array Bool → Act → World → Prop} {listed : Array Bool} {a : Act} {w : World} (hr : Region.ready md l.toArray listed = [i, j]) (ho : l[i]? = some o) (hu : l[j]? = some u) (hi : i < n) (hj : j < n)
    (h : wpList P l.toArray (aft Q (fun a' w' => C w' ∧ segH P md l.toArray C Q n L f (listed.setIfInBounds i true) a' w')) [o] a w)
    (h2 : wpList P l.toArray (aft Q (fun a' w' => C w' ∧ segH P md l.toArray C Q n L f (listed.setIfInBounds j true) a' w')) [u] a w) : segH P md l.toArray C Q n L (f + 1) listed a w := by
  refine ⟨by rw [hr]; simp, fun x hx => ?_⟩
  rw [hr] at hx
  have : x = i ∨ x = j := by simpa using hx
  rcases this with rfl | rfl
  · exact ⟨hi, segH_at ho h⟩
  · exact ⟨hj, segH_at hu h2⟩
theorem segH_three {n f i j k : Nat} {l : List Oper} {o u v : Oper} {L : Array Bool → Act → World → Prop} {listed : Array Bool} {a : Act} {w : World} (hr : Region.ready md l.toArray listed = [i, j, k]) (ho : l[i]? = some o) (hu : l[j]? = some u) (hv : l[k]? = some v) (hi : i < n) (hj : j < n) (hk : k < n)
    (h : wpList P l.toArray (aft Q (fun a' w' => C w' ∧ segH P md l.toArray C Q n L f (listed.setIfInBounds i true) a' w')) [o] a w)
    (h2 : wpList P l.toArray (aft Q (fun a' w' => C w' ∧ segH P md l.toArray C Q n L f (listed.setIfInBounds j true) a' w')) [u] a w)
    (h3 : wpList P l.toArray (aft Q (fun a' w' => C w' ∧ segH P md l.toArray C Q n L f (listed.setIfInBounds k true) a' w')) [v] a w) : segH P md l.toArray C Q n L (f + 1) listed a w := by
  refine ⟨by rw [hr]; simp, fun x hx => ?_⟩
  rw [hr] at hx
  have : x = i ∨ x = j ∨ x = k := by simpa using hx
  rcases this with rfl | rfl | rfl
  · exact ⟨hi, segH_at ho h⟩
  · exact ⟨hj, segH_at hu h2⟩
  · exact ⟨hk, segH_at hv h3⟩
end
end Go
