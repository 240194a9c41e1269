import Derived.Test.YgcfaaTakesB
import Derived.Test.YgcfaaTakesC
import Derived.Test.YgcfaaTakesD
import Derived.Test.YgcfaaTakesE
namespace Go.Proofs.Ygcfaa
open Go.RowKit Bits Bd Utf
set_option linter.unusedVariables false

theorem takes_calls (op : Opn) (hop : op.Ok) (hs : op.s.size ≤ 140737488355328) (c2 : Bool) (hc2 : c2 = true ↔ contentP op.s) {w : World} {b : Nat} {r : Value} {s : Nat → Value} {K : Bk} (hb : HK w b r s K) (fit : K.Fit) (fit2 : K.Fit2) (fit3 : K.Fit3) :
    Calls Faag.prog 35 #[.pointer (some ⟨b, 0, none⟩), .agg (opC op).toArray] w (KOut b r s K w (takesK K op c2)) := by
  by_cases hl : op.h < K.e.length ∧ (K.at_ op.h).dead = false
  · by_cases k0 : op.kind = 0
    · exact takes_0 op hop hb fit fit2 fit3 hl.1 hl.2 k0 (by unfold takesK; rw [if_pos hl, if_pos k0])
    by_cases k1 : op.kind = 1
    · exact takes_1 op hop hb fit fit2 fit3 hl.1 hl.2 k1 (by unfold takesK; rw [if_pos hl, if_neg k0, if_pos k1])
    by_cases k2 : op.kind = 2
    · exact takes_2 op hop hb fit fit2 fit3 hl.1 hl.2 k2 hs c2 hc2 (by unfold takesK; rw [if_pos hl, if_neg k0, if_neg k1, if_pos k2])
    by_cases k3 : op.kind = 3
    · exact takes_3 op hop hb fit fit2 fit3 hl.1 hl.2 k3 (decide ((op.x = 0 ∨ op.x = 3 ∨ op.x = 4 ∨ op.x = 5 ∨ op.x = 6) ∧ (K.at_ op.h).kind = 1 ∧ (op.n + 1) * 2 ^ op.x ≤ 64 * (K.at_ op.h).data)) (by rw [decide_eq_true_iff]) (by
        unfold takesK
        rw [if_pos hl, if_neg k0, if_neg k1, if_neg k2, if_pos k3]
        simp only [decide_eq_true_eq])
    by_cases k4 : op.kind = 4
    · exact takes_4 op hop hb fit fit2 fit3 hl.1 hl.2 k4 (decide ((K.at_ op.h).kind = 2 ∧ 2 ≤ (K.at_ op.h).code ∧ (K.at_ op.h).code ≤ 5 ∧ op.n < (K.at_ op.h).count)) (by rw [decide_eq_true_iff]) (by
        unfold takesK
        rw [if_pos hl, if_neg k0, if_neg k1, if_neg k2, if_neg k3, if_pos k4]
        simp only [decide_eq_true_eq])
    by_cases k5 : op.kind = 5
    · exact takes_5 op hop hb fit fit2 fit3 hl.1 hl.2 k5 (by unfold takesK; rw [if_pos hl, if_neg k0, if_neg k1, if_neg k2, if_neg k3, if_neg k4, if_pos k5])
    · exact takes_other op hop hb fit fit2 fit3 hl.1 hl.2 (by omega) (by unfold takesK; rw [if_pos hl, if_neg k0, if_neg k1, if_neg k2, if_neg k3, if_neg k4, if_neg k5])
  · exact takes_none op hop hb fit fit2 fit3 hl (by unfold takesK; rw [if_neg hl])
end Go.Proofs.Ygcfaa
