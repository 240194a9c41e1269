import Derived.Test.YgcfaaGreatMoRoom
import Derived.Test.YgcfaaGreatMoHang
namespace Go.Proofs.YgcfaaGreat
open Go.RowKit Bits Bd
set_option linter.unusedVariables false
set_option maxRecDepth 100000

theorem made_words' (n : Nat) : (madeCells #[Value.int .u64 0] n).toList = cellsK .u64 (List.replicate n 0) := by
  have := made_words n
  rw [Nat.mul_one] at this
  exact this
/-- What every operation of the model hands back. -/
def MOut (w : World) (p : Nat) (h : Nat → Value) (n : Nat) (e : Ending) (w' : World) : Prop := (∃ b, e = .returned (.bool b)) ∧ ∃ h' M', MS w p h n w' h' M' ∧ InvM M'
section
variable {w w' : World} {p : Nat} {h : Nat → Value} {M : Mo}
theorem MOut.no (m : HM true w p h M) (v : InvM M) (b : Below w.heap.size w w') (r : Bool) : MOut w p h M.N.length (.returned (.bool r)) w' := ⟨⟨_, rfl⟩, h, M, (MS.refl m).below b, v⟩
theorem invM_room (v : InvM M) {H I k : Nat} {q : Ptr} (r : RoomP M H I q k) (hk : 1 ≤ k) {nd : Nd} (hnd : NewN nd) (htw : twB nd 0 0 ≤ words q) : InvM (M.hang H I nd (words q)) := by
  obtain ⟨r1, r2, r3, r4, r5, r6⟩ := r
  unfold Mo.len at r5
  exact inv_hang v r1 r2 r3 (by omega) (by omega) hnd htw
theorem words_list {X N : Nat} (hw : words ⟨2, 0, 0, 0, X, N⟩ ≤ 256) (h7 : ¬ X = 7) : N ≤ 128 ∧ ((2 ≤ X ∧ X ≤ 5 ∧ words ⟨2, 0, 0, 0, X, N⟩ = (N * 2 ^ (X - 2) + 7) / 8) ∨ (X = 6 ∧ words ⟨2, 0, 0, 0, X, N⟩ = N)) := by
  unfold words at hw ⊢
  dsimp only at hw ⊢
  rw [if_neg (by omega), if_neg (by omega)] at hw ⊢
  by_cases hN : 128 < N
  · rw [if_pos (.inr hN)] at hw; omega
  · rw [if_neg (by omega)] at hw ⊢
    refine ⟨by omega, ?_⟩
    by_cases h25 : 2 ≤ X ∧ X ≤ 5
    · rw [if_pos h25]
      refine .inl ⟨h25.1, h25.2, ?_⟩
      unfold width
      rw [if_neg (by omega)]
    · rw [if_neg h25] at hw ⊢
      by_cases h6 : X = 6
      · rw [if_pos h6]; exact .inr ⟨h6, rfl⟩
      · rw [if_neg h6, if_neg (fun q => h7 q.1)] at hw; omega
theorem new_words {X N : Nat} (h2 : 2 ≤ X) (h5 : X ≤ 5) (hN : N ≤ 128) {data : List Nat} (hl : data.length = N) (hd : ∀ j, j < N → data.getD j 0 ≤ limC X) : NewN ⟨2, X, data, []⟩ := by
  refine ⟨fun j hj => absurd hj (Nat.not_lt_zero _), ?_⟩
  rw [if_neg (by dsimp only; omega)]
  refine ⟨rfl, by dsimp only; omega, Nat.zero_le _, ?_⟩
  rw [if_pos ⟨h2, h5⟩]
  exact ⟨fun j hj => hd j (by dsimp only at hj; omega), rfl⟩
theorem getD_rep0 (N j : Nat) : (List.replicate N 0).getD j 0 = 0 := by
  rw [List.getD_eq_getElem?_getD, List.getElem?_replicate]; split <;> rfl
theorem new_ptrs {N : Nat} (hN : N ≤ 128) : NewN ⟨2, 6, [], List.replicate N (-1)⟩ := by
  refine ⟨fun j hj => ?_, ?_⟩
  · have hj' : j < (List.replicate N (-1 : Int)).length := hj
    rw [List.length_replicate] at hj'
    show (List.replicate N (-1 : Int)).getD j 0 = -1
    rw [List.getD_eq_getElem?_getD, List.getElem?_replicate, if_pos hj']; rfl
  · rw [if_neg (by dsimp only; omega)]
    refine ⟨rfl, Nat.zero_le _, by show (List.replicate N (-1 : Int)).length ≤ 128; rw [List.length_replicate]; exact hN, ?_⟩
    rw [if_neg (by dsimp only; omega), if_neg (by dsimp only; omega)]
    exact ⟨rfl, rfl⟩
theorem new_structs : NewN ⟨2, 7, [], []⟩ := by
  refine ⟨fun j hj => absurd hj (Nat.not_lt_zero _), ?_⟩
  rw [if_neg (by dsimp only; omega)]
  refine ⟨rfl, by decide, by decide, ?_⟩
  rw [if_neg (by dsimp only; omega), if_pos rfl]
  exact ⟨rfl, rfl⟩
theorem new_struct {d q : Nat} (hd : d ≤ 8) (hq : q ≤ 8) : NewN (stN d q) := by
  refine ⟨fun j hj => stN_kid d q j hj, ?_⟩
  rw [if_pos (show (stN d q).kind = 1 from rfl)]
  exact ⟨rfl, by show (List.replicate d 0).length ≤ 8; rw [List.length_replicate]; exact hd, by show (List.replicate q (-1 : Int)).length ≤ 8; rw [List.length_replicate]; exact hq⟩
theorem ok_ptrs {N : Nat} (hN : N ≤ 128) : (⟨2, 6, [], List.replicate N (-1)⟩ : Nd).Ok := by
  refine ⟨by dsimp only; omega, by dsimp only; omega, fun d hd => ?_, fun k hk => ?_, Nat.zero_le _, ?_⟩
  · cases hd
  · have : k = -1 := List.eq_of_mem_replicate hk
    omega
  · show (List.replicate N (-1 : Int)).length ≤ 1000
    rw [List.length_replicate]; omega
theorem ok_words {X N : Nat} (hX : X < 256) (hN : N ≤ 1000) {data : List Nat} (hl : data.length = N) (hd : ∀ d ∈ data, d < 18446744073709551616) : (⟨2, X, data, []⟩ : Nd).Ok :=
  ⟨by dsimp only; omega, hX, hd, (fun k hk => by cases hk), by dsimp only; omega, Nat.zero_le _⟩
theorem ok_struct {d q : Nat} (hd : d ≤ 255) (hq : q ≤ 255) : (stN d q).Ok := by
  refine ⟨by show 1 < 256; omega, by show 0 < 256; omega, fun y hy => ?_, fun y hy => ?_, ?_, ?_⟩
  · have : y = 0 := List.eq_of_mem_replicate hy
    omega
  · have : y = -1 := List.eq_of_mem_replicate hy
    omega
  · show (List.replicate d 0).length ≤ 1000
    rw [List.length_replicate]; omega
  · show (List.replicate q (-1 : Int)).length ≤ 1000
    rw [List.length_replicate]; omega
end
end Go.Proofs.YgcfaaGreat
