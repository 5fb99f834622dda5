/- fermatalaw14.Small.op, One: instructions that are right. -/
import Derived.Test.YtfdlhlabkcmikaaCode
namespace Go.Proofs.Ytfdlhlabkcmikaa
open Go.RowKit

def opTab : List Int := [3, 3, 3, 3, 3, 4, 5, 5, 5, 6, 6, 6, 7, 8, 8, 9, 10, 10, 10, 11, 11, 1, 2]
def smallOp (op : Int) : Int := if op % 40 < 17 then 33 + op % 40 else opTab.getD (op % 40 - 17).toNat 0

theorem smallOp_form (op : Int) : 0 ≤ smallOp op ∧ smallOp op < 256 ∧ (formK (smallOp op)).isSome = true := by
  unfold smallOp
  have h1 := Int.emod_nonneg op (b := 40) (by decide)
  have h2 := Int.emod_lt_of_pos op (b := 40) (by decide)
  generalize op % 40 = k at *
  split
  · refine ⟨by omega, by omega, ?_⟩
    unfold formK
    rw [if_pos (by omega)]
    rfl
  · have h3 : k = 17 ∨ k = 18 ∨ k = 19 ∨ k = 20 ∨ k = 21 ∨ k = 22 ∨ k = 23 ∨ k = 24 ∨ k = 25 ∨ k = 26 ∨ k = 27 ∨ k = 28 ∨ k = 29 ∨ k = 30 ∨ k = 31 ∨ k = 32 ∨ k = 33 ∨ k = 34 ∨ k = 35 ∨ k = 36 ∨ k = 37 ∨ k = 38 ∨ k = 39 := by omega
    rcases h3 with rfl | rfl | rfl | rfl | rfl | rfl | rfl | rfl | rfl | rfl | rfl | rfl | rfl | rfl | rfl | rfl | rfl | rfl | rfl | rfl | rfl | rfl | rfl <;> decide

set_option maxHeartbeats 4000000 in
theorem smallop_any (x : Ins) (w : World) (h : x.Ok) : Calls Try.prog 50 #[x.val] w fun e w' => e = .returned (.int .u8 (smallOp x.op)) ∧ Below w.heap.size w w' := by
  obtain ⟨o0, o1, -, -, -, -, -, -, -, -⟩ := h
  unfold Ins.val smallOp
  have h1 := Int.emod_nonneg x.op (b := 40) (by decide)
  have h2 := Int.emod_lt_of_pos x.op (b := 40) (by decide)
  by_cases hk : x.op % 40 < 17
  · rw [if_pos hk]
    go_enter Try.func50, Try.ntmps50
    go_wp2_with fail
    go_ret
    exact ⟨rfl, by repeat (first | exact Below.refl _ _ | (refine Below.alloc ?_ (by simp) _))⟩
  · rw [if_neg hk]
    have h3 : x.op % 40 = 17 ∨ x.op % 40 = 18 ∨ x.op % 40 = 19 ∨ x.op % 40 = 20 ∨ x.op % 40 = 21 ∨ x.op % 40 = 22 ∨ x.op % 40 = 23 ∨ x.op % 40 = 24 ∨ x.op % 40 = 25 ∨ x.op % 40 = 26 ∨ x.op % 40 = 27 ∨ x.op % 40 = 28 ∨ x.op % 40 = 29 ∨ x.op % 40 = 30 ∨ x.op % 40 = 31 ∨ x.op % 40 = 32 ∨ x.op % 40 = 33 ∨ x.op % 40 = 34 ∨ x.op % 40 = 35 ∨ x.op % 40 = 36 ∨ x.op % 40 = 37 ∨ x.op % 40 = 38 ∨ x.op % 40 = 39 := by omega
    clear h1 h2 hk
    rcases h3 with hk | hk | hk | hk | hk | hk | hk | hk | hk | hk | hk | hk | hk | hk | hk | hk | hk | hk | hk | hk | hk | hk | hk
    all_goals
      rw [hk]
      go_enter Try.func50, Try.ntmps50
      go_wp2_with fail
      go_ret
      exact ⟨rfl, by repeat (first | exact Below.refl _ _ | (refine Below.alloc ?_ (by simp) _))⟩
end Go.Proofs.Ytfdlhlabkcmikaa
