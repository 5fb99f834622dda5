/- fermatalaw20.awake: the programs of the chapter; plain. -/
import Derived.Test.YtfdlhlabkcmikaaShort
import Derived.KernelRfl
namespace Go.Proofs.Ytfdlhlabkcmikaa
open Go.RowKit Go.Shelf

def p1 : List Ins := [⟨10, 0, 0, 0, 3⟩, ⟨3, 1, 0, 0, 1⟩, ⟨9, 0, 0, 0, 0⟩, ⟨1, 0, 0, 0, 0⟩]
def p2 : List Ins := [⟨10, 0, 0, 0, 2⟩, ⟨3, 1, 0, 0, 1⟩, ⟨10, 1, 0, 0, 4⟩, ⟨3, 1, 0, 0, 2⟩, ⟨1, 0, 0, 0, 0⟩]
def p3 : List Ins := [⟨9, 0, 0, 0, 0⟩, ⟨1, 0, 0, 0, 0⟩]

theorem p1_ok : ∀ x ∈ p1, x.Ok := by
  intro x hx
  simp [p1] at hx
  rcases hx with rfl | rfl | rfl | rfl <;> constructor <;> decide
theorem p2_ok : ∀ x ∈ p2, x.Ok := by
  intro x hx
  simp [p2] at hx
  rcases hx with rfl | rfl | rfl | rfl | rfl <;> constructor <;> decide
theorem p3_ok : ∀ x ∈ p3, x.Ok := by
  intro x hx
  simp [p3] at hx
  rcases hx with rfl | rfl <;> constructor <;> decide

theorem p1_c : (checkP p1).2 = 0 := by kernel_rfl
theorem p2_c : (checkP p2).2 = 0 := by kernel_rfl
theorem p3_c : (checkP p3).2 = 0 := by kernel_rfl
theorem p1_s : shortX p1 = 2 := by kernel_rfl
theorem p2_s : shortX p2 = 3 := by kernel_rfl
theorem p3_s : shortX p3 = 0 := by kernel_rfl
theorem p1_r0 : ringsRaw p1 = [sortI [0, 1, 2]] := by kernel_rfl
theorem p2_r : ringsRaw p2 = [] := by kernel_rfl
theorem p2_o : orderX p2 = [0, 1, 2, 3, 4] := by kernel_rfl
theorem p2_l : longX p2 = 5 := by kernel_rfl
theorem p2_n : countX p2 = 4 := by kernel_rfl
theorem sort012 : sortI [0, 1, 2] = [0, 1, 2] := by
  unfold sortI
  exact List.mergeSort_of_pairwise (by decide)
theorem p1_r : ringsRaw p1 = [[0, 1, 2]] := by rw [p1_r0, sort012]
end Go.Proofs.Ytfdlhlabkcmikaa
