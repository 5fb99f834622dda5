/- fermatalaw14.Small.One: an instruction that is right. -/
import Derived.Test.YtfdlhlabkcmikaaMade0
namespace Go.Proofs.Ytfdlhlabkcmikaa
open Go.RowKit

structure MSt where
  a : Int
  b : Int
  c : Int
  u : Nat
  n : Int
def stepM (x : Ins) (U N : Int) (s : MSt) (c : Nat) : MSt :=
  if c = 114 then (if s.u = 0 then { s with a := x.a % 8, u := 1 } else if s.u = 1 then { s with b := x.b % 8, u := 2 } else { s with c := x.c % 8, u := 3 }) else
  if c = 110 then { s with n := x.n } else if c = 112 then { s with n := U % 16 } else { s with n := U % N }
theorem stepM_r0 {x : Ins} {U N a b c n : Int} : stepM x U N ⟨a, b, c, 0, n⟩ 114 = ⟨x.a % 8, b, c, 1, n⟩ := by simp [stepM]
theorem stepM_r1 {x : Ins} {U N a b c n : Int} : stepM x U N ⟨a, b, c, 1, n⟩ 114 = ⟨a, x.b % 8, c, 2, n⟩ := by simp [stepM]
theorem stepM_r2 {x : Ins} {U N a b c n : Int} : stepM x U N ⟨a, b, c, 2, n⟩ 114 = ⟨a, b, x.c % 8, 3, n⟩ := by simp [stepM]
theorem stepM_n {x : Ins} {U N a b c n : Int} {u : Nat} : stepM x U N ⟨a, b, c, u, n⟩ 110 = ⟨a, b, c, u, x.n⟩ := by simp [stepM]
theorem stepM_p {x : Ins} {U N a b c n : Int} {u : Nat} : stepM x U N ⟨a, b, c, u, n⟩ 112 = ⟨a, b, c, u, U % 16⟩ := by simp [stepM]
theorem stepM_t {x : Ins} {U N a b c n : Int} {u : Nat} : stepM x U N ⟨a, b, c, u, n⟩ 116 = ⟨a, b, c, u, U % N⟩ := by simp [stepM]

def mEnd (x : Ins) (U N : Int) : MSt := (letters (smallOp x.op)).foldl (stepM x U N) ⟨0, 0, 0, 0, 0⟩
def madeIns (x : Ins) (U N : Int) : Ins := ⟨smallOp x.op, (mEnd x U N).a, (mEnd x U N).b, (mEnd x U N).c, (mEnd x U N).n⟩

/-- What is made is right, and its target within the program. -/
theorem made_ok (x : Ins) (h : x.Ok) (U N : Int) (hN : 0 < N) (hN2 : N ≤ 256) : (madeIns x U N).Ok ∧ oneE (madeIns x U N) = 0 ∧ (targetB (madeIns x U N) = true → target (madeIns x U N) < N) := by
  obtain ⟨f1, f2, f3⟩ := smallOp_form x.op
  have a1 := Int.emod_nonneg x.a (b := 8) (by decide)
  have a2 := Int.emod_lt_of_pos x.a (b := 8) (by decide)
  have b1 := Int.emod_nonneg x.b (b := 8) (by decide)
  have b2 := Int.emod_lt_of_pos x.b (b := 8) (by decide)
  have c1 := Int.emod_nonneg x.c (b := 8) (by decide)
  have c2 := Int.emod_lt_of_pos x.c (b := 8) (by decide)
  have u1 := Int.emod_nonneg U (b := 16) (by decide)
  have u2 := Int.emod_lt_of_pos U (b := 16) (by decide)
  have v1 := Int.emod_nonneg U (b := N) (by omega)
  have v2 := Int.emod_lt_of_pos U hN
  have n0 := h.n0
  have n1 := h.n1
  have key : (madeIns x U N).Ok ∧ opOk (madeIns x U N) = true ∧ (isJump (smallOp x.op) = true → (madeIns x U N).n < N) := by
    have hj : isJump (smallOp x.op) = true → formK (smallOp x.op) = some (0, 3) ∨ formK (smallOp x.op) = some (1, 3) := fun h => by
      rw [formK_jump h]; split <;> simp
    unfold opOk madeIns mEnd letters formStr
    simp only
    generalize smallOp x.op = op at *
    rcases formK_cases op with e | e | e | e | e | e | e | e
    · rw [e] at f3; cases f3
    all_goals
      rw [e] at hj
      simp only [e, List.map_cons, List.map_nil, List.foldl_cons, List.foldl_nil, UInt8.toNat_ofNat, Nat.reducePow, Nat.reduceMod, stepM_r0, stepM_r1, stepM_r2, stepM_n, stepM_p, stepM_t]
      refine ⟨⟨?_, ?_, ?_, ?_, ?_, ?_, ?_, ?_, ?_, ?_⟩, ?_, ?_⟩
      all_goals first | omega | (simp [rOk, nOk]; omega) | (simp [rOk, nOk]; done) | (intro h; have := hj h; simp at this) | (intro _; simp only; omega)
  obtain ⟨k1, k2, k3⟩ := key
  have k4 : oneE (madeIns x U N) = 0 := by
    unfold oneE
    have : (formK (madeIns x U N).op).isNone = false := by show (formK (smallOp x.op)).isNone = false; cases e : formK (smallOp x.op) <;> simp_all
    rw [this, if_neg (by decide), if_pos k2]
  refine ⟨k1, k4, fun ht => ?_⟩
  have hj : isJump (smallOp x.op) = true := by simp [targetB] at ht; exact ht.2
  unfold target
  rw [if_pos ht]
  exact k3 hj
end Go.Proofs.Ytfdlhlabkcmikaa
