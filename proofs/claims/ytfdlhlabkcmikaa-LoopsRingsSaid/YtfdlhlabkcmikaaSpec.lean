/- Plain definitions: instructions and what is right of them; no condition. -/
import Derived.WalkKit
namespace Go.Proofs.Ytfdlhlabkcmikaa

/-- An instruction. -/
structure Ins where
  op : Int
  a : Int
  b : Int
  c : Int
  n : Int
  deriving DecidableEq

def Ins.cells (x : Ins) : List Value := [.int .u8 x.op, .int .u8 x.a, .int .u8 x.b, .int .u8 x.c, .int .i64 x.n]
def Ins.val (x : Ins) : Value := .agg #[.int .u8 x.op, .int .u8 x.a, .int .u8 x.b, .int .u8 x.c, .int .i64 x.n]
theorem Ins.cells_len (x : Ins) : x.cells.length = 5 := rfl

/-- The fields are within the limits of their types. -/
structure Ins.Ok (x : Ins) : Prop where
  op0 : 0 ≤ x.op
  op1 : x.op < 256
  a0 : 0 ≤ x.a
  a1 : x.a < 256
  b0 : 0 ≤ x.b
  b1 : x.b < 256
  c0 : 0 ≤ x.c
  c1 : x.c < 256
  n0 : -9223372036854775808 ≤ x.n
  n1 : x.n ≤ 9223372036854775807

/-- The form of an instruction: how many registers, and what of N: 0 nothing, 1 a number, 2 a port, 3 a target. -/
def formK (op : Int) : Option (Nat × Nat) :=
  if 32 < op ∧ op ≤ 49 then some (3, 0) else if op = 1 ∨ op = 2 then some (0, 0) else if op = 3 then some (1, 1) else if op = 4 ∨ op = 5 ∨ op = 6 ∨ op = 7 then some (2, 0) else
  if op = 8 then some (2, 2) else if op = 9 then some (0, 3) else if op = 10 ∨ op = 11 then some (1, 3) else none

def formStr (op : Int) : ByteArray :=
  match formK op with
  | some (3, 0) => ⟨#[114, 114, 114]⟩
  | some (1, 1) => ⟨#[114, 110]⟩
  | some (2, 0) => ⟨#[114, 114]⟩
  | some (2, 2) => ⟨#[114, 114, 112]⟩
  | some (0, 3) => ⟨#[116]⟩
  | some (1, 3) => ⟨#[114, 116]⟩
  | _ => ⟨#[]⟩

def nOk (k : Nat) (n : Int) : Bool :=
  match k with
  | 0 => n == 0
  | 1 => true
  | 2 => decide (0 ≤ n ∧ n < 16)
  | _ => decide (0 ≤ n ∧ n < 256)

def rOk (used : Bool) (r : Int) : Bool := if used then decide (r < 8) else r == 0

/-- Whether the operands of an instruction are right. -/
def opOk (x : Ins) : Bool :=
  match formK x.op with
  | none => false
  | some (r, k) => rOk (decide (0 < r)) x.a && rOk (decide (1 < r)) x.b && rOk (decide (2 < r)) x.c && nOk k x.n

/-- What is wrong with an instruction: code.One. -/
def oneE (x : Ins) : Int := if (formK x.op).isNone then 140 else if opOk x then 0 else 141

def goesB (x : Ins) : Bool := oneE x == 0 && x.op != 1 && x.op != 2 && x.op != 9
def isJump (op : Int) : Bool := op == 9 || op == 10 || op == 11
/-- code.Target. -/
def targetB (x : Ins) : Bool := oneE x == 0 && isJump x.op
def target (x : Ins) : Int := if targetB x then x.n else 0

/-- code.Check: the first instruction that is not right, and the error. -/
def checkFrom (len : Int) : List Ins → Int → Option (Int × Int)
  | [], _ => none
  | x :: l, k => if oneE x ≠ 0 then some (k, oneE x) else if targetB x ∧ len ≤ target x then some (k, 142) else checkFrom len l (k + 1)

def checkP (p : List Ins) : Int × Int :=
  if p.length = 0 then (-1, 6) else if 256 < p.length then (-1, 5) else
  match checkFrom p.length p 0 with
  | some r => r
  | none => match p.getLast? with
    | some x => if goesB x then ((p.length : Int) - 1, 143) else (-1, 0)
    | none => (-1, 0)

theorem formK_cases (op : Int) : formK op = none ∨ formK op = some (3, 0) ∨ formK op = some (0, 0) ∨ formK op = some (1, 1) ∨ formK op = some (2, 0) ∨ formK op = some (2, 2) ∨ formK op = some (0, 3) ∨ formK op = some (1, 3) := by
  unfold formK
  repeat' split
  all_goals simp

/-- What flow makes of the error of code.Check. -/
def ferr (c : Int) : Int := if c = 0 then 0 else 160

/-- flow.edges: where control can go from an instruction. -/
def edgesX (x : Ins) (i : Int) : List Int :=
  (if targetB x = true ∧ target x ≤ i then [target x] else []) ++ (if goesB x = true then [i + 1] else []) ++ (if targetB x = true ∧ i < target x ∧ (i + 1 < target x ∨ goesB x = false) then [target x] else [])

/-! ### The loop of code.One over the letters of a form -/
structure LSt where
  r0 : Int
  r1 : Int
  r2 : Int
  u : Nat
  n : Int

def LSt.get (s : LSt) : Int := if s.u = 0 then s.r0 else if s.u = 1 then s.r1 else s.r2
def LSt.zero (s : LSt) : LSt := if s.u = 0 then { s with r0 := 0, u := 1 } else if s.u = 1 then { s with r1 := 0, u := 2 } else { s with r2 := 0, u := 3 }
def stepL (s : LSt) (c : Nat) : LSt :=
  if c = 114 then (if s.get < 8 then s.zero else s) else if c = 110 then { s with n := 0 } else if c = 112 then (if 0 ≤ s.n ∧ s.n < 16 then { s with n := 0 } else s) else
  if 0 ≤ s.n ∧ s.n < 256 then { s with n := 0 } else s

def letters (op : Int) : List Nat := (formStr op).data.toList.map (·.toNat)

def goodL : List Nat → Nat → Prop
  | [], _ => True
  | c :: l, u => (c = 114 ∧ u ≤ 2 ∧ goodL l (u + 1) ∧ goodL l u) ∨ ((c = 110 ∨ c = 112 ∨ c = 116) ∧ goodL l u)

theorem letters_good (op : Int) : goodL (letters op) 0 := by
  unfold letters formStr
  rcases formK_cases op with h | h | h | h | h | h | h | h <;> simp [h, goodL]

theorem stepL_r0 {s : LSt} (hu : s.u = 0) (h : s.r0 < 8) : stepL s 114 = { s with r0 := 0, u := 1 } := by simp [stepL, LSt.get, LSt.zero, hu, h]
theorem stepL_r1 {s : LSt} (hu : s.u = 1) (h : s.r1 < 8) : stepL s 114 = { s with r1 := 0, u := 2 } := by simp [stepL, LSt.get, LSt.zero, hu, h]
theorem stepL_r2 {s : LSt} (hu : s.u = 2) (h : s.r2 < 8) : stepL s 114 = { s with r2 := 0, u := 3 } := by simp [stepL, LSt.get, LSt.zero, hu, h]
theorem stepL_no {s : LSt} (h : ¬ s.get < 8) : stepL s 114 = s := by simp [stepL, h]
theorem stepL_n (s : LSt) : stepL s 110 = { s with n := 0 } := by simp [stepL]
theorem stepL_p {s : LSt} (h : 0 ≤ s.n ∧ s.n < 16) : stepL s 112 = { s with n := 0 } := by simp [stepL, h]
theorem stepL_p' {s : LSt} (h : ¬ (0 ≤ s.n ∧ s.n < 16)) : stepL s 112 = s := by simp [stepL]; omega
theorem stepL_t {s : LSt} (h : 0 ≤ s.n ∧ s.n < 256) : stepL s 116 = { s with n := 0 } := by simp [stepL, h]
theorem stepL_t' {s : LSt} (h : ¬ (0 ≤ s.n ∧ s.n < 256)) : stepL s 116 = s := by simp [stepL]; omega

/-- What the loop comes to. -/
def lEnd (x : Ins) : LSt := (letters x.op).foldl stepL ⟨x.a, x.b, x.c, 0, x.n⟩

theorem lEnd_ok (x : Ins) (h : (formK x.op).isSome = true) : ((lEnd x).r0 = 0 ∧ (lEnd x).r1 = 0 ∧ (lEnd x).r2 = 0 ∧ (lEnd x).n = 0) ↔ opOk x = true := by
  unfold lEnd letters opOk formStr
  rcases formK_cases x.op with e | e | e | e | e | e | e | e
  · rw [e] at h; cases h
  all_goals simp only [e, List.map_cons, List.map_nil, List.foldl_cons, List.foldl_nil]
  · by_cases h1 : x.a < 8 <;> by_cases h2 : x.b < 8 <;> by_cases h3 : x.c < 8 <;> simp [stepL, LSt.get, LSt.zero, rOk, nOk, h1, h2, h3] <;> omega
  · simp [rOk, nOk, and_assoc]
  · by_cases h1 : x.a < 8 <;> simp [stepL, LSt.get, LSt.zero, rOk, nOk, h1] <;> omega
  · by_cases h1 : x.a < 8 <;> by_cases h2 : x.b < 8 <;> simp [stepL, LSt.get, LSt.zero, rOk, nOk, h1, h2] <;> omega
  · by_cases h1 : x.a < 8 <;> by_cases h2 : x.b < 8 <;> by_cases h3 : 0 ≤ x.n ∧ x.n < 16 <;> simp [stepL, LSt.get, LSt.zero, rOk, nOk, h1, h2, h3] <;> omega
  · by_cases h3 : 0 ≤ x.n ∧ x.n < 256 <;> simp [stepL, rOk, nOk, h3] <;> omega
  · by_cases h1 : x.a < 8 <;> by_cases h3 : 0 ≤ x.n ∧ x.n < 256 <;> simp [stepL, LSt.get, LSt.zero, rOk, nOk, h1, h3] <;> omega

theorem formK_jump {op : Int} (h : isJump op = true) : formK op = some (if op = 9 then 0 else 1, 3) := by
  have h' : op = 9 ∨ op = 10 ∨ op = 11 := by simp [isJump] at h; omega
  rcases h' with rfl | rfl | rfl <;> rfl
theorem target_range {x : Ins} (h : targetB x = true) : 0 ≤ target x ∧ target x < 256 := by
  have h1 : oneE x = 0 := by simp [targetB] at h; exact h.1
  have hj : isJump x.op = true := by simp [targetB] at h; exact h.2
  have hk := formK_jump hj
  unfold target
  rw [if_pos h]
  unfold oneE at h1
  rw [hk] at h1
  by_cases ho : opOk x = true
  · unfold opOk at ho
    rw [hk] at ho
    simp [nOk] at ho
    exact ho.2
  · simp [ho] at h1
theorem target_nonneg {x : Ins} (h : targetB x = true) : 0 ≤ target x := (target_range h).1
theorem target_lt {x : Ins} (h : targetB x = true) : target x < 256 := (target_range h).2
end Go.Proofs.Ytfdlhlabkcmikaa
