/- fermatalaw20.straight: what it makes; plain. -/
import Derived.Test.YtfdlhlabkcmikaaMade
import Derived.Test.YtfdlhlabkcmikaaDist0
namespace Go.Proofs.Ytfdlhlabkcmikaa
open Go.RowKit

def fwdIns (N i : Int) (x : Ins) : Ins := if targetB x = true then { x with n := i + 1 + x.n % (N - 1 - i) } else x
def fwdUpto (p : List Ins) (k : Nat) : List Ins := p.mapIdx fun i x => if i < k then fwdIns p.length i x else x

theorem fwdUpto_len (p : List Ins) (k : Nat) : (fwdUpto p k).length = p.length := by simp [fwdUpto]
theorem fwdUpto_zero (p : List Ins) : fwdUpto p 0 = p := by
  apply List.ext_getElem (by simp [fwdUpto])
  intro i h1 h2
  simp [fwdUpto]
theorem fwdUpto_get {p : List Ins} {k i : Nat} {x : Ins} (hx : p[i]? = some x) : (fwdUpto p k)[i]? = some (if i < k then fwdIns p.length i x else x) := by
  obtain ⟨h, rfl⟩ := List.getElem?_eq_some_iff.1 hx
  simp [fwdUpto, h]
theorem fwdUpto_set {p : List Ins} {k : Nat} {x : Ins} (hx : p[k]? = some x) : (fwdUpto p k).set k (fwdIns p.length k x) = fwdUpto p (k + 1) := by
  obtain ⟨h, rfl⟩ := List.getElem?_eq_some_iff.1 hx
  apply List.ext_getElem (by simp [fwdUpto])
  intro i h1 h2
  by_cases e : k = i
  · subst e; simp [fwdUpto]
  · rw [List.getElem_set_ne e]
    simp only [fwdUpto, List.getElem_mapIdx]
    by_cases h3 : i < k
    · rw [if_pos h3, if_pos (by omega)]
    · rw [if_neg h3, if_neg (by omega)]
theorem fwdUpto_same {p : List Ins} {k : Nat} {x : Ins} (hx : p[k]? = some x) (ht : targetB x = false) : fwdUpto p k = fwdUpto p (k + 1) := by
  rw [← fwdUpto_set hx]
  have : fwdIns p.length k x = x := by unfold fwdIns; rw [if_neg (by rw [ht]; decide)]
  rw [this]
  have h2 := fwdUpto_get (k := k) hx
  rw [if_neg (Nat.lt_irrefl _)] at h2
  obtain ⟨h3, h4⟩ := List.getElem?_eq_some_iff.1 h2
  apply List.ext_getElem (by simp)
  intro j h1 h2
  by_cases e : k = j
  · subst e; simp [h4]
  · rw [List.getElem_set_ne e]

theorem target_eq {x : Ins} (h : targetB x = true) : target x = x.n := by unfold target; rw [if_pos h]
theorem target_op {x y : Ins} (ho : y.op = x.op) (h1 : oneE x = 0) (h2 : oneE y = 0) : targetB y = targetB x := by unfold targetB; rw [ho, h1, h2]

theorem fwd_good {N i : Int} {x : Ins} (h : Good N x) (hi : 0 ≤ i) (hN : N ≤ 256) (ht : targetB x = true) (hl : i < N - 1) :
    Good N (fwdIns N i x) ∧ targetB (fwdIns N i x) = true ∧ i < target (fwdIns N i x) := by
  have hn := target_range ht
  have hx := target_eq ht
  rw [hx] at hn
  have m1 := Int.emod_nonneg x.n (b := N - 1 - i) (by omega)
  have m2 := Int.emod_lt_of_pos x.n (b := N - 1 - i) (by omega)
  have e : fwdIns N i x = { x with n := i + 1 + x.n % (N - 1 - i) } := by unfold fwdIns; rw [if_pos ht]
  rw [e]
  generalize x.n % (N - 1 - i) = r at m1 m2
  have hj : isJump x.op = true := by simp [targetB] at ht; exact ht.2
  have ho1 : opOk x = true := by
    have h1 := h.one
    unfold oneE at h1
    rw [formK_jump hj] at h1
    by_cases ho : opOk x = true
    · exact ho
    · simp [ho] at h1
  have ho2 : opOk { x with n := i + 1 + r } = true := by
    unfold opOk at ho1 ⊢
    simp only [formK_jump hj] at ho1 ⊢
    simp only [Bool.and_eq_true] at ho1 ⊢
    exact ⟨ho1.1, by simp [nOk]; omega⟩
  have h2 : oneE { x with n := i + 1 + r } = 0 := by
    unfold oneE
    simp only [formK_jump hj]
    rw [if_neg (by simp), if_pos ho2]
  have h3 : targetB { x with n := i + 1 + r } = true := by rw [target_op (x := x) (y := { x with n := i + 1 + r }) rfl h.one h2]; exact ht
  have hk := h.ok
  refine ⟨⟨⟨hk.op0, hk.op1, hk.a0, hk.a1, hk.b0, hk.b1, hk.c0, hk.c1, by show _ ≤ i + 1 + r; omega, by show i + 1 + r ≤ _; omega⟩, h2, fun _ => ?_⟩, h3, ?_⟩
  · rw [target_eq h3]; show i + 1 + r < N; omega
  · rw [target_eq h3]; show i < i + 1 + r; omega

/-- A program whose instructions are right, and whose last one does not go on. -/
theorem check_good {p : List Ins} (hg : ∀ x ∈ p, Good p.length x) (h0 : 0 < p.length) (h1 : p.length ≤ 256) (hl : ∀ x, p.getLast? = some x → goesB x = false) : (checkP p).2 = 0 := by
  have key : ∀ (q : List Ins) (k : Int), (∀ x ∈ q, Good p.length x) → checkFrom p.length q k = none := by
    intro q
    induction q with
    | nil => intro k _; rfl
    | cons x q ih =>
      intro k h
      have hx := h x (by simp)
      unfold checkFrom
      rw [if_neg (by rw [hx.one]; decide), if_neg (fun h => by have := hx.lead h.1; omega)]
      exact ih _ (fun y hy => h y (by simp [hy]))
  unfold checkP
  rw [if_neg (by omega), if_neg (by omega), key p 0 hg]
  cases e : p.getLast? with
  | none => rfl
  | some x => simp [hl x e]

/-- What straight makes of a program that Made makes. -/
structure Strt (p : List Ins) : Prop where
  ok : ∀ x ∈ p, x.Ok
  right : (checkP p).2 = 0
  up : ∀ (i : Nat) (x : Ins), p[i]? = some x → targetB x = true → (i : Int) < target x

theorem straight_ok {q : List Ins} (hq : ∀ x ∈ q, Good (q.length + 1) x) (hl : q.length ≤ 40) : Strt (fwdUpto (q ++ [halt]) (q.length + 1)) := by
  have hlen : (q ++ [halt]).length = q.length + 1 := by simp
  have hlc : ((q ++ [halt]).length : Int) = q.length + 1 := by simp
  have hg : ∀ x ∈ q ++ [halt], Good (q.length + 1) x := fun x hx => by
    rcases List.mem_append.1 hx with hx | hx
    · exact hq x hx
    · simp at hx; rw [hx]; exact halt_good
  have hlast : ∀ (i : Nat) (x : Ins), (q ++ [halt])[i]? = some x → targetB x = true → (i : Int) < q.length := fun i x hx ht => by
    have hi := (List.getElem?_eq_some_iff.1 hx).1
    rw [hlen] at hi
    by_cases e : i = q.length
    · subst e
      rw [List.getElem?_append_right (Nat.le_refl _), Nat.sub_self] at hx
      simp at hx
      rw [← hx] at ht
      have e : targetB halt = false := by kernel_rfl
      rw [e] at ht; cases ht
    · omega
  have hall : ∀ (i : Nat) (y : Ins), (fwdUpto (q ++ [halt]) (q.length + 1))[i]? = some y → Good (q.length + 1) y ∧ (targetB y = true → (i : Int) < target y) := by
    intro i y hy
    have hi : i < (q ++ [halt]).length := by have := (List.getElem?_eq_some_iff.1 hy).1; rwa [fwdUpto_len] at this
    have hx : (q ++ [halt])[i]? = some (q ++ [halt])[i] := List.getElem?_eq_getElem hi
    rw [fwdUpto_get hx, if_pos (by omega)] at hy
    obtain rfl : fwdIns (q ++ [halt]).length i (q ++ [halt])[i] = y := by simpa using hy
    have hgx := hg _ (List.getElem_mem hi)
    rw [hlc]
    generalize hxx : (q ++ [halt])[i] = x at hx hgx
    by_cases ht : targetB x = true
    · have := fwd_good (i := i) hgx (by omega) (by omega) ht (by have := hlast i x hx ht; omega)
      exact ⟨this.1, fun _ => this.2.2⟩
    · have e : fwdIns (q.length + 1) i x = x := by unfold fwdIns; rw [if_neg ht]
      rw [e]
      exact ⟨hgx, fun h => absurd h ht⟩
  refine ⟨fun x hx => ?_, check_good (fun x hx => ?_) (by rw [fwdUpto_len]; omega) (by rw [fwdUpto_len]; omega) (fun x hx => ?_), fun i x hx => (hall i x hx).2⟩
  · obtain ⟨i, hi⟩ := List.mem_iff_getElem?.1 hx
    exact (hall i x hi).1.ok
  · obtain ⟨i, hi⟩ := List.mem_iff_getElem?.1 hx
    rw [fwdUpto_len, hlc]
    exact (hall i x hi).1
  · rw [List.getLast?_eq_getElem?, fwdUpto_len, hlen] at hx
    have h2 : (q ++ [halt])[q.length + 1 - 1]? = some halt := by simp
    rw [fwdUpto_get h2, if_pos (by omega)] at hx
    obtain rfl : fwdIns (q ++ [halt]).length (q.length + 1 - 1 : Nat) halt = x := by simpa using hx
    have e : fwdIns (q ++ [halt]).length (q.length + 1 - 1 : Nat) halt = halt := by
      unfold fwdIns
      have e : targetB halt = false := by kernel_rfl
      rw [if_neg (by rw [e]; decide)]
    rw [e]
    exact (by kernel_rfl : goesB halt = false)
end Go.Proofs.Ytfdlhlabkcmikaa
