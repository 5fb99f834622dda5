/- loops.Longest, Count: what they compute, and what their loops know; plain. -/
import Derived.Test.YtfdlhlabkcmikaaBack
import Derived.LoopIn
namespace Go.Proofs.Ytfdlhlabkcmikaa
open Go.RowKit Go.Shelf

def z256 : List Int := List.replicate 256 0
theorem z256_len : z256.length = 256 := List.length_replicate
theorem z256_mem : ∀ v ∈ z256, v = 0 := fun _ hv => List.eq_of_mem_replicate hv

/-- One number of an array is reckoned anew out of those that come next. -/
def innerLong (i : Nat) (m : List Int) (k : Int) : List Int := m.set i (max (m[i]?.getD 0) (1 + m[k.toNat]?.getD 0))
def stepLong (next : List (List Int)) (m : List Int) (x : Int × Int) : List Int := (next[x.2.toNat]?.getD []).foldl (innerLong x.2.toNat) (m.set x.2.toNat 1)
def longX (p : List Ins) : Int := ((backX (orderX p) (orderX p).length).foldl (stepLong (nextX p)) z256)[0]?.getD 0

def maxCount : Int := 1152921504606846976
def innerCount (i : Nat) (m : List Int) (k : Int) : List Int := m.set i (min (m[i]?.getD 0 + m[k.toNat]?.getD 0) maxCount)
def stepCount (next : List (List Int)) (m : List Int) (x : Int × Int) : List Int :=
  if (next[x.2.toNat]?.getD []).isEmpty = true then m.set x.2.toNat 1 else (next[x.2.toNat]?.getD []).foldl (innerCount x.2.toNat) m
def countX (p : List Ins) : Int := ((backX (orderX p) (orderX p).length).foldl (stepCount (nextX p)) z256)[0]?.getD 0

theorem innerLong_len (i : Nat) (m : List Int) (k : Int) : (innerLong i m k).length = m.length := by simp [innerLong]
theorem innersLong_len (i : Nat) (ks : List Int) : ∀ m : List Int, (ks.foldl (innerLong i) m).length = m.length := by
  induction ks with
  | nil => exact fun _ => rfl
  | cons k ks ih => intro m; exact (ih _).trans (innerLong_len _ _ _)
theorem getD_le {m : List Int} {b : Int} (h : ∀ v ∈ m, 0 ≤ v ∧ v ≤ b) (hb : 0 ≤ b) (j : Nat) : 0 ≤ m[j]?.getD 0 ∧ m[j]?.getD 0 ≤ b := by
  rcases get_mem_or (l := m) j with e | e
  · rw [e]; omega
  · exact h _ e
theorem innersLong_bound (i : Nat) (ks : List Int) : ∀ (m : List Int) (b : Int), 0 ≤ b → (∀ v ∈ m, 0 ≤ v ∧ v ≤ b) → ∀ v ∈ ks.foldl (innerLong i) m, 0 ≤ v ∧ v ≤ b + ks.length := by
  induction ks with
  | nil => intro m b _ h v hv; have := h v hv; simp; omega
  | cons k ks ih =>
    intro m b hb h v hv
    have := ih (innerLong i m k) (b + 1) (by omega) (fun u hu => ?_) v hv
    · simp; omega
    · rcases List.mem_or_eq_of_mem_set hu with hu | rfl
      · have := h u hu; omega
      · have h1 := getD_le h hb i
        have h2 := getD_le h hb k.toNat
        omega
theorem stepLong_bound {next : List (List Int)} (hr : ∀ r ∈ next, r.length ≤ 3) {m : List Int} {x : Int × Int} {b : Int} (hb : 0 ≤ b) (h : ∀ v ∈ m, 0 ≤ v ∧ v ≤ b) : ∀ v ∈ stepLong next m x, 0 ≤ v ∧ v ≤ b + 4 := by
  intro v hv
  have := innersLong_bound x.2.toNat (next[x.2.toNat]?.getD []) (m.set x.2.toNat 1) (b + 1) (by omega) (fun u hu => ?_) v hv
  · have h3 : (next[x.2.toNat]?.getD []).length ≤ 3 := by
      cases e : next[x.2.toNat]? with
      | none => simp
      | some r => exact hr r (List.mem_of_getElem? e)
    omega
  · rcases List.mem_or_eq_of_mem_set hu with hu | rfl
    · have := h u hu; omega
    · omega
theorem stepsLong_bound {next : List (List Int)} (hr : ∀ r ∈ next, r.length ≤ 3) : ∀ (xs : List (Int × Int)) {m : List Int} {b : Int}, 0 ≤ b → (∀ v ∈ m, 0 ≤ v ∧ v ≤ b) → ∀ v ∈ xs.foldl (stepLong next) m, 0 ≤ v ∧ v ≤ b + 4 * xs.length := by
  intro xs
  induction xs with
  | nil => intro m b _ h v hv; have := h v hv; simp; omega
  | cons x xs ih =>
    intro m b hb h v hv
    have := ih (m := stepLong next m x) (b := b + 4) (by omega) (stepLong_bound hr hb h) v hv
    simp; omega
theorem stepsLong_len (next : List (List Int)) : ∀ (xs : List (Int × Int)) (m : List Int), (xs.foldl (stepLong next) m).length = m.length := by
  intro xs
  induction xs with
  | nil => exact fun _ => rfl
  | cons x xs ih => intro m; refine (ih _).trans ?_; unfold stepLong; rw [innersLong_len]; simp

theorem innersCount_len (i : Nat) (ks : List Int) : ∀ m : List Int, (ks.foldl (innerCount i) m).length = m.length := by
  induction ks with
  | nil => exact fun _ => rfl
  | cons k ks ih => intro m; exact (ih _).trans (by simp [innerCount])
theorem innersCount_bound (i : Nat) (ks : List Int) : ∀ (m : List Int), (∀ v ∈ m, 0 ≤ v ∧ v ≤ maxCount) → ∀ v ∈ ks.foldl (innerCount i) m, 0 ≤ v ∧ v ≤ maxCount := by
  induction ks with
  | nil => exact fun _ h => h
  | cons k ks ih =>
    intro m h
    refine ih (innerCount i m k) (fun u hu => ?_)
    have hm : (0 : Int) ≤ maxCount := by unfold maxCount; omega
    rcases List.mem_or_eq_of_mem_set hu with hu | rfl
    · exact h u hu
    · have h1 := getD_le h hm i
      have h2 := getD_le h hm k.toNat
      omega
theorem stepsCount_len (next : List (List Int)) : ∀ (xs : List (Int × Int)) (m : List Int), (xs.foldl (stepCount next) m).length = m.length := by
  intro xs
  induction xs with
  | nil => exact fun _ => rfl
  | cons x xs ih =>
    intro m
    refine (ih _).trans ?_
    unfold stepCount
    split
    · simp
    · rw [innersCount_len]
theorem stepsCount_bound (next : List (List Int)) : ∀ (xs : List (Int × Int)) {m : List Int}, (∀ v ∈ m, 0 ≤ v ∧ v ≤ maxCount) → ∀ v ∈ xs.foldl (stepCount next) m, 0 ≤ v ∧ v ≤ maxCount := by
  intro xs
  induction xs with
  | nil => exact fun h => h
  | cons x xs ih =>
    intro m h
    refine ih (m := stepCount next m x) ?_
    unfold stepCount
    split
    · intro v hv
      rcases List.mem_or_eq_of_mem_set hv with hv | rfl
      · exact h v hv
      · unfold maxCount; omega
    · exact innersCount_bound _ _ _ h

theorem backX_mem {l : List Int} : ∀ (g : Nat), g ≤ l.length → ∀ x ∈ backX l g, x.2 ∈ l := by
  intro g
  induction g with
  | zero => intro _ x hx; cases hx
  | succ g ih =>
    intro hg x hx
    rcases List.mem_cons.1 hx with rfl | hx
    · have : g < l.length := by omega
      simp [this]
    · exact ih (by omega) x hx
theorem backX_len (l : List Int) : ∀ g : Nat, (backX l g).length = g := by
  intro g
  induction g with
  | zero => rfl
  | succ g ih => simp [backX, ih]

/-- An array of numbers that a loop over an iterator writes; what was there before stands. -/
structure Arr (w : World) (Mb : Nat) (m : List Int) (T : Nat → Prop) (W : World) : Prop where
  blk : Blk W Mb 71 (intsC m)
  tge : ∀ b, T b → w.heap.size ≤ b
  keeps : Keeps (fun b => b < w.heap.size ∧ b ≠ Mb) w W
  lt : Mb < w.heap.size

theorem Arr.calm (w : World) (Mb : Nat) (m : List Int) : Calm (Arr w Mb m) := by
  rintro T X Y ⟨h1, h2, h3, h4⟩ hk
  have hs := h3.size
  refine ⟨h1.keeps hk (fun h => by have := h2 _ h; omega), ?_, h3.trans (hk.mono fun b _ hb h => by have := h2 _ h; omega), h4⟩
  rintro b (h | ⟨h, -⟩)
  · exact h2 b h
  · omega
theorem Arr.step {w : World} {Mb : Nat} {m m' : List Int} {T : Nat → Prop} {W W' : World} (h : Arr w Mb m T W) (hb : Blk W' Mb 71 (intsC m')) (hk : Keeps (fun b => b ≠ Mb) W W') : Arr w Mb m' T W' :=
  ⟨hb, h.tge, h.keeps.trans (hk.mono fun _ _ h => h.2), h.lt⟩
end Go.Proofs.Ytfdlhlabkcmikaa
