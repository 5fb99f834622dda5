/- loops.order: what it computes; plain. -/
import Derived.Test.YtfdlhlabkcmikaaSpec
namespace Go.Proofs.Ytfdlhlabkcmikaa

/-- Each number of a list: d more at its place. -/
def bumpAll (d : Int) (l ks : List Int) : List Int := ks.foldl (fun l k => l.set k.toNat (l[k.toNat]?.getD 0 + d)) l
/-- How many are to come before each instruction. -/
def leftOf (next : List (List Int)) : List Int := next.foldl (bumpAll 1) (List.replicate 256 0)

structure OS where
  left : List Int
  done : List Bool

def OS.can (reached : List Bool) (s : OS) (i : Nat) : Bool := reached[i]?.getD false && (!(s.done[i]?.getD false) && decide (s.left[i]?.getD 0 ≤ 0))
def OS.take (next : List (List Int)) (s : OS) (i : Nat) : OS := ⟨bumpAll (-1) s.left (next[i]?.getD []), s.done.set i true⟩
def OS.pick (reached : List Bool) (n : Nat) (s : OS) : Option Nat := (List.range n).find? (s.can reached)
def orderGo (reached : List Bool) (next : List (List Int)) (n : Nat) : Nat → OS → List Int
  | 0, _ => []
  | f + 1, s => match s.pick reached n with
    | some i => (i : Int) :: orderGo reached next n f (s.take next i)
    | none => []
def OS.start (next : List (List Int)) : OS := ⟨leftOf next, List.replicate 256 false⟩
def orderOf (reached : List Bool) (next : List (List Int)) (n : Nat) : List Int := orderGo reached next n 256 (OS.start next)

def undone (s : OS) : Nat := s.done.countP (!·)

theorem undone_take {next : List (List Int)} {s : OS} {i : Nat} (h : s.done[i]? = some false) : undone (s.take next i) + 1 = undone s := by
  obtain ⟨hi, h0⟩ := List.getElem?_eq_some_iff.1 h
  have hp : 0 < s.done.countP (!·) := List.countP_pos_iff.2 ⟨s.done[i], List.getElem_mem hi, by simp [h0]⟩
  unfold undone OS.take
  rw [List.countP_set hi]
  simp [h0]
  omega
theorem undone_pos {s : OS} {i : Nat} (h : s.done[i]? = some false) : 0 < undone s := by
  obtain ⟨hi, h0⟩ := List.getElem?_eq_some_iff.1 h
  exact List.countP_pos_iff.2 ⟨s.done[i], List.getElem_mem hi, by simp [h0]⟩

theorem pick_some {reached : List Bool} {n i : Nat} {s : OS} (hi : i < n) (hc : s.can reached i = true) (hb : ∀ j, j < i → s.can reached j = false) : s.pick reached n = some i := by
  unfold OS.pick
  rw [List.find?_eq_some_iff_append]
  refine ⟨hc, List.range i, (List.range' (i + 1) (n - (i + 1))), ?_, fun j hj => by simpa using hb j (by simpa using hj)⟩
  have h1 : List.range n = List.range' 0 n := List.range_eq_range'
  rw [h1, List.range_eq_range', show n = i + (1 + (n - (i + 1))) by omega, ← List.range'_append_1, ← List.range'_append_1]
  simp [List.range'_succ]
  congr 1
  omega
theorem pick_none {reached : List Bool} {n : Nat} {s : OS} (hb : ∀ j, j < n → s.can reached j = false) : s.pick reached n = none := by
  unfold OS.pick
  rw [List.find?_eq_none]
  intro j hj
  simp [hb j (by simpa using hj)]

theorem bumpAll_len (d : Int) (ks : List Int) : ∀ l : List Int, (bumpAll d l ks).length = l.length := by
  induction ks with
  | nil => exact fun _ => rfl
  | cons k ks ih => intro l; exact (ih _).trans (by simp)
theorem bumpAll_take {d : Int} {l ks : List Int} {k : Nat} {z : Int} (h : ks[k]? = some z) : bumpAll d l (ks.take (k + 1)) = (bumpAll d l (ks.take k)).set z.toNat ((bumpAll d l (ks.take k))[z.toNat]?.getD 0 + d) := by
  rw [List.take_add_one, h]
  simp [bumpAll, List.foldl_append]

/-- What each place holds behind a bump. -/
theorem bumpAll_get (d : Int) (ks : List Int) : ∀ (l : List Int) (j : Nat), (∀ k ∈ ks, 0 ≤ k ∧ k < (l.length : Int)) → j < l.length → (bumpAll d l ks)[j]?.getD 0 = l[j]?.getD 0 + d * (ks.count (j : Int) : Int) := by
  induction ks with
  | nil => intro l j _ _; simp [bumpAll]
  | cons k ks ih =>
    intro l j hk hj
    have hk0 := hk k (by simp)
    have := ih (l.set k.toNat (l[k.toNat]?.getD 0 + d)) j (fun k' hk' => by simpa using hk k' (by simp [hk'])) (by simpa using hj)
    rw [show bumpAll d l (k :: ks) = bumpAll d (l.set k.toNat (l[k.toNat]?.getD 0 + d)) ks from rfl, this]
    rw [List.count_cons]
    by_cases e : k = j
    · subst e
      have hj' : j < l.length := hj
      simp [hj', Int.mul_add]
      omega
    · have e' : ¬ k.toNat = j := by omega
      rw [List.getElem?_set_ne e']
      simp [e]

theorem leftGo_get (next : List (List Int)) : ∀ (l : List Int) (j : Nat), (∀ r ∈ next, ∀ k ∈ r, 0 ≤ k ∧ k < (l.length : Int)) → j < l.length →
    (next.foldl (bumpAll 1) l)[j]?.getD 0 = l[j]?.getD 0 + ((next.map fun r => r.count (j : Int)).sum : Nat) := by
  induction next with
  | nil => intro l j _ _; simp
  | cons r next ih =>
    intro l j hk hj
    rw [List.foldl_cons, ih _ j (fun r' hr' k hk' => by rw [bumpAll_len]; exact hk r' (by simp [hr']) k hk') (by rw [bumpAll_len]; exact hj), bumpAll_get 1 r l j (fun k hk' => hk r (by simp) k hk') hj]
    simp
    omega
theorem leftOf_get {next : List (List Int)} {j : Nat} (h : ∀ r ∈ next, ∀ k ∈ r, 0 ≤ k ∧ k < (256 : Int)) (hj : j < 256) : (leftOf next)[j]?.getD 0 = ((next.map fun r => r.count (j : Int)).sum : Nat) := by
  unfold leftOf
  have hl : (List.replicate 256 (0 : Int)).length = 256 := List.length_replicate
  have h0 : (List.replicate 256 (0 : Int))[j]?.getD 0 = 0 := by rw [List.getElem?_replicate, if_pos hj]; rfl
  rw [leftGo_get next _ j (by rw [hl]; exact h) (by rw [hl]; exact hj), h0]
  omega
theorem get_mem {l : List Int} {k : Nat} (h : k < l.length) : l[k]?.getD 0 ∈ l := by simp [h]
theorem bumpUp_bound (ks : List Int) : ∀ (l : List Int) (lo hi : Int), (∀ v ∈ l, lo ≤ v ∧ v ≤ hi) → ∀ v ∈ bumpAll 1 l ks, lo ≤ v ∧ v ≤ hi + ks.length := by
  induction ks with
  | nil => intro l lo hi h v hv; have := h v hv; simp; omega
  | cons k ks ih =>
    intro l lo hi h v hv
    have := ih (l.set k.toNat (l[k.toNat]?.getD 0 + 1)) lo (hi + 1) (fun u hu => ?_) v hv
    · simp; omega
    · by_cases hk : k.toNat < l.length
      · rcases List.mem_or_eq_of_mem_set hu with hu | rfl
        · have := h u hu; omega
        · have := h _ (get_mem hk); omega
      · rw [List.set_eq_of_length_le (by omega)] at hu
        have := h u hu; omega
theorem bumpDown_bound (ks : List Int) : ∀ (l : List Int) (lo hi : Int), (∀ v ∈ l, lo ≤ v ∧ v ≤ hi) → ∀ v ∈ bumpAll (-1) l ks, lo - ks.length ≤ v ∧ v ≤ hi := by
  induction ks with
  | nil => intro l lo hi h v hv; have := h v hv; simp; omega
  | cons k ks ih =>
    intro l lo hi h v hv
    have := ih (l.set k.toNat (l[k.toNat]?.getD 0 + -1)) (lo - 1) hi (fun u hu => ?_) v hv
    · simp; omega
    · by_cases hk : k.toNat < l.length
      · rcases List.mem_or_eq_of_mem_set hu with hu | rfl
        · have := h u hu; omega
        · have := h _ (get_mem hk); omega
      · rw [List.set_eq_of_length_le (by omega)] at hu
        have := h u hu; omega
theorem bumps_bound (next : List (List Int)) (m : Nat) (hm : ∀ r ∈ next, r.length ≤ m) : ∀ (l : List Int) (lo hi : Int), (∀ v ∈ l, lo ≤ v ∧ v ≤ hi) → ∀ v ∈ next.foldl (bumpAll 1) l, lo ≤ v ∧ v ≤ hi + m * next.length := by
  induction next with
  | nil => intro l lo hi h v hv; have := h v hv; simp; omega
  | cons r next ih =>
    intro l lo hi h v hv
    have h1 := ih (fun r' hr' => hm r' (by simp [hr'])) (bumpAll 1 l r) lo (hi + m) (fun u hu => ?_) v hv
    · rw [List.length_cons]
      have : ((next.length + 1 : Nat) : Int) = next.length + 1 := by omega
      rw [this, Int.mul_add]
      omega
    · have := bumpUp_bound r l lo hi h u hu
      have := hm r (by simp)
      omega
theorem bumps_len (next : List (List Int)) (d : Int) : ∀ l : List Int, (next.foldl (bumpAll d) l).length = l.length := by
  induction next with
  | nil => exact fun _ => rfl
  | cons r next ih => intro l; exact (ih _).trans (bumpAll_len _ _ _)
theorem orderGo_len {reached : List Bool} {next : List (List Int)} {n : Nat} : ∀ (f : Nat) (s : OS), (orderGo reached next n f s).length ≤ f := by
  intro f
  induction f with
  | zero => intro s; simp [orderGo]
  | succ f ih =>
    intro s
    unfold orderGo
    split
    · have := ih (s.take next ‹Nat›); simp; omega
    · simp
theorem orderGo_mem {reached : List Bool} {next : List (List Int)} {n : Nat} : ∀ (f : Nat) (s : OS), ∀ k ∈ orderGo reached next n f s, 0 ≤ k ∧ k < (n : Int) ∧ reached[k.toNat]?.getD false = true := by
  intro f
  induction f with
  | zero => intro s k hk; cases hk
  | succ f ih =>
    intro s k hk
    unfold orderGo at hk
    split at hk
    · rename_i i hi
      rcases List.mem_cons.1 hk with rfl | hk
      · have h1 := List.mem_of_find?_eq_some hi
        have h2 := List.find?_some hi
        simp at h1
        unfold OS.can at h2
        simp only [Bool.and_eq_true] at h2
        exact ⟨by omega, by omega, by simpa using h2.1⟩
      · exact ih _ k hk
    · cases hk
end Go.Proofs.Ytfdlhlabkcmikaa
