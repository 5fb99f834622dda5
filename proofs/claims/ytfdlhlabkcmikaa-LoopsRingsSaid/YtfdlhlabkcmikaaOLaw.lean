/- LoopsOrder: the plain law. -/
import Derived.Test.YtfdlhlabkcmikaaAwake
import Derived.Test.YtfdlhlabkcmikaaStr
namespace Go.Proofs.Ytfdlhlabkcmikaa
open Go.RowKit Go.Shelf

theorem addTo_mem {i m k : Int} {ls : List (List Int)} {j : Nat} (hk : 0 ≤ k ∧ k < (ls.length : Int)) : m ∈ (addTo i ls k)[j]?.getD [] ↔ m ∈ ls[j]?.getD [] ∨ (m = i ∧ (j : Int) = k) := by
  unfold addTo
  by_cases e : k.toNat = j
  · subst e
    have hl : k.toNat < ls.length := by omega
    have he : ((k.toNat : Nat) : Int) = k := by omega
    simp [hl, he]
  · rw [List.getElem?_set_ne e]
    constructor
    · exact .inl
    · rintro (h | ⟨-, h⟩)
      · exact h
      · omega
theorem addAll_mem {i m : Int} {j : Nat} : ∀ (ks : List Int) {ls : List (List Int)}, (∀ k ∈ ks, 0 ≤ k ∧ k < (ls.length : Int)) → (m ∈ (addAll i ls ks)[j]?.getD [] ↔ m ∈ ls[j]?.getD [] ∨ (m = i ∧ (j : Int) ∈ ks)) := by
  intro ks
  induction ks with
  | nil => intro ls _; simp [addAll]
  | cons k ks ih =>
    intro ls h
    show m ∈ (addAll i (addTo i ls k) ks)[j]?.getD [] ↔ _
    rw [ih (fun k' hk' => by rw [addTo_len]; exact h k' (by simp [hk'])), addTo_mem (h k (by simp))]
    simp only [List.mem_cons]
    constructor
    · rintro ((h | ⟨h, h'⟩) | ⟨h, h'⟩)
      · exact .inl h
      · exact .inr ⟨h, .inl h'⟩
      · exact .inr ⟨h, .inr h'⟩
    · rintro (h | ⟨h, h' | h'⟩)
      · exact .inl (.inl h)
      · exact .inl (.inr ⟨h, h'⟩)
      · exact .inr ⟨h, h'⟩
theorem beforeOf_mem {n : Nat} {m : Int} {j : Nat} : ∀ (q : List Ins) (i : Nat) {ls : List (List Int)}, ls.length = n → (∀ (t : Nat) (x : Ins), q[t]? = some x → ∀ k ∈ edgesX x ((i + t : Nat) : Int), 0 ≤ k ∧ k < (n : Int)) →
    (m ∈ (beforeOf n q i ls)[j]?.getD [] ↔ m ∈ ls[j]?.getD [] ∨ ∃ (t : Nat) (x : Ins), q[t]? = some x ∧ m = ((i + t : Nat) : Int) ∧ (j : Int) ∈ edgesX x ((i + t : Nat) : Int)) := by
  intro q
  induction q with
  | nil => intro i ls _ _; simp [beforeOf]
  | cons x q ih =>
    intro i ls hl h
    have h0 := h 0 x rfl
    simp only [Nat.add_zero] at h0
    show m ∈ (beforeOf n q (i + 1) (addAll i ls (edgesX x i)))[j]?.getD [] ↔ _
    rw [ih (i + 1) (by rw [addAll_len, hl]) (fun t y hy k hk => h (t + 1) y (by simpa using hy) k (by rwa [show i + (t + 1) = i + 1 + t by omega])), addAll_mem _ (by rw [hl]; exact h0)]
    constructor
    · rintro ((h | ⟨h, h'⟩) | ⟨t, y, h1, h2, h3⟩)
      · exact .inl h
      · exact .inr ⟨0, x, rfl, by simpa using h, by simpa using h'⟩
      · exact .inr ⟨t + 1, y, by simpa using h1, by rw [h2]; omega, by rwa [show i + (t + 1) = i + 1 + t by omega]⟩
    · rintro (h | ⟨t, y, h1, h2, h3⟩)
      · exact .inl (.inl h)
      · cases t with
        | zero =>
          simp at h1
          subst h1
          exact .inl (.inr ⟨by simpa using h2, by simpa using h3⟩)
        | succ t => exact .inr ⟨t, y, by simpa using h1, by rw [h2]; omega, by rwa [show i + 1 + t = i + (t + 1) by omega]⟩

/-- From where control can go to an instruction. -/
theorem before_mem {p : List Ins} (hR : Right p) {j : Nat} {l : List Int} (hl : (beforeX p)[j]? = some l) (m : Int) : m ∈ l ↔ ∃ (t : Nat) (x : Ins), p[t]? = some x ∧ m = t ∧ (j : Int) ∈ edgesX x t := by
  have h := beforeOf_mem (m := m) (j := j) p 0 (ls := List.replicate p.length []) (List.length_replicate) (fun t x hx k hk => by rw [Nat.zero_add] at hk; exact hR.edges t x hx k hk)
  have he : (beforeOf p.length p 0 (List.replicate p.length []))[j]?.getD [] = l := by
    show (beforeX p)[j]?.getD [] = l
    rw [hl]; rfl
  rw [he] at h
  rw [h]
  have h0 : (List.replicate p.length ([] : List Int))[j]?.getD [] = [] := by
    cases e : (List.replicate p.length ([] : List Int))[j]? with
    | none => rfl
    | some l => rw [List.eq_of_mem_replicate (List.mem_of_getElem? e)]; rfl
  rw [h0]
  simp only [Nat.zero_add, List.not_mem_nil, false_or]

theorem beforeOf_bound {n : Nat} : ∀ (q : List Ins) (i : Nat) {L : Nat} {ls : List (List Int)}, (∀ l ∈ ls, l.length ≤ L) → ∀ l ∈ beforeOf n q i ls, l.length ≤ L + 3 * q.length := by
  intro q
  induction q with
  | nil => intro i L ls h l hl; have := h l hl; omega
  | cons x q ih =>
    intro i L ls h l hl
    have h3 := edgesX_len x i
    have := ih (i + 1) (L := L + 3) (ls := addAll i ls (edgesX x i)) (fun l hl => by have := addAll_bound (edgesX x i) h l hl; omega) l hl
    simp; omega
theorem beforeX_len {p : List Ins} {k : Nat} {l : List Int} (h : (beforeX p)[k]? = some l) : l.length ≤ 3 * p.length := by
  have := beforeOf_bound (n := p.length) p 0 (L := 0) (ls := List.replicate p.length []) (fun l hl => by rw [List.eq_of_mem_replicate hl]; simp) l (List.mem_of_getElem? h)
  omega

/-! ### Programs whose ways all lead ahead -/
theorem edges_up {p : List Ins} (hs : Strt p) : ∀ (i : Nat) (x : Ins), p[i]? = some x → ∀ k ∈ edgesX x i, (i : Int) < k := by
  intro i x hx k hk
  unfold edgesX at hk
  rcases List.mem_append.1 hk with hk | hk
  · rcases List.mem_append.1 hk with hk | hk
    · split at hk
      · rename_i h
        have := hs.up i x hx h.1
        simp at hk; omega
      · cases hk
    · split at hk
      · simp at hk; omega
      · cases hk
  · split at hk
    · rename_i h
      simp at hk; omega
    · cases hk
theorem next_up {p : List Ins} (hs : Strt p) : ∀ (i : Nat) (r : List Int), (nextX p)[i]? = some r → ∀ k ∈ r, (i : Int) < k ∧ k < p.length := by
  intro i r hr k hk
  have hb := nextX_bound (right_of hs.right) i r hr k hk
  have hi : i < p.length := by have := (List.getElem?_eq_some_iff.1 hr).1; rwa [nextX_len] at this
  have e : nextAt p i = r := by simpa [nextX, hi] using hr
  rw [← e] at hk
  unfold nextAt at hk
  split at hk
  · have hx : p[i]? = some p[i] := List.getElem?_eq_getElem hi
    rw [hx] at hk
    exact ⟨edges_up hs i _ hx k hk, hb.2⟩
  · cases hk
theorem strt_fwd {p : List Ins} (hs : Strt p) : Fwd (reachedX p) (nextX p) p.length := by
  refine ⟨(right_of hs.right).le, nextX_len p, next_up hs, fun i hi => ?_⟩
  by_cases h : i < p.length
  · have : (nextX p)[i]? = some (nextAt p i) := by simp [nextX, h]
    rw [this]
    unfold nextAt
    rw [hi]
    rfl
  · have : (nextX p)[i]? = none := by rw [List.getElem?_eq_none_iff, nextX_len]; omega
    rw [this]; rfl
theorem strt_rings {p : List Ins} (hs : Strt p) : ringsRaw p = [] := by
  have hR := right_of hs.right
  obtain ⟨h1, h2⟩ := TI.start p.length
  have h0 : TS.start.index[0]?.getD 0 = 0 := by
    show (List.replicate 256 (0 : Int))[0]?.getD 0 = 0
    rw [List.getElem?_replicate, if_pos (by decide)]; rfl
  have := dag_visit hR.le (next_up hs) 256 0 TS.start h1 hR.pos h0 (by omega) (fun j _ => by
    show (List.replicate 256 false)[j]?.getD false = false
    rw [List.getElem?_replicate]; split <;> rfl)
  exact this.out

def isReached (p : List Ins) (i : Nat) : Bool := (reachedX p)[i]?.getD false
theorem strt_order {p : List Ins} (hs : Strt p) : orderX p = ((List.range p.length).filter (isReached p)).map (fun i : Nat => (i : Int)) := order_fwd (strt_fwd hs)

theorem order_mem {p : List Ins} (hs : Strt p) (z : Nat) : (z : Int) ∈ orderX p ↔ z < p.length ∧ isReached p z = true := by
  rw [strt_order hs]
  simp only [List.mem_map, List.mem_filter, List.mem_range]
  constructor
  · rintro ⟨a, h, e⟩
    obtain rfl : a = z := by omega
    exact h
  · exact fun h => ⟨z, h, rfl⟩

/-- What comes ahead of a place in the order. -/
theorem order_take {p : List Ins} (hs : Strt p) {t i : Nat} (h : (orderX p)[t]? = some (i : Int)) (k : Nat) : ((orderX p).take t).contains (k : Int) = (decide (k < i) && isReached p k) := by
  have hsort : (orderX p).Pairwise (· < ·) := by
    rw [strt_order hs, List.pairwise_map]
    refine (List.Pairwise.filter _ List.pairwise_lt_range).imp ?_
    intro a b h; omega
  have hmem := order_mem hs
  have hi := (hmem i).1 (List.mem_of_getElem? h)
  have hlt : ∀ z : Int, z ∈ (orderX p).take t ↔ z ∈ orderX p ∧ z < i := by
    intro z
    have ht := (List.getElem?_eq_some_iff.1 h).1
    have hd : orderX p = (orderX p).take t ++ (i : Int) :: (orderX p).drop (t + 1) := by
      have e1 := List.drop_eq_getElem_cons ht
      rw [(List.getElem?_eq_some_iff.1 h).2] at e1
      rw [← e1, List.take_append_drop]
    rw [hd] at hsort
    rw [List.pairwise_append] at hsort
    obtain ⟨s1, s2, s3⟩ := hsort
    rw [List.pairwise_cons] at s2
    constructor
    · intro hz
      exact ⟨List.mem_of_mem_take hz, s3 z hz i (by simp)⟩
    · rintro ⟨hz, hzi⟩
      rw [hd] at hz
      rcases List.mem_append.1 hz with hz | hz
      · exact hz
      · rcases List.mem_cons.1 hz with rfl | hz
        · omega
        · have := s2.1 z hz; omega
  rw [Bool.eq_iff_iff]
  simp only [List.contains_iff_mem, Bool.and_eq_true, decide_eq_true_eq]
  rw [hlt, hmem]
  constructor
  · rintro ⟨⟨-, h⟩, h'⟩; exact ⟨by omega, h⟩
  · rintro ⟨h1, h2⟩; exact ⟨⟨by omega, h2⟩, by omega⟩

/-- What the closure of LoopsOrder asks of an instruction. -/
def cloB (n : Nat) (rl : List Bool) (dl : List Int) (m : Int) : Bool := decide (0 ≤ m) && (decide (m < n) && (rl[m.toNat]?.getD false && !dl.contains m))
def canB (n : Nat) (rl : List Bool) (dl : List Int) (l : List Int) (k : Nat) : Bool := rl[k]?.getD false && (!dl.contains (k : Int) && !l.any (cloB n rl dl))

/-- THE LAW: no instruction can come ahead of the one that comes, and that one can. -/
theorem order_law {p : List Ins} (hs : Strt p) {t i k : Nat} (h : (orderX p)[t]? = some (i : Int)) {l : List Int} (hl : (beforeX p)[k]? = some l) :
    ((canB p.length (reachedX p) ((orderX p).take t) l k && decide (k < i)) || (decide (k = i) && !canB p.length (reachedX p) ((orderX p).take t) l k)) = false := by
  have hc := order_take hs h
  have hi := (order_mem hs i).1 (List.mem_of_getElem? h)
  by_cases h1 : k < i
  · have h2 : canB p.length (reachedX p) ((orderX p).take t) l k = false := by
      unfold canB
      rw [hc k]
      show (isReached p k && _) = false
      cases isReached p k <;> simp [h1]
    rw [h2]
    simp
    omega
  · by_cases h3 : k = i
    · subst h3
      have h2 : canB p.length (reachedX p) ((orderX p).take t) l k = true := by
        unfold canB
        rw [hc k]
        have ha : l.any (cloB p.length (reachedX p) ((orderX p).take t)) = false := by
          rw [List.any_eq_false]
          intro m hm hcl
          obtain ⟨j, x, hx, rfl, hj⟩ := (before_mem (right_of hs.right) hl m).1 hm
          have hjk := edges_up hs j x hx _ hj
          unfold cloB at hcl
          rw [hc j] at hcl
          simp only [Bool.and_eq_true, Int.toNat_natCast, Bool.not_eq_true'] at hcl
          obtain ⟨-, -, h5, h6⟩ := hcl
          have h7 : isReached p j = true := h5
          rw [h7] at h6
          simp at h6
          omega
        rw [ha]
        show (isReached p k && _) = true
        rw [hi.2]
        simp
      rw [h2]
      simp
    · simp [h1, h3]

theorem bfs_len {p : List Ins} (hR : Right p) : ∀ (m : Nat) (out wave : List Int), DI p.length out wave → (bfsGo p m out wave).length = p.length := by
  intro m
  induction m with
  | zero => intro out wave h; exact h.len
  | succ m ih =>
    intro out wave h
    cases wave with
    | nil => rw [bfsGo_nil]; exact h.len
    | cons i0 rest =>
      obtain ⟨i1, i2, i3⟩ := h.wav i0 (by simp)
      obtain ⟨i, rfl⟩ : ∃ i : Nat, i0 = i := ⟨i0.toNat, by omega⟩
      have hx : p[i]? = some (p[i]'(by omega)) := List.getElem?_eq_getElem (by omega)
      rw [bfsGo_cons hx]
      have hI2 : DI p.length out rest := ⟨h.len, h.val, fun k' hk' => h.wav k' (by simp [hk'])⟩
      obtain ⟨hI3, -, -⟩ := hI2.steps (edgesX _ i) (by simpa using i3) (hR.edges i _ hx)
      exact ih _ _ hI3
theorem reachedX_len {p : List Ins} (hR : Right p) : (reachedX p).length = p.length := by
  unfold reachedX
  rw [List.length_map]
  exact bfs_len hR _ _ _ (DI.start hR.pos).1
theorem order_count {p : List Ins} (hs : Strt p) : (orderX p).length = (reachedX p).countP id := by
  have hl := reachedX_len (right_of hs.right)
  have hm : reachedX p = (List.range p.length).map (isReached p) := by
    apply List.ext_getElem (by simp [hl])
    intro i h1 h2
    simp [isReached, h1]
  rw [strt_order hs, List.length_map, ← List.countP_eq_length_filter, hm, List.countP_map]
  rfl
end Go.Proofs.Ytfdlhlabkcmikaa
