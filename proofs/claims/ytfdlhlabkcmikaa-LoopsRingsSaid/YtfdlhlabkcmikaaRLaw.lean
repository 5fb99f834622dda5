/- loops.Rings: what its rings are; plain. -/
import Derived.Test.YtfdlhlabkcmikaaBfs
namespace Go.Proofs.Ytfdlhlabkcmikaa
open Go.RowKit Go.Shelf

/-! ### The rings -/
structure RL (p : List Ins) (out : List (List Int)) : Prop where
  ne : ∀ r ∈ out, r ≠ []
  sorted : ∀ r ∈ out, r.Pairwise (· ≤ ·)
  lt : out.Pairwise (fun a b => headI a < headI b)
  each : ∀ r ∈ out, r.Nodup
  apart : out.Pairwise (fun a b => ∀ x ∈ a, x ∉ b)
  bd : ∀ r ∈ out, ∀ i ∈ r, 0 ≤ i ∧ i < p.length ∧ (reachedX p)[i.toNat]?.getD false = true
  nex : ∀ r ∈ out, ∀ i ∈ r, ∃ k ∈ nx (nextX p) i, k ∈ r
  bef : ∀ r ∈ out, ∀ i ∈ r, ∃ u ∈ r, i ∈ nx (nextX p) u

theorem sortI_perm (l : List Int) : (sortI l).Perm l := List.mergeSort_perm _ _
theorem sortI_sorted (l : List Int) : (sortI l).Pairwise (· ≤ ·) := by
  have := List.pairwise_mergeSort (le := fun x y : Int => decide (x ≤ y)) (fun a b c h1 h2 => by simp at *; omega) (fun a b => by simp; omega) l
  exact this.imp (fun h => by simpa using h)
theorem nodup_flatten {L : List (List Int)} : L.flatten.Nodup ↔ (∀ l ∈ L, l.Nodup) ∧ L.Pairwise (fun a b => ∀ x ∈ a, x ∉ b) := by
  unfold List.Nodup
  rw [List.pairwise_flatten]
  constructor
  · rintro ⟨h1, h2⟩
    exact ⟨h1, h2.imp (fun h x hx hy => h x hx x hy rfl)⟩
  · rintro ⟨h1, h2⟩
    refine ⟨h1, h2.imp ?_⟩
    intro a b h x hx y hy e
    subst e
    exact h x hx hy

theorem head_mem {l : List Int} (h : l ≠ []) : headI l ∈ l := by
  cases l with
  | nil => exact absurd rfl h
  | cons a l => exact List.mem_cons_self

theorem apart_all {C : List (List Int)} (h : C.Pairwise (fun a b => ∀ x ∈ a, x ∉ b)) {i j : Nat} {a b : List Int} (ha : C[i]? = some a) (hb : C[j]? = some b) {x : Int} (hx : x ∈ a) (hy : x ∈ b) : i = j := by
  rw [List.pairwise_iff_getElem] at h
  obtain ⟨h1, rfl⟩ := List.getElem?_eq_some_iff.1 ha
  obtain ⟨h2, rfl⟩ := List.getElem?_eq_some_iff.1 hb
  rcases Nat.lt_trichotomy i j with e | e | e
  · exact absurd hy (h i j h1 h2 e x hx)
  · exact e
  · exact absurd hx (h j i h2 h1 e x hy)

theorem rl_of {p : List Ins} {out C : List (List Int)} (hC : Sccs p.length (nextX p) C) (hv : ∀ v, v ∈ C.flatten ↔ rch p v) (hp : out.Perm (ringsRaw p)) (hs : out.Pairwise (fun a b => headI a ≤ headI b)) : RL p out := by
  have hraw : ringsRaw p = (C.filter (isRing (nextX p))).map sortI := hC.out
  rw [hraw] at hp
  have hmem : ∀ r ∈ out, ∃ c ∈ C, isRing (nextX p) c = true ∧ r = sortI c := by
    intro r hr
    have := hp.mem_iff.1 hr
    simp only [List.mem_map, List.mem_filter] at this
    obtain ⟨c, ⟨a, b⟩, rfl⟩ := this
    exact ⟨c, a, b, rfl⟩
  obtain ⟨n1, n2⟩ := nodup_flatten.1 hC.nd
  have hne : ∀ r ∈ out, r ≠ [] := by
    intro r hr e
    obtain ⟨c, a, b, rfl⟩ := hmem r hr
    have := (hC.good c a).ne
    cases c with
    | nil => exact this rfl
    | cons x c =>
      have : x ∈ sortI (x :: c) := sortI_mem.2 List.mem_cons_self
      rw [e] at this; cases this
  have hap : out.Pairwise (fun a b => ∀ x ∈ a, x ∉ b) := by
    have h1 : ((C.filter (isRing (nextX p))).map sortI).Pairwise (fun a b => ∀ x ∈ a, x ∉ b) := by
      rw [List.pairwise_map]
      refine (n2.filter _).imp (fun h x hx hy => h x (sortI_mem.1 hx) (sortI_mem.1 hy))
    refine (hp.pairwise_iff (fun {a b} h x hx hy => h x hy hx)).2 h1
  refine ⟨hne, fun r hr => ?_, ?_, fun r hr => ?_, hap, fun r hr i hi => ?_, fun r hr i hi => ?_, fun r hr i hi => ?_⟩
  · obtain ⟨c, a, b, rfl⟩ := hmem r hr
    exact sortI_sorted c
  · refine (List.Pairwise.and hs hap).imp_of_mem ?_
    rintro a b ha hb ⟨h1, h2⟩
    have := h2 _ (head_mem (hne a ha))
    have hb2 := head_mem (hne b hb)
    have : headI a ≠ headI b := fun e => this (e ▸ hb2)
    omega
  · obtain ⟨c, a, b, rfl⟩ := hmem r hr
    exact (sortI_perm c).nodup_iff.2 (n1 c a)
  · obtain ⟨c, a, b, rfl⟩ := hmem r hr
    have hf : i ∈ C.flatten := List.mem_flatten.2 ⟨c, a, sortI_mem.1 hi⟩
    have h1 := hC.bound i hf
    exact ⟨h1.1, h1.2, ((hv i).1 hf).2⟩
  · obtain ⟨c, a, b, rfl⟩ := hmem r hr
    obtain ⟨k, h1, h2⟩ := ((hC.good c a).ring b).1 i (sortI_mem.1 hi)
    exact ⟨k, h1, sortI_mem.2 h2⟩
  · obtain ⟨c, a, b, rfl⟩ := hmem r hr
    obtain ⟨k, h1, h2⟩ := ((hC.good c a).ring b).2 i (sortI_mem.1 hi)
    exact ⟨k, sortI_mem.2 h1, h2⟩

/-! ### Their numbers -/
def nOf : List (List Int) → Int → Nat
  | [], _ => 0
  | r :: rs, k => if k ∈ r then 1 else if nOf rs k = 0 then 0 else nOf rs k + 1
def marks (A : List (List Int)) (N : Nat) : List Int := (List.range N).map fun k : Nat => ((nOf A (k : Int) : Nat) : Int)

theorem nOf_none : ∀ {A : List (List Int)} {k : Int}, (∀ r ∈ A, k ∉ r) → nOf A k = 0 := by
  intro A
  induction A with
  | nil => exact fun _ => rfl
  | cons r A ih => intro k h; simp [nOf, h r (by simp), ih (fun r' hr' => h r' (by simp [hr']))]
theorem nOf_at : ∀ {A : List (List Int)} {k : Int} {j : Nat} {r : List Int}, A.Pairwise (fun a b => ∀ x ∈ a, x ∉ b) → A[j]? = some r → k ∈ r → nOf A k = j + 1 := by
  intro A
  induction A with
  | nil => intro k j r _ h; simp at h
  | cons a A ih =>
    intro k j r hp h hk
    rw [List.pairwise_cons] at hp
    cases j with
    | zero => simp at h; subst h; simp [nOf, hk]
    | succ j =>
      simp at h
      have h1 : k ∉ a := fun e => hp.1 r (List.mem_of_getElem? h) k e hk
      have h2 := ih hp.2 h hk
      simp [nOf, h1, h2]
theorem nOf_pos : ∀ {A : List (List Int)} {k : Int}, nOf A k ≠ 0 → ∃ r, A[nOf A k - 1]? = some r ∧ k ∈ r := by
  intro A
  induction A with
  | nil => intro k h; exact absurd rfl h
  | cons a A ih =>
    intro k h
    unfold nOf at h ⊢
    split
    · rename_i hk; exact ⟨a, rfl, hk⟩
    · rename_i hk
      rw [if_neg hk] at h
      split at h
      · exact absurd rfl h
      · rename_i h0
        rw [if_neg h0]
        obtain ⟨r, h1, h2⟩ := ih h0
        refine ⟨r, ?_, h2⟩
        have : nOf A k + 1 - 1 = (nOf A k - 1) + 1 := by omega
        rw [this, List.getElem?_cons_succ]
        exact h1
theorem nOf_app : ∀ {A : List (List Int)} {B : List Int} {k : Int}, nOf (A ++ [B]) k = if nOf A k = 0 then (if k ∈ B then A.length + 1 else 0) else nOf A k := by
  intro A
  induction A with
  | nil => intro B k; simp [nOf]
  | cons a A ih =>
    intro B k
    simp only [List.cons_append, nOf, ih, List.length_cons]
    by_cases h1 : k ∈ a
    · simp [h1]
    · simp only [h1, if_false]
      by_cases h2 : nOf A k = 0
      · by_cases h3 : k ∈ B
        · simp [h2, h3]
        · simp [h2, h3]
      · simp [h2]

theorem marks_len (A : List (List Int)) (N : Nat) : (marks A N).length = N := by simp [marks]
theorem marks_get {A : List (List Int)} {N k : Nat} (h : k < N) : (marks A N)[k]? = some ((nOf A (k : Int) : Nat) : Int) := by simp [marks, h]
theorem marks_nil (N : Nat) : marks [] N = List.replicate N 0 := by
  apply List.ext_getElem (by simp [marks])
  intro i h1 h2
  simp [marks, nOf]
theorem marks_empty (A : List (List Int)) (N : Nat) : marks (A ++ [[]]) N = marks A N := by
  unfold marks
  apply List.map_congr_left
  intro k _
  rw [nOf_app]
  by_cases h : nOf A (k : Int) = 0 <;> simp [h]
theorem marks_set {A : List (List Int)} {B : List Int} {i N : Nat} (hi : ∀ r ∈ A, (i : Int) ∉ r) (hN : i < N) : marks (A ++ [B ++ [(i : Int)]]) N = (marks (A ++ [B]) N).set i ((A.length : Int) + 1) := by
  apply List.ext_getElem?
  intro k
  by_cases hk : k < N
  · by_cases e : i = k
    · subst e
      rw [marks_get hk, List.getElem?_set_self (by rw [marks_len]; exact hk), nOf_app, nOf_none hi]
      simp
    · rw [marks_get hk, List.getElem?_set_ne e, marks_get hk, nOf_app, nOf_app]
      have : ((k : Int) ∈ B ++ [(i : Int)]) ↔ (k : Int) ∈ B := by
        simp; intro h; omega
      simp only [this]
  · rw [List.getElem?_eq_none (by rw [marks_len]; omega), List.getElem?_eq_none (by rw [List.length_set, marks_len]; omega)]
theorem marks_zero {A : List (List Int)} {B : List Int} {i N : Nat} (hi : ∀ r ∈ A, (i : Int) ∉ r) (hB : (i : Int) ∉ B) (hN : i < N) : (marks (A ++ [B]) N)[i]? = some 0 := by
  rw [marks_get hN, nOf_app, nOf_none hi]
  simp [hB]

/-! ### Within a ring -/
def clW (N : Nat) (num : List Int) (i : Int) (m : Int) : Bool := decide (0 ≤ m) && (decide (m < N) && decide (num[m.toNat]?.getD 0 = num[i.toNat]?.getD 0))

theorem same_num {N : Nat} {out : List (List Int)} (hap : out.Pairwise (fun a b => ∀ x ∈ a, x ∉ b)) {r : List Int} (hr : r ∈ out) {a b : Int} (ha : a ∈ r) (hb : b ∈ r) (ha0 : 0 ≤ a ∧ a < N) (hb0 : 0 ≤ b ∧ b < N) : clW N (marks out N) a b = true := by
  obtain ⟨j, hj⟩ := List.getElem?_of_mem hr
  have h1 := nOf_at hap hj ha
  have h2 := nOf_at hap hj hb
  have e1 : (marks out N)[a.toNat]? = some ((j + 1 : Nat) : Int) := by rw [marks_get (by omega), Int.toNat_of_nonneg ha0.1, h1]
  have e2 : (marks out N)[b.toNat]? = some ((j + 1 : Nat) : Int) := by rw [marks_get (by omega), Int.toNat_of_nonneg hb0.1, h2]
  unfold clW
  rw [e1, e2]
  simp [hb0]

theorem ring_next {p : List Ins} {out : List (List Int)} (h : RL p out) {r : List Int} (hr : r ∈ out) {i : Nat} (hi : (i : Int) ∈ r) {x : Ins} (hx : p[i]? = some x) : (edgesX x i).any (clW p.length (marks out p.length) i) = true := by
  obtain ⟨k, h1, h2⟩ := h.nex r hr i hi
  have hb := h.bd r hr i hi
  rw [nx_nextX (x := x) (by omega) (by simpa using hx) hb.2.2] at h1
  have hk := h.bd r hr k h2
  exact List.any_eq_true.2 ⟨k, by simpa using h1, same_num h.apart hr hi h2 ⟨hb.1, hb.2.1⟩ ⟨hk.1, hk.2.1⟩⟩
theorem ring_before {p : List Ins} (hR : Right p) {out : List (List Int)} (h : RL p out) {r : List Int} (hr : r ∈ out) {i : Nat} (hi : (i : Int) ∈ r) {bl : List Int} (hl : (beforeX p)[i]? = some bl) : bl.any (clW p.length (marks out p.length) i) = true := by
  obtain ⟨u, h1, h2⟩ := h.bef r hr i hi
  have hb := h.bd r hr i hi
  have hu := h.bd r hr u h1
  obtain ⟨u0, -, x, hx, hw⟩ := nx_mem h2
  refine List.any_eq_true.2 ⟨u, (before_mem hR hl u).2 ⟨u.toNat, x, hx, by omega, hw⟩, same_num h.apart hr hi h1 ⟨hb.1, hb.2.1⟩ ⟨hu.1, hu.2.1⟩⟩

/-! ### What is left -/
def clL (N : Nat) (left : List Bool) (num : List Int) (i : Nat) (m : Int) : Bool :=
  decide (0 ≤ m) && (decide (m < N) && (left[m.toNat]?.getD false && (decide (num[m.toNat]?.getD 0 = 0) || !decide (num[m.toNat]?.getD 0 = num[i]?.getD 0))))
def peel1 (N : Nat) (num : List Int) (bef : List (List Int)) (left : List Bool) (i : Nat) : List Bool := left.set i (left[i]?.getD false && (bef[i]?.getD []).any (clL N left num i))
def peelK (N : Nat) (num : List Int) (bef : List (List Int)) (left : List Bool) (k : Nat) : List Bool := (List.range k).foldl (peel1 N num bef) left
def peels (N : Nat) (num : List Int) (bef : List (List Int)) (left : List Bool) : Nat → List Bool
  | 0 => left
  | t + 1 => peelK N num bef (peels N num bef left t) N

theorem peelK_succ (N : Nat) (num : List Int) (bef : List (List Int)) (left : List Bool) (k : Nat) : peelK N num bef left (k + 1) = peel1 N num bef (peelK N num bef left k) k := by
  unfold peelK
  rw [List.range_succ, List.foldl_append]
  rfl
theorem peelK_len (N : Nat) (num : List Int) (bef : List (List Int)) (left : List Bool) : ∀ k, (peelK N num bef left k).length = left.length := by
  intro k
  induction k with
  | zero => rfl
  | succ k ih => rw [peelK_succ]; unfold peel1; rw [List.length_set, ih]
theorem peels_len (N : Nat) (num : List Int) (bef : List (List Int)) (left : List Bool) : ∀ t, (peels N num bef left t).length = left.length := by
  intro t
  induction t with
  | zero => rfl
  | succ t ih => unfold peels; rw [peelK_len, ih]

theorem peelK_down (N : Nat) (num : List Int) (bef : List (List Int)) (left : List Bool) (j : Nat) : ∀ k, (peelK N num bef left k)[j]?.getD false = true → left[j]?.getD false = true := by
  intro k
  induction k with
  | zero => exact fun h => h
  | succ k ih =>
    intro h
    rw [peelK_succ] at h
    unfold peel1 at h
    by_cases e : k = j
    · subst e
      by_cases hl : k < (peelK N num bef left k).length
      · rw [List.getElem?_set_self hl] at h
        simp only [Option.getD_some, Bool.and_eq_true] at h
        exact ih h.1
      · rw [List.getElem?_eq_none (by rw [List.length_set]; omega)] at h
        cases h
    · rw [List.getElem?_set_ne e] at h
      exact ih h

/-- What is left behind a round has something left, from elsewhere, that goes to it. -/
theorem peelK_why (N : Nat) (num : List Int) (bef : List (List Int)) (left : List Bool) (j : Nat) : ∀ k, j < k → (peelK N num bef left k)[j]?.getD false = true → ∃ m ∈ bef[j]?.getD [], clL N left num j m = true := by
  intro k
  induction k with
  | zero => intro h; omega
  | succ k ih =>
    intro hj h
    rw [peelK_succ] at h
    unfold peel1 at h
    by_cases e : k = j
    · subst e
      by_cases hl : k < (peelK N num bef left k).length
      · rw [List.getElem?_set_self hl] at h
        simp only [Option.getD_some, Bool.and_eq_true] at h
        obtain ⟨m, h1, h2⟩ := List.any_eq_true.1 h.2
        refine ⟨m, h1, ?_⟩
        unfold clL at h2 ⊢
        simp only [Bool.and_eq_true] at h2 ⊢
        exact ⟨h2.1, h2.2.1, peelK_down N num bef left _ k h2.2.2.1, h2.2.2.2⟩
      · rw [List.getElem?_eq_none (by rw [List.length_set]; omega)] at h
        cases h
    · rw [List.getElem?_set_ne e] at h
      exact ih (by omega) h

theorem nodup_len : ∀ (N : Nat) (l : List Int), l.Nodup → (∀ v ∈ l, 0 ≤ v ∧ v < (N : Int)) → l.length ≤ N := by
  intro N
  induction N with
  | zero =>
    intro l _ h
    cases l with
    | nil => exact Nat.le_refl 0
    | cons a l => have := h a (by simp); omega
  | succ N ih =>
    intro l hn h
    have h1 := ih (l.filter (fun v => decide (v ≠ (N : Int)))) (hn.filter _) (fun v hv => by
      rw [List.mem_filter] at hv
      have := h v hv.1
      have := hv.2
      simp at this
      omega)
    have h2 : l.count (N : Int) ≤ 1 := by rw [hn.count]; split <;> omega
    have h3 : l.length = l.count (N : Int) + (l.filter (fun v => decide (v ≠ (N : Int)))).length := by
      rw [← List.countP_eq_length_filter, List.count_eq_countP, List.length_eq_countP_add_countP (fun v => v == (N : Int))]
      congr 1
      apply List.countP_congr
      intro v _
      simp
    omega

theorem flatten_len : ∀ (C : List (List Int)), (∀ c ∈ C, c ≠ []) → C.length ≤ C.flatten.length := by
  intro C
  induction C with
  | nil => exact fun _ => Nat.le_refl 0
  | cons c C ih =>
    intro h
    have h1 := ih (fun c' hc' => h c' (by simp [hc']))
    have h2 : 0 < c.length := List.length_pos_iff.2 (h c (by simp))
    simp only [List.length_cons, List.flatten_cons, List.length_append]
    omega

theorem peel_law {p : List Ins} (hR : Right p) {out C : List (List Int)} (hC : Sccs p.length (nextX p) C) (hv : ∀ v, v ∈ C.flatten ↔ rch p v) (hp : out.Perm (ringsRaw p)) (h : RL p out) :
    ∀ (t j : Nat), (peels p.length (marks out p.length) (beforeX p) (reachedX p) t)[j]?.getD false = true → ∃ (n : Nat) (c : List Int), C[n]? = some c ∧ (j : Int) ∈ c ∧ n + t < C.length := by
  intro t
  induction t with
  | zero =>
    intro j hj
    obtain ⟨c, hc, hjc⟩ := List.mem_flatten.1 ((hv j).2 ⟨by omega, hj⟩)
    obtain ⟨n, hn⟩ := List.getElem?_of_mem hc
    exact ⟨n, c, hn, hjc, (List.getElem?_eq_some_iff.1 hn).1⟩
  | succ t ih =>
    intro j hj
    have hjl : j < p.length := by
      by_cases hl : j < p.length
      · exact hl
      · rw [List.getElem?_eq_none (by rw [peels_len, reachedX_len hR]; omega)] at hj; cases hj
    unfold peels at hj
    have hjr := peelK_down _ _ _ _ _ _ hj
    obtain ⟨n, c, h1, h2, h3⟩ := ih j hjr
    obtain ⟨m, hm, hcl⟩ := peelK_why _ _ _ _ _ _ hjl hj
    unfold clL at hcl
    simp only [Bool.and_eq_true, decide_eq_true_eq] at hcl
    obtain ⟨m0, m1, m2, m3⟩ := hcl
    obtain ⟨n', c', g1, g2, g3⟩ := ih m.toNat m2
    rw [Int.toNat_of_nonneg m0] at g2
    obtain ⟨bl, hbl⟩ : ∃ bl, (beforeX p)[j]? = some bl := by
      cases e : (beforeX p)[j]? with
      | none => rw [e] at hm; cases hm
      | some bl => exact ⟨bl, rfl⟩
    rw [hbl] at hm
    obtain ⟨u, x, hx, rfl, hjx⟩ := (before_mem hR hbl m).1 hm
    have hur : rch p (u : Int) := (hv u).1 (List.mem_flatten.2 ⟨c', List.mem_of_getElem? g1, g2⟩)
    have hjn : (j : Int) ∈ nx (nextX p) u := by rw [nx_nextX (x := x) (by omega) (by simpa using hx) hur.2]; simpa using hjx
    have hfin := hC.fin n' c' g1 u g2 j hjn
    obtain ⟨c2, hc2, hjc2⟩ := List.mem_flatten.1 hfin
    obtain ⟨n2, hn2⟩ := List.getElem?_of_mem hc2
    have hn2l := (List.getElem?_eq_some_iff.1 hn2).1
    rw [List.length_take] at hn2l
    rw [List.getElem?_take, if_pos (by omega)] at hn2
    obtain ⟨a1, a2⟩ := nodup_flatten.1 hC.nd
    have hnn := apart_all a2 h1 hn2 h2 hjc2
    subst hnn
    rw [h1] at hn2
    cases hn2
    refine ⟨n, c, h1, h2, ?_⟩
    by_cases e : n = n'
    · subst e
      rw [h1] at g1
      cases g1
      exfalso
      cases hri : isRing (nextX p) c with
      | true =>
        have hso : sortI c ∈ out := hp.mem_iff.2 (by
          have : ringsRaw p = (C.filter (isRing (nextX p))).map sortI := hC.out
          rw [this]
          exact List.mem_map.2 ⟨c, List.mem_filter.2 ⟨List.mem_of_getElem? h1, hri⟩, rfl⟩)
        obtain ⟨q, hq⟩ := List.getElem?_of_mem hso
        have e1 := nOf_at h.apart hq (sortI_mem.2 h2)
        have e2 := nOf_at h.apart hq (sortI_mem.2 g2)
        have hul : u < p.length := (List.getElem?_eq_some_iff.1 hx).1
        rw [Int.toNat_natCast, marks_get hul, marks_get hjl, e1, e2] at m3
        simp at m3
        omega
      | false =>
        obtain ⟨v, rfl, hvn⟩ := (hC.good c (List.mem_of_getElem? h1)).one hri
        simp at h2 g2
        rw [g2] at hjn
        rw [h2] at hjn
        exact hvn hjn
    · omega

theorem peel_all {p : List Ins} (hR : Right p) {out C : List (List Int)} (hC : Sccs p.length (nextX p) C) (hv : ∀ v, v ∈ C.flatten ↔ rch p v) (hp : out.Perm (ringsRaw p)) (h : RL p out) :
    ∀ b ∈ peels p.length (marks out p.length) (beforeX p) (reachedX p) p.length, b = false := by
  intro b hb
  obtain ⟨j, hj⟩ := List.getElem?_of_mem hb
  cases b with
  | false => rfl
  | true =>
    obtain ⟨n, c, h1, h2, h3⟩ := peel_law hR hC hv hp h p.length j (by rw [hj]; rfl)
    have h4 := nodup_len p.length C.flatten hC.nd hC.bound
    have h5 := flatten_len C (fun c hc => (hC.good c hc).ne)
    omega
end Go.Proofs.Ytfdlhlabkcmikaa
