/- loops.order: a program whose ways all lead ahead is in order as it stands; plain. -/
import Derived.Test.YtfdlhlabkcmikaaOrd0
namespace Go.Proofs.Ytfdlhlabkcmikaa

/-- All ways lead ahead. -/
structure Fwd (reached : List Bool) (next : List (List Int)) (n : Nat) : Prop where
  le : n ≤ 256
  len : next.length = n
  up : ∀ (i : Nat) (r : List Int), next[i]? = some r → ∀ k ∈ r, (i : Int) < k ∧ k < n
  none : ∀ i : Nat, reached[i]?.getD false = false → next[i]?.getD [] = []

structure OAt (reached : List Bool) (next : List (List Int)) (n : Nat) (s : OS) (j : Nat) : Prop where
  ll : s.left.length = 256
  dl : s.done.length = 256
  left : ∀ k : Nat, k < 256 → s.left[k]?.getD 0 = (((next.drop j).map fun r => r.count (k : Int)).sum : Nat)
  done : ∀ i : Nat, s.done[i]?.getD false = (decide (i < j) && reached[i]?.getD false)

theorem sum_zero {l : List (List Int)} {k : Int} (h : ∀ r ∈ l, k ∉ r) : (l.map fun r => r.count k).sum = 0 := by
  induction l with
  | nil => rfl
  | cons r l ih =>
    rw [List.map_cons, List.sum_cons, ih (fun r' hr' => h r' (by simp [hr'])), List.count_eq_zero.2 (h r (by simp))]

theorem order_from {reached : List Bool} {next : List (List Int)} {n : Nat} (h : Fwd reached next n) : ∀ (m j f : Nat) (s : OS), j + m = n → OAt reached next n s j → undone s ≤ f →
    orderGo reached next n f s = ((List.range' j m).filter fun i => reached[i]?.getD false).map (fun i : Nat => (i : Int)) := by
  intro m
  induction m with
  | zero =>
    intro j f s hj hs hf
    have hn : s.pick reached n = none := pick_none fun i hi => by
      have := hs.done i
      rw [show decide (i < j) = true by simp; omega] at this
      unfold OS.can
      rw [this]
      cases reached[i]?.getD false <;> simp
    cases f with
    | zero => rfl
    | succ f => simp [orderGo, hn]
  | succ m ih =>
    intro j f s hj hs hf
    have hle := h.le
    have hjn : j < next.length := by rw [h.len]; omega
    have hdj : s.done[j]? = some false := by
      have := hs.done j
      have hl : j < s.done.length := by rw [hs.dl]; omega
      rw [List.getElem?_eq_getElem hl] at this ⊢
      simpa using this
    have hdrop : next.drop j = (next[j]) :: next.drop (j + 1) := List.drop_eq_getElem_cons hjn
    rw [List.range'_succ]
    by_cases hr : reached[j]?.getD false = true
    · rw [List.filter_cons, if_pos hr, List.map_cons]
      have hleft : s.left[j]?.getD 0 = 0 := by
        rw [hs.left j (by omega), sum_zero]
        · rfl
        · intro r hr' hm
          obtain ⟨i, hi⟩ := List.mem_iff_getElem?.1 hr'
          rw [List.getElem?_drop] at hi
          have := h.up (j + i) r hi _ hm
          omega
      have hp : s.pick reached n = some j := by
        refine pick_some (by omega) ?_ fun i hi => ?_
        · unfold OS.can
          rw [hr, hdj, hleft]
          rfl
        · have := hs.done i
          rw [show decide (i < j) = true by simp; omega] at this
          unfold OS.can
          rw [this]
          cases reached[i]?.getD false <;> simp
      have hu := undone_take (next := next) hdj
      cases f with
      | zero => omega
      | succ f =>
        simp only [orderGo, hp]
        rw [ih (j + 1) f (s.take next j) (by omega) ?_ (by omega)]
        have hnj : next[j]?.getD [] = next[j] := by simp [hjn]
        have hb : ∀ k ∈ next[j], 0 ≤ k ∧ k < (s.left.length : Int) := fun k hk => by
          have := h.up j _ (List.getElem?_eq_getElem hjn) k hk
          rw [hs.ll]; omega
        refine ⟨?_, by simp [OS.take, hs.dl], fun k hk => ?_, fun i => ?_⟩
        · show (bumpAll _ _ _).length = _
          rw [bumpAll_len, hs.ll]
        · show (bumpAll (-1) s.left (next[j]?.getD []))[k]?.getD 0 = _
          rw [hnj, bumpAll_get (-1) _ s.left k hb (by rw [hs.ll]; exact hk), hs.left k hk, hdrop, List.map_cons, List.sum_cons]
          omega
        · show (s.done.set j true)[i]?.getD false = _
          by_cases e : j = i
          · subst e
            have hl : j < s.done.length := by rw [hs.dl]; omega
            simp [hl, hr]
          · rw [List.getElem?_set_ne e, hs.done i]
            congr 1
            simp
            omega
    · have hr' : reached[j]?.getD false = false := by simpa using hr
      rw [List.filter_cons, if_neg hr]
      refine ih (j + 1) f s (by omega) ⟨hs.ll, hs.dl, fun k hk => ?_, fun i => ?_⟩ hf
      · rw [hs.left k hk, hdrop]
        have : next[j] = [] := by have := h.none j hr'; simpa [hjn] using this
        simp [this]
      · rw [hs.done i]
        by_cases e : i = j
        · subst e; simp [hr']
        · congr 1
          simp
          omega

theorem order_fwd {reached : List Bool} {next : List (List Int)} {n : Nat} (h : Fwd reached next n) : orderOf reached next n = ((List.range n).filter fun i => reached[i]?.getD false).map (fun i : Nat => (i : Int)) := by
  rw [List.range_eq_range']
  have hl : (List.replicate 256 (0 : Int)).length = 256 := List.length_replicate
  refine order_from h n 0 256 _ (by omega) ⟨?_, List.length_replicate, fun k hk => ?_, fun i => ?_⟩ ?_
  · show (next.foldl (bumpAll 1) _).length = 256
    have : ∀ (l : List (List Int)) (a : List Int), (l.foldl (bumpAll 1) a).length = a.length := by
      intro l
      induction l with
      | nil => exact fun _ => rfl
      | cons r l ih => intro a; exact (ih _).trans (bumpAll_len _ _ _)
    rw [this, hl]
  · rw [List.drop_zero]
    refine leftOf_get (fun r hr k hk' => ?_) hk
    obtain ⟨i, hi⟩ := List.mem_iff_getElem?.1 hr
    have := h.up i r hi k hk'
    have := h.le
    omega
  · show (List.replicate 256 false)[i]?.getD false = _
    rw [List.getElem?_replicate]
    split <;> simp
  · show (List.replicate 256 false).countP _ ≤ 256
    have := List.countP_le_length (p := (! ·)) (l := List.replicate 256 false)
    rwa [List.length_replicate] at this
end Go.Proofs.Ytfdlhlabkcmikaa
