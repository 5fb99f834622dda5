/- loops.rings: a program whose ways all lead ahead has no ring; plain. -/
import Derived.Test.YtfdlhlabkcmikaaTarjan1
namespace Go.Proofs.Ytfdlhlabkcmikaa
open Go.RowKit Go.Shelf

theorem set_same {l : List Int} {i : Nat} {v : Int} (h : l[i]? = some v) : l.set i v = l := by
  apply List.ext_getElem?
  intro j
  by_cases e : i = j
  · subst e
    obtain ⟨this, h2⟩ := List.getElem?_eq_some_iff.1 h
    simp [this, h2]
  · rw [List.getElem?_set_ne e]

/-- What a visit in such a program leaves. -/
structure Dag (s s' : TS) (i : Nat) : Prop where
  out : s'.out = s.out
  stack : s'.stack = s.stack
  within : ∀ j : Nat, s'.within[j]?.getD false = s.within[j]?.getD false
  li : s'.low[i]?.getD 0 = s'.index[i]?.getD 0
  gt : s.n < s'.index[i]?.getD 0
  old : ∀ j : Nat, s.index[j]?.getD 0 ≠ 0 → s'.index[j]?.getD 0 = s.index[j]?.getD 0 ∧ s'.low[j]?.getD 0 = s.low[j]?.getD 0

/-- What the loop of a visit knows. -/
structure DagL (s t : TS) (i : Nat) : Prop where
  out : t.out = s.out
  stack : t.stack = s.stack ++ [(i : Int)]
  within : ∀ j : Nat, j ≠ i → t.within[j]?.getD false = s.within[j]?.getD false
  ii : t.index[i]?.getD 0 = s.n + 1
  li : t.low[i]?.getD 0 = s.n + 1
  old : ∀ j : Nat, j ≠ i → s.index[j]?.getD 0 ≠ 0 → t.index[j]?.getD 0 = s.index[j]?.getD 0 ∧ t.low[j]?.getD 0 = s.low[j]?.getD 0
  n : s.n + 1 ≤ t.n

theorem dag_visit {N : Nat} {next : List (List Int)} (hN : N ≤ 256) (hf : ∀ (i : Nat) (r : List Int), next[i]? = some r → ∀ k ∈ r, (i : Int) < k ∧ k < N) :
    ∀ (f i : Nat) (s : TS), TI N s → i < N → s.index[i]?.getD 0 = 0 → zeros s.index ≤ f → (∀ j : Nat, i ≤ j → s.within[j]?.getD false = false) → Dag s (visit next f i s) i := by
  have hnx : ∀ (i : Nat) (r : List Int), next[i]? = some r → ∀ k ∈ r, 0 ≤ k ∧ k < (N : Int) := fun i r h k hk => by have := hf i r h k hk; omega
  intro f
  induction f with
  | zero =>
    intro i s h hi h0 hz
    have := h.zero_at (by omega) h0
    have hp : 0 < zeros s.index := List.countP_pos_iff.2 ⟨0, List.mem_of_getElem? this, by simp⟩
    omega
  | succ f ih =>
    intro i s h hi h0 hz hw
    obtain ⟨e1, e2, e3, e4, e5⟩ := h.enter hN hi h0
    have hil : i < s.index.length := by rw [h.il]; omega
    have hll : i < s.low.length := by rw [h.ll]; omega
    have hwl : i < s.within.length := by rw [h.wl]; omega
    have hks : ∀ k ∈ next[i]?.getD [], (i : Int) < k ∧ k < (N : Int) := by
      cases e : next[i]? with
      | none => intro k hk; simp at hk
      | some r => exact hf i r e
    have hb : DagL s (s.enter i) i := by
      refine ⟨rfl, rfl, fun j hj => ?_, ?_, ?_, fun j hj _ => ?_, Int.le_refl _⟩
      · show (s.within.set i true)[j]?.getD false = _
        rw [List.getElem?_set_ne (Ne.symm hj)]
      · show (s.index.set i (s.n + 1))[i]?.getD 0 = _
        simp [hil]
      · show (s.low.set i (s.n + 1))[i]?.getD 0 = _
        simp [hll]
      · show (s.index.set i (s.n + 1))[j]?.getD 0 = _ ∧ (s.low.set i (s.n + 1))[j]?.getD 0 = _
        rw [List.getElem?_set_ne (Ne.symm hj), List.getElem?_set_ne (Ne.symm hj)]
        exact ⟨rfl, rfl⟩
    have hloop : ∀ (ks : List Int) (t : TS), TI N t → zeros t.index ≤ f → (∀ k ∈ ks, (i : Int) < k ∧ k < (N : Int)) → DagL s t i → DagL s (ks.foldl (vstep next f i) t) i := by
      intro ks
      induction ks with
      | nil => exact fun _ _ _ _ h => h
      | cons k ks ihk =>
        intro t ht hzt hk hd
        obtain ⟨k1, k2⟩ := hk k (by simp)
        obtain ⟨v1, v2⟩ := vstep_ok (i := i) (visit_ok hN hnx f) ht hzt (k := k) ⟨by omega, k2⟩
        refine ihk _ v1 (Nat.le_trans v2.zeros hzt) (fun k' hk' => hk k' (by simp [hk'])) ?_
        have hki : k.toNat ≠ i := by omega
        unfold vstep
        split
        · rename_i hk0
          have hwk : ∀ j : Nat, k.toNat ≤ j → t.within[j]?.getD false = false := fun j hj => by
            rw [hd.within j (by omega)]; exact hw j (by omega)
          have hc := ih k.toNat t ht (by omega) hk0 hzt hwk
          obtain ⟨x1, x2, x3⟩ := visit_ok hN hnx f k.toNat t ht (by omega) hk0 hzt
          have hti : t.index[i]?.getD 0 ≠ 0 := by rw [hd.ii]; have := h.sn; omega
          obtain ⟨o1, o2⟩ := hc.old i hti
          have hlow : (visit next f k.toNat t).low[i]? = some (s.n + 1) := by
            have hl : i < (visit next f k.toNat t).low.length := by rw [x1.ll]; omega
            have h2 := o2.trans hd.li
            rw [List.getElem?_eq_getElem hl] at h2 ⊢
            simpa using h2
          have hmin : min (s.n + 1) ((visit next f k.toNat t).low[k.toNat]?.getD 0) = s.n + 1 := by
            rw [hc.li]
            have h1 := hc.gt
            have h2 := hd.n
            omega
          have hsame : (visit next f k.toNat t).lower i ((visit next f k.toNat t).low[k.toNat]?.getD 0) = visit next f k.toNat t := by
            unfold TS.lower
            rw [hlow, Option.getD_some, hmin, set_same hlow]
          rw [hsame]
          refine ⟨hc.out.trans hd.out, hc.stack.trans hd.stack, fun j hj => (hc.within j).trans (hd.within j hj), o1.trans hd.ii, o2.trans hd.li, fun j hj hj0 => ?_, Int.le_trans hd.n x2.n⟩
          obtain ⟨q1, q2⟩ := hd.old j hj hj0
          obtain ⟨q3, q4⟩ := hc.old j (by rw [q1]; exact hj0)
          exact ⟨q3.trans q1, q4.trans q2⟩
        · have hwk : t.within[k.toNat]?.getD false = false := by rw [hd.within _ hki]; exact hw _ (by omega)
          rw [if_neg (by rw [hwk]; decide)]
          exact hd
    have hd := hloop (next[i]?.getD []) (s.enter i) e1 (by omega) hks hb
    obtain ⟨l1, l2⟩ := vsteps_ok (i := i) (visit_ok hN hnx f) (next[i]?.getD []) e1 (by omega) (fun k hk => by have := hks k hk; omega)
    rw [visit_succ]
    generalize (next[i]?.getD []).foldl (vstep next f i) (s.enter i) = t at hd l1 l2
    obtain ⟨c1, c2, c3, c4, c5, c6, c7⟩ := TI.closing (next := next) hN hi h h0 l1 l2
    have hdrop : t.stack.drop s.stack.length = [(i : Int)] := by rw [hd.stack, List.drop_left' rfl]
    have hcl : TS.close next t i = { t with stack := s.stack, within := t.within.set i false } := by
      unfold TS.close
      rw [if_pos (by rw [hd.li, hd.ii]), c5, c7, hdrop]
      have hno : ¬ (1 < [(i : Int)].length ∨ (next[i]?.getD []).contains (i : Int) = true) := by
        rintro (h | h)
        · simp at h
        · have := hks i (by simpa using h)
          omega
      rw [if_neg hno]
      simp [unmark]
    rw [hcl]
    refine ⟨hd.out, rfl, fun j => ?_, hd.li.trans hd.ii.symm, ?_, fun j hj0 => ?_⟩
    · show (t.within.set i false)[j]?.getD false = _
      by_cases e : i = j
      · subst e
        rw [hw i (Nat.le_refl _)]
        by_cases hl : i < t.within.length
        · simp [hl]
        · simp at hl; simp [hl]
      · rw [List.getElem?_set_ne e]; exact hd.within j (Ne.symm e)
    · show s.n < t.index[i]?.getD 0
      rw [hd.ii]; omega
    · exact hd.old j (fun e => hj0 (e ▸ h0)) hj0
end Go.Proofs.Ytfdlhlabkcmikaa
