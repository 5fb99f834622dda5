/- loops.rings: what its visit finds, to the end; plain. -/
import Derived.Test.YtfdlhlabkcmikaaScc0
namespace Go.Proofs.Ytfdlhlabkcmikaa
open Go.RowKit Go.Shelf

theorem unmark_at : ∀ (ring : List Int) (wi : List Bool) (v : Int), (∀ k ∈ ring, 0 ≤ k) → ((if 0 ≤ v then (unmark wi ring)[v.toNat]?.getD false else false) = true ↔ (if 0 ≤ v then wi[v.toNat]?.getD false else false) = true ∧ v ∉ ring) := by
  intro ring
  induction ring with
  | nil => intro wi v _; simp [unmark]
  | cons k ring ih =>
    intro wi v hk
    have := ih (wi.set k.toNat false) v (fun x hx => hk x (by simp [hx]))
    refine this.trans ?_
    have hk0 := hk k (by simp)
    by_cases e : v = k
    · subst e
      by_cases hl : v.toNat < wi.length
      · simp [hl]
      · simp [hk0, hl]
    · by_cases h0 : 0 ≤ v
      · rw [if_pos h0, if_pos h0, List.getElem?_set_ne (by omega)]
        simp [e]
      · simp [h0]

theorem nx_bound {N : Nat} {next : List (List Int)} (hnx : ∀ (i : Nat) (r : List Int), next[i]? = some r → ∀ k ∈ r, 0 ≤ k ∧ k < N) (v : Int) : ∀ k ∈ nx next v, 0 ≤ k ∧ k < N := by
  intro k hk
  unfold nx at hk
  split at hk
  · cases e : next[v.toNat]? with
    | none => rw [e] at hk; cases hk
    | some r => rw [e] at hk; exact hnx _ _ e k hk
  · cases hk

section
variable {N : Nat} {next : List (List Int)} {s t u : TS} {C D E : List (List Int)} {i : Nat} {r : List Int}

/-- The end of a visit. -/
theorem Lp.close (hN : N ≤ 256) (hnx : ∀ (i : Nat) (r : List Int), next[i]? = some r → ∀ k ∈ r, 0 ≤ k ∧ k < N) (hi : i < N) (h0 : s.ix i = 0) (hs : RI N next s C) (h : Lp N next s C i (nx next i) t D r) (hx : Ext (s.enter i) t) :
    ∃ E, Pst N next s C i (TS.close next t i) E := by
  have hn0 : 0 ≤ s.n := by have := hs.ti.sn; omega
  obtain ⟨c1, c2, c3, c4, c5, -, c7⟩ := TI.closing (next := next) hN hi hs.ti (by rw [← ix_nat]; exact h0) h.ri.ti hx
  have hdrop : t.stack.drop s.stack.length = (i : Int) :: r := by rw [h.st, List.drop_left' rfl]
  have hord := h.ri.ord
  rw [h.st] at hord
  obtain ⟨o1, o2, o3⟩ := List.pairwise_append.1 hord
  have o4 := (List.pairwise_cons.1 o2).1
  have p1 : ∀ v ∈ (i : Int) :: r, ∀ w ∈ nx next v, t.ix w ≠ 0 ∧ (w ∈ t.stack → t.lo i ≤ t.ix w) := by
    intro v hv
    rcases List.mem_cons.1 hv with rfl | hv
    · exact h.p1b
    · exact h.p1a v hv
  unfold TS.close at c1 ⊢
  rw [← lo_nat, ← ix_nat] at c1 ⊢
  split
  · rename_i hli
    rw [if_pos hli, c5, c7, hdrop] at c1
    rw [c5, c7, hdrop]
    have hin : ∀ w ∈ t.stack, t.lo i ≤ t.ix w → w ∈ (i : Int) :: r := fun w hw hle => by
      rw [h.st] at hw
      rcases List.mem_append.1 hw with hw | hw
      · have := o3 w hw i (by simp); omega
      · exact hw
    have hnd := h.ri.nd
    rw [h.st] at hnd
    have hperm : (s.stack ++ (D ++ [(i : Int) :: r]).flatten).Perm (s.stack ++ (i : Int) :: r ++ D.flatten) := by
      rw [List.flatten_append, List.append_assoc]
      refine List.Perm.append_left _ ?_
      simp only [List.flatten_cons, List.flatten_nil, List.append_nil]
      exact List.perm_append_comm
    have hring : (1 < ((i : Int) :: r).length ∨ (next[i]?.getD []).contains (i : Int) = true) ↔ isRing next ((i : Int) :: r) = true := by
      unfold isRing
      rw [List.headD_cons, nx_nat]
      simp
    have hnin : ∀ k ∈ (i : Int) :: r, 0 ≤ k := fun k hk => (h.ri.ti.st k (by rw [h.st]; exact List.mem_append.2 (.inr hk))).1
    refine ⟨D ++ [(i : Int) :: r], ⟨⟨c1, hperm.nodup_iff.2 hnd, fun v => ?_, fun v => ?_, ?_, h.ri.top, ?_, fun j c hj v hv w hw => ?_, fun c hc => ?_⟩, h.pre.trans (List.prefix_append _ _), h.n, h.old, h.ii, .inl ⟨rfl, hli⟩⟩⟩
    · refine hperm.mem_iff.trans ?_
      have := h.ri.vis v
      rw [h.st] at this
      exact this
    · refine (unmark_at ((i : Int) :: r) t.within v hnin).trans ?_
      have h1 := h.ri.win v
      unfold TS.wi at h1
      rw [h1, h.st]
      show _ ↔ v ∈ s.stack
      have hnd1 := List.nodup_append.1 (List.nodup_append.1 hnd).1
      constructor
      · rintro ⟨a, b⟩
        rcases List.mem_append.1 a with a | a
        · exact a
        · exact absurd a b
      · intro a
        exact ⟨List.mem_append.2 (.inl a), fun b => hnd1.2.2 v a v b rfl⟩
    · show s.stack.Pairwise _
      exact o1
    · show (if _ then _ else _) = _
      rw [List.filter_append, List.map_append, ← h.ri.out]
      by_cases hr : isRing next ((i : Int) :: r) = true
      · rw [if_pos (hring.2 hr)]
        simp [hr]
      · rw [if_neg (fun hh => hr (hring.1 hh))]
        simp at hr
        simp [hr]
    · by_cases hjl : j < D.length
      · rw [List.getElem?_append_left hjl] at hj
        rw [List.take_append_of_le_length hjl]
        exact h.ri.fin j c hj v hv w hw
      · have hjd : j = D.length := by
          have := (List.getElem?_eq_some_iff.1 hj).1
          simp at this; omega
        subst hjd
        simp at hj; subst hj
        obtain ⟨a, b⟩ := p1 v hv w hw
        rw [List.take_of_length_le (by simp)]
        have hwb := nx_bound hnx v w hw
        rw [List.flatten_append]
        rcases List.mem_append.1 ((h.ri.vis w).2 ⟨hwb.1, hwb.2, a⟩) with hm | hm
        · exact List.mem_append.2 (.inr (by simpa using hin w hm (b hm)))
        · exact List.mem_append.2 (.inl hm)
    · rcases List.mem_append.1 hc with hc | hc
      · exact h.ri.good c hc
      · simp at hc; subst hc
        refine ⟨by simp, fun hr => ⟨fun v hv => ?_, fun v hv => ?_⟩, fun hr => ?_⟩
        · have : ∃ w ∈ nx next v, w ∈ t.stack := by
            rcases List.mem_cons.1 hv with rfl | hv
            · by_cases e : r = []
              · subst e
                refine ⟨i, ?_, by rw [h.st]; simp⟩
                simpa [isRing] using hr
              · exact h.p3b (.inr e)
            · exact h.p3a v hv
          obtain ⟨w, a, b⟩ := this
          exact ⟨w, a, hin w b ((p1 v hv w a).2 b)⟩
        · rcases List.mem_cons.1 hv with rfl | hv
          · by_cases e : r = []
            · subst e
              exact ⟨i, by simp, by simpa [isRing] using hr⟩
            · obtain ⟨y, hy, x, hx, hx1, hx2⟩ := h.p6 e
              have h1 := (p1 y hy x hx).2 hx1
              have h2 := hin x hx1 h1
              rcases List.mem_cons.1 h2 with rfl | h2
              · exact ⟨y, hy, hx⟩
              · have := o4 x h2; omega
          · exact h.p5 v hv
        · unfold isRing at hr
          simp at hr
          obtain ⟨a, b⟩ := hr
          have : r = [] := a
          subst this
          exact ⟨i, rfl, b⟩
  · rename_i hli
    have hlt : t.lo i < t.ix i := by have := h.le; omega
    refine ⟨D, ⟨h.ri, h.pre, h.n, h.old, h.ii, .inr ⟨r, h.st, hlt, ⟨p1, h.p2 hlt, fun v hv => ?_, h.p5⟩⟩⟩⟩
    rcases List.mem_cons.1 hv with rfl | hv
    · exact h.p3b (.inl hlt)
    · exact h.p3a v hv

theorem visit_ri (hN : N ≤ 256) (hnx : ∀ (i : Nat) (r : List Int), next[i]? = some r → ∀ k ∈ r, 0 ≤ k ∧ k < N) : ∀ (f i : Nat) (s : TS) (C : List (List Int)), RI N next s C → i < N → s.ix i = 0 → zeros s.index ≤ f →
    ∃ E, Pst N next s C i (visit next f i s) E := by
  intro f
  induction f with
  | zero =>
    intro i s C h hi h0 hz
    have h0' : s.index[i]?.getD 0 = 0 := by rw [← ix_nat]; exact h0
    have := h.ti.zero_at (by omega) h0'
    have hp : 0 < zeros s.index := List.countP_pos_iff.2 ⟨0, List.mem_of_getElem? this, by simp⟩
    omega
  | succ f ih =>
    intro i s C h hi h0 hz
    have h0' : s.index[i]?.getD 0 = 0 := by rw [← ix_nat]; exact h0
    obtain ⟨e1, e2, e3, e4, e5⟩ := h.ti.enter hN hi h0'
    have hloop : ∀ (ks js : List Int) (t : TS) (D : List (List Int)) (r : List Int), Lp N next s C i js t D r → zeros t.index ≤ f → (∀ k ∈ ks, k ∈ nx next i) → ∃ D' r', Lp N next s C i (js ++ ks) (ks.foldl (vstep next f i) t) D' r' := by
      intro ks
      induction ks with
      | nil => intro js t D r h _ _; exact ⟨D, r, by simpa using h⟩
      | cons k ks ihk =>
        intro js t D r ht hzt hk
        have hkb := nx_bound hnx i k (hk k (by simp))
        obtain ⟨v1, v2⟩ := vstep_ok (i := i) (visit_ok hN hnx f) ht.ri.ti hzt (k := k) hkb
        obtain ⟨E, r', hl⟩ := ht.step (f := f) hN hi h0 h hkb (hk k (by simp)) (fun hk0 => by
          have hkn : ((k.toNat : Nat) : Int) = k := Int.toNat_of_nonneg hkb.1
          have := ih k.toNat t D ht.ri (by omega) (by rw [hkn]; exact hk0) hzt
          rwa [hkn] at this)
        obtain ⟨D', r'', hl'⟩ := ihk (js ++ [k]) _ E r' hl (Nat.le_trans v2.zeros hzt) (fun k' hk' => hk k' (by simp [hk']))
        exact ⟨D', r'', by simpa using hl'⟩
    obtain ⟨D, r, hl⟩ := hloop (nx next i) [] (s.enter i) C [] (Lp.start h hN hi h0) (by omega) (fun _ h => h)
    obtain ⟨l1, l2⟩ := vsteps_ok (i := i) (visit_ok hN hnx f) (nx next i) e1 (by omega) (nx_bound hnx i)
    rw [visit_succ, ← nx_nat]
    exact hl.close hN hnx hi h0 h l2
end

/-- What the visit of the first instruction finds. -/
structure Sccs (N : Nat) (next : List (List Int)) (C : List (List Int)) : Prop where
  nd : C.flatten.Nodup
  zero : 0 ∈ C.flatten
  bound : ∀ v ∈ C.flatten, 0 ≤ v ∧ v < (N : Int)
  fin : ∀ (j : Nat) (c : List Int), C[j]? = some c → ∀ v ∈ c, ∀ w ∈ nx next v, w ∈ (C.take (j + 1)).flatten
  good : ∀ c ∈ C, GoodC next c
  out : (visit next 256 0 TS.start).out = (C.filter (isRing next)).map sortI
  vis : ∀ v ∈ C.flatten, (visit next 256 0 TS.start).ix v ≠ 0

theorem start_ix (v : Int) : TS.start.ix v = 0 := by
  unfold TS.ix TS.start
  split
  · simp only
    rw [List.getElem?_replicate]
    split <;> rfl
  · rfl

theorem sccs {N : Nat} {next : List (List Int)} (hN : N ≤ 256) (h0 : 0 < N) (hnx : ∀ (i : Nat) (r : List Int), next[i]? = some r → ∀ k ∈ r, 0 ≤ k ∧ k < N) : ∃ C, Sccs N next C := by
  have hz := TI.start N
  have hw : ∀ v : Int, TS.start.wi v = false := fun v => by
    unfold TS.wi TS.start
    split
    · simp only
      rw [List.getElem?_replicate]
      split <;> rfl
    · rfl
  have hr : RI N next TS.start [] := ⟨hz.1, List.nodup_nil, fun v => ⟨fun h => (by cases h), fun h => absurd (start_ix v) h.2.2⟩, fun v => ⟨fun h => (by rw [hw v] at h; cases h), fun h => (by cases h)⟩, List.Pairwise.nil, fun v => by rw [start_ix]; exact Int.le_refl 0, rfl, fun j c hj => by simp at hj, fun c hc => by cases hc⟩
  obtain ⟨C, hp⟩ := visit_ri hN hnx 256 0 TS.start [] hr h0 (start_ix _) (by rw [hz.2]; exact Nat.le_refl _)
  have hst : (visit next 256 0 TS.start).stack = [] := by
    rcases hp.alt with ⟨a, -⟩ | ⟨r, a, b, c⟩
    · exact a
    · obtain ⟨y, hy, x, hx, hx1, hx2⟩ := c.p2
      have ho := hp.ri.ord
      rw [a] at ho hx1
      have : TS.start.stack = [] := rfl
      rw [this, List.nil_append] at ho hx1
      rcases List.mem_cons.1 hx1 with rfl | hx1
      · exact absurd hx2 (by omega)
      · have := (List.pairwise_cons.1 ho).1 x hx1
        omega
  have hv := hp.ri.vis
  have hnd := hp.ri.nd
  rw [hst, List.nil_append] at hnd
  simp only [hst, List.nil_append] at hv
  refine ⟨C, hnd, (hv 0).2 ⟨Int.le_refl 0, by omega, ?_⟩, fun v hm => ⟨((hv v).1 hm).1, ((hv v).1 hm).2.1⟩, hp.ri.fin, hp.ri.good, hp.ri.out, fun v hm => ((hv v).1 hm).2.2⟩
  have := hp.ii
  have h1 : TS.start.n = 0 := rfl
  rw [h1] at this
  simp only [Int.natCast_zero] at this
  rw [this]
  decide

/-- Only what can be visited is. -/
theorem visit_only {next : List (List Int)} {P : Int → Prop} (hP : ∀ v, P v → ∀ w ∈ nx next v, P w) (h0 : ∀ v, P v → 0 ≤ v) : ∀ (f i : Nat) (s : TS), P i → (∀ v, s.ix v ≠ 0 → P v) → ∀ v, (visit next f i s).ix v ≠ 0 → P v := by
  intro f
  induction f with
  | zero => exact fun i s _ h => h
  | succ f ih =>
    intro i s hi h
    rw [visit_succ, ← nx_nat]
    have hc : ∀ (t : TS) (v : Int), (TS.close next t i).ix v = t.ix v := by
      intro t v
      unfold TS.close
      split <;> rfl
    have hl : ∀ (t : TS) (u v : Int), (t.lower i u).ix v = t.ix v := fun _ _ _ => rfl
    have he : ∀ v, (s.enter i).ix v ≠ 0 → P v := by
      intro v hv
      by_cases e : v = i
      · exact e ▸ hi
      · refine h v ?_
        unfold TS.ix at hv ⊢
        split
        · rename_i hv0
          rw [if_pos hv0] at hv
          have : (s.enter i).index[v.toNat]? = s.index[v.toNat]? := List.getElem?_set_ne (by omega)
          rwa [this] at hv
        · rename_i hv0
          rw [if_neg hv0] at hv
          exact absurd rfl hv
    have hloop : ∀ (ks : List Int) (t : TS), (∀ k ∈ ks, P k) → (∀ v, t.ix v ≠ 0 → P v) → ∀ v, (ks.foldl (vstep next f i) t).ix v ≠ 0 → P v := by
      intro ks
      induction ks with
      | nil => exact fun _ _ h => h
      | cons k ks ihk =>
        intro t hk ht
        refine ihk _ (fun k' hk' => hk k' (by simp [hk'])) ?_
        have hkP := hk k (by simp)
        have hkn : ((k.toNat : Nat) : Int) = k := Int.toNat_of_nonneg (h0 k hkP)
        unfold vstep
        split
        · intro v hv
          rw [hl] at hv
          exact ih k.toNat t (by rw [hkn]; exact hkP) ht v hv
        · split
          · exact fun v hv => ht v hv
          · exact ht
    intro v hv
    rw [hc] at hv
    exact hloop _ _ (fun k hk => hP i hi k hk) he v hv
end Go.Proofs.Ytfdlhlabkcmikaa
