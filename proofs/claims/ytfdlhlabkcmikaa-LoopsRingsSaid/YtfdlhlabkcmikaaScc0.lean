/- loops.rings: what its visit finds; plain. -/
import Derived.Test.YtfdlhlabkcmikaaDag
namespace Go.Proofs.Ytfdlhlabkcmikaa
open Go.RowKit Go.Shelf

def nx (next : List (List Int)) (v : Int) : List Int := if 0 ≤ v then next[v.toNat]?.getD [] else []
def TS.ix (s : TS) (v : Int) : Int := if 0 ≤ v then s.index[v.toNat]?.getD 0 else 0
def TS.lo (s : TS) (v : Int) : Int := if 0 ≤ v then s.low[v.toNat]?.getD 0 else 0
def TS.wi (s : TS) (v : Int) : Bool := if 0 ≤ v then s.within[v.toNat]?.getD false else false
def isRing (next : List (List Int)) (c : List Int) : Bool := decide (1 < c.length) || (nx next (c.headD 0)).contains (c.headD 0)

theorem nx_nat (next : List (List Int)) (i : Nat) : nx next i = next[i]?.getD [] := by simp [nx]
theorem ix_nat (s : TS) (i : Nat) : s.ix i = s.index[i]?.getD 0 := by simp [TS.ix]
theorem lo_nat (s : TS) (i : Nat) : s.lo i = s.low[i]?.getD 0 := by simp [TS.lo]
theorem wi_nat (s : TS) (i : Nat) : s.wi i = s.within[i]?.getD false := by simp [TS.wi]
theorem ix_toNat (s : TS) {k : Int} (h : 0 ≤ k) : s.index[k.toNat]?.getD 0 = s.ix k := by simp [TS.ix, h]
theorem lo_toNat (s : TS) {k : Int} (h : 0 ≤ k) : s.low[k.toNat]?.getD 0 = s.lo k := by simp [TS.lo, h]
theorem wi_toNat (s : TS) {k : Int} (h : 0 ≤ k) : s.within[k.toNat]?.getD false = s.wi k := by simp [TS.wi, h]

theorem set_at {α : Type} {l : List α} {i : Nat} {u d : α} (hi : i < l.length) (v : Int) : (if 0 ≤ v then (l.set i u)[v.toNat]?.getD d else d) = if v = i then u else (if 0 ≤ v then l[v.toNat]?.getD d else d) := by
  by_cases h : v = i
  · subst h; simp [hi]
  · rw [if_neg h]
    by_cases h0 : 0 ≤ v
    · rw [if_pos h0, if_pos h0, List.getElem?_set_ne (by omega)]
    · rw [if_neg h0, if_neg h0]

/-- A component that is done. -/
structure GoodC (next : List (List Int)) (c : List Int) : Prop where
  ne : c ≠ []
  ring : isRing next c = true → (∀ v ∈ c, ∃ w ∈ nx next v, w ∈ c) ∧ (∀ v ∈ c, ∃ u ∈ c, v ∈ nx next u)
  one : isRing next c = false → ∃ v, c = [v] ∧ v ∉ nx next v

/-- What always holds: C are the components that are done. -/
structure RI (N : Nat) (next : List (List Int)) (s : TS) (C : List (List Int)) : Prop where
  ti : TI N s
  nd : (s.stack ++ C.flatten).Nodup
  vis : ∀ v : Int, v ∈ s.stack ++ C.flatten ↔ (0 ≤ v ∧ v < N ∧ s.ix v ≠ 0)
  win : ∀ v : Int, s.wi v = true ↔ v ∈ s.stack
  ord : s.stack.Pairwise (fun a b => s.ix a < s.ix b)
  top : ∀ v, s.ix v ≤ s.n
  out : s.out = (C.filter (isRing next)).map sortI
  fin : ∀ (j : Nat) (c : List Int), C[j]? = some c → ∀ v ∈ c, ∀ w ∈ nx next v, w ∈ (C.take (j + 1)).flatten
  good : ∀ c ∈ C, GoodC next c

structure Rem (next : List (List Int)) (t : TS) (i : Int) (r : List Int) : Prop where
  p1 : ∀ v ∈ i :: r, ∀ w ∈ nx next v, t.ix w ≠ 0 ∧ (w ∈ t.stack → t.lo i ≤ t.ix w)
  p2 : ∃ y ∈ i :: r, ∃ x ∈ nx next y, x ∈ t.stack ∧ t.ix x = t.lo i
  p3 : ∀ v ∈ i :: r, ∃ w ∈ nx next v, w ∈ t.stack
  p5 : ∀ v ∈ r, ∃ u ∈ i :: r, v ∈ nx next u

structure Pst (N : Nat) (next : List (List Int)) (s : TS) (C : List (List Int)) (i : Int) (t : TS) (D : List (List Int)) : Prop where
  ri : RI N next t D
  pre : C <+: D
  n : s.n + 1 ≤ t.n
  old : ∀ v, s.ix v ≠ 0 → t.ix v = s.ix v ∧ t.lo v = s.lo v
  ii : t.ix i = s.n + 1
  alt : (t.stack = s.stack ∧ t.lo i = t.ix i) ∨ ∃ r, t.stack = s.stack ++ i :: r ∧ t.lo i < t.ix i ∧ Rem next t i r

structure Lp (N : Nat) (next : List (List Int)) (s : TS) (C : List (List Int)) (i : Int) (ks : List Int) (t : TS) (D : List (List Int)) (r : List Int) : Prop where
  ri : RI N next t D
  pre : C <+: D
  n : s.n + 1 ≤ t.n
  old : ∀ v, s.ix v ≠ 0 → t.ix v = s.ix v ∧ t.lo v = s.lo v
  ii : t.ix i = s.n + 1
  st : t.stack = s.stack ++ i :: r
  le : t.lo i ≤ t.ix i
  p1a : ∀ v ∈ r, ∀ w ∈ nx next v, t.ix w ≠ 0 ∧ (w ∈ t.stack → t.lo i ≤ t.ix w)
  p1b : ∀ w ∈ ks, t.ix w ≠ 0 ∧ (w ∈ t.stack → t.lo i ≤ t.ix w)
  p2 : t.lo i < t.ix i → ∃ y ∈ i :: r, ∃ x ∈ nx next y, x ∈ t.stack ∧ t.ix x = t.lo i
  p3a : ∀ v ∈ r, ∃ w ∈ nx next v, w ∈ t.stack
  p3b : (t.lo i < t.ix i ∨ r ≠ []) → ∃ w ∈ nx next i, w ∈ t.stack
  p5 : ∀ v ∈ r, ∃ u ∈ i :: r, v ∈ nx next u
  p6 : r ≠ [] → ∃ y ∈ i :: r, ∃ x ∈ nx next y, x ∈ t.stack ∧ t.ix x ≤ t.ix i

section
variable {N : Nat} {next : List (List Int)} {s t u : TS} {C D E : List (List Int)} {i : Nat} {r : List Int}

/-- Lowering a number leaves the rest. -/
theorem RI.lower (h : RI N next t D) (v : Int) (hv : 0 ≤ v ∧ v ≤ 256) : RI N next (t.lower i v) D :=
  ⟨(h.ti.lower i hv).1, h.nd, h.vis, h.win, h.ord, h.top, h.out, h.fin, h.good⟩
theorem lower_lo (h : TI N t) (hi : i < 256) (v w : Int) : (t.lower i v).lo w = if w = i then min (t.lo i) v else t.lo w := by
  have := set_at (l := t.low) (u := min (t.low[i]?.getD 0) v) (d := 0) (i := i) (by rw [h.ll]; exact hi) w
  rw [lo_nat]
  exact this

/-- What was visited ahead of a step and is on the stack behind it was there. -/
theorem was_on (ht : RI N next t D) (hu : RI N next u E) (hp : D <+: E) {w : Int} (h : t.ix w ≠ 0) (h0 : 0 ≤ w ∧ w < N) (hw : w ∈ u.stack) : w ∈ t.stack := by
  have := (ht.vis w).2 ⟨h0.1, h0.2, h⟩
  rcases List.mem_append.1 this with h1 | h1
  · exact h1
  · obtain ⟨F, rfl⟩ := hp
    have h2 := (List.nodup_append.1 hu.nd).2.2
    exact absurd rfl (h2 w hw w (by simp at h1 ⊢; obtain ⟨c, hc, hw'⟩ := h1; exact .inl ⟨c, hc, hw'⟩))

theorem Lp.start (hs : RI N next s C) (hN : N ≤ 256) (hi : i < N) (h0 : s.ix i = 0) : Lp N next s C i [] (s.enter i) C [] := by
  have h0' : s.index[i]?.getD 0 = 0 := by rw [← ix_nat]; exact h0
  obtain ⟨e1, e2, e3, e4, e5⟩ := hs.ti.enter hN hi h0'
  have hix : ∀ v, (s.enter i).ix v = if v = i then s.n + 1 else s.ix v := fun v => set_at (l := s.index) (by rw [hs.ti.il]; omega) v
  have hlo : ∀ v, (s.enter i).lo v = if v = i then s.n + 1 else s.lo v := fun v => set_at (l := s.low) (by rw [hs.ti.ll]; omega) v
  have hwi : ∀ v, (s.enter i).wi v = if v = i then true else s.wi v := fun v => set_at (l := s.within) (by rw [hs.ti.wl]; omega) v
  have hn : 0 ≤ s.n := by have := hs.ti.sn; omega
  have hni : ∀ v, s.ix v ≠ 0 → v ≠ i := fun v hv e => hv (e ▸ h0)
  have hii : (s.enter i).ix i = s.n + 1 := by rw [hix, if_pos rfl]
  have hli : (s.enter i).lo i = s.n + 1 := by rw [hlo, if_pos rfl]
  have hnot : (i : Int) ∉ s.stack ++ C.flatten := fun h => ((hs.vis i).1 h).2.2 h0
  refine ⟨⟨e1, ?_, fun v => ?_, fun v => ?_, ?_, fun v => ?_, hs.out, hs.fin, hs.good⟩, List.prefix_refl _, Int.le_refl _, fun v hv => ?_, hii, rfl, by rw [hii, hli]; exact Int.le_refl _, (fun v hv => by cases hv), (fun v hv => by cases hv), fun h => ?_, (fun v hv => by cases hv), fun h => ?_, (fun v hv => by cases hv), fun h => absurd rfl h⟩
  · show (s.stack ++ [(i : Int)] ++ C.flatten).Nodup
    rw [List.append_assoc, List.singleton_append]
    exact List.perm_middle.nodup_iff.2 (List.nodup_cons.2 ⟨hnot, hs.nd⟩)
  · show v ∈ s.stack ++ [(i : Int)] ++ C.flatten ↔ _
    rw [hix]
    by_cases e : v = i
    · subst e
      rw [if_pos rfl]
      simp
      omega
    · rw [if_neg e, ← hs.vis v]
      simp [e]
  · show _ ↔ v ∈ s.stack ++ [(i : Int)]
    rw [hwi]
    by_cases e : v = i
    · subst e; simp
    · rw [if_neg e, hs.win v]
      simp [e]
  · show (s.stack ++ [(i : Int)]).Pairwise _
    rw [List.pairwise_append]
    refine ⟨hs.ord.imp_of_mem fun {a b} ha hb h => ?_, List.pairwise_singleton _ _, fun a ha b hb => ?_⟩
    · have h1 := hni a ((hs.vis a).1 (List.mem_append.2 (.inl ha))).2.2
      have h2 := hni b ((hs.vis b).1 (List.mem_append.2 (.inl hb))).2.2
      rw [hix, hix, if_neg h1, if_neg h2]
      exact h
    · simp at hb; subst hb
      have h1 := hni a ((hs.vis a).1 (List.mem_append.2 (.inl ha))).2.2
      rw [hix, if_neg h1, hii]
      have := hs.top a
      omega
  · rw [hix]
    show _ ≤ s.n + 1
    split
    · omega
    · have := hs.top v; omega
  · have := hni v hv
    rw [hix, hlo, if_neg this, if_neg this]
    exact ⟨rfl, rfl⟩
  · rw [hii, hli] at h; omega
  · rcases h with h | h
    · rw [hii, hli] at h; omega
    · exact absurd rfl h

/-- One edge. -/
theorem Lp.step {ks : List Int} {k : Int} {f : Nat} (hN : N ≤ 256) (hi : i < N) (h0 : s.ix i = 0) (hs : RI N next s C) (h : Lp N next s C i ks t D r) (hk : 0 ≤ k ∧ k < N) (hki : k ∈ nx next i)
    (ih : t.ix k = 0 → ∃ E, Pst N next t D k (visit next f k.toNat t) E) : ∃ E r', Lp N next s C i (ks ++ [k]) (vstep next f i t k) E r' := by
  have hn0 : 0 ≤ s.n := by have := hs.ti.sn; omega
  have hii0 : t.ix i ≠ 0 := by rw [h.ii]; omega
  have hni : ∀ v, s.ix v ≠ 0 → v ≠ i := fun v hv e => hv (e ▸ h0)
  have hon : ∀ v ∈ t.stack, t.ix v ≠ 0 := fun v hv => ((h.ri.vis v).1 (List.mem_append.2 (.inl hv))).2.2
  unfold vstep
  rw [ix_toNat t hk.1, wi_toNat t hk.1]
  split
  · rename_i hk0
    obtain ⟨E, hp⟩ := ih hk0
    rw [lo_toNat _ hk.1]
    generalize visit next f k.toNat t = u at hp ⊢
    obtain ⟨oi, ol⟩ := hp.old i hii0
    have hb : 0 ≤ u.lo k ∧ u.lo k ≤ 256 := by have := hp.ri.ti.low_at k.toNat; rwa [lo_toNat _ hk.1] at this
    have hl := lower_lo hp.ri.ti (i := i) (by omega) (u.lo k)
    have hri := hp.ri.lower (i := i) (u.lo k) hb
    have hlo : (u.lower i (u.lo k)).lo i = min (t.lo i) (u.lo k) := by rw [hl, if_pos rfl, ol]
    have hix : ∀ v, (u.lower i (u.lo k)).ix v = u.ix v := fun _ => rfl
    have hst : (u.lower i (u.lo k)).stack = u.stack := rfl
    have hun : ∀ w ∈ u.stack, 0 ≤ w ∧ w < N := fun w hw => by have := (hp.ri.vis w).1 (List.mem_append.2 (.inl hw)); exact ⟨this.1, this.2.1⟩
    have hwas : ∀ w, t.ix w ≠ 0 → w ∈ u.stack → w ∈ t.stack := fun w hw hm => was_on h.ri hp.ri hp.pre hw (hun w hm) hm
    have hold : ∀ v, s.ix v ≠ 0 → (u.lower i (u.lo k)).ix v = s.ix v ∧ (u.lower i (u.lo k)).lo v = s.lo v := by
      intro v hv
      obtain ⟨a, b⟩ := h.old v hv
      obtain ⟨c, d⟩ := hp.old v (by rw [a]; exact hv)
      rw [hix, hl, if_neg (hni v hv)]
      exact ⟨c.trans a, d.trans b⟩
    rcases hp.alt with ⟨q1, q2⟩ | ⟨r2, q1, q2, q3⟩
    · have hmin : (u.lower i (u.lo k)).lo i = t.lo i := by
        rw [hlo, q2, hp.ii]
        have := h.le; have := h.ii; have := h.n
        omega
      have hsame : ∀ v ∈ t.stack, u.ix v = t.ix v := fun v hv => (hp.old v (hon v hv)).1
      refine ⟨E, r, hri, h.pre.trans hp.pre, Int.le_trans h.n (by show t.n ≤ u.n; have := hp.n; omega), hold, oi.trans h.ii, q1.trans h.st, ?_, fun v hv w hw => ?_, fun w hw => ?_, fun hlt => ?_, fun v hv => ?_, fun hc => ?_, h.p5, fun hr => ?_⟩
      · rw [hmin, hix, oi]; exact h.le
      · rw [hmin, hix, hst, q1]
        obtain ⟨a, b⟩ := h.p1a v hv w hw
        rw [(hp.old w a).1]
        exact ⟨a, b⟩
      · rw [hmin, hix, hst, q1]
        rcases List.mem_append.1 hw with hw | hw
        · obtain ⟨a, b⟩ := h.p1b w hw
          rw [(hp.old w a).1]
          exact ⟨a, b⟩
        · simp at hw; subst hw
          refine ⟨by rw [hp.ii]; have := h.n; omega, fun hm => absurd hk0 (hon _ hm)⟩
      · rw [hmin, hix, oi] at hlt
        obtain ⟨y, hy, x, hx, hx1, hx2⟩ := h.p2 hlt
        exact ⟨y, hy, x, hx, by rw [hst, q1]; exact hx1, by rw [hmin, hix, hsame x hx1]; exact hx2⟩
      · rw [hst, q1]; exact h.p3a v hv
      · rw [hst, q1]
        rw [hmin, hix, oi] at hc
        exact h.p3b hc
      · obtain ⟨y, hy, x, hx, hx1, hx2⟩ := h.p6 hr
        exact ⟨y, hy, x, hx, by rw [hst, q1]; exact hx1, by rw [hix, hix, hsame x hx1, oi]; exact hx2⟩
    · have hsub : ∀ v ∈ t.stack, v ∈ u.stack := fun v hv => by rw [q1]; exact List.mem_append.2 (.inl hv)
      have hsame : ∀ v ∈ t.stack, u.ix v = t.ix v := fun v hv => (hp.old v (hon v hv)).1
      have hku : k ∈ u.stack := by rw [q1]; simp
      have hsubi : ∀ v ∈ (i : Int) :: r, v ∈ (i : Int) :: (r ++ k :: r2) := fun v hv => by
        rcases List.mem_cons.1 hv with rfl | hv
        · exact List.mem_cons_self
        · exact List.mem_cons_of_mem _ (List.mem_append.2 (.inl hv))
      have hsubk : ∀ v ∈ k :: r2, v ∈ (i : Int) :: (r ++ k :: r2) := fun v hv => List.mem_cons_of_mem _ (List.mem_append.2 (.inr hv))
      refine ⟨E, r ++ k :: r2, hri, h.pre.trans hp.pre, Int.le_trans h.n (by show t.n ≤ u.n; have := hp.n; omega), hold, oi.trans h.ii, ?_, ?_, fun v hv w hw => ?_, fun w hw => ?_, fun hlt => ?_, fun v hv => ?_, fun hc => ⟨k, hki, hku⟩, fun v hv => ?_, fun hr => ?_⟩
      · rw [hst, q1, h.st]; simp
      · rw [hlo, hix, oi]; have := h.le; omega
      · rw [hlo, hix, hst]
        rcases List.mem_append.1 hv with hv | hv
        · obtain ⟨a, b⟩ := h.p1a v hv w hw
          rw [(hp.old w a).1]
          exact ⟨a, fun hm => by have := b (hwas w a hm); omega⟩
        · obtain ⟨a, b⟩ := q3.p1 v hv w hw
          exact ⟨a, fun hm => by have := b hm; omega⟩
      · rw [hlo, hix, hst]
        rcases List.mem_append.1 hw with hw | hw
        · obtain ⟨a, b⟩ := h.p1b w hw
          rw [(hp.old w a).1]
          exact ⟨a, fun hm => by have := b (hwas w a hm); omega⟩
        · simp at hw; subst hw
          exact ⟨by rw [hp.ii]; have := h.n; omega, fun _ => by omega⟩
      · rw [hlo, hix, oi] at hlt
        by_cases hc : t.lo i ≤ u.lo k
        · obtain ⟨y, hy, x, hx, hx1, hx2⟩ := h.p2 (by omega)
          exact ⟨y, hsubi y hy, x, hx, hsub x hx1, by rw [hlo, hix, hsame x hx1]; omega⟩
        · obtain ⟨y, hy, x, hx, hx1, hx2⟩ := q3.p2
          exact ⟨y, hsubk y hy, x, hx, hx1, by rw [hlo, hix]; omega⟩
      · rw [hst]
        rcases List.mem_append.1 hv with hv | hv
        · obtain ⟨w, a, b⟩ := h.p3a v hv
          exact ⟨w, a, hsub w b⟩
        · exact q3.p3 v hv
      · rcases List.mem_append.1 hv with hv | hv
        · obtain ⟨y, a, b⟩ := h.p5 v hv
          exact ⟨y, hsubi y a, b⟩
        · rcases List.mem_cons.1 hv with rfl | hv
          · exact ⟨i, List.mem_cons_self, hki⟩
          · obtain ⟨y, a, b⟩ := q3.p5 v hv
            exact ⟨y, hsubk y a, b⟩
      · obtain ⟨y, hy, x, hx, hx1, hx2⟩ := q3.p2
        have hxt : x ∈ t.stack := by
          rw [q1] at hx1
          rcases List.mem_append.1 hx1 with hx1 | hx1
          · exact hx1
          · rcases List.mem_cons.1 hx1 with rfl | hx1
            · omega
            · have ho := hp.ri.ord
              rw [q1] at ho
              have := (List.pairwise_cons.1 (List.pairwise_append.1 ho).2.1).1 x hx1
              omega
        by_cases hc : u.ix x ≤ u.ix i
        · exact ⟨y, hsubk y hy, x, hx, hx1, hc⟩
        · have hr' : r ≠ [] := by
            rintro rfl
            have ho := h.ri.ord
            rw [h.st] at ho
            rw [hsame x hxt, oi] at hc
            rw [h.st] at hxt
            rcases List.mem_append.1 hxt with hxt | hxt
            · have := (List.pairwise_append.1 ho).2.2 x hxt i (by simp)
              omega
            · simp at hxt; subst hxt; omega
          obtain ⟨y, hy, x, hx, hx1, hx2⟩ := h.p6 hr'
          exact ⟨y, hsubi y hy, x, hx, hsub x hx1, by rw [hix, hix, hsame x hx1, oi]; exact hx2⟩
  · rename_i hk0
    split
    · rename_i hkw
      have hks : k ∈ t.stack := (h.ri.win k).1 hkw
      have hb : 0 ≤ t.ix k ∧ t.ix k ≤ 256 := by have := h.ri.ti.index_at k.toNat; rwa [ix_toNat _ hk.1] at this
      have hl := lower_lo h.ri.ti (i := i) (by omega) (t.ix k)
      have hri := h.ri.lower (i := i) (t.ix k) hb
      have hlo : (t.lower i (t.ix k)).lo i = min (t.lo i) (t.ix k) := by rw [hl, if_pos rfl]
      have hix : ∀ v, (t.lower i (t.ix k)).ix v = t.ix v := fun _ => rfl
      have hst : (t.lower i (t.ix k)).stack = t.stack := rfl
      refine ⟨D, r, hri, h.pre, h.n, fun v hv => ?_, h.ii, h.st, ?_, fun v hv w hw => ?_, fun w hw => ?_, fun hlt => ?_, h.p3a, fun hc => ⟨k, hki, hks⟩, h.p5, h.p6⟩
      · rw [hix, hl, if_neg (hni v hv)]; exact h.old v hv
      · rw [hlo, hix]; have := h.le; omega
      · rw [hlo, hix, hst]
        obtain ⟨a, b⟩ := h.p1a v hv w hw
        exact ⟨a, fun hm => by have := b hm; omega⟩
      · rw [hlo, hix, hst]
        rcases List.mem_append.1 hw with hw | hw
        · obtain ⟨a, b⟩ := h.p1b w hw
          exact ⟨a, fun hm => by have := b hm; omega⟩
        · simp at hw; subst hw
          exact ⟨hk0, fun _ => by omega⟩
      · rw [hlo, hix] at hlt
        by_cases hc : t.lo i ≤ t.ix k
        · obtain ⟨y, hy, x, hx, hx1, hx2⟩ := h.p2 (by omega)
          exact ⟨y, hy, x, hx, hx1, by rw [hlo, hix]; omega⟩
        · exact ⟨i, List.mem_cons_self, k, hki, hks, by rw [hlo, hix]; omega⟩
    · rename_i hkw
      refine ⟨D, r, h.ri, h.pre, h.n, h.old, h.ii, h.st, h.le, h.p1a, fun w hw => ?_, h.p2, h.p3a, h.p3b, h.p5, h.p6⟩
      rcases List.mem_append.1 hw with hw | hw
      · exact h.p1b w hw
      · simp at hw; subst hw
        exact ⟨hk0, fun hm => absurd ((h.ri.win w).2 hm) hkw⟩
end
end Go.Proofs.Ytfdlhlabkcmikaa
