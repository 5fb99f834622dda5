/- loops.rings: what holds of its visit; plain. -/
import Derived.Test.YtfdlhlabkcmikaaTarjan0
namespace Go.Proofs.Ytfdlhlabkcmikaa
open Go.RowKit Go.Shelf

def zeros (l : List Int) : Nat := l.countP (· == 0)

theorem zeros_set {l : List Int} {k : Nat} {u : Int} (h : l[k]? = some 0) (hu : u ≠ 0) : zeros (l.set k u) + 1 = zeros l := by
  obtain ⟨hk, h0⟩ := List.getElem?_eq_some_iff.1 h
  have hp : 0 < zeros l := List.countP_pos_iff.2 ⟨l[k], List.getElem_mem hk, by simpa using h0⟩
  unfold zeros at *
  rw [List.countP_set hk]
  have h1 : (l[k] == 0) = true := by simpa using h0
  have h2 : (u == 0) = false := by simpa using hu
  rw [h1, h2]
  simp
  omega

theorem idxFrom_app {i : Int} : ∀ (l r : List Int) (k : Nat), i ∉ l → Lib.idxFrom (l ++ i :: r) i k = ((k + l.length : Nat) : Int) := by
  intro l
  induction l with
  | nil => intro r k _; simp [Lib.idxFrom]
  | cons y l ih =>
    intro r k h
    have hy : y ≠ i := fun e => h (by simp [e])
    have := ih r (k + 1) (fun hm => h (by simp [hm]))
    simp only [List.cons_append, Lib.idxFrom, if_neg hy, this, List.length_cons]
    congr 1
    omega
theorem idxOf_app {i : Int} (l r : List Int) (h : i ∉ l) : Lib.idxOf (l ++ i :: r) i = l.length := by
  have := idxFrom_app l r 0 h
  simpa [Lib.idxOf] using this

/-- What always holds of the visit's state, in a program of N instructions. -/
structure TI (N : Nat) (s : TS) : Prop where
  il : s.index.length = 256
  ll : s.low.length = 256
  wl : s.within.length = 256
  nz : s.n + zeros s.index = 256
  iv : ∀ v ∈ s.index, 0 ≤ v ∧ v ≤ 256
  lv : ∀ v ∈ s.low, 0 ≤ v ∧ v ≤ 256
  st : ∀ k ∈ s.stack, 0 ≤ k ∧ k < N ∧ s.index[k.toNat]?.getD 0 ≠ 0
  sn : s.stack.length ≤ s.n
  on : s.out.length ≤ s.n
  ov : ∀ r ∈ s.out, r ≠ [] ∧ r.length ≤ 256 ∧ ∀ k ∈ r, 0 ≤ k ∧ k < N

/-- s' comes behind s. -/
structure Ext (s s' : TS) : Prop where
  n : s.n ≤ s'.n
  index : ∀ j : Nat, s.index[j]?.getD 0 ≠ 0 → s'.index[j]?.getD 0 ≠ 0
  stack : s.stack <+: s'.stack
  sl : s'.stack.length + s.n ≤ s.stack.length + s'.n
  out : s'.out.length + s.n ≤ s.out.length + s'.n
  zeros : zeros s'.index ≤ zeros s.index

theorem Ext.refl (s : TS) : Ext s s := ⟨Int.le_refl _, fun _ h => h, List.prefix_refl _, Int.le_refl _, Int.le_refl _, Nat.le_refl _⟩
theorem Ext.trans {a b c : TS} (h : Ext a b) (k : Ext b c) : Ext a c :=
  ⟨Int.le_trans h.n k.n, fun j hj => k.index j (h.index j hj), h.stack.trans k.stack, by have := h.sl; have := k.sl; omega, by have := h.out; have := k.out; omega, Nat.le_trans k.zeros h.zeros⟩

theorem TI.zero_at {N : Nat} {s : TS} (h : TI N s) {i : Nat} (hi : i < 256) (h0 : s.index[i]?.getD 0 = 0) : s.index[i]? = some 0 := by
  have hl : i < s.index.length := by rw [h.il]; exact hi
  rw [List.getElem?_eq_getElem hl] at h0 ⊢
  simpa using h0

theorem TI.enter {N : Nat} {s : TS} (h : TI N s) {i : Nat} (hN : N ≤ 256) (hi : i < N) (h0 : s.index[i]?.getD 0 = 0) : TI N (s.enter i) ∧ zeros (s.enter i).index + 1 = zeros s.index ∧ (s.enter i).index[i]?.getD 0 ≠ 0 ∧
    (∀ j : Nat, s.index[j]?.getD 0 ≠ 0 → (s.enter i).index[j]?.getD 0 ≠ 0) ∧ (i : Int) ∉ s.stack := by
  have hi0 := h.zero_at (by omega) h0
  have hil : i < s.index.length := by rw [h.il]; omega
  have hn0 : 0 ≤ s.n := by have := h.sn; omega
  have hz := zeros_set (u := s.n + 1) hi0 (by omega)
  have hnz := h.nz
  have hix : ∀ j : Nat, s.index[j]?.getD 0 ≠ 0 → (s.index.set i (s.n + 1))[j]?.getD 0 ≠ 0 := by
    intro j hj
    by_cases e : i = j
    · subst e; exact absurd h0 hj
    · rw [List.getElem?_set_ne e]; exact hj
  have hii : (s.index.set i (s.n + 1))[i]?.getD 0 ≠ 0 := by simp [hil]; omega
  refine ⟨⟨by simp [TS.enter, h.il], by simp [TS.enter, h.ll], by simp [TS.enter, h.wl], ?_, fun v hv => ?_, fun v hv => ?_, fun k hk => ?_, ?_, ?_, h.ov⟩, hz, hii, hix, fun hm => ?_⟩
  · show s.n + 1 + (zeros (s.index.set i (s.n + 1)) : Int) = 256
    omega
  · rcases List.mem_or_eq_of_mem_set hv with hv | rfl
    · exact h.iv v hv
    · omega
  · rcases List.mem_or_eq_of_mem_set hv with hv | rfl
    · exact h.lv v hv
    · omega
  · rcases List.mem_append.1 hk with hk | hk
    · obtain ⟨a, b, c⟩ := h.st k hk
      exact ⟨a, b, hix _ c⟩
    · simp at hk; subst hk
      exact ⟨by omega, by omega, hii⟩
  · have := h.sn
    simp [TS.enter]; omega
  · have := h.on
    show (s.out.length : Int) ≤ s.n + 1
    omega
  · have := (h.st _ hm).2.2
    exact this h0

theorem TI.lower {N : Nat} {s : TS} (h : TI N s) (i : Nat) {v : Int} (hv : 0 ≤ v ∧ v ≤ 256) : TI N (s.lower i v) ∧ Ext s (s.lower i v) := by
  refine ⟨⟨h.il, by simp [TS.lower, h.ll], h.wl, h.nz, h.iv, fun u hu => ?_, h.st, h.sn, h.on, h.ov⟩, ⟨Int.le_refl _, fun _ h => h, List.prefix_refl _, Int.le_refl _, Int.le_refl _, Nat.le_refl _⟩⟩
  rcases List.mem_or_eq_of_mem_set hu with hu | rfl
  · exact h.lv u hu
  · cases e : s.low[i]? with
    | none => simp; omega
    | some u => have := h.lv u (List.mem_of_getElem? e); simp; omega

theorem sortI_mem {l : List Int} {k : Int} : k ∈ sortI l ↔ k ∈ l := by unfold sortI; exact List.mem_mergeSort
theorem sortI_len (l : List Int) : (sortI l).length = l.length := by unfold sortI; exact List.length_mergeSort _

theorem unmark_len : ∀ (ring : List Int) (wi : List Bool), (unmark wi ring).length = wi.length := by
  intro ring
  induction ring with
  | nil => exact fun _ => rfl
  | cons k ring ih => intro wi; exact (ih _).trans (by simp)

/-- The end of a visit: s is the state ahead of it, t behind the loop. -/
theorem TI.close {N : Nat} {s t : TS} {next : List (List Int)} {i : Nat} (ht : TI N t) (hN : N ≤ 256) (hns : (i : Int) ∉ s.stack) (hst : s.stack ++ [(i : Int)] <+: t.stack) (hix : ∀ j : Nat, s.index[j]?.getD 0 ≠ 0 → t.index[j]?.getD 0 ≠ 0)
    (hn : s.n + 1 ≤ t.n) (hsl : t.stack.length + (s.n + 1) ≤ s.stack.length + 1 + t.n) (hout : t.out.length + (s.n + 1) ≤ s.out.length + t.n) (hz : zeros t.index ≤ zeros s.index) (hso : s.out.length ≤ s.n) :
    TI N (TS.close next t i) ∧ Ext s (TS.close next t i) ∧ (TS.close next t i).index = t.index ∧ (TS.close next t i).low = t.low ∧ (Lib.idxOf t.stack i).toNat = s.stack.length ∧ t.stack.drop s.stack.length ≠ [] ∧ t.stack.take s.stack.length = s.stack := by
  obtain ⟨r, hr⟩ := hst
  have hidx : (Lib.idxOf t.stack i).toNat = s.stack.length := by
    rw [← hr, List.append_assoc, List.singleton_append, idxOf_app _ _ hns]
    simp
  have htk : t.stack.take s.stack.length = s.stack := by
    rw [← hr, List.append_assoc, List.take_left' rfl]
  have hdr : t.stack.drop s.stack.length = (i : Int) :: r := by
    rw [← hr, List.append_assoc, List.drop_left' rfl]; rfl
  have hmem : ∀ k ∈ t.stack.drop s.stack.length, k ∈ t.stack := fun k hk => List.mem_of_mem_drop hk
  have hlen : t.stack.length ≤ 256 := by have := ht.sn; have := ht.nz; omega
  refine ⟨?_, ?_, ?_, ?_, hidx, by rw [hdr]; simp, htk⟩
  · unfold TS.close
    split
    · rw [hidx, htk]
      refine ⟨ht.il, ht.ll, by rw [unmark_len, ht.wl], ht.nz, ht.iv, ht.lv, fun k hk => ?_, ?_, ?_, fun q hq => ?_⟩
      · exact ht.st k (by rw [← hr]; simp [hk])
      · show (s.stack.length : Int) ≤ t.n
        have := ht.sn
        rw [← hr] at this
        simp at this; omega
      · show ((if _ then _ else _ : List (List Int)).length : Int) ≤ t.n
        have h1 := ht.on
        have h2 := ht.sn
        split
        · rw [List.length_append]
          simp
          omega
        · exact h1
      · split at hq
        · rcases List.mem_append.1 hq with hq | hq
          · exact ht.ov q hq
          · simp at hq
            subst hq
            refine ⟨fun e => ?_, ?_, fun k hk => ?_⟩
            · have := congrArg List.length e
              rw [sortI_len, hdr] at this
              simp at this
            · rw [sortI_len, List.length_drop]; omega
            · have := ht.st k (hmem k (sortI_mem.1 hk))
              exact ⟨this.1, this.2.1⟩
        · exact ht.ov q hq
    · exact ht
  · unfold TS.close
    split
    · rw [hidx, htk]
      refine ⟨by show s.n ≤ t.n; omega, hix, List.prefix_refl _, by show (s.stack.length : Int) + s.n ≤ s.stack.length + t.n; omega, ?_, hz⟩
      show ((if _ then _ else _ : List (List Int)).length : Int) + s.n ≤ s.out.length + t.n
      split
      · rw [List.length_append]; simp; omega
      · omega
    · exact ⟨by omega, hix, ⟨[(i : Int)] ++ r, by rw [← List.append_assoc]; exact hr⟩, by omega, by omega, hz⟩
  · unfold TS.close; split <;> rfl
  · unfold TS.close; split <;> rfl

theorem get_mem_or {l : List Int} (j : Nat) : l[j]?.getD 0 = 0 ∨ l[j]?.getD 0 ∈ l := by
  cases e : l[j]? with
  | none => exact .inl rfl
  | some v => exact .inr (by simpa using List.mem_of_getElem? e)

theorem TI.low_at {N : Nat} {s : TS} (h : TI N s) (j : Nat) : 0 ≤ s.low[j]?.getD 0 ∧ s.low[j]?.getD 0 ≤ 256 := by
  rcases get_mem_or (l := s.low) j with e | e
  · rw [e]; decide
  · exact h.lv _ e
theorem TI.index_at {N : Nat} {s : TS} (h : TI N s) (j : Nat) : 0 ≤ s.index[j]?.getD 0 ∧ s.index[j]?.getD 0 ≤ 256 := by
  rcases get_mem_or (l := s.index) j with e | e
  · rw [e]; decide
  · exact h.iv _ e

/-- What a visit does to the state's bounds. -/
def VisitOk (N : Nat) (next : List (List Int)) (f : Nat) : Prop :=
  ∀ (i : Nat) (s : TS), TI N s → i < N → s.index[i]?.getD 0 = 0 → zeros s.index ≤ f → TI N (visit next f i s) ∧ Ext s (visit next f i s) ∧ (visit next f i s).index[i]?.getD 0 ≠ 0

theorem vstep_ok {N f i : Nat} {next : List (List Int)} {t : TS} {k : Int} (hV : VisitOk N next f) (ht : TI N t) (hz : zeros t.index ≤ f) (hk : 0 ≤ k ∧ k < N) : TI N (vstep next f i t k) ∧ Ext t (vstep next f i t k) := by
  unfold vstep
  split
  · rename_i h0
    obtain ⟨h1, h2, -⟩ := hV k.toNat t ht (by omega) h0 hz
    obtain ⟨h3, h4⟩ := h1.lower i (h1.low_at k.toNat)
    exact ⟨h3, h2.trans h4⟩
  · split
    · exact ht.lower i (ht.index_at k.toNat)
    · exact ⟨ht, Ext.refl _⟩

theorem vsteps_ok {N f i : Nat} {next : List (List Int)} (hV : VisitOk N next f) : ∀ (ks : List Int) {t : TS}, TI N t → zeros t.index ≤ f → (∀ k ∈ ks, 0 ≤ k ∧ k < N) → TI N (ks.foldl (vstep next f i) t) ∧ Ext t (ks.foldl (vstep next f i) t) := by
  intro ks
  induction ks with
  | nil => exact fun h _ _ => ⟨h, Ext.refl _⟩
  | cons k ks ih =>
    intro t h hz hk
    obtain ⟨h1, h2⟩ := vstep_ok (i := i) hV h hz (hk k (by simp))
    obtain ⟨h3, h4⟩ := ih h1 (Nat.le_trans h2.zeros hz) (fun k' hk' => hk k' (by simp [hk']))
    exact ⟨h3, h2.trans h4⟩

/-- What holds ahead of the end of a visit. -/
theorem TI.closing {N i : Nat} {s t : TS} {next : List (List Int)} (hN : N ≤ 256) (hi : i < N) (hs : TI N s) (h0 : s.index[i]?.getD 0 = 0) (ht : TI N t) (he : Ext (s.enter i) t) :
    TI N (TS.close next t i) ∧ Ext s (TS.close next t i) ∧ (TS.close next t i).index = t.index ∧ (TS.close next t i).low = t.low ∧ (Lib.idxOf t.stack i).toNat = s.stack.length ∧ t.stack.drop s.stack.length ≠ [] ∧ t.stack.take s.stack.length = s.stack := by
  obtain ⟨e1, e2, e3, e4, e5⟩ := hs.enter hN hi h0
  refine ht.close hN e5 he.stack (fun j hj => he.index j (e4 j hj)) he.n ?_ ?_ ?_ hs.on
  · have h := he.sl
    have h2 : ((s.enter i).stack.length : Int) = s.stack.length + 1 := by simp [TS.enter]
    have h3 : (s.enter i).n = s.n + 1 := rfl
    omega
  · have h := he.out
    have h2 : ((s.enter i).out.length : Int) = s.out.length := rfl
    have h3 : (s.enter i).n = s.n + 1 := rfl
    omega
  · have h := he.zeros
    omega

theorem visit_ok {N : Nat} {next : List (List Int)} (hN : N ≤ 256) (hnx : ∀ (i : Nat) (r : List Int), next[i]? = some r → ∀ k ∈ r, 0 ≤ k ∧ k < N) : ∀ f, VisitOk N next f := by
  intro f
  induction f with
  | zero =>
    intro i s h hi h0 hz
    have := h.zero_at (by omega) h0
    have hp : 0 < zeros s.index := List.countP_pos_iff.2 ⟨0, List.mem_of_getElem? this, by simp⟩
    omega
  | succ f ih =>
    intro i s h hi h0 hz
    obtain ⟨e1, e2, e3, e4, e5⟩ := h.enter hN hi h0
    have hks : ∀ k ∈ next[i]?.getD [], 0 ≤ k ∧ k < (N : Int) := by
      cases e : next[i]? with
      | none => intro k hk; simp at hk
      | some r => exact hnx i r e
    obtain ⟨l1, l2⟩ := vsteps_ok (i := i) ih (next[i]?.getD []) e1 (by omega) hks
    obtain ⟨c1, c2, c3, -⟩ := TI.closing (next := next) hN hi h h0 l1 l2
    rw [visit_succ]
    exact ⟨c1, c2, by rw [c3]; exact l2.index i e3⟩

theorem TI.start (N : Nat) : TI N TS.start ∧ zeros TS.start.index = 256 := by
  have hz : zeros (List.replicate 256 (0 : Int)) = 256 := by unfold zeros; rw [List.countP_replicate]; simp
  refine ⟨⟨List.length_replicate, List.length_replicate, List.length_replicate, ?_, fun v hv => ?_, fun v hv => ?_, fun k hk => (by cases hk), Int.le_refl 0, Int.le_refl 0, fun r hr => (by cases hr)⟩, hz⟩
  · show (0 : Int) + (zeros (List.replicate 256 (0 : Int)) : Int) = 256
    rw [hz]; rfl
  · have := List.eq_of_mem_replicate hv; omega
  · have := List.eq_of_mem_replicate hv; omega
end Go.Proofs.Ytfdlhlabkcmikaa
