/- flow.Reached: what it tells; plain. -/
import Derived.Test.YtfdlhlabkcmikaaOLaw
import Derived.Test.YtfdlhlabkcmikaaScc1
namespace Go.Proofs.Ytfdlhlabkcmikaa
open Go.RowKit Go.Shelf

theorem bfsK_at {n i : Nat} {out wave : List Int} {k : Int} (h : DI n out wave) (hi : 0 ≤ out[i]?.getD (-1)) (hk : 0 ≤ k ∧ k < n) : 0 ≤ (bfsK i (out, wave) k).1[k.toNat]?.getD (-1) ∧
    (∀ j : Nat, 0 ≤ (bfsK i (out, wave) k).1[j]?.getD (-1) → 0 ≤ out[j]?.getD (-1) ∨ ((j : Int) = k ∧ k ∈ (bfsK i (out, wave) k).2)) ∧ (∀ x ∈ wave, x ∈ (bfsK i (out, wave) k).2) := by
  have hkl : k.toNat < out.length := by rw [h.len]; omega
  have hu0 : 0 ≤ out[i]?.getD 0 := by
    cases e : out[i]? with
    | none => simp
    | some u => rw [e] at hi; exact hi
  unfold bfsK
  by_cases hneg : out[k.toNat]?.getD 0 < 0
  · rw [if_pos hneg]
    dsimp only
    refine ⟨by simp [hkl]; omega, fun j hj => ?_, fun x hx => List.mem_append.2 (.inl hx)⟩
    by_cases e : k.toNat = j
    · exact .inr ⟨by omega, by simp⟩
    · rw [List.getElem?_set_ne e] at hj
      exact .inl hj
  · rw [if_neg hneg]
    refine ⟨?_, fun j hj => .inl hj, fun x hx => hx⟩
    simp [hkl] at hneg ⊢
    exact hneg

theorem bfs_steps {n i : Nat} : ∀ (ks : List Int) {out wave : List Int}, DI n out wave → 0 ≤ out[i]?.getD (-1) → (∀ k ∈ ks, 0 ≤ k ∧ k < n) →
    (∀ k ∈ ks, 0 ≤ (ks.foldl (bfsK i) (out, wave)).1[k.toNat]?.getD (-1)) ∧ (∀ j : Nat, 0 ≤ out[j]?.getD (-1) → 0 ≤ (ks.foldl (bfsK i) (out, wave)).1[j]?.getD (-1)) ∧
    (∀ j : Nat, 0 ≤ (ks.foldl (bfsK i) (out, wave)).1[j]?.getD (-1) → 0 ≤ out[j]?.getD (-1) ∨ ((j : Int) ∈ ks ∧ (j : Int) ∈ (ks.foldl (bfsK i) (out, wave)).2)) ∧ (∀ x ∈ wave, x ∈ (ks.foldl (bfsK i) (out, wave)).2) := by
  intro ks
  induction ks with
  | nil => exact fun h hi _ => ⟨(fun k hk => by cases hk), fun _ h => h, fun _ h => .inl h, fun _ h => h⟩
  | cons k ks ih =>
    intro out wave h hi hk
    obtain ⟨h1, h2, h3⟩ := h.step hi (hk k (by simp))
    obtain ⟨a1, a2, a3⟩ := bfsK_at h hi (hk k (by simp))
    obtain ⟨b1, b2, b3, b4⟩ := ih h1 (h3 i hi) (fun k' hk' => hk k' (by simp [hk']))
    rw [List.foldl_cons]
    refine ⟨fun k' hk' => ?_, fun j hj => b2 j (h3 j hj), fun j hj => ?_, fun x hx => b4 x (a3 x hx)⟩
    · rcases List.mem_cons.1 hk' with rfl | hk'
      · exact b2 _ a1
      · exact b1 k' hk'
    · rcases b3 j hj with c | ⟨c1, c2⟩
      · rcases a2 j c with d | ⟨d1, d2⟩
        · exact .inl d
        · exact .inr ⟨by rw [d1]; simp, by rw [d1]; exact b4 k d2⟩
      · exact .inr ⟨List.mem_cons_of_mem _ c1, c2⟩

theorem bfs_mono {p : List Ins} (hR : Right p) : ∀ (m : Nat) (out wave : List Int), DI p.length out wave → ∀ j : Nat, 0 ≤ out[j]?.getD (-1) → 0 ≤ (bfsGo p m out wave)[j]?.getD (-1) := by
  intro m
  induction m with
  | zero => exact fun out wave _ j hj => hj
  | succ m ih =>
    intro out wave h j hj
    cases wave with
    | nil => rw [bfsGo_nil]; exact hj
    | cons i0 rest =>
      obtain ⟨i1, i2, i3⟩ := h.wav i0 (by simp)
      obtain ⟨i, rfl⟩ : ∃ i : Nat, i0 = i := ⟨i0.toNat, by omega⟩
      have hx : p[i]? = some (p[i]'(by omega)) := List.getElem?_eq_getElem (by omega)
      rw [bfsGo_cons hx]
      have hI2 : DI p.length out rest := ⟨h.len, h.val, fun k' hk' => h.wav k' (by simp [hk'])⟩
      have hi3 : 0 ≤ out[i]?.getD (-1) := by simpa using i3
      obtain ⟨hI3, -, -⟩ := hI2.steps (edgesX _ i) hi3 (hR.edges i _ hx)
      exact ih _ _ hI3 j ((bfs_steps (edgesX _ i) hI2 hi3 (hR.edges i _ hx)).2.1 j hj)

def Closed (p : List Ins) (out wave : List Int) : Prop := ∀ (i : Nat) (x : Ins), p[i]? = some x → 0 ≤ out[i]?.getD (-1) → (i : Int) ∉ wave → ∀ k ∈ edgesX x i, 0 ≤ out[k.toNat]?.getD (-1)

theorem bfs_law {p : List Ins} (hR : Right p) {F : List Int} {P : Nat → Prop} (hP : ∀ (i : Nat) (x : Ins), p[i]? = some x → 0 ≤ F[i]?.getD (-1) → P i → ∀ k ∈ edgesX x i, P k.toNat) : ∀ (m : Nat) (out wave : List Int), DI p.length out wave → negs out + wave.length ≤ m →
    Closed p out wave → (∀ j : Nat, 0 ≤ out[j]?.getD (-1) → P j) → bfsGo p m out wave = F → Closed p F [] ∧ ∀ j : Nat, 0 ≤ F[j]?.getD (-1) → P j := by
  intro m
  induction m with
  | zero =>
    intro out wave h hm hc hp hF
    have hw : wave = [] := List.length_eq_zero_iff.1 (by omega)
    subst hw
    exact hF ▸ ⟨hc, hp⟩
  | succ m ih =>
    intro out wave h hm hc hp hF
    cases wave with
    | nil => rw [bfsGo_nil] at hF; exact hF ▸ ⟨hc, hp⟩
    | cons i0 rest =>
      obtain ⟨i1, i2, i3⟩ := h.wav i0 (by simp)
      obtain ⟨i, rfl⟩ : ∃ i : Nat, i0 = i := ⟨i0.toNat, by omega⟩
      obtain ⟨x, hx⟩ : ∃ x, p[i]? = some x := ⟨p[i]'(by omega), List.getElem?_eq_getElem (by omega)⟩
      rw [bfsGo_cons hx] at hF
      have hI2 : DI p.length out rest := ⟨h.len, h.val, fun k' hk' => h.wav k' (by simp [hk'])⟩
      have hi3 : 0 ≤ out[i]?.getD (-1) := by simpa using i3
      obtain ⟨hI3, hneg, -⟩ := hI2.steps (edgesX x i) hi3 (hR.edges i _ hx)
      obtain ⟨b1, b2, b3, b4⟩ := bfs_steps (edgesX x i) hI2 hi3 (hR.edges i _ hx)
      have hmono := bfs_mono hR m _ _ hI3
      rw [hF] at hmono
      refine ih _ _ hI3 (by rw [hneg]; simp only [List.length_cons] at hm; omega) (fun j y hy hj hnw k hk => ?_) (fun j hj => ?_) hF
      · rcases b3 j hj with c | ⟨-, c⟩
        · by_cases e : j = i
          · subst e
            rw [hx] at hy
            cases hy
            exact b1 k hk
          · refine b2 _ (hc j y hy c (fun hm' => ?_) k hk)
            rcases List.mem_cons.1 hm' with h1 | h1
            · omega
            · exact hnw (b4 _ h1)
        · exact absurd c hnw
      · rcases b3 j hj with c | ⟨c, -⟩
        · exact hp j c
        · have := hP i x hx (hmono i (b2 i hi3)) (hp i hi3) j c
          simpa using this

def rch (p : List Ins) (v : Int) : Prop := 0 ≤ v ∧ (reachedX p)[v.toNat]?.getD false = true
theorem rch_dist (p : List Ins) (j : Nat) : (reachedX p)[j]?.getD false = true ↔ 0 ≤ (distX p)[j]?.getD (-1) := by
  unfold reachedX
  rw [List.getElem?_map]
  cases (distX p)[j]? <;> simp

theorem reached_law {p : List Ins} (hR : Right p) {P : Nat → Prop} (h0 : P 0) (hP : ∀ (i : Nat) (x : Ins), p[i]? = some x → (reachedX p)[i]?.getD false = true → P i → ∀ k ∈ edgesX x i, P k.toNat) :
    (reachedX p)[0]?.getD false = true ∧ (∀ (i : Nat) (x : Ins), p[i]? = some x → (reachedX p)[i]?.getD false = true → ∀ k ∈ edgesX x i, (reachedX p)[k.toNat]?.getD false = true) ∧ ∀ j : Nat, (reachedX p)[j]?.getD false = true → P j := by
  obtain ⟨d1, d2⟩ := DI.start hR.pos
  have hz : ∀ j : Nat, 0 ≤ ((List.replicate p.length (-1 : Int)).set 0 0)[j]?.getD (-1) → j = 0 := by
    intro j hj
    by_cases e : j = 0
    · exact e
    · rw [List.getElem?_set_ne (by omega), List.getElem?_replicate] at hj
      split at hj
      · exact absurd hj (by decide)
      · exact absurd hj (by decide)
  obtain ⟨a, b⟩ := bfs_law hR (F := distX p) (P := P) (fun i x hx hi => hP i x hx ((rch_dist p i).2 hi)) p.length _ _ d1 (by omega) (fun i x hx hi hn => by
    have := hz i hi; subst this; simp at hn) (fun j hj => by rw [hz j hj]; exact h0) rfl
  refine ⟨(rch_dist p 0).2 (bfs_mono hR _ _ _ d1 0 ?_), fun i x hx hi k hk => (rch_dist p _).2 (a i x hx ((rch_dist p i).1 hi) (by simp) k hk), fun j hj => b j ((rch_dist p j).1 hj)⟩
  have := hR.pos
  simp [this]

theorem nx_nextX {p : List Ins} {v : Int} {x : Ins} (h0 : 0 ≤ v) (hx : p[v.toNat]? = some x) (hr : (reachedX p)[v.toNat]?.getD false = true) : nx (nextX p) v = edgesX x v.toNat := by
  have hl := (List.getElem?_eq_some_iff.1 hx).1
  unfold nx nextX
  rw [if_pos h0, List.getElem?_map, List.getElem?_range hl]
  simp only [Option.map_some, Option.getD_some, nextAt, hr, hx, if_true]
theorem nx_mem {p : List Ins} {v w : Int} (h : w ∈ nx (nextX p) v) : 0 ≤ v ∧ (reachedX p)[v.toNat]?.getD false = true ∧ ∃ x, p[v.toNat]? = some x ∧ w ∈ edgesX x v.toNat := by
  unfold nx at h
  split at h
  · rename_i h0
    cases e : (nextX p)[v.toNat]? with
    | none => rw [e] at h; cases h
    | some r =>
      rw [e] at h
      have hl := (List.getElem?_eq_some_iff.1 e).1
      have : r = nextAt p v.toNat := by
        have h2 := (List.getElem?_eq_some_iff.1 e).2
        rw [← h2]
        simp [nextX]
      subst this
      simp only [Option.getD_some] at h
      unfold nextAt at h
      split at h
      · rename_i hr
        refine ⟨h0, hr, ?_⟩
        split at h
        · rename_i x hx; exact ⟨x, hx, h⟩
        · cases h
      · cases h
  · cases h

theorem next_reached {p : List Ins} (hR : Right p) {v w : Int} (h : w ∈ nx (nextX p) v) : rch p w := by
  obtain ⟨h0, hr, x, hx, hw⟩ := nx_mem h
  have hl := (List.getElem?_eq_some_iff.1 hx).1
  exact ⟨(hR.edges _ x hx w hw).1, (reached_law hR (P := fun _ => True) trivial (fun _ _ _ _ _ _ _ => trivial)).2.1 _ x hx hr w hw⟩

/-- The components: what is reached, once each. -/
theorem sccs_of {p : List Ins} (hR : Right p) : ∃ C, Sccs p.length (nextX p) C ∧ ∀ v, v ∈ C.flatten ↔ rch p v := by
  obtain ⟨C, hC⟩ := sccs hR.le hR.pos (nextX_bound hR)
  have hlen := reachedX_len hR
  refine ⟨C, hC, fun v => ⟨fun hv => ?_, fun hv => ?_⟩⟩
  · refine visit_only (next := nextX p) (P := rch p) (fun v _ w hw => next_reached hR hw) (fun v h => h.1) 256 0 TS.start ⟨Int.le_refl 0, ?_⟩ (fun v hv => absurd (start_ix v) hv) v (hC.vis v hv)
    exact (reached_law hR (P := fun _ => True) trivial (fun _ _ _ _ _ _ _ => trivial)).1
  · have := (reached_law hR (P := fun j => (j : Int) ∈ C.flatten) (by exact hC.zero) (fun i x hx hr hi k hk => ?_)).2.2 v.toNat hv.2
    · simpa [Int.toNat_of_nonneg hv.1] using this
    · obtain ⟨c, hc, hic⟩ := List.mem_flatten.1 hi
      obtain ⟨j, hj⟩ := List.getElem?_of_mem hc
      have hk' : k ∈ nx (nextX p) i := by rw [nx_nextX (x := x) (by omega) (by simpa using hx) (by simpa using hr)]; simpa using hk
      have := hC.fin j c hj i hic k hk'
      have h0 := (hR.edges i x hx k hk).1
      rw [Int.toNat_of_nonneg h0]
      obtain ⟨c', hc', hk''⟩ := List.mem_flatten.1 this
      exact List.mem_flatten.2 ⟨c', List.mem_of_mem_take hc', hk''⟩
end Go.Proofs.Ytfdlhlabkcmikaa
