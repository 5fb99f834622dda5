/- flow.Distances: what it computes, and what its loops know; no condition. -/
import Derived.Test.YtfdlhlabkcmikaaBefore0
namespace Go.Proofs.Ytfdlhlabkcmikaa
open Go.RowKit Go.Shelf

/-! ### Programs that are right -/
theorem checkFrom_some {len : Int} : ∀ {p : List Ins} {k : Int} {r : Int × Int}, checkFrom len p k = some r → r.2 ≠ 0 := by
  intro p
  induction p with
  | nil => intro k r h; cases h
  | cons x p ih =>
    intro k r h
    unfold checkFrom at h
    split at h
    · rename_i h1; cases h; exact h1
    · split at h
      · cases h; show (142 : Int) ≠ 0; decide
      · exact ih h

theorem checkFrom_none {len : Int} : ∀ {p : List Ins} {k : Int}, checkFrom len p k = none → ∀ x ∈ p, oneE x = 0 ∧ (targetB x = true → target x < len) := by
  intro p
  induction p with
  | nil => intro k _ x hx; cases hx
  | cons y p ih =>
    intro k h x hx
    unfold checkFrom at h
    split at h
    · cases h
    · rename_i h1
      split at h
      · cases h
      · rename_i h2
        rcases List.mem_cons.1 hx with rfl | hx
        · exact ⟨by simpa using h1, fun ht => Int.not_le.1 fun hl => h2 ⟨ht, hl⟩⟩
        · exact ih h x hx

/-- A program that code.Check finds right. -/
structure Right (p : List Ins) : Prop where
  pos : 0 < p.length
  le : p.length ≤ 256
  one : ∀ x ∈ p, oneE x = 0 ∧ (targetB x = true → target x < p.length)
  last : ∀ x, p.getLast? = some x → goesB x = false

theorem right_of {p : List Ins} (h : (checkP p).2 = 0) : Right p := by
  unfold checkP at h
  split at h
  · simp at h
  · split at h
    · simp at h
    · split at h
      · rename_i hr; exact absurd h (checkFrom_some hr)
      · rename_i hn
        refine ⟨by omega, by omega, checkFrom_none hn, fun x hx => ?_⟩
        rw [hx] at h
        simp only at h
        split at h
        · simp at h
        · rename_i hg; exact Bool.eq_false_iff.2 hg

theorem Right.edges {p : List Ins} (h : Right p) : ∀ (i : Nat) (x : Ins), p[i]? = some x → ∀ k ∈ edgesX x i, 0 ≤ k ∧ k < p.length := by
  intro i x hx k hk
  have hlt := (List.getElem?_eq_some_iff.1 hx).1
  have h1 := h.one x (List.mem_of_getElem? hx)
  have hT : ∀ c : Prop, targetB x = true ∧ c → 0 ≤ target x ∧ target x < p.length := fun c hc => ⟨target_nonneg hc.1, h1.2 hc.1⟩
  unfold edgesX at hk
  simp only [List.mem_append] at hk
  rcases hk with (hk | hk) | hk
  · split at hk
    · rename_i hc; simp at hk; rw [hk]; exact hT _ hc
    · cases hk
  · split at hk
    · rename_i hc
      simp at hk
      refine ⟨by omega, ?_⟩
      by_cases hl : i + 1 = p.length
      · exfalso
        have := h.last x (by rw [List.getLast?_eq_getElem?, ← hl]; simpa using hx)
        rw [this] at hc; cases hc
      · omega
    · cases hk
  · split at hk
    · rename_i hc; simp at hk; rw [hk]; exact hT _ hc
    · cases hk

/-! ### The search -/
def bfsK (i : Nat) (s : List Int × List Int) (k : Int) : List Int × List Int :=
  if s.1[k.toNat]?.getD 0 < 0 then (s.1.set k.toNat (s.1[i]?.getD 0 + 1), s.2 ++ [k]) else s
def bfsGo (p : List Ins) : Nat → List Int → List Int → List Int
  | 0, out, _ => out
  | _ + 1, out, [] => out
  | m + 1, out, i :: rest =>
    match p[i.toNat]? with
    | none => out
    | some x => let s := (edgesX x i).foldl (bfsK i.toNat) (out, rest); bfsGo p m s.1 s.2
def distX (p : List Ins) : List Int := bfsGo p p.length ((List.replicate p.length (-1)).set 0 0) [0]

theorem bfsGo_cons {p : List Ins} {m i : Nat} {x : Ins} {out rest : List Int} (hx : p[i]? = some x) : bfsGo p (m + 1) out ((i : Int) :: rest) = bfsGo p m ((edgesX x i).foldl (bfsK i) (out, rest)).1 ((edgesX x i).foldl (bfsK i) (out, rest)).2 := by
  simp only [bfsGo, Int.toNat_natCast, hx]
theorem bfsGo_nil (p : List Ins) (m : Nat) (out : List Int) : bfsGo p m out [] = out := by cases m <;> rfl

def negs (l : List Int) : Nat := l.countP (· < 0)

/-- What the search knows of its state. -/
structure DI (n : Nat) (out wave : List Int) : Prop where
  len : out.length = n
  val : ∀ v ∈ out, -1 ≤ v ∧ v + negs out < n
  wav : ∀ k ∈ wave, 0 ≤ k ∧ k < n ∧ 0 ≤ out[k.toNat]?.getD (-1)

theorem negs_set {l : List Int} {k : Nat} {v u : Int} (h : l[k]? = some v) (hv : v < 0) (hu : 0 ≤ u) : negs (l.set k u) + 1 = negs l := by
  obtain ⟨hk, rfl⟩ := List.getElem?_eq_some_iff.1 h
  have hp : 0 < negs l := List.countP_pos_iff.2 ⟨l[k], List.getElem_mem hk, by simpa using hv⟩
  unfold negs at *
  rw [List.countP_set hk]
  have h1 : decide (l[k] < 0) = true := by simpa using hv
  have h2 : decide (u < 0) = false := by simpa using hu
  rw [h1, h2]
  simp
  omega

theorem DI.step {n i : Nat} {out wave : List Int} {k : Int} (h : DI n out wave) (hi : 0 ≤ out[i]?.getD (-1)) (hk : 0 ≤ k ∧ k < n) : DI n (bfsK i (out, wave) k).1 (bfsK i (out, wave) k).2 ∧
    negs (bfsK i (out, wave) k).1 + (bfsK i (out, wave) k).2.length = negs out + wave.length ∧ (∀ j : Nat, 0 ≤ out[j]?.getD (-1) → 0 ≤ (bfsK i (out, wave) k).1[j]?.getD (-1)) := by
  obtain ⟨kk, rfl⟩ : ∃ kk : Nat, k = kk := ⟨k.toNat, by omega⟩
  have hkl : kk < out.length := by rw [h.len]; omega
  obtain ⟨v, hv⟩ : ∃ v, out[kk]? = some v := ⟨out[kk], List.getElem?_eq_getElem hkl⟩
  obtain ⟨u, hu⟩ : ∃ u, out[i]? = some u := by
    cases e : out[i]? with
    | none => rw [e] at hi; simp at hi
    | some u => exact ⟨u, rfl⟩
  rw [hu] at hi
  have hu0 : 0 ≤ u := by simpa using hi
  unfold bfsK
  simp only [Int.toNat_natCast, hv, hu, Option.getD_some]
  by_cases hneg : v < 0
  · rw [if_pos hneg]
    dsimp only
    have hn := negs_set (u := u + 1) hv hneg (by omega)
    have hget : ∀ j : Nat, 0 ≤ out[j]?.getD (-1) → 0 ≤ (out.set kk (u + 1))[j]?.getD (-1) := by
      intro j hj
      by_cases e : kk = j
      · subst e; simp [hkl]; omega
      · rw [List.getElem?_set_ne e]; exact hj
    refine ⟨⟨by simp [h.len], fun x hx => ?_, fun x hx => ?_⟩, by simp; omega, hget⟩
    · rcases List.mem_or_eq_of_mem_set hx with hx | rfl
      · have := h.val x hx; omega
      · have := h.val u (List.mem_of_getElem? hu); omega
    · rcases List.mem_append.1 hx with hx | hx
      · obtain ⟨w1, w2, w3⟩ := h.wav x hx
        exact ⟨w1, w2, hget _ w3⟩
      · simp at hx
        subst hx
        exact ⟨by omega, by omega, by simp [hkl]; omega⟩
  · rw [if_neg hneg]
    exact ⟨h, rfl, fun _ h => h⟩

theorem DI.steps {n i : Nat} : ∀ (ks : List Int) {out wave : List Int}, DI n out wave → 0 ≤ out[i]?.getD (-1) → (∀ k ∈ ks, 0 ≤ k ∧ k < n) →
    DI n (ks.foldl (bfsK i) (out, wave)).1 (ks.foldl (bfsK i) (out, wave)).2 ∧ negs (ks.foldl (bfsK i) (out, wave)).1 + (ks.foldl (bfsK i) (out, wave)).2.length = negs out + wave.length ∧ 0 ≤ (ks.foldl (bfsK i) (out, wave)).1[i]?.getD (-1) := by
  intro ks
  induction ks with
  | nil => exact fun h hi _ => ⟨h, rfl, hi⟩
  | cons k ks ih =>
    intro out wave h hi hk
    obtain ⟨h1, h2, h3⟩ := h.step hi (hk k (by simp))
    obtain ⟨g1, g2, g3⟩ := ih h1 (h3 i hi) (fun k' hk' => hk k' (by simp [hk']))
    exact ⟨g1, by rw [List.foldl_cons]; exact g2.trans h2, g3⟩

theorem DI.start {n : Nat} (hn : 0 < n) : DI n ((List.replicate n (-1)).set 0 0) [0] ∧ negs ((List.replicate n (-1)).set 0 0) + [(0 : Int)].length = n := by
  have h0 : (List.replicate n (-1 : Int))[0]? = some (-1) := by simp [hn]
  have hr : negs (List.replicate n (-1 : Int)) = n := by
    unfold negs; rw [List.countP_replicate]; simp
  have h1 := negs_set (u := 0) h0 (by decide) (by decide)
  refine ⟨⟨by simp, fun v hv => ?_, fun k hk => ?_⟩, by simp; omega⟩
  · rcases List.mem_or_eq_of_mem_set hv with hv | rfl
    · have := (List.mem_replicate.1 hv).2; omega
    · omega
  · simp at hk; subst hk
    exact ⟨by omega, by omega, by simp [hn]⟩
end Go.Proofs.Ytfdlhlabkcmikaa
