/- A region that draws its order inside a round of a range over a function: the same laws as outside; no condition. -/
import Derived.Test.YtfdlhlabkcmikaaLaw
import Derived.OrdersHeld
import Derived.OrdersIn
namespace Go.Proofs.Ytfdlhlabkcmikaa
open Go.RowKit

section
variable {P : Program} {ops : Array Oper} {Q : Exit → Act → World → Prop} {md : Region.Mode} {l : Nat}

def noDefer (ops : Array Oper) : Bool := ops.all fun o => match o.op with | .defer _ => false | _ => true

theorem op_in {o : Oper} {a : Act} {w : World} {K : Act → World → Prop} (hd : ∀ c, o.op ≠ .defer c) (h : o.wp P a w K Q) : o.wpIn (Fence.wide.inRound l) 0 P a w K Q := by
  refine ⟨fun _ _ => trivial, ?_⟩
  rw [Oper.semAt_eq _ _ _ hd]
  unfold Oper.wp at h
  generalize (execOp a.eval o).run P w = r at h
  cases r with
  | ok n w' =>
    cases n with
    | value v => exact h
    | skip => exact h
    | defer d => exact h
    | enter f args => exact ⟨fun h => by simp [Fence.wide] at h, (callsIn_wide.2 h).inRound l⟩
    | row row args => exact ⟨fun h => by simp [Fence.wide] at h, fun c cs _ => let ⟨v, w'', r, s⟩ := h c cs; ⟨v, w'', r, stepsIn_wide.2 s⟩⟩
    | _ => exact h.elim
  | halt x w' => cases x <;> exact h

theorem any_in (hd : noDefer ops = true) (hQ : ¬ LetsOut Q) : ∀ (fuel : Nat) (listed : Array Bool) (a : Act) (w : World), wpAny P md ops Q fuel listed a w → wpAnyIn (Fence.wide.inRound l) 0 P md ops Q fuel listed a w := by
  intro fuel
  induction fuel with
  | zero => exact fun _ _ _ h => h
  | succ fuel ih =>
    intro listed a w h
    refine ⟨h.1, fun i hi => ?_⟩
    have hi' := h.2 i hi
    unfold wpOp at hi'
    unfold wpOpIn
    cases ho : ops[i]? with
    | none => rw [ho] at hi'; exact ih _ _ _ hi'
    | some o =>
      rw [ho] at hi'
      simp only at hi' ⊢
      by_cases hw : Region.wanted o (yielded ops a.tmps) = true
      · rw [if_pos hw] at hi' ⊢
        rcases hi' with hi' | hi'
        · refine op_in ?_ (Oper.wp_mono (fun a w => ih _ a w) hi')
          intro c hc
          have := Array.all_eq_true'.1 hd o (Array.mem_of_getElem? ho)
          rw [hc] at this
          cases this
        · exact (hQ hi'.2).elim
      · rw [if_neg hw] at hi' ⊢
        exact ⟨fun _ _ => trivial, ih _ _ _ hi'⟩

/-- Whatever order is picked from here on; S holds behind every operation; what it says may hang on whether operation m has come up. -/
def wpAnyM (P : Program) (md : Region.Mode) (ops : Array Oper) (Q : Exit → Act → World → Prop) (m : Nat) (S : Bool → World → Prop) : Nat → Array Bool → Act → World → Prop
  | 0, listed, a, w => Region.ready md ops listed = [] ∧ Q .normal a w
  | fuel + 1, listed, a, w =>
    (Region.ready md ops listed = [] → Q .normal a w) ∧
    ∀ i ∈ Region.ready md ops listed, wpOp P ops Q i (fun a' w' => S ((listed.setIfInBounds i true).getD m true) w' ∧ wpAnyM P md ops Q m S fuel (listed.setIfInBounds i true) a' w') a w

variable {m : Nat} {S : Bool → World → Prop}

theorem any_of_M : ∀ (fuel : Nat) (listed : Array Bool) (a : Act) (w : World), wpAnyM P md ops Q m S fuel listed a w → wpAny P md ops Q fuel listed a w
  | 0, _, _, _, h => h
  | fuel + 1, _, _, _, h => ⟨h.1, fun i hi => wpOp_mono (fun a' w' h' => any_of_M fuel _ a' w' h'.2) (h.2 i hi)⟩

def waitsFor (md : Region.Mode) (ops : Array Oper) (m i : Nat) : Bool := m != i && match ops[m]? with | some o => o.after.any fun e => Region.binds md e && e.on == i | none => false

theorem unlisted_of_ready {i : Nat} {listed : Array Bool} (h : i ∈ Region.ready md ops listed) : listed.getD i false = false := by
  have h0 := (mem_ready.1 h).1
  rcases Nat.lt_or_ge i listed.size with h' | h'
  · simp [h'] at h0 ⊢; exact h0
  · simp [h']

theorem not_ready_of_waits {i : Nat} {listed : Array Bool} (hw : waitsFor md ops m i = true) (h : i ∈ Region.ready md ops listed) : m ∉ Region.ready md ops listed := by
  intro hm
  obtain ⟨_, o, ho, hall⟩ := mem_ready.1 hm
  simp only [waitsFor, ho, Bool.and_eq_true] at hw
  obtain ⟨e, he, hb⟩ := Array.any_eq_true'.1 hw.2
  simp only [Bool.and_eq_true] at hb
  have h1 := hall e he hb.1
  have h2 := eq_of_beq hb.2
  rw [h2, unlisted_of_ready h] at h1
  cases h1

theorem heldM_first {i : Nat} {oi : Oper} {v : Value} (hi : ops[i]? = some oi) (hsel : ∀ (j : Nat) (o : Oper) cs b, ops[j]? = some o → o.op ≠ .select cs b)
    (hQ : ∀ c a w, Q (.panic c) (a.put oi.dst v) w → Q (.panic c) a w) (hwait : waitsFor md ops m i = true) :
    ∀ (fuel : Nat) (listed : Array Bool) (a : Act) (w : World),
      (∀ j oj, ops[j]? = some oj → j ≠ i → listed.getD j true = false → (∀ e ∈ oj.after, Region.binds md e = true → e.on ≠ i) → oi.apart ops oj = true) →
      i ∈ Region.ready md ops listed → listed.getD m true = false → YieldsIf P ops (S false) oi v a → S false w →
      wpAnyM P md ops Q m S fuel (listed.setIfInBounds i true) (a.put oi.dst v) w → wpAnyM P md ops Q m S (fuel + 1) listed a w := by
  have hmi : i ≠ m := by
    intro e
    subst e
    simp [waitsFor] at hwait
  intro fuel
  induction fuel with
  | zero =>
    intro listed a w _ hr hm hy hS H
    refine ⟨fun h => (by rw [h] at hr; cases hr), fun j hj => ?_⟩
    by_cases hji : j = i
    · subst hji
      exact hy.wpOp hi hS ⟨by rw [getD_set_ne true hmi, hm]; exact hS, H⟩
    · have := ready_mono hj hji
      rw [H.1] at this
      cases this
  | succ fuel ih =>
    intro listed a w hfree hr hm hy hS H
    refine ⟨fun h => (by rw [h] at hr; cases hr), fun j hj => ?_⟩
    by_cases hji : j = i
    · subst hji
      exact hy.wpOp hi hS ⟨by rw [getD_set_ne true hmi, hm]; exact hS, H⟩
    · have hjm : j ≠ m := fun e => not_ready_of_waits hwait hr (e ▸ hj)
      have hun : ∀ L : Array Bool, L.getD m true = false → (L.setIfInBounds j true).getD m true = false := fun L h => by rw [getD_set_ne true hjm]; exact h
      have h1 := H.2 j (ready_mono hj hji)
      obtain ⟨hjun, oj, hoj, hall⟩ := mem_ready.1 hj
      have hnot : ∀ e ∈ oj.after, Region.binds md e = true → e.on ≠ i := fun e he hb heq => by
        have h1 := hall e he hb
        rw [heq, unlisted_of_ready hr] at h1
        cases h1
      have h2 := wpOp_putIf hoj (hfree j oj hoj hji hjun hnot) (fun cs b => hsel i oi cs b hi) (fun cs b => hsel j oj cs b hoj) hQ hy h1
      have hfree' : ∀ k ok, ops[k]? = some ok → k ≠ i → (listed.setIfInBounds j true).getD k true = false →
          (∀ e ∈ ok.after, Region.binds md e = true → e.on ≠ i) → oi.apart ops ok = true := fun k ok hk hki hunk hno => by
        refine hfree k ok hk hki ?_ hno
        by_cases hjk : j = k
        · subst hjk; exact hjun
        · rw [getD_set_ne true hjk] at hunk; exact hunk
      have hmm := hun _ hm
      have hmm2 : ((listed.setIfInBounds i true).setIfInBounds j true).getD m true = false := hun _ (by rw [getD_set_ne true hmi]; exact hm)
      refine wpOp_mono (fun a' w' h3 => ?_) h2
      rw [hmm2] at h3
      refine ⟨by rw [hmm]; exact h3.2.1, ih (listed.setIfInBounds j true) a' w' hfree' (ready_mono hr (Ne.symm hji)) hmm h3.1 h3.2.1 ?_⟩
      rw [Array.setIfInBounds_comm _ _ hji]
      exact h3.2.2

/-- The beginning of a region whose reads are held by S. -/
theorem held_in {id : Nat} {a : Act} {w : World} (hm : P.follows .mixedOrders = true) (hd : noDefer ops = true) (hQ : ¬ LetsOut Q)
    (h : wpAnyM P .any ops Q m S ops.size (Array.replicate ops.size false) a w.drew) : (Code.region id ops true).wpIn (Fence.wide.inRound l) 0 P Q a w :=
  wpIn_region_any hm (any_in hd hQ _ _ _ _ (any_of_M _ _ _ _ h))

theorem held_plain {id : Nat} {a : Act} {w : World} (hm : P.follows .mixedOrders = true) (h : wpAnyM P .any ops Q m S ops.size (Array.replicate ops.size false) a w.drew) : (Code.region id ops true).wp P Q a w :=
  wp_region_any hm (any_of_M _ _ _ _ h)

/-- An operation that reads is taken first. -/
theorem held_take {i : Nat} {oi : Oper} {v : Value} {fuel : Nat} {listed : Array Bool} {a : Act} {w : World} (d : Option Tmp) (hi : ops[i]? = some oi) (hd : oi.dst = d)
    (hs : (Region.noSelect ops && Region.free md ops listed i && (Region.ready md ops listed).contains i && waitsFor md ops m i && !listed.getD m true) = true) (hg : oi.guard = none)
    (hQ : ∀ c a w, Q (.panic c) (a.put d v) w → Q (.panic c) a w) (hS : S false w) (hy : ∀ w, S false w → (execOp a.eval oi).run P w = .ok (.value v) w)
    (h : wpAnyM P md ops Q m S fuel (listed.setIfInBounds i true) (a.put d v) w) : wpAnyM P md ops Q m S (fuel + 1) listed a w := by
  subst hd
  simp only [Bool.and_eq_true] at hs
  exact heldM_first hi (Region.noSelect_spec hs.1.1.1.1) hQ hs.1.2 fuel listed a w (Region.free_spec hi hs.1.1.1.2) (by simpa using hs.1.1.2) (by simpa using hs.2) (.inl ⟨by simp [Region.wanted, hg], hy⟩) hS h

/-- One operation alone may come up. -/
theorem held_step {i : Nat} {oi : Oper} {fuel : Nat} {listed : Array Bool} {a : Act} {w : World} (hi : ops[i]? = some oi)
    (hr : (Region.ready md ops listed == [i]) = true) (hg : oi.guard = none)
    (h : oi.wp P a w (fun a' w' => S ((listed.setIfInBounds i true).getD m true) w' ∧ wpAnyM P md ops Q m S fuel (listed.setIfInBounds i true) a' w') Q) : wpAnyM P md ops Q m S (fuel + 1) listed a w := by
  have hr := eq_of_beq hr
  refine ⟨fun h0 => (by rw [hr] at h0; cases h0), fun j hj => ?_⟩
  rw [hr] at hj
  simp at hj
  subst hj
  unfold wpOp
  rw [hi]
  simp only [Region.wanted, hg]
  exact .inl h

/-- All have come up. -/
theorem held_done {listed : Array Bool} {a : Act} {w : World} (hr : (Region.ready md ops listed == []) = true) (h : Q .normal a w) : wpAnyM P md ops Q m S 0 listed a w := ⟨eq_of_beq hr, h⟩
end
end Go.Proofs.Ytfdlhlabkcmikaa
