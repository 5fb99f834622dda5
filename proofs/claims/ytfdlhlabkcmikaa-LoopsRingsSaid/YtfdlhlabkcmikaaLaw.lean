/- Helper lemmas about ranging over iterator functions; no condition. -/
import Derived.RangeFuncNested
import Derived.RangeFuncCalls
import Derived.RangeFuncLeaves
import Derived.WalkKit
namespace Go.Proofs.Ytfdlhlabkcmikaa
open Go.RowKit

/-- The blocks of which p holds read as before, no block has gone, and the streams are as before. -/
structure Keeps (p : Nat → Prop) (W W' : World) : Prop where
  os : W'.os = W.os
  tape : W'.tape = W.tape
  output : W'.output = W.output
  size : W.heap.size ≤ W'.heap.size
  block : ∀ b, b < W.heap.size → p b → W'.heap[b]? = W.heap[b]?

theorem Keeps.refl (p : Nat → Prop) (W : World) : Keeps p W W := ⟨rfl, rfl, rfl, Nat.le_refl _, fun _ _ _ => rfl⟩
theorem Keeps.trans {p : Nat → Prop} {A B C : World} (h : Keeps p A B) (k : Keeps p B C) : Keeps p A C :=
  ⟨k.os.trans h.os, k.tape.trans h.tape, k.output.trans h.output, Nat.le_trans h.size k.size, fun i hi hp => (k.block i (Nat.lt_of_lt_of_le hi h.size) hp).trans (h.block i hi hp)⟩
theorem Keeps.mono {p q : Nat → Prop} {A B : World} (h : Keeps p A B) (hq : ∀ b, b < A.heap.size → q b → p b) : Keeps q A B :=
  ⟨h.os, h.tape, h.output, h.size, fun b hb hqb => h.block b hb (hq b hb hqb)⟩
theorem Keeps.of_below {B : Nat} {W W' : World} (h : Below B W W') : Keeps (fun b => b < B) W W' := ⟨h.os, h.tape, h.output, h.size, fun b _ hp => h.block b hp⟩
theorem Keeps.below {p : Nat → Prop} {B : Nat} {W W' : World} (h : Keeps p W W') (hB : B ≤ W.heap.size) (hp : ∀ b, b < B → p b) : Below B W W' :=
  ⟨h.os, h.tape, h.output, h.size, fun b hb => h.block b (by omega) (hp b hb)⟩
/-- A call that only makes memory keeps whatever was there. -/
theorem Keeps.all {w w' : World} (p : Nat → Prop) (h : Below w.heap.size w w') : Keeps p w w' := ⟨h.os, h.tape, h.output, h.size, fun b hb _ => h.block b hb⟩
theorem Keeps.alloc (p : Nat → Prop) (W : World) (o : Obj) : Keeps p W (W.alloc o) :=
  ⟨rfl, rfl, rfl, by simp, fun k hk _ => Below.heap_alloc _ _ _ hk⟩
theorem Keeps.setCell {p : Nat → Prop} (W : World) (a : Addr) (v : Value) (h : ¬ p a.block) : Keeps p W (W.setCell a v) :=
  ⟨rfl, rfl, rfl, by simp [World.setCell], fun k _ hp => Below.heap_setCell _ _ _ _ (fun e => h (e ▸ hp))⟩
theorem Keeps.putObj {p : Nat → Prop} (W : World) (b : Nat) (o : Obj) (h : ¬ p b) : Keeps p W (W.putObj b o) :=
  ⟨rfl, rfl, rfl, by simp, fun k _ hp => World.putObj_heap_other (fun e => h (e ▸ hp))⟩
theorem Keeps.drew {p : Nat → Prop} {A W : World} (h : Keeps p A W) : Keeps p A W.drew := ⟨h.os, h.tape, h.output, h.size, h.block⟩
theorem Keeps.grown {p : Nat → Prop} {w w' : World} {row : Option Nat} (hg : w.grownBy w' row) (hr : ∀ k, row = some k → ¬ p k) : Keeps p w w' :=
  ⟨hg.os, hg.tape, hg.output, hg.size, fun k hk hp => hg.block k hk (fun e => hr k e.symm hp)⟩
theorem Keeps.cell {p : Nat → Prop} {W W' : World} (h : Keeps p W W') {a : Addr} {v : Value} (hc : W.cell? a = some v) (hp : p a.block) : W'.cell? a = some v :=
  (World.cell?_of_block (h.block a.block (World.block_lt_of_cell? W a hc) hp)).trans hc
theorem Keeps.heap {p : Nat → Prop} {W W' : World} (h : Keeps p W W') {b : Nat} {o : Obj} (hc : W.heap[b]? = some o) (hp : p b) : W'.heap[b]? = some o :=
  (h.block b (Array.getElem?_eq_some_iff.1 hc).1 hp).trans hc

/-- The wide fence asks nothing at a call. -/
@[go_sem] theorem wide_fn (k : Nat) : Fence.wide.fn k = True := rfl
@[go_sem] theorem wide_depth : Fence.wide.depth = none := rfl

/-- Whatever block holds cells reads as before. -/
def CellKeep (W W' : World) : Prop := ∀ (b : Nat) (o : Obj), W.heap[b]? = some o → o.isCells = true → W'.heap[b]? = some o
theorem CellKeep.putObj {W : World} {l : Nat} {o : Obj} (o' : Obj) (h : W.heap[l]? = some o) (ho : o.isCells = false) : CellKeep W (W.putObj l o') := by
  intro b u hu hc
  by_cases e : b = l
  · subst e; rw [h] at hu; cases hu; rw [ho] at hc; cases hc
  · exact (World.putObj_heap_other e).trans hu
theorem CellKeep.cell {W W' : World} (h : CellKeep W W') {a : Addr} {v : Value} (hc : W.cell? a = some v) : W'.cell? a = some v := by
  obtain ⟨o, ho, hoc⟩ := cells_of_cell hc
  exact (World.cell?_of_block ((h _ _ ho hoc).trans ho.symm)).trans hc

/-- A statement on the caller's memory that stands steps which turn blocks of T, or new ones, alone. -/
def Calm (J : (Nat → Prop) → World → Prop) : Prop :=
  ∀ T X Y, J T X → Keeps (fun b => ¬ T b) X Y → J (fun b => T b ∨ (X.heap.size ≤ b ∧ b < Y.heap.size)) Y

/-- An iterator: it calls yield with xs, one after the other, as long as yield returns true; R says how an element lies in memory, G what the iterator's own memory holds when so many have come;
Pr are the blocks that it reads, T those that it may turn (T0 at the beginning). -/
def Iter {α : Type} (P : Program) (gf : FuncId) (lb : Array Value) (R : World → Array Value → α → Prop) (G : List α → World → Prop) (Pr T0 : Nat → Prop) (w : World) (xs : List α) : Prop :=
  ∀ (l : Nat) (J Jx : List α → (Nat → Prop) → World → Prop) (W : World),
    Keeps (fun _ => True) w W →
    (∀ s, Calm (J s)) → (∀ s, Calm (Jx s)) →
    (∀ pre x post T vs W1, xs = pre ++ x :: post → J pre T W1 → R W1 vs x → YieldAt Fence.wide 0 P l vs W1 fun e W' =>
      (e = .returned (.bool true) ∧ J (pre ++ [x]) T W' ∧ Keeps (fun b => Pr b ∨ T b) W1 W') ∨ (e = .returned (.bool false) ∧ Jx (pre ++ [x]) T W' ∧ Keeps (fun b => Pr b ∨ T b) W1 W')) →
    J [] T0 W →
    CallsIn Fence.wide 0 P gf (#[.func (.yield l) #[] #[]] ++ lb) W fun e W' => (∃ v, e = .returned v) ∧
      ((∃ T, J xs T W' ∧ G xs W') ∨ (∃ pre T, pre <+: xs ∧ Jx pre T W' ∧ G pre W'))

/-- How the body of a round may be left. -/
def bPost {α : Type} (J : List α → (Nat → Prop) → World → Prop) (Jx : Code → List α → (Nat → Prop) → World → Prop) (Pr T : Nat → Prop) (xs : List α) (W : World) : Exit → Act → World → Prop
  | .normal, _, W' => J xs T W' ∧ Keeps (fun b => Pr b ∨ T b) W W'
  | .ret, _, W' => Jx .ret xs T W' ∧ Keeps (fun b => Pr b ∨ T b) W W'
  | .exit id, _, W' => Jx (.exit id) xs T W' ∧ Keeps (fun b => Pr b ∨ T b) W W'
  | .goto t, _, W' => Jx (.goto t) xs T W' ∧ Keeps (fun b => Pr b ∨ T b) W W'
  | .panic _, _, _ => False
  | .outgrown, _, _ => False

section
variable {P : Program}

theorem calm_ex {α : Type} {J : α → (Nat → Prop) → World → Prop} (h : ∀ a, Calm (J a)) : Calm (fun T W => ∃ a, J a T W) :=
  fun T X Y ⟨a, ha⟩ hk => ⟨a, h a T X Y ha hk⟩

/-- The set of an iterator's own blocks may be called otherwise. -/
theorem set_eq {p q : Nat → Prop} (h : ∀ b, p b ↔ q b) : p = q := funext fun b => propext (h b)

set_option maxHeartbeats 1000000 in
/-- The statement 'for .. := range f' over an iterator. -/
theorem range_law {α : Type} {g : Operand} {ps : Array Tmp} {assign body : Code} {Q : Exit → Act → World → Prop} {a : Act} {w : World}
    {gf : Nat} {lb : Array Value} (hg : a.eval g = .func (.func gf) #[] lb) (eg : ∀ args w, (callFunc gf args).run P w = .ok (.enter gf args) w)
    {R : World → Array Value → α → Prop} {G : List α → World → Prop} {Pr T0 : Nat → Prop} {xs : List α} (hit : Iter P gf lb R G Pr T0 w xs)
    (hRs : ∀ W vs x, R W vs x → vs.size = ps.size) (hG : ∀ W W' s, G s W → CellKeep W W' → G s W')
    (hT0 : ∀ b, T0 b → b < w.heap.size)
    (J : List α → (Nat → Prop) → World → Prop) (Jx : Code → List α → (Nat → Prop) → World → Prop) (hJ : ∀ s, Calm (J s)) (hJx : ∀ c s, Calm (Jx c s)) (h0 : J [] T0 w)
    (hround : ∀ (l : Nat) (pre : List α) (x : α) (post : List α) (T : Nat → Prop) (vs : Array Value) (W1 : World), w.heap.size ≤ l → T l → (∀ b, T0 b → T b) → xs = pre ++ x :: post → J pre T W1 → R W1 vs x →
      assign.wpIn (Fence.wide.inRound l) 0 P (Exit.then (fun a₁ w₁ => J pre T w₁ ∧ Keeps (fun b => Pr b ∨ T b) W1 w₁ ∧ ∀ W2, CellKeep w₁ W2 → w₁.heap.size = W2.heap.size → J pre T W2 →
          body.wpIn (Fence.wide.inRound l) 0 P (bPost J Jx Pr T (pre ++ [x]) W2) a₁ W2) (fun _ _ _ => False))
        { tmps := (ps.zip vs).foldl (fun t (p, v) => t.setIfInBounds p v) a.tmps, defers := [] } W1)
    (hPr : ∀ b, Pr b → b < w.heap.size)
    (hdone : ∀ (T : Nat → Prop) (W : World) (D : Nat), w.heap.size ≤ D → T D → J xs T W → G xs W → W.heap[D]? = some (.deferred (some [])) →
      Q .normal { a with defers := { target := .collected D, args := #[] } :: a.defers } W)
    (hstop : ∀ (c : Code) (pre : List α) (T : Nat → Prop) (W : World) (D : Nat), w.heap.size ≤ D → T D → pre <+: xs → Jx c pre T W → G pre W → W.heap[D]? = some (.deferred (some [])) →
      c.wpIn Fence.wide 0 P Q { a with defers := { target := .collected D, args := #[] } :: a.defers } W) :
    (Code.rangeFunc g ps assign body).wpIn Fence.wide 0 P Q a w := by
  refine wpIn_rangeFunc ?_
  intro fn _
  obtain ⟨rec, hrec⟩ : ∃ rec : LoopState → Option Code → Loop, rec = fun st pe => { state := st, pending := pe, fn, tmps := a.tmps, params := ps, assign, body, defers := w.heap.size } := ⟨_, rfl⟩
  obtain ⟨W1, hW1⟩ : ∃ W1, (w.alloc (.deferred (some []))).alloc (.loop (rec .ready none)) = W1 := ⟨_, rfl⟩
  obtain ⟨l, hl⟩ : ∃ l, l = w.heap.size + 1 := ⟨_, rfl⟩
  have hL1 : W1.heap[l]? = some (.loop (rec .ready none)) := by
    rw [← hW1, hl]; have := World.alloc_heap_new (w.alloc (.deferred (some []))) (.loop (rec .ready none)); rwa [World.size_alloc] at this
  have hK1 : W1.heap[w.heap.size]? = some (.deferred (some [])) := by
    rw [← hW1]; exact (Below.heap_alloc _ _ _ (by simp)).trans (World.alloc_heap_new w _)
  have hsz1 : W1.heap.size = w.heap.size + 2 := by rw [← hW1]; simp
  have hkw : ∀ p, Keeps p w W1 := fun p => by rw [← hW1]; exact (Keeps.alloc p _ _).trans (Keeps.alloc p _ _)
  -- the caller's statement with the two blocks of the loop among the iterator's own
  let up (T : Nat → Prop) : Nat → Prop := fun b => T b ∨ b = w.heap.size ∨ b = l
  have hup0 : (fun b => T0 b ∨ (w.heap.size ≤ b ∧ b < W1.heap.size)) = up T0 := set_eq fun b => by
    show _ ↔ T0 b ∨ _ ∨ _
    constructor
    · rintro (h | ⟨h, h'⟩)
      · exact .inl h
      · right; omega
    · rintro (h | h | h)
      · exact .inl h
      · right; omega
      · right; omega
  have h1 : J [] (up T0) W1 := hup0 ▸ hJ [] T0 w W1 h0 (hkw _)
  let K (st : LoopState) (pe : Option Code) (T : Nat → Prop) (W : World) : Prop := W.heap[l]? = some (.loop (rec st pe)) ∧ W.heap[w.heap.size]? = some (.deferred (some [])) ∧ ¬ T l ∧ ¬ T w.heap.size ∧ ∀ b, T0 b → T b
  have hKc : ∀ st pe T X Y, K st pe T X → Keeps (fun b => ¬ T b) X Y → K st pe (fun b => T b ∨ (X.heap.size ≤ b ∧ b < Y.heap.size)) Y := by
    rintro st pe T X Y ⟨k1, k2, k3, k4, k5⟩ hk
    have s1 := (Array.getElem?_eq_some_iff.1 k1).1
    have s2 := (Array.getElem?_eq_some_iff.1 k2).1
    exact ⟨hk.heap k1 k3, hk.heap k2 k4, by rintro (h | h); exact k3 h; omega, by rintro (h | h); exact k4 h; omega, fun b hb => .inl (k5 b hb)⟩
  have hupc : ∀ T X Y, Keeps (fun b => ¬ T b) X Y → (∀ b, b = w.heap.size ∨ b = l → b < X.heap.size) →
      (fun b => up T b ∨ (X.heap.size ≤ b ∧ b < Y.heap.size)) = up (fun b => T b ∨ (X.heap.size ≤ b ∧ b < Y.heap.size)) := by
    intro T X Y _ _
    refine set_eq fun b => ?_
    show ((T b ∨ _) ∨ _) ↔ ((T b ∨ _) ∨ _)
    constructor
    · rintro ((h | h) | h)
      · exact .inl (.inl h)
      · exact .inr h
      · exact .inl (.inr h)
    · rintro ((h | h) | h)
      · exact .inl (.inl h)
      · exact .inr h
      · exact .inl (.inr h)
  have hcalm : ∀ (J' : (Nat → Prop) → World → Prop) (st : LoopState) (pe : Option Code), Calm J' → Calm (fun T W => J' (up T) W ∧ K st pe T W) := by
    rintro J' st pe hc T X Y ⟨hj, hk⟩ hkeep
    have hb : ∀ b, b = w.heap.size ∨ b = l → b < X.heap.size := by
      rintro b (rfl | rfl)
      · exact (Array.getElem?_eq_some_iff.1 hk.2.1).1
      · exact (Array.getElem?_eq_some_iff.1 hk.1).1
    refine ⟨?_, hKc _ _ _ _ _ hk hkeep⟩
    rw [← hupc T X Y hkeep hb]
    exact hc (up T) X Y hj (hkeep.mono fun b _ hn hT => hn (.inl hT))
  refine ⟨l, [{ target := .collected w.heap.size, args := #[] }], W1, { target := .fn (.func gf) lb, args := #[.func (.yield l) #[] #[]] }, W1, gf,
    #[.func (.yield l) #[] #[]] ++ lb, W1, ?_, ?_, ?_, ?_, fun h => by simp [Fence.wide] at h, ?_⟩
  · rw [← hW1, hrec, hl]; exact run_enterLoop_outer _ _ _ _ _
  · simp only [resolve, hg]
    simp [go_sem]
  · intro f' _; trivial
  · simp [invoke, go_sem, eg]
  · refine (hit l (fun s T W => J s (up T) W ∧ K .ready none T W) (fun s T W => ∃ c, Jx c s (up T) W ∧ K .done (some c) T W) W1 (hkw _)
      (fun s => hcalm _ _ _ (hJ s)) (fun s => calm_ex fun c => hcalm _ _ _ (hJx c s)) ?_ ⟨h1, hL1, hK1, fun h => by have := hT0 _ h; omega, fun h => by have := hT0 _ h; omega, fun _ h => h⟩).mono ?_
    · -- one round
      rintro pre x post T vs X hxs ⟨hj, hk⟩ hr
      obtain ⟨k1, k2, k3, k4, k5⟩ := hk
      have hy := run_yield (P := P) (args := vs) k1 (by rw [hrec]; exact hRs _ _ _ hr)
      rw [hrec] at hy
      refine ⟨fn, _, assign, body, hy, roundIn_of_wpIn (F := Fence.wide) trivial ?_⟩
      have hrd := hround l pre x post (up T) vs X (by omega) (.inr (.inr rfl)) (fun b hb => .inl (k5 b hb)) hxs hj hr
      refine wpIn_mono hrd ?_
      rintro e a1 X1 hp
      cases e with
      | normal =>
        obtain ⟨hj1, hkp, hb⟩ := hp
        have l1 : X1.heap[l]? = some (.loop (rec .ready none)) := hkp.heap k1 (.inr (.inr (.inr rfl)))
        have d1 : X1.heap[w.heap.size]? = some (.deferred (some [])) := hkp.heap k2 (.inr (.inr (.inl rfl)))
        have lt1 := (Array.getElem?_eq_some_iff.1 l1).1
        refine ⟨_, run_beginRound l1 (by rw [hrec]), ?_⟩
        obtain ⟨X2, hX2⟩ : ∃ X2, X1.putObj l (.loop { rec .ready none with state := .busy }) = X2 := ⟨_, rfl⟩
        rw [hX2]
        have ck : CellKeep X1 X2 := hX2 ▸ CellKeep.putObj _ l1 rfl
        have l2 : X2.heap[l]? = some (.loop { rec .ready none with state := .busy }) := hX2 ▸ World.putObj_heap_same lt1
        have d2 : X2.heap[w.heap.size]? = some (.deferred (some [])) := hX2 ▸ (World.putObj_heap_other (by omega)).trans d1
        have ksz : X1.heap.size = X2.heap.size := by rw [← hX2]; simp
        -- a turn of the loop's own block is a step of the iterator's
        have turn : ∀ (J' : (Nat → Prop) → World → Prop) (U V : World), Calm J' → U.heap.size = V.heap.size → Keeps (fun b => b ≠ l) U V → J' (up T) U → J' (up T) V := by
          intro J' U V hc hs hk hj'
          have := hc (up T) U V hj' (hk.mono fun b _ hn e => hn (.inr (.inr e)))
          have he : (fun b => up T b ∨ (U.heap.size ≤ b ∧ b < V.heap.size)) = up T := set_eq fun b => ⟨fun h => h.elim id (fun h => by omega), .inl⟩
          rwa [he] at this
        have kl : Keeps (fun b => b ≠ l) X1 X2 := hX2 ▸ Keeps.putObj _ _ _ (fun h => h rfl)
        have hj2 : J pre (up T) X2 := turn _ _ _ (hJ pre) ksz kl hj1
        have hkp2 : ∀ V, Keeps (fun b => Pr b ∨ up T b) X2 V → ∀ V', V.heap.size = V'.heap.size → Keeps (fun b => b ≠ l) V V' → Keeps (fun b => Pr b ∨ T b) X V' := by
          intro V hv V' _ hv'
          have e1 : Keeps (fun b => Pr b ∨ T b) X X1 := hkp.mono fun b _ h => h.elim .inl (fun h => .inr (.inl h))
          have ne : ∀ b, (Pr b ∨ T b) → b ≠ l := by
            rintro b (h | h) rfl
            · have := hPr _ h; omega
            · exact k3 h
          have e2 : Keeps (fun b => Pr b ∨ T b) X1 X2 := kl.mono fun b _ h => ne b h
          have e3 : Keeps (fun b => Pr b ∨ T b) X2 V := hv.mono fun b _ h => h.elim .inl (fun h => .inr (.inl h))
          have e4 : Keeps (fun b => Pr b ∨ T b) V V' := hv'.mono fun b _ h => ne b h
          exact (e1.trans e2).trans (e3.trans e4)
        refine wpIn_mono (hb X2 ck ksz hj2) ?_
        rintro e a3 X3 hp3
        have fin : ∀ (jump : Option Code), Keeps (fun b => Pr b ∨ up T b) X2 X3 →
            (Instr.endRound l jump).run P X3 = .ok (.bool jump.isNone) (X3.putObj l (.loop (rec (if jump.isNone then .ready else .done) jump))) ∧
            (X3.putObj l (.loop (rec (if jump.isNone then .ready else .done) jump))).heap[l]? = some (.loop (rec (if jump.isNone then .ready else .done) jump)) ∧
            (X3.putObj l (.loop (rec (if jump.isNone then .ready else .done) jump))).heap[w.heap.size]? = some (.deferred (some [])) := by
          intro jump hk3
          have l3 := hk3.heap l2 (.inr (.inr (.inr rfl)))
          have d3 := hk3.heap d2 (.inr (.inr (.inl rfl)))
          have := run_endRound (P := P) jump l3
          rw [hrec] at this ⊢
          exact ⟨this, World.putObj_heap_same (Array.getElem?_eq_some_iff.1 l3).1, (World.putObj_heap_other (by omega)).trans d3⟩
        have klp : ∀ o, Keeps (fun b => b ≠ l) X3 (X3.putObj l o) := fun o => Keeps.putObj _ _ _ (fun h => h rfl)
        cases e with
        | normal =>
          obtain ⟨hj3, hk3⟩ := hp3
          obtain ⟨hr', l4, d4⟩ := fin none hk3
          exact ⟨_, _, hr', .inl ⟨rfl, ⟨turn _ _ _ (hJ _) (by simp) (klp _) hj3, l4, d4, k3, k4, k5⟩, hkp2 _ hk3 _ (by simp) (klp _)⟩⟩
        | ret =>
          obtain ⟨hj3, hk3⟩ := hp3
          obtain ⟨hr', l4, d4⟩ := fin (some .ret) hk3
          exact ⟨_, _, hr', .inr ⟨rfl, ⟨.ret, turn _ _ _ (hJx _ _) (by simp) (klp _) hj3, l4, d4, k3, k4, k5⟩, hkp2 _ hk3 _ (by simp) (klp _)⟩⟩
        | exit id =>
          obtain ⟨hj3, hk3⟩ := hp3
          obtain ⟨hr', l4, d4⟩ := fin (some (.exit id)) hk3
          exact ⟨_, _, hr', .inr ⟨rfl, ⟨.exit id, turn _ _ _ (hJx _ _) (by simp) (klp _) hj3, l4, d4, k3, k4, k5⟩, hkp2 _ hk3 _ (by simp) (klp _)⟩⟩
        | goto t =>
          obtain ⟨hj3, hk3⟩ := hp3
          obtain ⟨hr', l4, d4⟩ := fin (some (.goto t)) hk3
          exact ⟨_, _, hr', .inr ⟨rfl, ⟨.goto t, turn _ _ _ (hJx _ _) (by simp) (klp _) hj3, l4, d4, k3, k4, k5⟩, hkp2 _ hk3 _ (by simp) (klp _)⟩⟩
        | panic ch => exact hp3.elim
        | outgrown => exact hp3.elim
      | exit id => exact hp.elim
      | goto t => exact hp.elim
      | ret => exact hp.elim
      | panic ch => exact hp.elim
      | outgrown => exact hp.elim
    · -- behind the iterator
      have turn : ∀ (T : Nat → Prop) (J' : (Nat → Prop) → World → Prop) (U V : World), Calm J' → U.heap.size = V.heap.size → Keeps (fun b => b ≠ l) U V → J' (up T) U → J' (up T) V := by
        intro T J' U V hc hs hk hj'
        have := hc (up T) U V hj' (hk.mono fun b _ hn e => hn (.inr (.inr e)))
        have he : (fun b => up T b ∨ (U.heap.size ≤ b ∧ b < V.heap.size)) = up T := set_eq fun b => ⟨fun h => h.elim id (fun h => by omega), .inl⟩
        rwa [he] at this
      rintro e X ⟨⟨v, rfl⟩, (⟨T, ⟨hj, k1, k2, k3, k4, _⟩, hgs⟩ | ⟨pre, T, hpre, ⟨c, hj, k1, k2, k3, k4, _⟩, hgs⟩)⟩
      · have hend := run_endLoop (P := P) k1 (by rw [hrec]; simp)
        rw [hrec] at hend
        exact ⟨none, _, hend, hdone (up T) _ w.heap.size (Nat.le_refl _) (.inr (.inl rfl)) (turn T _ _ _ (hJ _) (by simp) (Keeps.putObj _ _ _ (fun h => h rfl)) hj) (hG _ _ _ hgs (CellKeep.putObj _ k1 rfl)) ((World.putObj_heap_other (by omega)).trans k2)⟩
      · have hend := run_endLoop (P := P) k1 (by rw [hrec]; simp)
        rw [hrec] at hend
        exact ⟨some c, _, hend, hstop c pre (up T) _ w.heap.size (Nat.le_refl _) (.inr (.inl rfl)) hpre (turn T _ _ _ (hJx c pre) (by simp) (Keeps.putObj _ _ _ (fun h => h rfl)) hj) (hG _ _ _ hgs (CellKeep.putObj _ k1 rfl)) ((World.putObj_heap_other (by omega)).trans k2)⟩
end
end Go.Proofs.Ytfdlhlabkcmikaa
