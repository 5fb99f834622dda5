/- loops.rings: what its visit computes, and its memory; no condition. -/
import Derived.Test.YtfdlhlabkcmikaaSlices
namespace Go.Proofs.Ytfdlhlabkcmikaa
open Go.RowKit Go.Shelf

structure TS where
  n : Int
  index : List Int
  low : List Int
  within : List Bool
  stack : List Int
  out : List (List Int)

def TS.enter (s : TS) (i : Nat) : TS := { n := s.n + 1, index := s.index.set i (s.n + 1), low := s.low.set i (s.n + 1), within := s.within.set i true, stack := s.stack ++ [(i : Int)], out := s.out }
def TS.lower (s : TS) (i : Nat) (v : Int) : TS := { s with low := s.low.set i (min (s.low[i]?.getD 0) v) }
def unmark (wi : List Bool) (ring : List Int) : List Bool := ring.foldl (fun wi k => wi.set k.toNat false) wi
def TS.close (next : List (List Int)) (s : TS) (i : Nat) : TS :=
  if s.low[i]?.getD 0 = s.index[i]?.getD 0 then
    { s with stack := s.stack.take (Lib.idxOf s.stack i).toNat, within := unmark s.within (s.stack.drop (Lib.idxOf s.stack i).toNat),
             out := if 1 < (s.stack.drop (Lib.idxOf s.stack i).toNat).length ∨ (next[i]?.getD []).contains (i : Int) = true then s.out ++ [sortI (s.stack.drop (Lib.idxOf s.stack i).toNat)] else s.out }
  else s
def visit (next : List (List Int)) : Nat → Nat → TS → TS
  | 0, _, s => s
  | f + 1, i, s => TS.close next ((next[i]?.getD []).foldl (fun s k =>
      if s.index[k.toNat]?.getD 0 = 0 then (visit next f k.toNat s).lower i ((visit next f k.toNat s).low[k.toNat]?.getD 0)
      else if s.within[k.toNat]?.getD false = true then s.lower i (s.index[k.toNat]?.getD 0) else s) (s.enter i)) i
def vstep (next : List (List Int)) (f i : Nat) (s : TS) (k : Int) : TS :=
  if s.index[k.toNat]?.getD 0 = 0 then (visit next f k.toNat s).lower i ((visit next f k.toNat s).low[k.toNat]?.getD 0)
  else if s.within[k.toNat]?.getD false = true then s.lower i (s.index[k.toNat]?.getD 0) else s
theorem visit_succ (next : List (List Int)) (f i : Nat) (s : TS) : visit next (f + 1) i s = TS.close next ((next[i]?.getD []).foldl (vstep next f i) (s.enter i)) i := rfl
def TS.start : TS := ⟨0, List.replicate 256 0, List.replicate 256 0, List.replicate 256 false, [], []⟩

/-- The visit's memory: eight variables from block B on. -/
structure TM (w W : World) (Gb : Nat) (s : TS) (sv ov : Value) (rvs : List Value) : Prop where
  g : Boxed W w.heap.size 53 (.pointer (some ⟨Gb, 0, none⟩))
  index : Blk W (w.heap.size + 1) 71 (intsC s.index)
  low : Blk W (w.heap.size + 2) 71 (intsC s.low)
  within : Blk W (w.heap.size + 3) 79 (boolsC s.within)
  sbox : Boxed W (w.heap.size + 4) 26 sv
  seg : Seg W (w.heap.size + 8) 1 sv s.stack.length (intsC s.stack)
  obox : Boxed W (w.heap.size + 5) 30 ov
  orow : W.ownsRow (w.heap.size + 8) 26 1 ov s.out.length rvs
  rings : RowsR W (w.heap.size + 8) 3 1 cellsI rvs s.out
  num : Boxed W (w.heap.size + 6) 3 (.int .i64 s.n)
  fn : Boxed W (w.heap.size + 7) 80 (.func (.func 43) #[] #[.pointer (some ⟨w.heap.size + 6, 0, none⟩), .pointer (some ⟨w.heap.size + 1, 0, none⟩), .pointer (some ⟨w.heap.size + 2, 0, none⟩), .pointer (some ⟨w.heap.size + 4, 0, none⟩), .pointer (some ⟨w.heap.size + 3, 0, none⟩), .pointer (some ⟨w.heap.size, 0, none⟩), .pointer (some ⟨w.heap.size + 7, 0, none⟩), .pointer (some ⟨w.heap.size + 5, 0, none⟩)])
  keeps : Keeps (fun b => b < w.heap.size) w W
  ap1 : ∀ b, sv.ownBlock = some b → ov.ownBlock ≠ some b ∧ ∀ r ∈ rvs, r.ownBlock ≠ some b
  ap2 : ∀ b, ov.ownBlock = some b → ∀ r ∈ rvs, r.ownBlock ≠ some b

section
variable {w W : World} {Gb : Nat} {s : TS} {sv ov : Value} {rvs : List Value}

/-- A step that turns one of the variables of fixed place, or makes memory. -/
theorem TM.rest (h : TM w W Gb s sv ov rvs) {W' : World} {c : Nat} (hc : c < 8) (hk : Keeps (fun b => b ≠ w.heap.size + c) W W') :
    (c ≠ 0 → Boxed W' w.heap.size 53 (.pointer (some ⟨Gb, 0, none⟩))) ∧ (c ≠ 1 → Blk W' (w.heap.size + 1) 71 (intsC s.index)) ∧ (c ≠ 2 → Blk W' (w.heap.size + 2) 71 (intsC s.low)) ∧
    (c ≠ 3 → Blk W' (w.heap.size + 3) 79 (boolsC s.within)) ∧ (c ≠ 4 → Boxed W' (w.heap.size + 4) 26 sv) ∧ Seg W' (w.heap.size + 8) 1 sv s.stack.length (intsC s.stack) ∧ (c ≠ 5 → Boxed W' (w.heap.size + 5) 30 ov) ∧
    W'.ownsRow (w.heap.size + 8) 26 1 ov s.out.length rvs ∧ RowsR W' (w.heap.size + 8) 3 1 cellsI rvs s.out ∧ (c ≠ 6 → Boxed W' (w.heap.size + 6) 3 (.int .i64 s.n)) ∧ Keeps (fun b => b < w.heap.size) w W' := by
  refine ⟨fun hn => box_keeps h.g hk (by omega), fun hn => h.index.keeps hk (by omega), fun hn => h.low.keeps hk (by omega), fun hn => h.within.keeps hk (by omega), fun hn => box_keeps h.sbox hk (by omega), h.seg.keeps hk (fun b hb => ?_), fun hn => box_keeps h.obox hk (by omega),
    own_keeps h.orow hk (fun b hb => ?_), h.rings.keeps hk (fun v hv b hb => ?_), fun hn => box_keeps h.num hk (by omega), h.keeps.trans (hk.mono fun b _ hb => by omega)⟩
  · have := (h.seg.own_lt b hb).1; omega
  · have := (h.orow.lt b hb).1; omega
  · have := (h.rings.lt v hv b hb).1; omega

theorem TM.setNum (h : TM w W Gb s sv ov rvs) (z : Int) : TM w (W.setCell ⟨w.heap.size + 6, 0, none⟩ (.int .i64 z)) Gb { s with n := z } sv ov rvs := by
  have hk : Keeps (fun b => b ≠ w.heap.size + 6) W (W.setCell ⟨w.heap.size + 6, 0, none⟩ (.int .i64 z)) := Keeps.setCell _ _ _ (fun h => h rfl)
  obtain ⟨r0, r1, r2, r3, r4, r5, r6, r7, r8, r9, r10⟩ := h.rest (c := 6) (by decide) hk
  exact ⟨r0 (by decide), r1 (by decide), r2 (by decide), r3 (by decide), r4 (by decide), r5, r6 (by decide), r7, r8, h.num.set _, box_keeps h.fn hk (by omega), r10, h.ap1, h.ap2⟩

theorem TM.setIndex (h : TM w W Gb s sv ov rvs) (i : Nat) (z : Int) : TM w (W.setCell ⟨w.heap.size + 1, i, none⟩ (.int .i64 z)) Gb { s with index := s.index.set i z } sv ov rvs := by
  have hk : Keeps (fun b => b ≠ w.heap.size + 1) W (W.setCell ⟨w.heap.size + 1, i, none⟩ (.int .i64 z)) := Keeps.setCell _ _ _ (fun h => h rfl)
  obtain ⟨r0, r1, r2, r3, r4, r5, r6, r7, r8, r9, r10⟩ := h.rest (c := 1) (by decide) hk
  exact ⟨r0 (by decide), intsC_set s.index i z ▸ h.index.set i _, r2 (by decide), r3 (by decide), r4 (by decide), r5, r6 (by decide), r7, r8, r9 (by decide), box_keeps h.fn hk (by omega), r10, h.ap1, h.ap2⟩

theorem TM.setLow (h : TM w W Gb s sv ov rvs) (i : Nat) (z : Int) : TM w (W.setCell ⟨w.heap.size + 2, i, none⟩ (.int .i64 z)) Gb { s with low := s.low.set i z } sv ov rvs := by
  have hk : Keeps (fun b => b ≠ w.heap.size + 2) W (W.setCell ⟨w.heap.size + 2, i, none⟩ (.int .i64 z)) := Keeps.setCell _ _ _ (fun h => h rfl)
  obtain ⟨r0, r1, r2, r3, r4, r5, r6, r7, r8, r9, r10⟩ := h.rest (c := 2) (by decide) hk
  exact ⟨r0 (by decide), r1 (by decide), intsC_set s.low i z ▸ h.low.set i _, r3 (by decide), r4 (by decide), r5, r6 (by decide), r7, r8, r9 (by decide), box_keeps h.fn hk (by omega), r10, h.ap1, h.ap2⟩

theorem boolsC_set (l : List Bool) (k : Nat) (v : Bool) : (boolsC l).set k (.bool v) = boolsC (l.set k v) := by simp [boolsC]

theorem TM.setWithin (h : TM w W Gb s sv ov rvs) (i : Nat) (z : Bool) : TM w (W.setCell ⟨w.heap.size + 3, i, none⟩ (.bool z)) Gb { s with within := s.within.set i z } sv ov rvs := by
  have hk : Keeps (fun b => b ≠ w.heap.size + 3) W (W.setCell ⟨w.heap.size + 3, i, none⟩ (.bool z)) := Keeps.setCell _ _ _ (fun h => h rfl)
  obtain ⟨r0, r1, r2, r3, r4, r5, r6, r7, r8, r9, r10⟩ := h.rest (c := 3) (by decide) hk
  exact ⟨r0 (by decide), r1 (by decide), r2 (by decide), boolsC_set s.within i z ▸ h.within.set i _, r4 (by decide), r5, r6 (by decide), r7, r8, r9 (by decide), box_keeps h.fn hk (by omega), r10, h.ap1, h.ap2⟩

/-- A step that leaves all that was there. -/
theorem TM.keep (h : TM w W Gb s sv ov rvs) {W' : World} (hk : Keeps (fun b => b < W.heap.size) W W') : TM w W' Gb s sv ov rvs := by
  have hws := h.keeps.size
  exact ⟨box_keeps h.g hk h.g.lt, h.index.keeps hk h.index.lt, h.low.keeps hk h.low.lt, h.within.keeps hk h.within.lt, box_keeps h.sbox hk h.sbox.lt, h.seg.keeps hk (fun b hb => (h.seg.own_lt b hb).2), box_keeps h.obox hk h.obox.lt,
    own_keeps h.orow hk (fun b hb => (h.orow.lt b hb).2), h.rings.keeps hk (fun v hv b hb => (h.rings.lt v hv b hb).2), box_keeps h.num hk h.num.lt, box_keeps h.fn hk h.fn.lt, h.keeps.trans (hk.mono fun b _ hb => by omega), h.ap1, h.ap2⟩

/-- A step that turns the stack's row and its variable, or makes memory. -/
theorem TM.stackStep (h : TM w W Gb s sv ov rvs) {W' : World} (hk : Keeps (fun b => b ≠ w.heap.size + 4 ∧ sv.ownBlock ≠ some b) W W') {sv' : Value} {st : List Int} (hb : Boxed W' (w.heap.size + 4) 26 sv') (hseg : Seg W' (w.heap.size + 8) 1 sv' st.length (intsC st))
    (hap : ∀ b, sv'.ownBlock = some b → sv.ownBlock = some b ∨ W.heap.size ≤ b) : TM w W' Gb { s with stack := st } sv' ov rvs := by
  have fx : ∀ c, c < 8 → c ≠ 4 → w.heap.size + c ≠ w.heap.size + 4 ∧ sv.ownBlock ≠ some (w.heap.size + c) := fun c hc h4 => ⟨by omega, fun e => by have := (h.seg.own_lt _ e).1; omega⟩
  have fo : ∀ b, ov.ownBlock = some b → b ≠ w.heap.size + 4 ∧ sv.ownBlock ≠ some b := fun b hb => ⟨by have := (h.orow.lt b hb).1; omega, fun e => (h.ap1 b e).1 hb⟩
  have fr : ∀ r ∈ rvs, ∀ b, r.ownBlock = some b → b ≠ w.heap.size + 4 ∧ sv.ownBlock ≠ some b := fun r hr b hb => ⟨by have := (h.rings.lt r hr b hb).1; omega, fun e => (h.ap1 b e).2 r hr hb⟩
  refine ⟨box_keeps h.g hk (fx 0 (by decide) (by decide)), h.index.keeps hk (fx 1 (by decide) (by decide)), h.low.keeps hk (fx 2 (by decide) (by decide)), h.within.keeps hk (fx 3 (by decide) (by decide)), hb, hseg, box_keeps h.obox hk (fx 5 (by decide) (by decide)),
    own_keeps h.orow hk fo, h.rings.keeps hk fr, box_keeps h.num hk (fx 6 (by decide) (by decide)), box_keeps h.fn hk (fx 7 (by decide) (by decide)), h.keeps.trans (hk.mono fun b _ hb => ⟨by omega, fun e => by have := (h.seg.own_lt b e).1; omega⟩), fun b hb' => ?_, h.ap2⟩
  rcases hap b hb' with e | e
  · exact h.ap1 b e
  · exact ⟨fun e' => by have := (h.orow.lt b e').2; omega, fun r hr e' => by have := (h.rings.lt r hr b e').2; omega⟩

/-- An instruction is pushed. -/
theorem TM.push (h : TM w W Gb s sv ov rvs) {w1 : World} {k : Int} {g off cap : Nat} {tmp : Obj}
    (hs : Seg w1 (w.heap.size + 8) 1 (.slice (some ⟨g, off, none⟩) (s.stack.length + 1) cap) (s.stack.length + 1) (intsC s.stack ++ [.int .i64 k])) (hg : (W.alloc tmp).grownBy w1 sv.ownBlock) (hat : sv.ownBlock = some g ∨ W.heap.size < g) :
    Boxed w1 (w.heap.size + 4) 26 sv ∧ TM w (w1.setCell ⟨w.heap.size + 4, 0, none⟩ (.slice (some ⟨g, off, none⟩) (s.stack.length + 1) cap)) Gb { s with stack := s.stack ++ [k] } (.slice (some ⟨g, off, none⟩) (s.stack.length + 1) cap) ov rvs := by
  have k1 : ∀ p : Nat → Prop, (∀ b, sv.ownBlock = some b → ¬ p b) → Keeps p W w1 := fun p hp => (Keeps.alloc p W tmp).trans (Keeps.grown hg hp)
  have hb1 : Boxed w1 (w.heap.size + 4) 26 sv := box_keeps h.sbox (k1 (fun b => sv.ownBlock ≠ some b) (fun b hb hn => hn hb)) (fun e => by have := (h.seg.own_lt _ e).1; omega)
  have lt4 := h.sbox.lt
  have hg8 : g ≠ w.heap.size + 4 := by
    rcases hat with e | e
    · have := (h.seg.own_lt g e).1; omega
    · omega
  refine ⟨hb1, h.stackStep ((k1 (fun b => b ≠ w.heap.size + 4 ∧ sv.ownBlock ≠ some b) (fun b hb h => h.2 hb)).trans (Keeps.setCell _ _ _ (fun h => h.1 rfl))) (hb1.set _) ?_ (fun b hb => ?_)⟩
  · have := hs.keeps (Keeps.setCell (p := fun b => b ≠ w.heap.size + 4) w1 ⟨w.heap.size + 4, 0, none⟩ (.slice (some ⟨g, off, none⟩) (s.stack.length + 1) cap) (fun h => h rfl)) (fun b hb => by cases hb; exact hg8)
    simpa [intsC] using this
  · obtain rfl : g = b := by simpa [Value.ownBlock] using hb
    rcases hat with e | e
    · exact .inl e
    · exact .inr (by omega)

/-- The stack is cut. -/
theorem TM.cut (h : TM w W Gb s sv ov rvs) {A : Option Addr} {cap m : Nat} (hsv : sv = .slice A s.stack.length cap) (hm : m ≤ s.stack.length) :
    TM w (W.setCell ⟨w.heap.size + 4, 0, none⟩ (.slice A m cap)) Gb { s with stack := s.stack.take m } (.slice A m cap) ov rvs := by
  subst hsv
  have hk : Keeps (fun b => b ≠ w.heap.size + 4 ∧ (Value.slice A s.stack.length cap).ownBlock ≠ some b) W (W.setCell ⟨w.heap.size + 4, 0, none⟩ (.slice A m cap)) := Keeps.setCell _ _ _ (fun h => h.1 rfl)
  have hown : ∀ b, (Value.slice A m cap).ownBlock = some b → (Value.slice A s.stack.length cap).ownBlock = some b := fun b hb => by cases A <;> exact hb
  refine h.stackStep hk (h.sbox.set _) ?_ (fun b hb => .inl (hown b hb))
  have hl : (s.stack.take m).length = m := by simp; omega
  rw [hl]
  have hs : Seg W (w.heap.size + 8) 1 (.slice A m cap) m (intsC (s.stack.take m)) := by
    refine ⟨by simp [intsC]; omega, ?_⟩
    rcases h.seg.2 with ⟨e, h0⟩ | ⟨g, off, c, e, hs⟩
    · obtain ⟨rfl, -, rfl⟩ : A = none ∧ s.stack.length = 0 ∧ cap = 0 := by injection e with a b c; exact ⟨a, b, c⟩
      obtain rfl : m = 0 := by omega
      exact .inl ⟨rfl, rfl⟩
    · obtain ⟨rfl, rfl⟩ : A = some ⟨g, off, none⟩ ∧ cap = c := by injection e with a b c; exact ⟨a, c⟩
      refine .inr ⟨g, off, cap, rfl, hs.base, hs.lt, by have := hs.le; omega, hs.max, hs.free, fun j u hu => hs.cells j u ?_⟩
      rw [intsC, List.map_take, List.getElem?_take] at hu
      split at hu
      · exact hu
      · cases hu
  refine hs.keeps (Keeps.setCell (p := fun b => b ≠ w.heap.size + 4) W ⟨w.heap.size + 4, 0, none⟩ (.slice A m cap) (fun h => h rfl)) (fun b hb => ?_)
  have := (hs.own_lt b hb).1
  omega

/-- A ring is told. -/
theorem TM.told (h : TM w W Gb s sv ov rvs) {w1 : World} {r : Value} {ring : List Int} {g cap : Nat} {tmp : Obj} (hr : W.ownsRow (w.heap.size + 8) 3 1 r ring.length (ring.flatMap cellsI)) (hr1 : ∀ b, r.ownBlock = some b → sv.ownBlock ≠ some b)
    (hs : w1.ownsRow (w.heap.size + 8) 26 1 (.slice (some ⟨g, 0, none⟩) (s.out.length + 1) cap) (s.out.length + 1) (rvs ++ [r])) (hg : (W.alloc tmp).grownBy w1 ov.ownBlock) (hat : ov.ownBlock = some g ∨ g = W.heap.size + 1) :
    Boxed w1 (w.heap.size + 5) 30 ov ∧ TM w (w1.setCell ⟨w.heap.size + 5, 0, none⟩ (.slice (some ⟨g, 0, none⟩) (s.out.length + 1) cap)) Gb { s with out := s.out ++ [ring] } sv (.slice (some ⟨g, 0, none⟩) (s.out.length + 1) cap) (rvs ++ [r]) := by
  have k1 : ∀ p : Nat → Prop, (∀ b, ov.ownBlock = some b → ¬ p b) → Keeps p W w1 := fun p hp => (Keeps.alloc p W tmp).trans (Keeps.grown hg hp)
  have hb1 : Boxed w1 (w.heap.size + 5) 30 ov := box_keeps h.obox (k1 (fun b => ov.ownBlock ≠ some b) (fun b hb hn => hn hb)) (fun e => by have := (h.orow.lt _ e).1; omega)
  have lt5 := h.obox.lt
  have hro : ∀ b, r.ownBlock = some b → ov.ownBlock ≠ some b := by
    intro b hb e
    rcases h.orow.2 with ⟨rfl, _⟩ | ⟨g', c', cur, rfl, _, hh, _⟩
    · cases e
    · cases e
      rcases hr.2 with ⟨rfl, _⟩ | ⟨g2, c2, cur2, rfl, _, hh2, _⟩
      · cases hb
      · cases hb
        have := hh.symm.trans hh2
        simp at this
  have hg8 : w.heap.size + 8 ≤ g := by
    rcases hat with e | e
    · exact (h.orow.lt g e).1
    · have := h.fn.lt; omega
  have kk : Keeps (fun b => b ≠ w.heap.size + 5 ∧ ov.ownBlock ≠ some b) W (w1.setCell ⟨w.heap.size + 5, 0, none⟩ (.slice (some ⟨g, 0, none⟩) (s.out.length + 1) cap)) := (k1 (fun b => b ≠ w.heap.size + 5 ∧ ov.ownBlock ≠ some b) (fun b hb h => h.2 hb)).trans (Keeps.setCell _ _ _ (fun h => h.1 rfl))
  have fx : ∀ c, c < 8 → c ≠ 5 → w.heap.size + c ≠ w.heap.size + 5 ∧ ov.ownBlock ≠ some (w.heap.size + c) := fun c hc h4 => ⟨by omega, fun e => by have := (h.orow.lt _ e).1; omega⟩
  have fs : ∀ b, sv.ownBlock = some b → b ≠ w.heap.size + 5 ∧ ov.ownBlock ≠ some b := fun b hb => ⟨by have := (h.seg.own_lt b hb).1; omega, (h.ap1 b hb).1⟩
  have fr : ∀ v ∈ rvs, ∀ b, v.ownBlock = some b → b ≠ w.heap.size + 5 ∧ ov.ownBlock ≠ some b := fun v hv b hb => ⟨by have := (h.rings.lt v hv b hb).1; omega, fun e => h.ap2 b e v hv hb⟩
  have hnew : ∀ b, (Value.slice (some ⟨g, 0, none⟩) (s.out.length + 1) cap).ownBlock = some b → ov.ownBlock = some b ∨ W.heap.size < b := by
    intro b hb
    obtain rfl : g = b := by simpa [Value.ownBlock] using hb
    rcases hat with e | e
    · exact .inl e
    · exact .inr (by omega)
  have hrl := hr.lt
  refine ⟨hb1, box_keeps h.g kk (fx 0 (by decide) (by decide)), h.index.keeps kk (fx 1 (by decide) (by decide)), h.low.keeps kk (fx 2 (by decide) (by decide)), h.within.keeps kk (fx 3 (by decide) (by decide)), box_keeps h.sbox kk (fx 4 (by decide) (by decide)), h.seg.keeps kk fs,
    hb1.set _, ?_, ⟨by simp [h.rings.len], fun j v l hv hl => ?_⟩, box_keeps h.num kk (fx 6 (by decide) (by decide)), box_keeps h.fn kk (fx 7 (by decide) (by decide)), h.keeps.trans (kk.mono fun b _ hb => ⟨by omega, fun e => by have := (h.orow.lt b e).1; omega⟩), fun b hb => ?_, fun b hb v hv hvb => ?_⟩
  · have hq : ∀ b, (Value.slice (some ⟨g, 0, none⟩) (s.out.length + 1) cap).ownBlock = some b → b ≠ w.heap.size + 5 := by
      intro b hb
      obtain rfl : g = b := by simpa [Value.ownBlock] using hb
      omega
    have := own_keeps hs (Keeps.setCell (p := fun b => b ≠ w.heap.size + 5) w1 ⟨w.heap.size + 5, 0, none⟩ (.slice (some ⟨g, 0, none⟩) (s.out.length + 1) cap) (fun h => h rfl)) hq
    simpa using this
  · by_cases hj : j < rvs.length
    · rw [List.getElem?_append_left hj] at hv
      rw [List.getElem?_append_left (h.rings.len ▸ hj)] at hl
      exact own_keeps (h.rings.own j v l hv hl) kk (fr v (List.mem_of_getElem? hv))
    · rw [List.getElem?_append_right (by omega)] at hv
      rw [List.getElem?_append_right (by rw [← h.rings.len]; omega), ← h.rings.len] at hl
      have hv' := List.mem_of_getElem? hv
      have hl' := List.mem_of_getElem? hl
      simp at hv' hl'
      subst hv' hl'
      exact own_keeps hr kk (fun b hb => ⟨by have := (hrl b hb).1; omega, hro b hb⟩)
  · refine ⟨fun e => ?_, fun v hv e => ?_⟩
    · rcases hnew b e with e' | e'
      · exact (h.ap1 b hb).1 e'
      · have := (h.seg.own_lt b hb).2; omega
    · rcases List.mem_append.1 hv with hv | hv
      · exact (h.ap1 b hb).2 v hv e
      · simp at hv; subst hv; exact hr1 b e hb
  · rcases hnew b hb with e' | e'
    · rcases List.mem_append.1 hv with hv | hv
      · exact h.ap2 b e' v hv hvb
      · simp at hv; subst hv; exact hro b hvb e'
    · rcases List.mem_append.1 hv with hv | hv
      · have := (h.rings.lt v hv b hvb).2; omega
      · simp at hv; subst hv; have := (hrl b hvb).2; omega
end
end Go.Proofs.Ytfdlhlabkcmikaa
