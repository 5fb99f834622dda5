/- Lists of rows of a call's own, each of which grows; no condition. -/
import Derived.Test.YtfdlhlabkcmikaaBase
namespace Go.Proofs.Ytfdlhlabkcmikaa
open Go.RowKit

/-- A block that holds these cells, and no others. -/
def Blk (W : World) (b : Nat) (t : TypeId) (cs : List Value) : Prop := W.heap[b]? = some (.cells cs.toArray t (0, 0))

theorem Blk.lt {W : World} {b : Nat} {t : TypeId} {cs : List Value} (h : Blk W b t cs) : b < W.heap.size := (Array.getElem?_eq_some_iff.1 h).1
theorem Blk.keeps {p : Nat → Prop} {W W' : World} {b : Nat} {t : TypeId} {cs : List Value} (h : Blk W b t cs) (hk : Keeps p W W') (hp : p b) : Blk W' b t cs := hk.heap h hp
theorem Blk.cell {W : World} {b : Nat} {t : TypeId} {cs : List Value} (h : Blk W b t cs) {j : Nat} {u : Value} (hu : cs[j]? = some u) : W.cell? ⟨b, j, none⟩ = some u := by
  simp only [World.cell?, show W.heap[b]? = _ from h, Option.isSome_none]
  simpa using hu
theorem Blk.frozen {W : World} {b : Nat} {t : TypeId} {cs : List Value} (h : Blk W b t cs) (j : Nat) : W.frozen? ⟨b, j, none⟩ = false := by
  simp [World.frozen?, show W.heap[b]? = _ from h]
theorem Blk.set {W : World} {b : Nat} {t : TypeId} {cs : List Value} (h : Blk W b t cs) (j : Nat) (u : Value) : Blk (W.setCell ⟨b, j, none⟩ u) b t (cs.set j u) := by
  obtain ⟨hlt, hk⟩ := Array.getElem?_eq_some_iff.1 h
  show (W.heap.modify b _)[b]? = _
  rw [Array.getElem?_eq_getElem (by rw [Array.size_modify]; exact hlt), Array.getElem_modify_self, hk]
  simp
theorem Blk.alloc {W : World} {b : Nat} {t : TypeId} {cs : List Value} (h : Blk W b t cs) (o : Obj) : Blk (W.alloc o) b t cs := h.keeps (Keeps.alloc (fun _ => True) W o) trivial
theorem Blk.not_row {W : World} {b : Nat} {t e : TypeId} {cs : List Value} (h : Blk W b t cs) (hte : t ≠ e) {base sz n : Nat} {v : Value} {xs : List Value} (hr : W.ownsRow base e sz v n xs) : v.ownBlock ≠ some b := by
  rcases hr.2 with ⟨rfl, _⟩ | ⟨g, cap, cur, rfl, _, hg, _⟩
  · intro e; cases e
  · intro e'
    obtain rfl : g = b := by simpa [Value.ownBlock] using e'
    have := (show W.heap[g]? = _ from h).symm.trans hg
    simp at this
    exact hte this.2
theorem own_full {W : World} {base : Nat} {e : TypeId} {g n : Nat} {xs : List Value} (h : W.ownsRow base e 1 (.slice (some ⟨g, 0, none⟩) n n) n xs) : Blk W g e xs := by
  rcases h.2 with ⟨h, _⟩ | ⟨g', cap, cur, hv, hb, hh, hn, hc, hcs, ht⟩
  · cases h
  · cases hv
    rw [List.take_of_length_le (by simp [hcs])] at ht
    subst ht
    exact hh
theorem Blk.boxed {W : World} {b : Nat} {t : TypeId} {v : Value} (h : Boxed W b t v) : Blk W b t [v] := h

/-- vs are rows of the call's own, ls what they hold; no two lie in one block. -/
structure RowsOk {α : Type} (W : World) (base : Nat) (e : TypeId) (sz : Nat) (f : α → List Value) (vs : List Value) (ls : List (List α)) : Prop where
  len : vs.length = ls.length
  own : ∀ (k : Nat) (v : Value) (l : List α), vs[k]? = some v → ls[k]? = some l → W.ownsRow base e sz v l.length (l.flatMap f)
  apart : ∀ (j k : Nat) (vj vk : Value) (b : Nat), vs[j]? = some vj → vs[k]? = some vk → vj.ownBlock = some b → vk.ownBlock = some b → j = k

section
variable {α : Type} {W w1 : World} {base : Nat} {t e : TypeId} {sz : Nat} {f : α → List Value} {vs : List Value} {ls : List (List α)}

theorem RowsOk.at (h : RowsOk W base e sz f vs ls) {k : Nat} {v : Value} (hv : vs[k]? = some v) : ∃ l, ls[k]? = some l ∧ W.ownsRow base e sz v l.length (l.flatMap f) := by
  have hk : k < ls.length := h.len ▸ (List.getElem?_eq_some_iff.1 hv).1
  exact ⟨ls[k], List.getElem?_eq_getElem hk, h.own k v _ hv (List.getElem?_eq_getElem hk)⟩

theorem RowsOk.keeps {p : Nat → Prop} {W' : World} (h : RowsOk W base e sz f vs ls) (hk : Keeps p W W') (hp : ∀ v ∈ vs, ∀ b, v.ownBlock = some b → p b) : RowsOk W' base e sz f vs ls :=
  ⟨h.len, fun k v l hv hl => own_keeps (h.own k v l hv hl) hk (hp v (List.mem_of_getElem? hv)), h.apart⟩

theorem own_cellkeep {W' : World} {v : Value} {n : Nat} {xs : List Value} (h : W.ownsRow base e sz v n xs) (hk : CellKeep W W') : W'.ownsRow base e sz v n xs := by
  refine ⟨h.1, ?_⟩
  rcases h.2 with hn | ⟨g, cap, cur, rfl, hb, hgg, rest⟩
  · exact .inl hn
  · exact .inr ⟨g, cap, cur, rfl, hb, hk _ _ hgg rfl, rest⟩
theorem RowsOk.cellkeep {W' : World} (h : RowsOk W base e sz f vs ls) (hk : CellKeep W W') : RowsOk W' base e sz f vs ls :=
  ⟨h.len, fun k v l hv hl => own_cellkeep (h.own k v l hv hl) hk, h.apart⟩

theorem RowsOk.lt (h : RowsOk W base e sz f vs ls) : ∀ v ∈ vs, ∀ b, v.ownBlock = some b → base ≤ b ∧ b < W.heap.size := by
  intro v hv b hb
  obtain ⟨k, hk⟩ := List.mem_iff_getElem?.1 hv
  obtain ⟨l, _, ho⟩ := h.at hk
  exact ho.lt b hb

/-- One row grows by an element, and its new slice is stored. -/
theorem rows_step {R k g cap : Nat} {v : Value} {l : List α} {x : α} {tmp : Obj} (hte : t ≠ e) (hR : Blk W R t vs) (h : RowsOk W base e sz f vs ls) (hv : vs[k]? = some v) (hl : ls[k]? = some l) {cs : List Value} (hcs : cs = f x)
    (hown : w1.ownsRow base e sz (.slice (some ⟨g, 0, none⟩) (l.length + 1) cap) (l.length + 1) (l.flatMap f ++ cs)) (hg : (W.alloc tmp).grownBy w1 v.ownBlock) (hat : v.ownBlock = some g ∨ g = W.heap.size + 1) :
    Blk w1 R t vs ∧ Blk (w1.setCell ⟨R, k, none⟩ (.slice (some ⟨g, 0, none⟩) (l.length + 1) cap)) R t (vs.set k (.slice (some ⟨g, 0, none⟩) (l.length + 1) cap)) ∧
      RowsOk (w1.setCell ⟨R, k, none⟩ (.slice (some ⟨g, 0, none⟩) (l.length + 1) cap)) base e sz f (vs.set k (.slice (some ⟨g, 0, none⟩) (l.length + 1) cap)) (ls.set k (l ++ [x])) ∧
      (∀ p : Nat → Prop, ¬ p R → (∀ b, v.ownBlock = some b → ¬ p b) → Keeps p W (w1.setCell ⟨R, k, none⟩ (.slice (some ⟨g, 0, none⟩) (l.length + 1) cap))) ∧ g ≠ R := by
  subst hcs
  have hro := h.own k v l hv hl
  have hvR : v.ownBlock ≠ some R := hR.not_row hte hro
  have k1 : ∀ p : Nat → Prop, (∀ b, v.ownBlock = some b → ¬ p b) → Keeps p W w1 := fun p hp => (Keeps.alloc p W tmp).trans (Keeps.grown hg hp)
  have hR1 : Blk w1 R t vs := hR.keeps (k1 (fun b => v.ownBlock ≠ some b) (fun b hb hn => hn hb)) hvR
  have hgR : g ≠ R := fun e' => hR1.not_row hte hown (by rw [e']; rfl)
  have hk2 : ∀ p : Nat → Prop, ¬ p R → (∀ b, v.ownBlock = some b → ¬ p b) → Keeps p W (w1.setCell ⟨R, k, none⟩ (.slice (some ⟨g, 0, none⟩) (l.length + 1) cap)) :=
    fun p h1 h2 => (k1 p h2).trans (Keeps.setCell _ _ _ h1)
  have hkl := (List.getElem?_eq_some_iff.1 hv).1
  refine ⟨hR1, hR1.set _ _, ⟨by simp [h.len], ?_, ?_⟩, hk2, hgR⟩
  · intro j vj lj hvj hlj
    by_cases e : k = j
    · subst e
      have e1 : (vs.set k (.slice (some ⟨g, 0, none⟩) (l.length + 1) cap))[k]? = some (.slice (some ⟨g, 0, none⟩) (l.length + 1) cap) := by simp [hkl]
      have e2 : (ls.set k (l ++ [x]))[k]? = some (l ++ [x]) := by simp [← h.len, hkl]
      rw [e1] at hvj; rw [e2] at hlj
      cases hvj; cases hlj
      have := own_keeps hown (Keeps.setCell (p := fun b => b ≠ R) w1 ⟨R, k, none⟩ (.slice (some ⟨g, 0, none⟩) (l.length + 1) cap) (fun h => h rfl)) (fun b hb => by cases hb; exact hgR)
      simpa [List.flatMap_append] using this
    · rw [List.getElem?_set_ne e] at hvj hlj
      have ho := h.own j vj lj hvj hlj
      refine own_keeps ho (hk2 (fun b => b ≠ R ∧ v.ownBlock ≠ some b) (fun h => h.1 rfl) (fun b hb h => h.2 hb)) (fun b hb => ⟨?_, ?_⟩)
      · rintro rfl; exact hR.not_row hte ho hb
      · intro hb'; exact e (h.apart k j v vj b hv hvj hb' hb)
  · intro i j vi vj b hvi hvj hbi hbj
    have key : ∀ m vm, m ≠ k → vs[m]? = some vm → vm.ownBlock ≠ some g := by
      intro m vm hm hvm hb
      rcases hat with hat | hat
      · exact hm (h.apart m k vm v g hvm hv hb hat)
      · have := (h.lt vm (List.mem_of_getElem? hvm) g hb).2; omega
    by_cases e1 : k = i
    · by_cases e2 : k = j
      · omega
      · subst e1
        rw [List.getElem?_set_ne e2] at hvj
        have e3 : (vs.set k (.slice (some ⟨g, 0, none⟩) (l.length + 1) cap))[k]? = some (.slice (some ⟨g, 0, none⟩) (l.length + 1) cap) := by simp [hkl]
        rw [e3] at hvi; cases hvi; cases hbi
        exact absurd hbj (key j vj (fun h => e2 h.symm) hvj)
    · rw [List.getElem?_set_ne e1] at hvi
      by_cases e2 : k = j
      · subst e2
        have e3 : (vs.set k (.slice (some ⟨g, 0, none⟩) (l.length + 1) cap))[k]? = some (.slice (some ⟨g, 0, none⟩) (l.length + 1) cap) := by simp [hkl]
        rw [e3] at hvj; cases hvj; cases hbj
        exact absurd hbi (key i vi (fun h => e1 h.symm) hvi)
      · rw [List.getElem?_set_ne e2] at hvj
        exact h.apart i j vi vj b hvi hvj hbi hbj
end

section
variable {P : Program} {w : World} {o : Oper} {a : Act} {K : Act → World → Prop} {Q : Exit → Act → World → Prop}
theorem wp_value {v : Value} {w' : World} (d : Option Tmp) (hd : o.dst = d) (h : (execOp a.eval o).run P w = .ok (.value v) w') (k : K (a.put d v) w') : o.wp P a w K Q := by
  subst hd; unfold Oper.wp; rw [h]; exact k
theorem wp_skip {w' : World} (hd : o.dst = none) (h : (execOp a.eval o).run P w = .ok .skip w') (k : K a w') : o.wp P a w K Q := by
  have k : K (a.put o.dst undef) w' := by rw [hd]; exact k
  unfold Oper.wp; rw [h]; exact k
theorem wp_enter {f : FuncId} {args : Array Value} (d : Option Tmp) (hd : o.dst = d) (h : (execOp a.eval o).run P w = .ok (.enter f args) w) (k : Calls P f args w fun e w' => ∃ v, e = .returned v ∧ K (a.put d v) w') : o.wp P a w K Q := by
  subst hd; unfold Oper.wp; rw [h]
  refine Calls.mono k ?_
  rintro e w' ⟨v, rfl, hv⟩
  exact hv
/-- append of one element, as one step. -/
theorem wp_app1 (d : Option Tmp) (hd : o.dst = d) (s x : Operand) (t : TypeId) (ho : o.op = .call { callee := .builtin .append, args := #[s, x], argTypes := #[t, t] }) {e : TypeId} {sz : Nat} (hE : ElT P t e sz)
    (base : Nat) (v : Value) (n : Nat) (xs : List Value) (hs : a.eval s = v) (hown : w.ownsRow base e sz v n xs) (cs : Array Value) (hx : a.eval x = .slice (some ⟨w.heap.size, 0, none⟩) 1 1)
    (hl : cs.size = sz) (h1 : ∀ u ∈ cs.toList, u.oneCell' = true) (hn : n < 1000000) (hbase : base ≤ w.heap.size)
    (h : ∀ g cap w1, w1.ownsRow base e sz (.slice (some ⟨g, 0, none⟩) (n + 1) cap) (n + 1) (xs ++ cs.toList) → (w.alloc (.cells cs e)).grownBy w1 v.ownBlock → (v.ownBlock = some g ∨ g = w.heap.size + 1) → g < w1.heap.size →
      K (a.put d (.slice (some ⟨g, 0, none⟩) (n + 1) cap)) w1) : o.wp P a (w.alloc (.cells cs e)) K Q := by
  subst hd
  obtain ⟨g, cap, w1, r1, r2, r3, r4, r5⟩ := run_app1 (P := P) (ty := o.type) hE base v n xs hown cs hl h1 hn hbase
  unfold Oper.wp execOp
  simp only [ho, resolve, invoke, builtin, Sem.run_bind, Sem.run_pure, Result.andThen_ok, List.map_toArray, List.map_cons, List.map_nil, hs, hx, r1]
  exact h g cap w1 r2 r3 r4 r5
end

/-! ### The marks that loops over functions leave among the deferred calls -/
def mark (D : Nat) : Deferred := { target := .collected D, args := #[] }
def Marks (W : World) (Ds : List Nat) : Prop := Ds.Nodup ∧ ∀ D ∈ Ds, W.heap[D]? = some (.deferred (some []))

theorem Marks.nil (W : World) : Marks W [] := ⟨List.nodup_nil, fun _ h => by cases h⟩
theorem Marks.cons {W : World} {D : Nat} {Ds : List Nat} (h : Marks W Ds) (hD : D ∉ Ds) (hh : W.heap[D]? = some (.deferred (some []))) : Marks W (D :: Ds) :=
  ⟨List.nodup_cons.2 ⟨hD, h.1⟩, fun _ h' => by rcases List.mem_cons.1 h' with rfl | h'; exact hh; exact h.2 _ h'⟩
theorem Marks.keeps {p : Nat → Prop} {W W' : World} {Ds : List Nat} (h : Marks W Ds) (hk : Keeps p W W') (hp : ∀ D ∈ Ds, p D) : Marks W' Ds :=
  ⟨h.1, fun D hD => hk.heap (h.2 D hD) (hp D hD)⟩
theorem Marks.lt {W : World} {Ds : List Nat} (h : Marks W Ds) : ∀ D ∈ Ds, D < W.heap.size := fun D hD => (Array.getElem?_eq_some_iff.1 (h.2 D hD)).1

/-- The marks are taken up, one after the other. -/
theorem leaves_marks {P : Program} {fn : Func} {tmps : Array Value} {R : Ending → World → Prop} : ∀ (Ds : List Nat) (W : World), Marks W Ds →
    (∀ W', CellKeep W W' → Keeps (fun b => b ∉ Ds) W W' → LeavesIn Fence.wide 0 P fn tmps R [] .returning W') → LeavesInM Fence.wide 0 P fn tmps R (Ds.map mark) .returning W := by
  intro Ds
  induction Ds with
  | nil => intro W _ h; exact h W (fun _ _ h _ => h) (Keeps.refl _ _)
  | cons D Ds ih =>
    intro W hm h
    have hD := hm.2 D (by simp)
    obtain ⟨hnd, hnd'⟩ := List.nodup_cons.1 hm.1
    refine ⟨by simp, .inl ⟨D, _, rfl, run_takeDeferred hD, ih _ ⟨hnd', fun E hE => ?_⟩ fun W' hc hk => ?_⟩⟩
    · exact (World.putObj_heap_other (fun e => hnd (by rw [← e]; exact hE))).trans (hm.2 E (by simp [hE]))
    · refine h W' (fun b o ho hoc => hc b o (CellKeep.putObj _ hD rfl b o ho hoc) hoc) ?_
      exact (Keeps.putObj W D _ (fun h => h (by simp))).trans (hk.mono fun b _ hb => fun h => hb (by simp [h]))
end Go.Proofs.Ytfdlhlabkcmikaa
