/- What lies in memory while fermatalaw20.LoopsRings runs. -/
import Derived.Test.YtfdlhlabkcmikaaLR0
namespace Go.Proofs.Ytfdlhlabkcmikaa
open Go.RowKit Go.Shelf Go.Lib

theorem made_check {q : List Ins} (hq : ∀ x ∈ q, Good (q.length + 1) x) (hl : q.length ≤ 40) : (∀ x ∈ q ++ [halt], x.Ok) ∧ (checkP (q ++ [halt])).2 = 0 := by
  have hlen : (q ++ [halt]).length = q.length + 1 := by simp
  have hg : ∀ x ∈ q ++ [halt], Good (q.length + 1) x := fun x hx => by
    rcases List.mem_append.1 hx with hx | hx
    · exact hq x hx
    · simp at hx; subst hx; exact halt_good
  refine ⟨fun x hx => (hg x hx).ok, check_good (fun x hx => by rw [hlen]; exact hg x hx) (by rw [hlen]; omega) (by rw [hlen]; omega) (fun x hx => ?_)⟩
  rw [List.getLast?_append] at hx
  simp at hx
  subst hx
  rfl

/-- The rings' rows, read. -/
structure RowsV (W : World) (ov : Value) (rvs : List Value) (out : List (List Int)) : Prop where
  row : SlV W 1 ov out.length rvs
  len : rvs.length = out.length
  each : ∀ (k : Nat) (v : Value) (r : List Int), rvs[k]? = some v → out[k]? = some r → SlV W 1 v r.length (intsC r)
theorem RowsV.keeps {W W' : World} {ov : Value} {rvs : List Value} {out : List (List Int)} (h : RowsV W ov rvs out) (hk : Keeps (fun b => b < W.heap.size) W W') : RowsV W' ov rvs out :=
  ⟨SlV.keeps h.row hk (fun _ _ _ _ _ hb => hb), h.len, fun k v r hv hr => SlV.keeps (h.each k v r hv hr) hk (fun _ _ _ _ _ hb => hb)⟩

theorem RowsV.at {W : World} {ov : Value} {rvs : List Value} {out : List (List Int)} (h : RowsV W ov rvs out) {k : Nat} {r : List Int} (hr : out[k]? = some r) :
    ∃ (b off c : Nat) (A : Option Addr) (cr : Nat), ov = .slice (some ⟨b, off, none⟩) out.length c ∧ b < W.heap.size ∧ W.cell? ⟨b, off + k, none⟩ = some (.slice A r.length cr) ∧ SlV W 1 (.slice A r.length cr) r.length (intsC r) := by
  have hk : k < rvs.length := by rw [h.len]; exact (List.getElem?_eq_some_iff.1 hr).1
  obtain ⟨v, hv⟩ : ∃ v, rvs[k]? = some v := ⟨_, List.getElem?_eq_getElem hk⟩
  obtain ⟨b, off, c, e, hb, hc⟩ := slV_get h.row hv
  have h2 := h.each k v r hv hr
  obtain ⟨A, cr, rfl, hs⟩ := h2
  exact ⟨b, off, c, A, cr, e, hb, hc, ⟨A, cr, rfl, hs⟩⟩

/-- All but the numbers. -/
structure LR (W : World) (Bp : Nat) (p : List Ins) (g c : Nat) (rv ov : Value) (rvs : List Value) (out : List (List Int)) : Prop where
  boxp : Boxed W Bp 24 (.slice (some ⟨g, 0, none⟩) p.length c)
  prg : Prg W (some ⟨g, 0, none⟩) c p
  rea : SlV W 1 rv p.length (boolsC (reachedX p))
  rows : RowsV W ov rvs out
theorem LR.keep {W W' : World} {Bp : Nat} {p : List Ins} {g c : Nat} {rv ov : Value} {rvs : List Value} {out : List (List Int)} (h : LR W Bp p g c rv ov rvs out) (hk : Keeps (fun b => b < W.heap.size) W W') : LR W' Bp p g c rv ov rvs out :=
  ⟨box_keeps h.boxp hk h.boxp.lt, h.prg.keeps' hk, SlV.keeps h.rea hk (fun _ _ _ _ _ hb => hb), h.rows.keeps hk⟩

/-- The numbers: their row lies in block W0's size, their variable in a later one. -/
structure LN (W0 W : World) (Bn N : Nat) (ns : List Int) : Prop where
  row : Blk W W0.heap.size 3 (intsC ns)
  box : Boxed W Bn 26 (.slice (some ⟨W0.heap.size, 0, none⟩) N N)
  ge : W0.heap.size < Bn
  keeps : Keeps (fun b => b < W0.heap.size) W0 W
section
variable {W0 W W' : World} {Bn N : Nat} {ns : List Int}
theorem LN.keep (h : LN W0 W Bn N ns) (hk : Keeps (fun b => b < W.heap.size) W W') : LN W0 W' Bn N ns :=
  ⟨h.row.keeps hk h.row.lt, box_keeps h.box hk h.box.lt, h.ge, h.keeps.trans (hk.mono fun b _ hb => by have := h.box.lt; have := h.ge; omega)⟩
theorem LN.set (h : LN W0 W Bn N ns) (i : Nat) (z : Int) : LN W0 (W.setCell ⟨W0.heap.size, i, none⟩ (.int .i64 z)) Bn N (ns.set i z) :=
  ⟨intsC_set ns i z ▸ h.row.set i _, box_keeps h.box (Keeps.setCell (p := fun b => b ≠ W0.heap.size) _ _ _ (fun h => h rfl)) (by have := h.ge; omega), h.ge, h.keeps.trans (Keeps.setCell _ _ _ (Nat.lt_irrefl _))⟩
theorem LN.slv (h : LN W0 W Bn N ns) (hl : ns.length = N) (hN : N ≤ maxLen) : SlV W 1 (.slice (some ⟨W0.heap.size, 0, none⟩) N N) N (intsC ns) :=
  ⟨_, _, rfl, by simp [intsC, hl], Nat.le_refl _, hN, .inr ⟨_, 0, rfl, h.row.lt, fun j u hu => by rw [Nat.zero_add]; exact h.row.cell hu⟩⟩
end

/-- What is left: a row of the call's own, and its variable. -/
structure LL (W0 W : World) (Bl N : Nat) (lv : Value) (ls : List Bool) : Prop where
  own : W.ownsRow W0.heap.size 4 1 lv N (boolsC ls)
  box : Boxed W Bl 33 lv
  ge : W0.heap.size ≤ Bl
  keeps : Keeps (fun b => b < W0.heap.size) W0 W
section
variable {W0 W W' : World} {Bl N : Nat} {lv : Value} {ls : List Bool}
theorem LL.keep (h : LL W0 W Bl N lv ls) (hk : Keeps (fun b => b < W.heap.size) W W') : LL W0 W' Bl N lv ls :=
  ⟨own_keeps h.own hk (fun b hb => (h.own.lt b hb).2), box_keeps h.box hk h.box.lt, h.ge, h.keeps.trans (hk.mono fun b _ hb => by have := h.box.lt; have := h.ge; omega)⟩
theorem LL.ne (h : LL W0 W Bl N lv ls) : lv.ownBlock ≠ some Bl := (Blk.boxed h.box).not_row (by decide) h.own
theorem LL.set {L cap : Nat} (h : LL W0 W Bl N (.slice (some ⟨L, 0, none⟩) N cap) ls) (i : Nat) (z : Bool) : LL W0 (W.setCell ⟨L, i, none⟩ (.bool z)) Bl N (.slice (some ⟨L, 0, none⟩) N cap) (ls.set i z) := by
  have hL := (h.own.lt L rfl).1
  have hne : Bl ≠ L := fun e => h.ne (by rw [e]; rfl)
  exact ⟨boolsC_set ls i z ▸ own_set h.own i (.bool z), box_keeps h.box (Keeps.setCell (p := fun b => b ≠ L) _ _ _ (fun h => h rfl)) hne, h.ge, h.keeps.trans (Keeps.setCell _ _ _ (by simp; omega))⟩
end

section
variable {P : Program} {ops : Array Oper} {Q : Exit → Act → World → Prop} {md : Region.Mode} {m : Nat} {S : Bool → World → Prop}
/-- A guarded operation that reads and is wanted. -/
theorem held_take_g {i : Nat} {oi : Oper} {v : Value} {fuel : Nat} {listed : Array Bool} {a : Act} {w : World} (d : Option Tmp) (hi : ops[i]? = some oi) (hd : oi.dst = d)
    (hs : (Region.noSelect ops && Region.free md ops listed i && (Region.ready md ops listed).contains i && waitsFor md ops m i && !listed.getD m true) = true) (hw : Region.wanted oi (yielded ops a.tmps) = true)
    (hQ : ∀ c a w, Q (.panic c) (a.put d v) w → Q (.panic c) a w) (hS : S false w) (hy : ∀ w, S false w → (execOp a.eval oi).run P w = .ok (.value v) w)
    (h : wpAnyM P md ops Q m S fuel (listed.setIfInBounds i true) (a.put d v) w) : wpAnyM P md ops Q m S (fuel + 1) listed a w := by
  subst hd
  simp only [Bool.and_eq_true] at hs
  exact heldM_first hi (Region.noSelect_spec hs.1.1.1.1) hQ hs.1.2 fuel listed a w (Region.free_spec hi hs.1.1.1.2) (by simpa using hs.1.1.2) (by simpa using hs.2) (.inl ⟨hw, hy⟩) hS h
/-- A guarded operation that is not wanted. -/
theorem held_skip {i : Nat} {oi : Oper} {fuel : Nat} {listed : Array Bool} {a : Act} {w : World} (d : Option Tmp) (hi : ops[i]? = some oi) (hd : oi.dst = d)
    (hs : (Region.noSelect ops && Region.free md ops listed i && (Region.ready md ops listed).contains i && waitsFor md ops m i && !listed.getD m true) = true) (hw : Region.wanted oi (yielded ops a.tmps) = false)
    (hQ : ∀ c a w, Q (.panic c) (a.put d undef) w → Q (.panic c) a w) (hS : S false w)
    (h : wpAnyM P md ops Q m S fuel (listed.setIfInBounds i true) (a.put d undef) w) : wpAnyM P md ops Q m S (fuel + 1) listed a w := by
  subst hd
  simp only [Bool.and_eq_true] at hs
  exact heldM_first hi (Region.noSelect_spec hs.1.1.1.1) hQ hs.1.2 fuel listed a w (Region.free_spec hi hs.1.1.1.2) (by simpa using hs.1.1.2) (by simpa using hs.2) (.inr ⟨hw, rfl⟩) hS h
/-- One operation alone may come up, and is wanted. -/
theorem held_step_g {i : Nat} {oi : Oper} {fuel : Nat} {listed : Array Bool} {a : Act} {w : World} (hi : ops[i]? = some oi)
    (hr : (Region.ready md ops listed == [i]) = true) (hw : Region.wanted oi (yielded ops a.tmps) = true)
    (h : oi.wp P a w (fun a' w' => S ((listed.setIfInBounds i true).getD m true) w' ∧ wpAnyM P md ops Q m S fuel (listed.setIfInBounds i true) a' w') Q) : wpAnyM P md ops Q m S (fuel + 1) listed a w := by
  have hr := eq_of_beq hr
  refine ⟨fun h0 => (by rw [hr] at h0; cases h0), fun j hj => ?_⟩
  rw [hr] at hj
  simp at hj
  subst hj
  unfold wpOp
  rw [hi]
  simp only [hw]
  exact .inl h
end
end Go.Proofs.Ytfdlhlabkcmikaa
