/- loops.build. -/
import Derived.Test.YtfdlhlabkcmikaaReached
namespace Go.Proofs.Ytfdlhlabkcmikaa
open Go.RowKit Go.Shelf

/-- Rows that are only read. -/
structure RowsR {α : Type} (W : World) (base : Nat) (e : TypeId) (sz : Nat) (f : α → List Value) (vs : List Value) (ls : List (List α)) : Prop where
  len : vs.length = ls.length
  own : ∀ (k : Nat) (v : Value) (l : List α), vs[k]? = some v → ls[k]? = some l → W.ownsRow base e sz v l.length (l.flatMap f)

theorem RowsR.keeps {α : Type} {W W' : World} {base : Nat} {e : TypeId} {sz : Nat} {f : α → List Value} {vs : List Value} {ls : List (List α)} {p : Nat → Prop} (h : RowsR W base e sz f vs ls) (hk : Keeps p W W') (hp : ∀ v ∈ vs, ∀ b, v.ownBlock = some b → p b) : RowsR W' base e sz f vs ls :=
  ⟨h.len, fun k v l hv hl => own_keeps (h.own k v l hv hl) hk (hp v (List.mem_of_getElem? hv))⟩
theorem RowsR.lt {α : Type} {W : World} {base : Nat} {e : TypeId} {sz : Nat} {f : α → List Value} {vs : List Value} {ls : List (List α)} (h : RowsR W base e sz f vs ls) : ∀ v ∈ vs, ∀ b, v.ownBlock = some b → base ≤ b ∧ b < W.heap.size := by
  intro v hv b hb
  obtain ⟨k, hk⟩ := List.mem_iff_getElem?.1 hv
  have hkl : k < ls.length := h.len ▸ (List.getElem?_eq_some_iff.1 hk).1
  exact (h.own k v _ hk (List.getElem?_eq_getElem hkl)).lt b hb
theorem RowsR.at {α : Type} {W : World} {base : Nat} {e : TypeId} {sz : Nat} {f : α → List Value} {vs : List Value} {ls : List (List α)} (h : RowsR W base e sz f vs ls) {k : Nat} {v : Value} (hv : vs[k]? = some v) : ∃ l, ls[k]? = some l ∧ W.ownsRow base e sz v l.length (l.flatMap f) := by
  have hk : k < ls.length := h.len ▸ (List.getElem?_eq_some_iff.1 hv).1
  exact ⟨ls[k], List.getElem?_eq_getElem hk, h.own k v _ hv (List.getElem?_eq_getElem hk)⟩

/-- Where control can go from instruction i, if it is reached. -/
def nextAt (p : List Ins) (i : Nat) : List Int :=
  if (reachedX p)[i]?.getD false then (match p[i]? with | some x => edgesX x i | none => []) else []
def nextUpto (p : List Ins) (k : Nat) : List (List Int) := (List.range p.length).map fun i => if i < k then nextAt p i else []
def nextX (p : List Ins) : List (List Int) := (List.range p.length).map (nextAt p)

theorem nextUpto_set (p : List Ins) (k : Nat) (hk : k < p.length) : (nextUpto p k).set k (nextAt p k) = nextUpto p (k + 1) := by
  apply List.ext_getElem?
  intro j
  by_cases e : k = j
  · subst e; simp [nextUpto, hk]
  · rw [List.getElem?_set_ne e]
    simp only [nextUpto, List.getElem?_map]
    by_cases hj : j < p.length
    · simp only [List.getElem?_range hj, Option.map_some]
      by_cases h1 : j < k
      · rw [if_pos h1, if_pos (by omega)]
      · rw [if_neg h1, if_neg (by omega)]
    · simp [hj]
theorem nextUpto_same (p : List Ins) (k : Nat) (h : nextAt p k = []) : nextUpto p k = nextUpto p (k + 1) := by
  unfold nextUpto
  apply List.map_congr_left
  intro j _
  by_cases h1 : j < k
  · rw [if_pos h1, if_pos (by omega)]
  · rw [if_neg h1]
    by_cases h2 : j = k
    · subst h2; rw [if_pos (by omega), h]
    · rw [if_neg (by omega)]
theorem nextUpto_all (p : List Ins) : nextUpto p p.length = nextX p := by
  unfold nextUpto nextX
  apply List.map_congr_left
  intro j hj
  rw [if_pos (List.mem_range.1 hj)]
theorem nextUpto_zero (p : List Ins) : nextUpto p 0 = List.replicate p.length [] := by
  unfold nextUpto
  apply List.ext_getElem?
  intro j
  by_cases hj : j < p.length <;> simp [List.getElem?_replicate, hj]

/-- The graph of a program, in memory. -/
structure GraphM (W : World) (base : Nat) (Gb R : Nat) (pv rv : Value) (vs : List Value) (p : List Ins) (k : Nat) : Prop where
  blk : Blk W Gb 76 [pv, rv, .slice (some ⟨R, 0, none⟩) p.length p.length]
  row : Blk W R 26 vs
  rows : RowsR W base 3 1 cellsI vs (nextUpto p k)
  reached : W.ownsRow base 4 1 rv p.length (boolsC (reachedX p))
  ge : base ≤ Gb ∧ base ≤ R ∧ Gb ≠ R

theorem GraphM.keep {W W' : World} {base Gb R k : Nat} {pv rv : Value} {vs : List Value} {p : List Ins} (h : GraphM W base Gb R pv rv vs p k) (hk : Keeps (fun b => b < W.heap.size) W W') : GraphM W' base Gb R pv rv vs p k :=
  ⟨h.blk.keeps hk h.blk.lt, h.row.keeps hk h.row.lt, h.rows.keeps hk (fun v hv b hb => (h.rows.lt v hv b hb).2), own_keeps h.reached hk (fun b hb => (h.reached.lt b hb).2), h.ge⟩

set_option maxRecDepth 8000 in
set_option maxHeartbeats 1000000 in
theorem build_any (a : Option Addr) (cap : Nat) (p : List Ins) (w : World) (hp : Prg w a cap p) (hok : ∀ x ∈ p, x.Ok) (hc : (checkP p).2 = 0) :
    Calls Try.prog 28 #[.slice a p.length cap] w fun e w' => ∃ Gb R rv vs, e = .returned (.tuple #[.pointer (some ⟨Gb, 0, none⟩), .int .i64 0]) ∧ GraphM w' w.heap.size Gb R (.slice a p.length cap) rv vs p p.length ∧ Below w.heap.size w w' := by
  have hR := right_of hc
  have hle := hR.le
  have hd := reached_any a cap p w hp hok hc
  have hlen : p.length < 1000000 := by omega
  have q1 : Try.prog.underlying 30 = some (.slice 26) := Try.underlying30
  obtain ⟨i, q2, q3, q4, q5⟩ := info_parts (show (Try.prog.info? 26).map (fun i => (i.zero, i.size, i.bytes)) = some (some (.slice none 0 0), 1, 24) by kernel_rfl)
  have hby : i.bytes * p.length ≤ 281474976710656 := by rw [q5]; omega
  have hml : p.length ≤ maxLen := by unfold maxLen; omega
  go_enter Try.func28, Try.ntmps28
  go_wp2_with fail
  refine hd.mono ?_
  rintro e w1 ⟨rv, rfl, hown, hlr, hb1⟩
  have hws := hb1.size
  have hpos := hR.pos
  obtain ⟨rg, rc, rfl, -, hrg⟩ := hown.form hpos
  obtain ⟨G, hG⟩ : ∃ G, Hid (w1.heap.size = G) := ⟨_, rfl⟩
  have Hown := Lib.hid hown
  clear hown
  go_wp2_with (at_make; refine wpList_make_full _ rfl _ _ 30 rfl w1.heap.size 26 i (.slice none 0 0) 1 q1 q2 q3 q4 .i64 .i64 _ _ p.length rfl rfl rfl rfl hby hml (Nat.le_refl _) ?_; intro w2 hown2 hgrow2; obtain ⟨hrow, hbel⟩ := made_row rfl hown2 hgrow2 G hG.out)
  have hGe := hG.out
  subst hGe
  have hs2 := hbel.size
  have hl2 := (Array.getElem?_eq_some_iff.1 hrow.out).1
  have h0 : GraphM (w2.alloc (.cells #[.slice a p.length cap, .slice (some ⟨rg, 0, none⟩) p.length rc, .slice (some ⟨w1.heap.size, 0, none⟩) p.length p.length] 76)) w.heap.size w2.heap.size w1.heap.size (.slice a p.length cap) (.slice (some ⟨rg, 0, none⟩) p.length rc) (List.replicate p.length (.slice none 0 0)) p 0 := by
    refine ⟨World.alloc_heap_new _ _, Blk.alloc hrow.out _, ⟨by simp [nextUpto], fun k v l hv hl => ?_⟩, own_keeps Hown.out ((Keeps.of_below hbel).trans (Keeps.alloc (fun b => b < w1.heap.size) _ _)) (fun b hb => by cases hb; exact hrg), by omega, hws, by omega⟩
    rw [nextUpto_zero] at hl
    obtain rfl := List.eq_of_mem_replicate (List.mem_of_getElem? hv)
    obtain rfl := List.eq_of_mem_replicate (List.mem_of_getElem? hl)
    exact World.ownsRow_nil _ _ _ _
  have hk0 : Keeps (fun b => b < w1.heap.size) w1 (w2.alloc (.cells #[.slice a p.length cap, .slice (some ⟨rg, 0, none⟩) p.length rc, .slice (some ⟨w1.heap.size, 0, none⟩) p.length p.length] 76)) := (Keeps.of_below hbel).trans (Keeps.alloc _ _ _)
  have H0 := Lib.hid h0
  have Hb1 := Lib.hid hb1
  have Hp := Lib.hid hp
  clear hown2 hgrow2 hrow h0 hd hp hb1
  go_loopw [24] (fun t wr => ∃ (k : Nat) (vs : List Value), k ≤ p.length ∧ t = .int .i64 k ∧ GraphM wr w.heap.size w2.heap.size w1.heap.size (.slice a p.length cap) (.slice (some ⟨rg, 0, none⟩) p.length rc) vs p k ∧ Keeps (fun b => b < w1.heap.size) w1 wr) (fun t _ => p.length - (intOf t).toNat)
  case atStart => exact ⟨0, _, Nat.zero_le _, rfl, H0.out, hk0⟩
  case round =>
    obtain ⟨k, vs, hk, rfl, hg, hkp⟩ := hrel
    by_cases hlt : k < p.length
    · obtain ⟨x, hx⟩ : ∃ x, p[k]? = some x := ⟨p[k], List.getElem?_eq_getElem hlt⟩
      obtain ⟨r, hr⟩ : ∃ r, (reachedX p)[k]? = some r := ⟨_, List.getElem?_eq_getElem (by omega)⟩
      have hcr : wr.cell? ⟨rg, k, none⟩ = some (.bool r) := by
        obtain ⟨a', c', e', hs⟩ := slV_of_own hg.reached
        cases e'
        obtain ⟨b', o', e2, -, hc2⟩ := hs.one (boolsC_get hr)
        cases e2
        simpa using hc2
      have Hg := Lib.hid hg
      have Hr := Lib.hid hr
      have Hk := Lib.hid hkp
      clear hg hkp hr
      cases r with
      | false =>
        go_wp2_with fail
        go_roundw
        case rel =>
          refine ⟨k + 1, vs, by omega, by go_num, ?_, Hk.out⟩
          have := Hg.out
          exact ⟨this.blk, this.row, nextUpto_same p k (by simp [nextAt, Hr.out]) ▸ this.rows, this.reached, this.ge⟩
        case measure => simp [intOf]; omega
      | true =>
        go_wp2_with fail
        have hcg : wr.drew.cell? ⟨w2.heap.size, 2, none⟩ = some (.slice (some ⟨w1.heap.size, 0, none⟩) p.length p.length) := Hg.out.blk.cell rfl
        have hpk : Prg wr.drew a cap p := SlA.keeps Hp.out ((Keeps.of_below Hb1.out).trans ((Hk.out.mono fun b _ hb => by omega).drew)) (fun b off _ h => h)
        have hne : ¬ w2.heap.size = w1.heap.size := Hg.out.ge.2.2
        have hkn := (List.getElem?_eq_some_iff.1 hx).1
        go_region_held3 (fun w' : World => w'.cell? ⟨w2.heap.size, 2, none⟩ = some (.slice (some ⟨w1.heap.size, 0, none⟩) p.length p.length)) (simp [go_sem, *]) ((go_at_call 16; refine (next_any a cap p k x wr.drew hpk hok hc hx hlen).mono ?_; rintro e w3 ⟨v, rfl, hv, hb3⟩; have hk3 : Keeps (fun b => b < wr.heap.size) wr w3 := ((Keeps.refl _ _).drew).trans (Keeps.of_below hb3); have hg3 := Hg.out.keep hk3; have hc3 : w3.cell? ⟨w2.heap.size, 2, none⟩ = some (.slice (some ⟨w1.heap.size, 0, none⟩) p.length p.length) := hg3.blk.cell rfl; obtain ⟨vA, vc, rfl⟩ := seg_form (seg_of_own hv); obtain ⟨u0, hu0⟩ : ∃ u, w3.cell? ⟨w1.heap.size, k, none⟩ = some u := ⟨_, hg3.row.cell (List.getElem?_eq_getElem (by rw [hg3.rows.len]; simp [nextUpto]; exact hkn))⟩; have hf0 := hg3.row.frozen k; have Hg3 := Lib.hid hg3; have Hv := Lib.hid hv; clear hv hg3))
        have hgw := Hg3.out.ge
        have hrl := Hg.out.row.lt
        have hbl := Hg.out.blk.lt
        have hnx : nextAt p k = edgesX x k := by simp [nextAt, Hr.out, hx]
        have hst := nextUpto_set p k hlt
        rw [hnx] at hst
        have kR : ∀ q : Nat → Prop, ¬ q w1.heap.size → Keeps q w3 (w3.setCell ⟨w1.heap.size, k, none⟩ (.slice vA (edgesX x k).length vc)) := fun q hq => Keeps.setCell _ _ _ hq
        have k2 := kR (fun b => b ≠ w1.heap.size) (fun h => h rfl)
        have hvl : ∀ b, (Value.slice vA (edgesX x k).length vc).ownBlock = some b → b ≠ w1.heap.size := fun b hb e => by
          have h1 := (Hv.out.lt b hb).1
          have h2 : wr.heap.size ≤ b := h1
          omega
        have hnew : GraphM (w3.setCell ⟨w1.heap.size, k, none⟩ (.slice vA (edgesX x k).length vc)) w.heap.size w2.heap.size w1.heap.size (.slice a p.length cap) (.slice (some ⟨rg, 0, none⟩) p.length rc) (vs.set k (.slice vA (edgesX x k).length vc)) p (k + 1) := by
          have g3 := Hg3.out
          refine ⟨g3.blk.keeps k2 hne, g3.row.set k _, ⟨by rw [List.length_set, g3.rows.len]; simp [nextUpto], fun j v l hv hl => ?_⟩, own_keeps g3.reached k2 (fun b hb => ?_), g3.ge⟩
          · by_cases e : k = j
            · subst e
              have e1 : (vs.set k (.slice vA (edgesX x k).length vc))[k]? = some (.slice vA (edgesX x k).length vc) := by
                have : k < vs.length := by rw [g3.rows.len]; simp [nextUpto]; exact hlt
                simp [this]
              rw [e1] at hv; cases hv
              rw [← hst] at hl
              have e2 : ((nextUpto p k).set k (edgesX x k))[k]? = some (edgesX x k) := by
                have : k < (nextUpto p k).length := by simp [nextUpto]; exact hlt
                simp [this]
              rw [e2] at hl; cases hl
              exact own_keeps (own_base Hv.out (by show w.heap.size ≤ wr.heap.size; have := Hk.out.size; omega)) k2 hvl
            · rw [List.getElem?_set_ne e] at hv
              rw [← hst, List.getElem?_set_ne e] at hl
              have ho := g3.rows.own j v l hv hl
              refine own_keeps ho k2 (fun b hb e' => ?_)
              subst e'
              exact g3.row.not_row (by decide) ho hb
          · intro e'
            subst e'
            cases hb
            exact absurd hrg (Nat.lt_irrefl _)
        have hkn2 : Keeps (fun b => b < w1.heap.size) w1 (w3.setCell ⟨w1.heap.size, k, none⟩ (.slice vA (edgesX x k).length vc)) := by
          have := Hk.out.size
          exact (Hk.out.trans (hk3.mono fun b _ hb => by omega)).trans (kR _ (Nat.lt_irrefl _))
        have Hnew := Lib.hid hnew
        have Hkn2 := Lib.hid hkn2
        clear hnew hkn2 hk3
        go_wp2_with fail
        go_roundw
        case rel => exact ⟨k + 1, _, by omega, by go_num, Hnew.out, Hkn2.out⟩
        case measure => simp [intOf]; omega
    · obtain rfl : k = p.length := by omega
      have Hg := Lib.hid hg
      have Hk := Lib.hid hkp
      clear hg hkp
      go_wp2_with fail
      go_ret2
      exact ⟨_, rfl, ⟨_, _, vs, Hg.out⟩, Hb1.out.trans ((Hk.out.below (Nat.le_refl _) (fun _ h => h)).mono hws)⟩
end Go.Proofs.Ytfdlhlabkcmikaa
