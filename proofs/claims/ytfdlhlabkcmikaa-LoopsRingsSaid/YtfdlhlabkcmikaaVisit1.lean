/- loops.rings' visit: memory of its end; no condition. -/
import Derived.Test.YtfdlhlabkcmikaaDag
namespace Go.Proofs.Ytfdlhlabkcmikaa
open Go.RowKit Go.Shelf

theorem elT_rows : ElT Try.prog 30 26 1 := ElT.mk' (z := .slice none 0 0) (by_ := 24) Try.underlying30 (by kernel_rfl) (by decide) rfl (by decide)

theorem Keeps.drewN (p : Nat → Prop) (W : World) (n : Nat) : Keeps p W (W.drewN n) := ⟨rfl, rfl, rfl, Nat.le_refl _, fun _ _ _ => rfl⟩

/-- The tail of a slice of ints. -/
theorem slV_drop {w : World} {A : Option Addr} {n c m : Nat} {zs : List Int} (h : SlV w 1 (.slice A n c) n (intsC zs)) (hm : m < n) :
    ∃ b off, A = some ⟨b, off, none⟩ ∧ m < c ∧ n ≤ c ∧ SlV w 1 (.slice (some ⟨b, off + m, none⟩) (n - m) (c - m)) (n - m) (intsC (zs.drop m)) := by
  have hl := slV_len h
  obtain ⟨a, cap, e, hs⟩ := h
  cases e
  have hle := hs.le
  have hmx := hs.max
  rcases hs.mem with ⟨rfl, hc⟩ | ⟨b, off, rfl, hb, hcell⟩
  · omega
  · refine ⟨b, off, rfl, by omega, hle, some ⟨b, off + m, none⟩, c - m, rfl, by simp [intsC]; omega, by omega, by omega, .inr ⟨b, off + m, rfl, hb, fun j u hu => ?_⟩⟩
    have := hcell (m + j) u (by simpa [intsC, List.getElem?_drop] using hu)
    rwa [← Nat.add_assoc] at this

theorem unmark_take {wi : List Bool} {ring : List Int} {k : Nat} {z : Int} (h : ring[k]? = some z) : unmark wi (ring.take (k + 1)) = (unmark wi (ring.take k)).set z.toNat false := by
  rw [List.take_add_one, h]
  simp [unmark, List.foldl_append]

theorem intsC_flat (l : List Int) : l.flatMap cellsI = intsC l := by
  induction l with
  | nil => rfl
  | cons x l ih => simp [List.flatMap_cons, ih, intsC, cellsI]

/-- What is made, or turned, beside all that the visit's memory held at X. -/
theorem TM.beside {w X W W' : World} {Gb : Nat} {s0 s : TS} {sv0 sv ov : Value} {rvs : List Value} (h0 : TM w X Gb s0 sv0 ov rvs) (h : TM w W Gb s sv ov rvs) (hsv : ∀ b, sv.ownBlock = some b → b < X.heap.size) (hk : Keeps (fun b => b < X.heap.size) W W') : TM w W' Gb s sv ov rvs := by
  have hX : w.heap.size + 8 ≤ X.heap.size := by have := h0.fn.lt; omega
  exact ⟨box_keeps h.g hk (by omega), h.index.keeps hk (by omega), h.low.keeps hk (by omega), h.within.keeps hk (by omega), box_keeps h.sbox hk (by omega), h.seg.keeps hk hsv, box_keeps h.obox hk (by omega),
    own_keeps h.orow hk (fun b hb => (h0.orow.lt b hb).2), h.rings.keeps hk (fun v hv b hb => (h0.rings.lt v hv b hb).2), box_keeps h.num hk (by omega), box_keeps h.fn hk (by omega), h.keeps.trans (hk.mono fun b _ hb => by omega), h.ap1, h.ap2⟩

/-- The ring that is being told. -/
theorem ring_keeps {w X W W' : World} {r : Value} {n c : Nat} {xs : List Value} (hX : w.heap.size + 8 ≤ X.heap.size) (h : W.ownsRow X.heap.size 3 1 r n xs) (hc : c < 8) (hk : Keeps (fun b => b ≠ w.heap.size + c) W W') : W'.ownsRow X.heap.size 3 1 r n xs :=
  own_keeps h hk (fun b hb => by have := (h.lt b hb).1; omega)

theorem idxOf_stack {st : List Int} {l : List Int} {i : Int} (h : st <+: l) (hl : st.length < l.length) (hi : l[st.length]? = some i) (hn : i ∉ st) : Lib.idxOf l i = st.length := by
  obtain ⟨r, rfl⟩ := h
  rw [List.getElem?_append_right (Nat.le_refl _), Nat.sub_self] at hi
  cases r with
  | nil => simp at hi
  | cons x r =>
    simp at hi; subst hi
    exact idxOf_app _ _ hn
end Go.Proofs.Ytfdlhlabkcmikaa
