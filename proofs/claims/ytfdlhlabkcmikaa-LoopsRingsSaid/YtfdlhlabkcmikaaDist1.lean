/- flow.Distances: what its loops know of memory; no condition. -/
import Derived.Test.YtfdlhlabkcmikaaDist0
namespace Go.Proofs.Ytfdlhlabkcmikaa
open Go.RowKit Go.Shelf

def intsC (l : List Int) : List Value := l.map (Value.int .i64)
theorem intsC_get {l : List Int} {k : Nat} {v : Int} (h : l[k]? = some v) : (intsC l)[k]? = some (.int .i64 v) := by simp [intsC, h]
theorem intsC_set (l : List Int) (k : Nat) (v : Int) : (intsC l).set k (.int .i64 v) = intsC (l.set k v) := by simp [intsC]

theorem seg_tail {w : World} {base g off n cap : Nat} {i : Int} {l : List Int} (h : SegA w base 1 g off (n + 1) cap (intsC (i :: l))) (hl : l.length = n) : ∃ off', (if cap = 1 then some (⟨g, off, none⟩ : Addr) else some ⟨g, off + 1, none⟩) = some ⟨g, off', none⟩ ∧
    SegA w base 1 g off' n (cap - 1) (intsC l) := by
  have hle := h.le
  by_cases e : cap = 1
  · subst e
    obtain rfl : n = 0 := by omega
    obtain rfl := List.eq_nil_of_length_eq_zero hl
    refine ⟨off, by simp, h.base, h.lt, by omega, by simp, fun j hj => by omega, fun j u hu => by simp [intsC] at hu⟩
  · refine ⟨off + 1, by simp [e], h.base, h.lt, by omega, by have := h.max; omega, fun j hj => ?_, fun j u hu => ?_⟩
    · have := h.free (j + 1) (by omega)
      rwa [show off + (j + 1) = off + 1 + j by omega] at this
    · have := h.cells (j + 1) u (by simpa [intsC] using hu)
      rwa [show off + (j + 1) = off + 1 + j by omega] at this

theorem seg_form {w : World} {base sz n : Nat} {v : Value} {xs : List Value} (h : Seg w base sz v n xs) : ∃ A c, v = .slice A n c := by
  rcases h.2 with ⟨rfl, rfl⟩ | ⟨g, off, cap, rfl, _⟩
  · exact ⟨_, _, rfl⟩
  · exact ⟨_, _, rfl⟩

/-- The search's memory: the distances in R by the box B, the wave in the box C. -/
structure DB (w W : World) (B R C n : Nat) (out wave : List Int) (wv : Value) (Ds : List Nat) : Prop where
  box : Boxed W B 26 (.slice (some ⟨R, 0, none⟩) n n)
  row : Blk W R 3 (intsC out)
  wbox : Boxed W C 26 wv
  seg : Seg W w.heap.size 1 wv wave.length (intsC wave)
  keeps : Keeps (fun b => b < w.heap.size) w W
  marks : Marks W Ds
  ge : w.heap.size ≤ B ∧ w.heap.size ≤ R ∧ w.heap.size ≤ C
  mge : ∀ D ∈ Ds, w.heap.size ≤ D
  ne : B ≠ R ∧ C ≠ R ∧ B ≠ C
  own : ∀ b, wv.ownBlock = some b → b ≠ B ∧ b ≠ R ∧ b ≠ C ∧ b ∉ Ds

theorem DB.keep {w W W' : World} {B R C n : Nat} {out wave : List Int} {wv : Value} {Ds : List Nat} (h : DB w W B R C n out wave wv Ds) {p : Nat → Prop} (hk : Keeps p W W') (h1 : p B) (h2 : p R) (h3 : p C)
    (h4 : ∀ b, wv.ownBlock = some b → p b) (h5 : ∀ b, b < w.heap.size → p b) (h6 : ∀ D ∈ Ds, p D) : DB w W' B R C n out wave wv Ds :=
  ⟨box_keeps h.box hk h1, h.row.keeps hk h2, box_keeps h.wbox hk h3, h.seg.keeps hk h4, h.keeps.trans (hk.mono fun b _ hb => h5 b hb), h.marks.keeps hk h6, h.ge, h.mge, h.ne, h.own⟩

/-- What the loop over the edges of instruction i knows. -/
def JD (w : World) (B R C n : Nat) (Ds : List Nat) (Bi Bj i : Nat) (s0 : List Int × List Int) (pre : List Int) (T : Nat → Prop) (W : World) : Prop :=
  ∃ wv, DB w W B R C n (pre.foldl (bfsK i) s0).1 (pre.foldl (bfsK i) s0).2 wv Ds ∧ Boxed W Bi 3 (.int .i64 i) ∧ w.heap.size ≤ Bi ∧ R ≠ Bi ∧ C ≠ Bi ∧ ¬ T B ∧ ¬ T R ∧ ¬ T C ∧ ¬ T Bi ∧ (∀ b, wv.ownBlock = some b → ¬ T b ∧ b ≠ Bi ∧ b ≠ Bj) ∧ (∀ b, T b → w.heap.size ≤ b ∧ b < W.heap.size) ∧
    (∀ D ∈ Ds, ¬ T D) ∧ (R ≠ Bj ∧ C ≠ Bj) ∧ Bj < W.heap.size

theorem jd_calm (w : World) (B R C n : Nat) (Ds : List Nat) (Bi Bj i : Nat) (s0 : List Int × List Int) (pre : List Int) : Calm (JD w B R C n Ds Bi Bj i s0 pre) := by
  rintro T X Y ⟨wv, h, hBi, hge, n1, n2, t1, t2, t9, t3, t4, t5, t6, t7, t8⟩ hk
  have lt1 := h.box.lt
  have lt2 := h.row.lt
  have lt3 := hBi.lt
  have lt4 := h.wbox.lt
  have hws := h.keeps.size
  refine ⟨wv, h.keep hk t1 t2 t9 (fun b hb => (t4 b hb).1) (fun b hb ht => by have := (t5 b ht).1; omega) t6, box_keeps hBi hk t3, hge, n1, n2, ?_, ?_, ?_, ?_, ?_, ?_, ?_, t7, Nat.lt_of_lt_of_le t8 hk.size⟩
  · rintro (h | h); exact t1 h; omega
  · rintro (h | h); exact t2 h; omega
  · rintro (h | h); exact t9 h; omega
  · rintro (h | h); exact t3 h; omega
  · intro b hb
    refine ⟨?_, (t4 b hb).2⟩
    rintro (h' | h')
    · exact (t4 b hb).1 h'
    · have := (h.seg.own_lt b hb).2; omega
  · rintro b (h' | h')
    · exact ⟨(t5 b h').1, Nat.lt_of_lt_of_le (t5 b h').2 hk.size⟩
    · exact ⟨by omega, h'.2⟩
  · intro D hD
    rintro (h' | h')
    · exact t6 D hD h'
    · have := h.marks.lt D hD; omega

/-- The distance is stored. -/
theorem DB.stored {w W : World} {B R C n : Nat} {out wave : List Int} {wv : Value} {Ds : List Nat} (h : DB w W B R C n out wave wv Ds) (k : Nat) (u : Int) : DB w (W.setCell ⟨R, k, none⟩ (.int .i64 u)) B R C n (out.set k u) wave wv Ds ∧
    ∀ p : Nat → Prop, ¬ p R → Keeps p W (W.setCell ⟨R, k, none⟩ (.int .i64 u)) := by
  have hk : ∀ p : Nat → Prop, ¬ p R → Keeps p W (W.setCell ⟨R, k, none⟩ (.int .i64 u)) := fun p hp => Keeps.setCell _ _ _ hp
  have k1 := hk (fun b => b ≠ R) (fun h => h rfl)
  have hRD : ∀ D ∈ Ds, D ≠ R := by
    rintro D hD rfl
    have := (h.marks.2 D hD).symm.trans h.row
    simp at this
  exact ⟨⟨box_keeps h.box k1 h.ne.1, intsC_set out k u ▸ h.row.set k _, box_keeps h.wbox k1 h.ne.2.1, h.seg.keeps k1 (fun b hb => (h.own b hb).2.1), h.keeps.trans (k1.mono fun b _ hb => by have := h.ge; omega), h.marks.keeps k1 hRD, h.ge, h.mge, h.ne, h.own⟩, hk⟩

/-- The first element is taken off the wave. -/
theorem DB.tail {w W : World} {B R C n : Nat} {out rest : List Int} {i : Int} {wv : Value} {Ds : List Nat} {g off off' m cp cp' : Nat} (h : DB w W B R C n out (i :: rest) (.slice (some ⟨g, off, none⟩) m cp) Ds) (hs : SegA W w.heap.size 1 g off' rest.length cp' (intsC rest))
    (hwv : wv = .slice (some ⟨g, off', none⟩) rest.length cp') : DB w (W.setCell ⟨C, 0, none⟩ wv) B R C n out rest wv Ds ∧ ∀ p : Nat → Prop, ¬ p C → Keeps p W (W.setCell ⟨C, 0, none⟩ wv) := by
  subst hwv
  have hk : ∀ p : Nat → Prop, ¬ p C → Keeps p W (W.setCell ⟨C, 0, none⟩ (.slice (some ⟨g, off', none⟩) rest.length cp')) := fun p hp => Keeps.setCell _ _ _ hp
  have k1 := hk (fun b => b ≠ C) (fun h => h rfl)
  have ho := h.own g rfl
  have hD : ∀ D ∈ Ds, D ≠ C := by
    rintro D hD rfl
    have := (h.marks.2 D hD).symm.trans h.wbox
    simp at this
  have hseg : Seg W w.heap.size 1 (.slice (some ⟨g, off', none⟩) rest.length cp') rest.length (intsC rest) := ⟨by simp [intsC], .inr ⟨g, off', cp', rfl, hs⟩⟩
  exact ⟨⟨box_keeps h.box k1 h.ne.2.2, h.row.keeps k1 (fun e => h.ne.2.1 e.symm), h.wbox.set _, hseg.keeps k1 (fun b hb => by cases hb; exact ho.2.2.1), h.keeps.trans (k1.mono fun b _ hb => by have := h.ge; omega), h.marks.keeps k1 hD, h.ge, h.mge, h.ne, fun b hb => by cases hb; exact ho⟩, hk⟩

/-- The wave is laid into a new box. -/
theorem DB.newbox {w W : World} {B R C n : Nat} {out wave : List Int} {wv : Value} {Ds : List Nat} (h : DB w W B R C n out wave wv Ds) : DB w (W.alloc (.cells #[wv] 26)) B R W.heap.size n out wave wv Ds := by
  have k := Keeps.alloc (fun _ => True) W (.cells #[wv] 26)
  have lt1 := h.box.lt
  have lt2 := h.row.lt
  have hws := h.keeps.size
  exact ⟨box_keeps h.box k trivial, h.row.keeps k trivial, Boxed.new _ _ _, h.seg.keeps k (fun _ _ => trivial), h.keeps.trans (k.mono fun _ _ _ => trivial), h.marks.keeps k (fun _ _ => trivial), ⟨h.ge.1, h.ge.2.1, hws⟩, h.mge, ⟨h.ne.1, by omega, by omega⟩,
    fun b hb => ⟨(h.own b hb).1, (h.own b hb).2.1, by have := (h.seg.own_lt b hb).2; omega, (h.own b hb).2.2.2⟩⟩

theorem DB.mark {w W : World} {B R C n : Nat} {out wave : List Int} {wv : Value} {Ds : List Nat} (h : DB w W B R C n out wave wv Ds) {D : Nat} (hD : D ∉ Ds) (hw : w.heap.size ≤ D) (hD' : W.heap[D]? = some (.deferred (some []))) (ho : wv.ownBlock ≠ some D) : DB w W B R C n out wave wv (D :: Ds) :=
  ⟨h.box, h.row, h.wbox, h.seg, h.keeps, h.marks.cons hD hD', h.ge, fun E hE => by rcases List.mem_cons.1 hE with rfl | hE; exact hw; exact h.mge E hE, h.ne, fun b hb => ⟨(h.own b hb).1, (h.own b hb).2.1, (h.own b hb).2.2.1, fun hm => by
    rcases List.mem_cons.1 hm with rfl | hm
    · exact ho hb
    · exact (h.own b hb).2.2.2 hm⟩⟩

/-- An element is appended to the wave. -/
theorem DB.appended {w W w1 : World} {B R C n : Nat} {out wave : List Int} {wv : Value} {Ds : List Nat} (h : DB w W B R C n out wave wv Ds) {k : Int} {g off cap : Nat} {tmp : Obj}
    (hs : Seg w1 w.heap.size 1 (.slice (some ⟨g, off, none⟩) (wave.length + 1) cap) (wave.length + 1) (intsC wave ++ [.int .i64 k])) (hg : (W.alloc tmp).grownBy w1 wv.ownBlock) (hat : wv.ownBlock = some g ∨ W.heap.size < g) :
    Boxed w1 C 26 wv ∧ DB w (w1.setCell ⟨C, 0, none⟩ (.slice (some ⟨g, off, none⟩) (wave.length + 1) cap)) B R C n out (wave ++ [k]) (.slice (some ⟨g, off, none⟩) (wave.length + 1) cap) Ds ∧
      ∀ p : Nat → Prop, ¬ p C → (∀ b, wv.ownBlock = some b → ¬ p b) → Keeps p W (w1.setCell ⟨C, 0, none⟩ (.slice (some ⟨g, off, none⟩) (wave.length + 1) cap)) := by
  have k1 : ∀ p : Nat → Prop, (∀ b, wv.ownBlock = some b → ¬ p b) → Keeps p W w1 := fun p hp => (Keeps.alloc p W tmp).trans (Keeps.grown hg hp)
  have kk : ∀ p : Nat → Prop, ¬ p C → (∀ b, wv.ownBlock = some b → ¬ p b) → Keeps p W (w1.setCell ⟨C, 0, none⟩ (.slice (some ⟨g, off, none⟩) (wave.length + 1) cap)) :=
    fun p h1 h2 => (k1 p h2).trans (Keeps.setCell _ _ _ h1)
  have hC1 : Boxed w1 C 26 wv := box_keeps h.wbox (k1 (fun b => wv.ownBlock ≠ some b) (fun b hb hn => hn hb)) (fun e => (h.own C e).2.2.1 rfl)
  have lt1 := h.box.lt
  have lt2 := h.row.lt
  have lt4 := h.wbox.lt
  have hgn : g ≠ B ∧ g ≠ R ∧ g ≠ C ∧ g ∉ Ds := by
    rcases hat with hat | hat
    · exact h.own g hat
    · exact ⟨by omega, by omega, by omega, fun hm => by have := h.marks.lt g hm; omega⟩
  have k2 := kk (fun b => b ≠ C ∧ wv.ownBlock ≠ some b) (fun h => h.1 rfl) (fun b hb h => h.2 hb)
  have hD : ∀ D ∈ Ds, D ≠ C ∧ wv.ownBlock ≠ some D := fun D hD => ⟨by
    rintro rfl
    have := (h.marks.2 D hD).symm.trans h.wbox
    simp at this, fun e => (h.own D e).2.2.2 hD⟩
  refine ⟨hC1, ⟨box_keeps h.box k2 ⟨h.ne.2.2, fun e => (h.own B e).1 rfl⟩, h.row.keeps k2 ⟨fun e => h.ne.2.1 e.symm, fun e => (h.own R e).2.1 rfl⟩, hC1.set _, ?_, h.keeps.trans (k2.mono fun b _ hb => ⟨by have := h.ge; omega, fun e => by have := (h.seg.own_lt b e).1; omega⟩), h.marks.keeps k2 hD, h.ge, h.mge, h.ne, fun b hb => ?_⟩, kk⟩
  · have := hs.keeps (Keeps.setCell (p := fun b => b ≠ C) w1 ⟨C, 0, none⟩ (.slice (some ⟨g, off, none⟩) (wave.length + 1) cap) (fun h => h rfl)) (fun b hb => by cases hb; exact hgn.2.2.1)
    simpa [intsC] using this
  · cases hb; exact hgn

/-- One edge to an instruction that was not seen. -/
theorem jd_step {w W w1 : World} {B R C n : Nat} {Ds : List Nat} {Bi Bj i : Nat} {s0 : List Int × List Int} {pre : List Int} {T Pr : Nat → Prop} {wv : Value} {k : Nat} {v u : Int} {g off cap : Nat} {tmp : Obj}
    (h : DB w W B R C n (pre.foldl (bfsK i) s0).1 (pre.foldl (bfsK i) s0).2 wv Ds) (hBi : Boxed W Bi 3 (.int .i64 i)) (hge : w.heap.size ≤ Bi) (n1 : R ≠ Bi) (n2 : C ≠ Bi) (t1 : ¬ T B) (t2 : ¬ T R) (t9 : ¬ T C) (t3 : ¬ T Bi)
    (t4 : ∀ b, wv.ownBlock = some b → ¬ T b ∧ b ≠ Bi ∧ b ≠ Bj) (t5 : ∀ b, T b → w.heap.size ≤ b ∧ b < W.heap.size) (t6 : ∀ D ∈ Ds, ¬ T D) (t7 : R ≠ Bj ∧ C ≠ Bj) (t8 : Bj < W.heap.size)
    (hv : (pre.foldl (bfsK i) s0).1[k]? = some v) (hneg : v < 0) (hu : (pre.foldl (bfsK i) s0).1[i]? = some u) (hPr : ∀ b, Pr b → b = Bj) {x : Value} (hx : x = .int .i64 (u + 1))
    (hs : Seg w1 w.heap.size 1 (.slice (some ⟨g, off, none⟩) ((pre.foldl (bfsK i) s0).2.length + 1) cap) ((pre.foldl (bfsK i) s0).2.length + 1) (intsC (pre.foldl (bfsK i) s0).2 ++ [.int .i64 k]))
    (hg : ((W.setCell ⟨R, k, none⟩ x).alloc tmp).grownBy w1 wv.ownBlock) (hat : wv.ownBlock = some g ∨ (W.setCell ⟨R, k, none⟩ x).heap.size < g) :
    JD w B R C n Ds Bi Bj i s0 (pre ++ [(k : Int)]) T (w1.setCell ⟨C, 0, none⟩ (.slice (some ⟨g, off, none⟩) ((pre.foldl (bfsK i) s0).2.length + 1) cap)) ∧
      Keeps (fun b => Pr b ∨ T b) W (w1.setCell ⟨C, 0, none⟩ (.slice (some ⟨g, off, none⟩) ((pre.foldl (bfsK i) s0).2.length + 1) cap)) := by
  subst hx
  obtain ⟨d1, e1⟩ := h.stored k (u + 1)
  obtain ⟨-, d2, e2⟩ := d1.appended hs hg hat
  have hfold : (pre ++ [(k : Int)]).foldl (bfsK i) s0 = ((pre.foldl (bfsK i) s0).1.set k (u + 1), (pre.foldl (bfsK i) s0).2 ++ [(k : Int)]) := by
    rw [List.foldl_append, List.foldl_cons, List.foldl_nil]
    generalize pre.foldl (bfsK i) s0 = s at hv hu ⊢
    unfold bfsK
    simp [hv, hu, hneg]
  have hsz : W.heap.size ≤ (W.setCell ⟨R, k, none⟩ (.int .i64 (u + 1))).heap.size := by simp [World.setCell]
  have hk : ∀ p : Nat → Prop, ¬ p R → ¬ p C → (∀ b, wv.ownBlock = some b → ¬ p b) → Keeps p W (w1.setCell ⟨C, 0, none⟩ (.slice (some ⟨g, off, none⟩) ((pre.foldl (bfsK i) s0).2.length + 1) cap)) :=
    fun p p1 p2 p3 => (e1 p p1).trans (e2 p p2 p3)
  have k2 := hk (fun b => b ≠ R ∧ b ≠ C ∧ wv.ownBlock ≠ some b) (fun h => h.1 rfl) (fun h => h.2.1 rfl) (fun b hb h => h.2.2 hb)
  have lt3 := hBi.lt
  refine ⟨⟨_, (by rw [hfold]; exact d2), box_keeps hBi k2 ⟨fun e => n1 e.symm, fun e => n2 e.symm, fun e => (t4 Bi e).2.1 rfl⟩, hge, n1, n2, t1, t2, t9, t3, fun b hb => ?_, fun b hb => ?_, t6, t7, Nat.lt_of_lt_of_le t8 k2.size⟩, hk _ ?_ ?_ ?_⟩
  · obtain rfl : g = b := by simpa [Value.ownBlock] using hb
    rcases hat with hat | hat
    · exact t4 g hat
    · refine ⟨fun ht => ?_, ?_, ?_⟩
      · have := (t5 g ht).2; omega
      · omega
      · omega
  · exact ⟨(t5 b hb).1, Nat.lt_of_lt_of_le (t5 b hb).2 k2.size⟩
  · rintro (h' | h')
    · exact t7.1 (hPr R h')
    · exact t2 h'
  · rintro (h' | h')
    · exact t7.2 (hPr C h')
    · exact t9 h'
  · rintro b hb (h' | h')
    · exact (t4 b hb).2.2 (hPr b h')
    · exact (t4 b hb).1 h'
end Go.Proofs.Ytfdlhlabkcmikaa
