/- flow.before: what its loops know; no condition. -/
import Derived.Test.YtfdlhlabkcmikaaRep
import Derived.Test.YtfdlhlabkcmikaaHeld
import Derived.Test.YtfdlhlabkcmikaaGrow
namespace Go.Proofs.Ytfdlhlabkcmikaa
open Go.RowKit Go.Shelf

def cellsI (x : Int) : List Value := [Value.int .i64 x]
def cInts (l : List Int) : List Value := l.flatMap fun x => [Value.int .i64 x]

def addTo (i : Int) (ls : List (List Int)) (k : Int) : List (List Int) := ls.set k.toNat (ls[k.toNat]?.getD [] ++ [i])
theorem addTo_len (i : Int) (ls : List (List Int)) (k : Int) : (addTo i ls k).length = ls.length := by simp [addTo]
def addAll (i : Int) (ls : List (List Int)) (ks : List Int) : List (List Int) := ks.foldl (addTo i) ls
theorem addAll_len (i : Int) (ks : List Int) : ∀ ls : List (List Int), (addAll i ls ks).length = ls.length := by
  induction ks with
  | nil => exact fun _ => rfl
  | cons k ks ih => intro ls; exact (ih _).trans (addTo_len _ _ _)

theorem addTo_bound {i : Int} {L : Nat} {ls : List (List Int)} {k : Int} (h : ∀ l ∈ ls, l.length ≤ L) : ∀ l ∈ addTo i ls k, l.length ≤ L + 1 := by
  intro l hl
  rcases List.mem_or_eq_of_mem_set hl with hl | rfl
  · have := h l hl; omega
  · cases e : ls[k.toNat]? with
    | none => simp
    | some l => have := h l (List.mem_of_getElem? e); simp; omega
theorem addAll_bound {i : Int} : ∀ (ks : List Int) {L : Nat} {ls : List (List Int)}, (∀ l ∈ ls, l.length ≤ L) → ∀ l ∈ addAll i ls ks, l.length ≤ L + ks.length := by
  intro ks
  induction ks with
  | nil => exact fun h => h
  | cons k ks ih =>
    intro L ls h l hl
    have := ih (addTo_bound h) l hl
    simp; omega
theorem edgesX_len (x : Ins) (i : Int) : (edgesX x i).length ≤ 3 := by
  unfold edgesX
  repeat' split
  all_goals simp

/-- From where control can go to each of n instructions, as far as the first ones are concerned. -/
def beforeOf (n : Nat) : List Ins → Nat → List (List Int) → List (List Int)
  | [], _, ls => ls
  | x :: p, i, ls => beforeOf n p (i + 1) (addAll i ls (edgesX x i))
def beforeX (p : List Ins) : List (List Int) := beforeOf p.length p 0 (List.replicate p.length [])

structure BB (w W : World) (B R n : Nat) (vs : List Value) (ls : List (List Int)) (Ds : List Nat) : Prop where
  box : Boxed W B 30 (.slice (some ⟨R, 0, none⟩) n n)
  row : Blk W R 26 vs
  rows : RowsOk W w.heap.size 3 1 cellsI vs ls
  len : ls.length = n
  keeps : Keeps (fun b => b < w.heap.size) w W
  marks : Marks W Ds
  ge : w.heap.size ≤ B ∧ w.heap.size ≤ R
  mge : ∀ D ∈ Ds, w.heap.size ≤ D

theorem BB.keep {w W W' : World} {B R n : Nat} {vs : List Value} {ls : List (List Int)} {Ds : List Nat} (h : BB w W B R n vs ls Ds) {p : Nat → Prop} (hk : Keeps p W W') (h1 : p B) (h2 : p R) (h3 : ∀ v ∈ vs, ∀ b, v.ownBlock = some b → p b)
    (h4 : ∀ b, b < w.heap.size → p b) (h5 : ∀ D ∈ Ds, p D) : BB w W' B R n vs ls Ds :=
  ⟨box_keeps h.box hk h1, h.row.keeps hk h2, h.rows.keeps hk h3, h.len, h.keeps.trans (hk.mono fun b _ hb => h4 b hb), h.marks.keeps hk h5, h.ge, h.mge⟩

/-- What the loop over the edges of instruction i knows. -/
def JB (w : World) (B R n : Nat) (Ds : List Nat) (Bi Bj i : Nat) (ls0 : List (List Int)) (pre : List Int) (T : Nat → Prop) (W : World) : Prop :=
  ∃ vs, BB w W B R n vs (addAll i ls0 pre) Ds ∧ Boxed W Bi 3 (.int .i64 i) ∧ w.heap.size ≤ Bi ∧ ¬ T B ∧ ¬ T R ∧ ¬ T Bi ∧ (∀ v ∈ vs, ∀ b, v.ownBlock = some b → ¬ T b ∧ b ≠ Bi ∧ b ≠ Bj) ∧ (∀ b, T b → w.heap.size ≤ b ∧ b < W.heap.size) ∧ (∀ D ∈ Ds, ¬ T D) ∧ R ≠ Bj ∧ Bj < W.heap.size

theorem jb_calm (w : World) (B R n : Nat) (Ds : List Nat) (Bi Bj i : Nat) (ls0 : List (List Int)) (pre : List Int) : Calm (JB w B R n Ds Bi Bj i ls0 pre) := by
  rintro T X Y ⟨vs, h, hBi, hge, t1, t2, t3, t4, t5, t6, t7, t8⟩ hk
  have lt1 := h.box.lt
  have lt2 := h.row.lt
  have lt3 := hBi.lt
  have hws := h.keeps.size
  refine ⟨vs, h.keep hk t1 t2 (fun v hv b hb => (t4 v hv b hb).1) (fun b hb ht => by have := (t5 b ht).1; omega) t6, box_keeps hBi hk t3, hge, ?_, ?_, ?_, ?_, ?_, ?_, t7, Nat.lt_of_lt_of_le t8 hk.size⟩
  · rintro (h | h); exact t1 h; omega
  · rintro (h | h); exact t2 h; omega
  · rintro (h | h); exact t3 h; omega
  · intro v hv b hb
    refine ⟨?_, (t4 v hv b hb).2⟩
    rintro (h' | h')
    · exact (t4 v hv b hb).1 h'
    · have := (h.rows.lt v hv b hb).2; omega
  · rintro b (h' | h')
    · exact ⟨(t5 b h').1, Nat.lt_of_lt_of_le (t5 b h').2 hk.size⟩
    · exact ⟨by omega, h'.2⟩
  · intro D hD
    rintro (h' | h')
    · exact t6 D hD h'
    · have := h.marks.lt D hD; omega

theorem jb_step {w W w1 : World} {B R n : Nat} {Ds : List Nat} {Bi Bj i : Nat} {ls0 : List (List Int)} {pre : List Int} {x : Int} {T Pr : Nat → Prop} {vs : List Value} {v : Value} {l : List Int} {g cap : Nat} {tmp : Obj} {xk : Nat}
    (h : BB w W B R n vs (addAll i ls0 pre) Ds) (hBi : Boxed W Bi 3 (.int .i64 i)) (hge : w.heap.size ≤ Bi) (t1 : ¬ T B) (t2 : ¬ T R) (t3 : ¬ T Bi) (t4 : ∀ v ∈ vs, ∀ b, v.ownBlock = some b → ¬ T b ∧ b ≠ Bi ∧ b ≠ Bj)
    (t5 : ∀ b, T b → w.heap.size ≤ b ∧ b < W.heap.size) (t6 : ∀ D ∈ Ds, ¬ T D) (t7 : R ≠ Bj) (t8 : Bj < W.heap.size) (hx : x.toNat = xk) (hv : vs[xk]? = some v) (hl : (addAll i ls0 pre)[xk]? = some l) (hPr : ∀ b, Pr b → b = Bj)
    (hown : w1.ownsRow w.heap.size 3 1 (.slice (some ⟨g, 0, none⟩) (l.length + 1) cap) (l.length + 1) (l.flatMap cellsI ++ cellsI i)) (hg : (W.alloc tmp).grownBy w1 v.ownBlock) (hat : v.ownBlock = some g ∨ g = W.heap.size + 1) :
    Boxed w1 B 30 (.slice (some ⟨R, 0, none⟩) n n) ∧ Boxed w1 Bi 3 (.int .i64 i) ∧ Blk w1 R 26 vs ∧ B ≠ R ∧ Bi ≠ R ∧
      JB w B R n Ds Bi Bj i ls0 (pre ++ [x]) T (w1.setCell ⟨R, xk, none⟩ (.slice (some ⟨g, 0, none⟩) (l.length + 1) cap)) ∧
      Keeps (fun b => Pr b ∨ T b) W (w1.setCell ⟨R, xk, none⟩ (.slice (some ⟨g, 0, none⟩) (l.length + 1) cap)) := by
  subst hx
  obtain ⟨s1, s2, s3, s4, s5⟩ := rows_step (t := 26) (x := (i : Int)) (by decide) h.row h.rows hv hl rfl hown hg hat
  have hro := h.rows.own _ _ _ hv hl
  have hvB : v.ownBlock ≠ some B := fun e => h.box.not_row (by decide) hro e.symm
  have hvm := List.mem_of_getElem? hv
  have hvBi : v.ownBlock ≠ some Bi := fun e => (t4 v hvm Bi e).2.1 rfl
  have k1 : ∀ p : Nat → Prop, (∀ b, v.ownBlock = some b → ¬ p b) → Keeps p W w1 := fun p hp => (Keeps.alloc p W tmp).trans (Keeps.grown hg hp)
  have b1 := box_keeps h.box (k1 (fun b => v.ownBlock ≠ some b) (fun b hb hn => hn hb)) hvB
  have b2 := box_keeps hBi (k1 (fun b => v.ownBlock ≠ some b) (fun b hb hn => hn hb)) hvBi
  have hBR : B ≠ R := by
    rintro rfl
    have := (show W.heap[B]? = _ from h.box).symm.trans h.row
    simp at this
  have hBiR : Bi ≠ R := by
    rintro rfl
    have := (show W.heap[Bi]? = _ from hBi).symm.trans h.row
    simp at this
  have lt1 := h.box.lt
  have lt2 := h.row.lt
  have lt3 := hBi.lt
  have hws := h.keeps.size
  have old : ∀ b, b < w.heap.size → v.ownBlock ≠ some b := fun b hb e => by have := (h.rows.lt v hvm b e).1; omega
  have hdR : ∀ D ∈ Ds, D ≠ R ∧ v.ownBlock ≠ some D := by
    intro D hD
    refine ⟨?_, fun e => ?_⟩
    · rintro rfl
      have := (h.marks.2 D hD).symm.trans h.row
      simp at this
    · rcases hro.2 with ⟨rfl, _⟩ | ⟨g', cap', cur, rfl, _, hg', _⟩
      · cases e
      · cases e
        have := (h.marks.2 _ hD).symm.trans hg'
        simp at this
  have hk := s4 (fun b => b ≠ R ∧ v.ownBlock ≠ some b) (fun h => h.1 rfl) (fun b hb h => h.2 hb)
  have hge1 : w.heap.size ≤ R := h.ge.2
  have hls : addAll i ls0 (pre ++ [x]) = (addAll i ls0 pre).set x.toNat (l ++ [(i : Int)]) := by
    have e1 : addAll i ls0 (pre ++ [x]) = addTo i (addAll i ls0 pre) x := by simp only [addAll, List.foldl_append, List.foldl_cons, List.foldl_nil]
    have e2 : ∀ L : List (List Int), addTo i L x = L.set x.toNat (L[x.toNat]?.getD [] ++ [(i : Int)]) := fun _ => rfl
    rw [e1, e2, hl]
    rfl
  have hsz : W.heap.size + 1 ≤ w1.heap.size := by have := hg.size; simpa using this
  have hsz2 : (w1.setCell ⟨R, x.toNat, none⟩ (.slice (some ⟨g, 0, none⟩) (l.length + 1) cap)).heap.size = w1.heap.size := by simp [World.setCell]
  refine ⟨b1, b2, s1, hBR, hBiR, ⟨_, ⟨box_keeps h.box hk ⟨hBR, hvB⟩, s2, hls ▸ s3, ?_, h.keeps.trans (hk.mono fun b _ hb => ⟨by omega, old b hb⟩), h.marks.keeps hk hdR, h.ge, h.mge⟩, box_keeps hBi hk ⟨hBiR, hvBi⟩, hge, t1, t2, t3, ?_, ?_, t6, t7, by omega⟩, ?_⟩
  · rw [hls, List.length_set, h.len]
  · intro u hu b hb
    rcases List.mem_or_eq_of_mem_set hu with hu | rfl
    · exact t4 u hu b hb
    · obtain rfl : g = b := by simpa [Value.ownBlock] using hb
      rcases hat with hat | hat
      · exact t4 v hvm g hat
      · refine ⟨fun ht => ?_, ?_, ?_⟩
        · have := (t5 g ht).2; omega
        · omega
        · omega
  · intro b hb
    have := t5 b hb
    omega
  · refine (s4 (fun b => Pr b ∨ T b) ?_ ?_)
    · rintro (h' | h')
      · exact t7 (hPr R h')
      · exact t2 h'
    · rintro b hb (h' | h')
      · exact (t4 v hvm b hb).2.2 (hPr b h')
      · exact (t4 v hvm b hb).1 h'
end Go.Proofs.Ytfdlhlabkcmikaa
