/- Helper lemmas: slices that are read as lists of cells, slices of a call's own that grow; no condition. -/
import Derived.Test.YtfdlhlabkcmikaaLaw
import Derived.OwnWalkIn
import Derived.Maps.AppendAt
import Derived.Deep.AppendLies
import Derived.Lib.Hide
namespace Go.Proofs.Ytfdlhlabkcmikaa
open Go.RowKit

theorem ret_int {k : IntKind} {a b : Int} (h : a = b) : Ending.returned (.int k a) = .returned (.int k b) := by rw [h]
theorem ret_bool {a b : Bool} (h : a = b) : Ending.returned (.bool a) = .returned (.bool b) := by rw [h]

/-- What a call that only makes memory leaves of the cells that were there. -/
theorem bcell {W w1 : World} {B : Nat} (hb : Below B W w1) : (∀ b o, b < B → w1.cell? ⟨b, o, none⟩ = W.cell? ⟨b, o, none⟩) ∧ (∀ b o, b < B → w1.frozen? ⟨b, o, none⟩ = W.frozen? ⟨b, o, none⟩) :=
  ⟨fun b o h => hb.cell (p := ⟨b, o, none⟩) h, fun b o h => hb.frozen (p := ⟨b, o, none⟩) h⟩

theorem bytes_drop (s : ByteArray) (k : Nat) (h : k < s.size) : (s.data.toList.drop k).map (·.toNat) = (s[k]'h).toNat :: (s.data.toList.drop (k + 1)).map (·.toNat) := by
  have h' : k < s.data.toList.length := by simpa using h
  rw [List.drop_eq_getElem_cons h']
  rfl

/-- Two arrays of three elements of one cell each are compared. -/
theorem arr_eq3 {P : Program} {t e : TypeId} (a b c a' b' c' : Value) (p q r : Bool) (d : Nat) (w : World) (ht : P.underlying t = some (.array 3 e)) (hs : ∀ w, (sizeOf e).run P w = .ok 1 w) (hg : ∀ w, (isAgg e).run P w = .ok false w)
    (h1 : ∀ w, (Op.equalIn d e a a').run P w = .ok p w) (h2 : ∀ w, (Op.equalIn d e b b').run P w = .ok q w) (h3 : ∀ w, (Op.equalIn d e c c').run P w = .ok r w) :
    (Op.equalIn (d + 1) t (.agg #[a, b, c]) (.agg #[a', b', c'])).run P w = .ok (p && q && r) w := by
  simp only [Op.equalIn, Sem.run_bind, run_underlying ht, Result.andThen_ok, hs, Std.Legacy.Range.forIn_eq_forIn_range', Std.Legacy.Range.size]
  cases p <;> cases q <;> cases r <;> simp [List.range', Sem.run_bind, part, hs, hg, h1, h2, h3]

/-! ### Slices that are only read -/

/-- A slice of n elements of sz cells each; cs are all its cells. -/
structure SlA (w : World) (sz : Nat) (a : Option Addr) (n cap : Nat) (cs : List Value) : Prop where
  len : cs.length = n * sz
  le : n ≤ cap
  max : cap ≤ maxLen
  mem : (a = none ∧ cap = 0) ∨ ∃ b off, a = some ⟨b, off, none⟩ ∧ b < w.heap.size ∧ ∀ j u, cs[j]? = some u → w.cell? ⟨b, off + j, none⟩ = some u

def SlV (w : World) (sz : Nat) (v : Value) (n : Nat) (cs : List Value) : Prop := ∃ a cap, v = .slice a n cap ∧ SlA w sz a n cap cs

/-- The block of a slice lies at B or beyond. -/
def FromB (B : Nat) (v : Value) : Prop := ∀ b off n cap, v = .slice (some ⟨b, off, none⟩) n cap → B ≤ b

theorem SlA.none_zero {w : World} {sz : Nat} {n cap : Nat} {cs : List Value} (h : SlA w sz none n cap cs) : n = 0 ∧ cap = 0 := by
  rcases h.mem with ⟨_, hc⟩ | ⟨b, off, hb, _⟩
  · have := h.le; omega
  · cases hb

theorem SlA.keep {w w' : World} {sz : Nat} {a : Option Addr} {n cap : Nat} {cs : List Value} {B : Nat} (h : SlA w sz a n cap cs) (hk : Below B w w') (hB : w.heap.size ≤ B) : SlA w' sz a n cap cs := by
  refine ⟨h.len, h.le, h.max, h.mem.imp id ?_⟩
  rintro ⟨b, off, ha, hb, hc⟩
  exact ⟨b, off, ha, Nat.lt_of_lt_of_le hb hk.size, fun j u hu => (hk.cell (p := ⟨b, off + j, none⟩) (by simp; omega)).trans (hc j u hu)⟩

theorem SlV.keep {w w' : World} {sz : Nat} {v : Value} {n : Nat} {cs : List Value} {B : Nat} (h : SlV w sz v n cs) (hk : Below B w w') (hB : w.heap.size ≤ B) : SlV w' sz v n cs := by
  obtain ⟨a, cap, hv, hs⟩ := h
  exact ⟨a, cap, hv, hs.keep hk hB⟩

theorem SlA.keeps {p : Nat → Prop} {w w' : World} {sz : Nat} {a : Option Addr} {n cap : Nat} {cs : List Value} (h : SlA w sz a n cap cs) (hk : Keeps p w w') (hp : ∀ b off, a = some ⟨b, off, none⟩ → b < w.heap.size → p b) : SlA w' sz a n cap cs := by
  refine ⟨h.len, h.le, h.max, h.mem.imp id ?_⟩
  rintro ⟨b, off, ha, hb, hc⟩
  exact ⟨b, off, ha, Nat.lt_of_lt_of_le hb hk.size, fun j u hu => hk.cell (hc j u hu) (hp b off ha hb)⟩

theorem SlV.keeps {p : Nat → Prop} {w w' : World} {sz : Nat} {v : Value} {n : Nat} {cs : List Value} (h : SlV w sz v n cs) (hk : Keeps p w w') (hp : ∀ b off m cap, v = .slice (some ⟨b, off, none⟩) m cap → b < w.heap.size → p b) : SlV w' sz v n cs := by
  obtain ⟨a, cap, rfl, hs⟩ := h
  exact ⟨a, cap, rfl, hs.keeps hk fun b off e hb => hp b off n cap (by rw [e]) hb⟩

theorem SlV.cellkeep {w w' : World} {sz : Nat} {v : Value} {n : Nat} {cs : List Value} (h : SlV w sz v n cs) (hk : CellKeep w w') (hsz : w.heap.size ≤ w'.heap.size) : SlV w' sz v n cs := by
  obtain ⟨a, cap, rfl, h⟩ := h
  refine ⟨a, cap, rfl, h.len, h.le, h.max, h.mem.imp id ?_⟩
  rintro ⟨b, off, ha, hb, hc⟩
  exact ⟨b, off, ha, Nat.lt_of_lt_of_le hb hsz, fun j u hu => hk.cell (hc j u hu)⟩

theorem SlV.alloc {w : World} {sz : Nat} {v : Value} {n : Nat} {cs : List Value} (h : SlV w sz v n cs) (o : Obj) : SlV (w.alloc o) sz v n cs :=
  h.keep ((Below.refl _ _).alloc (Nat.le_refl _) o) (Nat.le_refl _)

theorem SlV.nil (w : World) (sz : Nat) : SlV w sz (.slice none 0 0) 0 [] := ⟨none, 0, rfl, by simp, by simp, by simp, .inl ⟨rfl, rfl⟩⟩

/-- A slice of the call's own, read as any other. -/
theorem slV_of_own {w : World} {base : Nat} {e : TypeId} {sz : Nat} {v : Value} {n : Nat} {xs : List Value} (h : w.ownsRow base e sz v n xs) : SlV w sz v n xs := by
  rcases h with ⟨hl, ⟨rfl, rfl⟩ | ⟨g, cap, cur, rfl, hg, hh, hn, hc, hcs, ht⟩⟩
  · exact ⟨none, 0, rfl, hl, by simp, by simp, .inl ⟨rfl, rfl⟩⟩
  · refine ⟨some ⟨g, 0, none⟩, cap, rfl, hl, hn, hc, .inr ⟨g, 0, rfl, (Array.getElem?_eq_some_iff.1 hh).1, fun j u hu => ?_⟩⟩
    rw [← ht, List.getElem?_take] at hu
    split at hu
    · simp only [World.cell?, hh, Option.isSome_none, Nat.zero_add]
      simpa using hu
    · cases hu

theorem fromB_of_own {w : World} {base : Nat} {e : TypeId} {sz : Nat} {v : Value} {n : Nat} {xs : List Value} (h : w.ownsRow base e sz v n xs) : FromB base v := by
  rcases h.2 with ⟨rfl, rfl⟩ | ⟨g, cap, cur, rfl, hg, hh, hn, hc, hcs, ht⟩
  · intro b off n cap e; cases e
  · intro b off n cap e; cases e; exact hg

/-- The cells of element i. -/
theorem flat_get {α : Type} (f : α → List Value) (sz : Nat) (hf : ∀ x, (f x).length = sz) : ∀ (l : List α) (i : Nat) (x : α), l[i]? = some x → ∀ k, k < sz → (l.flatMap f)[i * sz + k]? = (f x)[k]? := by
  intro l
  induction l with
  | nil => intro i x h; simp at h
  | cons y l ih =>
    intro i x h k hk
    rw [List.flatMap_cons]
    cases i with
    | zero =>
      simp at h
      subst h
      rw [Nat.zero_mul, Nat.zero_add, List.getElem?_append_left (by rw [hf]; exact hk)]
    | succ i =>
      have h' : l[i]? = some x := by simpa using h
      rw [List.getElem?_append_right (by rw [hf, Nat.succ_mul]; omega), hf, ← ih i x h' k hk]
      congr 1
      rw [Nat.succ_mul]; omega

theorem flat_len {α : Type} (f : α → List Value) (sz : Nat) (hf : ∀ x, (f x).length = sz) (l : List α) : (l.flatMap f).length = l.length * sz := by
  induction l with
  | nil => simp
  | cons y l ih => rw [List.flatMap_cons, List.length_append, hf, ih, List.length_cons, Nat.succ_mul]; omega

/-- Element i of a slice of elements of sz cells: where it lies, and its cells. -/
theorem SlA.elem {α : Type} {f : α → List Value} {sz : Nat} {w : World} {a : Option Addr} {n cap : Nat} {l : List α} (h : SlA w sz a n cap (l.flatMap f)) (hf : ∀ x, (f x).length = sz)
    {i : Nat} {x : α} (hx : l[i]? = some x) : (0 < sz → n ≠ 0 → ∃ b off, a = some ⟨b, off, none⟩ ∧ b < w.heap.size ∧ ∀ k u, (f x)[k]? = some u → w.cell? ⟨b, off + i * sz + k, none⟩ = some u) := by
  intro hsz hn0
  rcases h.mem with ⟨rfl, hc⟩ | ⟨b, off, ha, hb, hcell⟩
  · exact absurd (by have := h.le; omega) hn0
  · refine ⟨b, off, ha, hb, fun k u hu => ?_⟩
    have hk : k < sz := by
      rw [← hf x]
      rcases Nat.lt_or_ge k (f x).length with hlt | hge
      · exact hlt
      · rw [List.getElem?_eq_none hge] at hu; cases hu
    have := hcell (i * sz + k) u ((flat_get f sz hf l i x hx k hk).trans hu)
    rwa [← Nat.add_assoc] at this

theorem SlA.one {w : World} {a : Option Addr} {n cap : Nat} {cs : List Value} (h : SlA w 1 a n cap cs) {i : Nat} {u : Value} (hu : cs[i]? = some u) : ∃ b off, a = some ⟨b, off, none⟩ ∧ b < w.heap.size ∧ w.cell? ⟨b, off + i, none⟩ = some u := by
  rcases h.mem with ⟨rfl, hc⟩ | ⟨b, off, ha, hb, hcell⟩
  · have := h.le; have := h.len
    have hi : i < cs.length := by
      rcases Nat.lt_or_ge i cs.length with hlt | hge
      · exact hlt
      · rw [List.getElem?_eq_none hge] at hu; cases hu
    omega
  · exact ⟨b, off, ha, hb, hcell i u hu⟩

/-! ### append of one element to a slice of the call's own -/

/-- t is the type of slices of e; an e has sz cells. -/
structure ElT (P : Program) (t e : TypeId) (sz : Nat) : Prop where
  ex : ∃ (i : TypeInfo) (z : Value), P.underlying t = some (.slice e) ∧ P.info? e = some i ∧ i.zero = some z ∧ i.size = sz ∧ i.bytes ≤ 1000 ∧ z.cells.size = sz
  pos : 0 < sz

theorem ElT.mk' {P : Program} {t e : TypeId} {sz : Nat} {z : Value} {by_ : Nat} (h1 : P.underlying t = some (.slice e)) (h2 : (P.info? e).map (fun i => (i.zero, i.size, i.bytes)) = some (some z, sz, by_))
    (h3 : by_ ≤ 1000) (h4 : z.cells.size = sz) (h5 : 0 < sz) : ElT P t e sz := by
  obtain ⟨i, hi, hz0, hz1, hz2⟩ := info_parts h2
  exact ⟨⟨i, z, h1, hi, hz0, hz1, by rw [hz2]; exact h3, h4⟩, h5⟩

theorem news_new {w : World} {cs : Array Value} {e : TypeId} : ∀ j u, cs.toList[j]? = some u → (w.alloc (.cells cs e)).cell? ((⟨w.heap.size, 0, none⟩ : Addr).add j) = some u := by
  intro j u hu
  have hadd : (⟨w.heap.size, 0, none⟩ : Addr).add j = ⟨w.heap.size, j, none⟩ := by unfold Addr.add; split <;> simp_all
  rw [hadd]
  simp only [World.cell?, World.alloc_heap_new, Option.isSome_none]
  simpa using hu

theorem mul_small {n b : Nat} (hn : n ≤ 1000000) (hb : b ≤ 1000) : n * b ≤ 140737488355328 :=
  Nat.le_trans (Nat.mul_le_mul hn hb) (by decide)

section
variable {P : Program} {w : World} {ops : Array Oper} {rest : List Oper} {o : Oper} {a : Act} {Q : Exit → Act → World → Prop}

theorem run_app1 {t ty e : TypeId} {sz : Nat} (hE : ElT P t e sz) (base : Nat) (v : Value) (n : Nat) (xs : List Value) (hown : w.ownsRow base e sz v n xs) (cs : Array Value)
    (hl : cs.size = sz) (h1 : ∀ u ∈ cs.toList, u.oneCell' = true) (hn : n < 1000000) (hbase : base ≤ w.heap.size) :
    ∃ g cap w1, (Builtin.append_ #[t, t] ty #[v, .slice (some ⟨w.heap.size, 0, none⟩) 1 1]).run P (w.alloc (.cells cs e)) = .ok (.slice (some ⟨g, 0, none⟩) (n + 1) cap) w1 ∧
      w1.ownsRow base e sz (.slice (some ⟨g, 0, none⟩) (n + 1) cap) (n + 1) (xs ++ cs.toList) ∧ (w.alloc (.cells cs e)).grownBy w1 v.ownBlock ∧ (v.ownBlock = some g ∨ g = w.heap.size + 1) ∧ g < w1.heap.size := by
  obtain ⟨⟨i, z, q1, q2, q3, q4, q5, q6⟩, q7⟩ := hE
  obtain ⟨g, cap, w1, r1, r2, r3, r4, r5⟩ := run_append_lies (P := P) (w.alloc (.cells cs e)) t ty base e i z sz i.bytes q1 q2 q3 q4 rfl q6 q7 v n xs (hown.alloc _) ⟨w.heap.size, 0, none⟩ 1 1 cs.toList
    (by rw [Array.length_toList, hl]; omega) news_new h1 (by omega) (by simp only [maxLen]; omega) (mul_small (by omega) q5) (by simp; omega) (w.heap.size + 1) (by simp)
  exact ⟨g, cap, w1, r1, r2, r3, r4, r5⟩

theorem wpList_app1 (hgd : o.guard = none) (s x : Operand) (t : TypeId) (ho : o.op = .call { callee := .builtin .append, args := #[s, x], argTypes := #[t, t] }) {e : TypeId} {sz : Nat} (hE : ElT P t e sz)
    (base : Nat) (v : Value) (n : Nat) (xs : List Value) (hs : a.eval s = v) (hown : w.ownsRow base e sz v n xs) (cs : Array Value) (hx : a.eval x = .slice (some ⟨w.heap.size, 0, none⟩) 1 1)
    (hl : cs.size = sz) (h1 : ∀ u ∈ cs.toList, u.oneCell' = true) (hn : n < 1000000) (hbase : base ≤ w.heap.size)
    (h : ∀ g cap w1, w1.ownsRow base e sz (.slice (some ⟨g, 0, none⟩) (n + 1) cap) (n + 1) (xs ++ cs.toList) → (w.alloc (.cells cs e)).grownBy w1 v.ownBlock → (v.ownBlock = some g ∨ g = w.heap.size + 1) → g < w1.heap.size →
      wpList P ops Q rest (a.put o.dst (.slice (some ⟨g, 0, none⟩) (n + 1) cap)) w1) : wpList P ops Q (o :: rest) a (w.alloc (.cells cs e)) := by
  refine wpList_plain hgd fun K hK => ?_
  obtain ⟨g, cap, w1, r1, r2, r3, r4, r5⟩ := run_app1 (P := P) (ty := o.type) hE base v n xs hown cs hl h1 hn hbase
  unfold Oper.wp execOp
  simp only [ho, resolve, invoke, builtin, Sem.run_bind, Sem.run_pure, Result.andThen_ok, List.map_toArray, List.map_cons, List.map_nil, hs, hx, r1]
  exact hK _ _ (h g cap w1 r2 r3 r4 r5)

theorem wpListIn_app1 {F : Fence} {m : Nat} (hgd : o.guard = none) (s x : Operand) (t : TypeId) (ho : o.op = .call { callee := .builtin .append, args := #[s, x], argTypes := #[t, t] }) {e : TypeId} {sz : Nat} (hE : ElT P t e sz)
    (base : Nat) (v : Value) (n : Nat) (xs : List Value) (hs : a.eval s = v) (hown : w.ownsRow base e sz v n xs) (cs : Array Value) (hx : a.eval x = .slice (some ⟨w.heap.size, 0, none⟩) 1 1)
    (hl : cs.size = sz) (h1 : ∀ u ∈ cs.toList, u.oneCell' = true) (hn : n < 1000000) (hbase : base ≤ w.heap.size)
    (h : ∀ g cap w1, w1.ownsRow base e sz (.slice (some ⟨g, 0, none⟩) (n + 1) cap) (n + 1) (xs ++ cs.toList) → (w.alloc (.cells cs e)).grownBy w1 v.ownBlock → (v.ownBlock = some g ∨ g = w.heap.size + 1) → g < w1.heap.size →
      wpListIn F m P ops Q rest (a.put o.dst (.slice (some ⟨g, 0, none⟩) (n + 1) cap)) w1) : wpListIn F m P ops Q (o :: rest) a (w.alloc (.cells cs e)) := by
  refine wpListIn_plain hgd fun K hK' => ?_
  obtain ⟨g, cap, w1, r1, r2, r3, r4, r5⟩ := run_app1 (P := P) (ty := o.type) hE base v n xs hown cs hl h1 hn hbase
  unfold Oper.wpIn
  refine ⟨?_, ?_⟩
  · simp [Oper.about, ho, resolve, Target.leads, Sem.run_pure]
  · rw [Oper.semAt_plain F _ _ (by rw [ho]; intro c hc'; cases hc')]
    unfold execOp
    simp only [ho, resolve, invoke, builtin, Sem.run_bind, Sem.run_pure, Result.andThen_ok, List.map_toArray, List.map_cons, List.map_nil, hs, hx, r1]
    exact hK' _ _ (h g cap w1 r2 r3 r4 r5)
end
/-! ### What lies in other blocks stays -/
theorem own_keeps {p : Nat → Prop} {w w' : World} {base : Nat} {e : TypeId} {sz : Nat} {v : Value} {n : Nat} {xs : List Value} (h : w.ownsRow base e sz v n xs) (hk : Keeps p w w') (hp : ∀ k, v.ownBlock = some k → p k) : w'.ownsRow base e sz v n xs := by
  refine ⟨h.1, ?_⟩
  rcases h.2 with hn | ⟨g, cap, cur, rfl, hb, hgg, rest⟩
  · exact .inl hn
  · exact .inr ⟨g, cap, cur, rfl, hb, hk.heap hgg (hp g rfl), rest⟩

theorem own_base {w : World} {base base' : Nat} {e : TypeId} {sz : Nat} {v : Value} {n : Nat} {xs : List Value} (h : w.ownsRow base e sz v n xs) (hb : base' ≤ base) : w.ownsRow base' e sz v n xs := by
  refine ⟨h.1, ?_⟩
  rcases h.2 with hn | ⟨g, cap, cur, rfl, hb', rest⟩
  · exact .inl hn
  · exact .inr ⟨g, cap, cur, rfl, Nat.le_trans hb hb', rest⟩

theorem box_keeps {p : Nat → Prop} {w w' : World} {B : Nat} {t : TypeId} {v : Value} (h : Boxed w B t v) (hk : Keeps p w w') (hp : p B) : Boxed w' B t v := hk.heap h hp

theorem Iter.later {α : Type} {P : Program} {gf : FuncId} {lb : Array Value} {R : World → Array Value → α → Prop} {G : List α → World → Prop} {Pr T0 : Nat → Prop} {w w1 : World} {xs : List α}
    (h : Iter P gf lb R G Pr T0 w xs) (hk : Keeps (fun _ => True) w w1) : Iter P gf lb R G Pr T0 w1 xs :=
  fun l J Jx W hW => h l J Jx W (hk.trans hW)

theorem alloc_true (w : World) (o : Obj) : Keeps (fun _ => True) w (w.alloc o) := Keeps.alloc _ _ _

/-- What a loop over an iterator that collects into a slice in box B knows: T are the iterator's own blocks. -/
def Coll {α : Type} (w : World) (B : Nat) (t e : TypeId) (sz : Nat) (f : α → List Value) (T0 : Nat → Prop) (pre : List α) (T : Nat → Prop) (W : World) : Prop :=
  (∃ v, Boxed W B t v ∧ W.ownsRow w.heap.size e sz v pre.length (pre.flatMap f) ∧ ∀ k, v.ownBlock = some k → ¬ T k) ∧ ¬ T B ∧ (∀ b, T b → T0 b ∨ w.heap.size ≤ b) ∧ (∀ b, T b → b < W.heap.size) ∧ Keeps (fun b => b < w.heap.size ∧ ¬ T0 b) w W

theorem coll_calm {α : Type} (w : World) (B : Nat) (t e : TypeId) (sz : Nat) (f : α → List Value) (T0 : Nat → Prop) (pre : List α) (_hB : w.heap.size ≤ B) : Calm (Coll w B t e sz f T0 pre) := by
  rintro T X Y ⟨⟨v, hv, hr, hnT⟩, hTB, hT, hTs, hk⟩ hXY
  refine ⟨⟨v, box_keeps hv hXY hTB, own_keeps hr hXY hnT, ?_⟩, ?_, ?_, ?_, ?_⟩
  · rintro k hk' (h | h)
    · exact hnT k hk' h
    · have := (hr.lt k hk').2; omega
  · rintro (h | h)
    · exact hTB h
    · have := hv.lt; omega
  · rintro b (h | h)
    · exact hT b h
    · have := hk.size; omega
  · rintro b (h | h)
    · exact Nat.lt_of_lt_of_le (hTs b h) hXY.size
    · exact h.2
  · exact hk.trans (hXY.mono fun b _ hn h => (hT b h).elim hn.2 (fun h => by have := hn.1; omega))

theorem Keeps.lt {p : Nat → Prop} {w W : World} (h : Keeps (fun b => b < w.heap.size ∧ p b) w W) : Keeps p w W := ⟨h.os, h.tape, h.output, h.size, fun b hb hp => h.block b hb ⟨hb, hp⟩⟩

/-- One element more is appended and the new slice is stored into its box. -/
theorem coll_step {α : Type} {w W w1 : World} {B : Nat} {t e : TypeId} {sz : Nat} {f : α → List Value} {T0 T Pr : Nat → Prop} {pre : List α} {x : α} (hte : t ≠ e) (hB : w.heap.size ≤ B) {v : Value} {g cap : Nat} {tmp : Obj} {cs : List Value}
    (h : Coll w B t e sz f T0 pre T W) (hv : Boxed W B t v) (hv' : ∀ k, v.ownBlock = some k → ¬ T k) (hr : W.ownsRow w.heap.size e sz v pre.length (pre.flatMap f)) (hcs : cs = f x)
    (hown : w1.ownsRow w.heap.size e sz (.slice (some ⟨g, 0, none⟩) (pre.length + 1) cap) (pre.length + 1) (pre.flatMap f ++ cs)) (hg : (W.alloc tmp).grownBy w1 v.ownBlock)
    (hat : v.ownBlock = some g ∨ g = W.heap.size + 1) (hPr : ∀ b, Pr b → b < w.heap.size) :
    Boxed w1 B t v ∧ Coll w B t e sz f T0 (pre ++ [x]) T (w1.setCell ⟨B, 0, none⟩ (.slice (some ⟨g, 0, none⟩) (pre.length + 1) cap)) ∧
      Keeps (fun b => Pr b ∨ T b) W (w1.setCell ⟨B, 0, none⟩ (.slice (some ⟨g, 0, none⟩) (pre.length + 1) cap)) := by
  subst hcs
  obtain ⟨_, hTB, hT, hTs, hk⟩ := h
  have hv1 : Boxed w1 B t v := (hv.alloc tmp).kept hg (hv.not_row hte hr)
  have hgT : ¬ T g := by
    rcases hat with h | h
    · exact hv' g h
    · intro hT'; have := hTs g hT'; omega
  have hgB : g ≠ B := by
    rintro rfl
    exact hv1.not_row hte hown rfl
  have kk : ∀ p : Nat → Prop, (∀ k, v.ownBlock = some k → ¬ p k) → ¬ p B → Keeps p W (w1.setCell ⟨B, 0, none⟩ (.slice (some ⟨g, 0, none⟩) (pre.length + 1) cap)) :=
    fun p h1 h2 => ((Keeps.alloc p W tmp).trans (Keeps.grown hg h1)).trans (Keeps.setCell _ _ _ h2)
  have own_ge : ∀ k, v.ownBlock = some k → w.heap.size ≤ k := fun k hk' => (hr.lt k hk').1
  refine ⟨hv1, ⟨⟨_, hv1.set _, ?_, fun k hk' => by cases hk'; exact hgT⟩, hTB, hT, fun b hb => ?_, ?_⟩, ?_⟩
  · have := hown.kept (grownBy_setCell' w1 B (.slice (some ⟨g, 0, none⟩) (pre.length + 1) cap)) (.inr (hv1.not_row hte hown).symm)
    simpa [List.flatMap_append] using this
  · have h1 := hTs b hb
    have h2 := hg.size
    have h3 : (w1.setCell ⟨B, 0, none⟩ (.slice (some ⟨g, 0, none⟩) (pre.length + 1) cap)).heap.size = w1.heap.size := by simp [World.setCell]
    simp at h2
    omega
  · exact hk.trans (kk _ (fun k hk' h => by have := own_ge k hk'; omega) (fun h => by omega))
  · refine kk _ ?_ ?_
    · rintro k hk' (h | h)
      · have := own_ge k hk'; have := hPr k h; omega
      · exact hv' k hk' h
    · rintro (h | h)
      · have := hPr B h; omega
      · exact hTB h

end Go.Proofs.Ytfdlhlabkcmikaa
