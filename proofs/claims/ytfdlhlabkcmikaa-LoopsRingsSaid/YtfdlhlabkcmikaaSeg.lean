/- Slices of a call's own that may begin anywhere in their array: read, stored into, appended to; fewer than a million elements. -/
import Derived.Test.YtfdlhlabkcmikaaBase
import Derived.ArgAppend
namespace Go.Proofs.Ytfdlhlabkcmikaa
open Go.RowKit

/-- A slice of the call's own: its cells may be written. -/
structure SegA (w : World) (base sz g off n cap : Nat) (xs : List Value) : Prop where
  base : base ≤ g
  lt : g < w.heap.size
  le : n ≤ cap
  max : cap ≤ maxLen
  free : ∀ j, j < cap * sz → (w.cell? ⟨g, off + j, none⟩).isSome = true ∧ w.frozen? ⟨g, off + j, none⟩ = false
  cells : ∀ j u, xs[j]? = some u → w.cell? ⟨g, off + j, none⟩ = some u

def Seg (w : World) (base sz : Nat) (v : Value) (n : Nat) (xs : List Value) : Prop :=
  xs.length = n * sz ∧ ((v = .slice none 0 0 ∧ n = 0) ∨ ∃ g off cap, v = .slice (some ⟨g, off, none⟩) n cap ∧ SegA w base sz g off n cap xs)

theorem Seg.nil (w : World) (base sz : Nat) : Seg w base sz (.slice none 0 0) 0 [] := ⟨by simp, .inl ⟨rfl, rfl⟩⟩

theorem seg_of_own {w : World} {base : Nat} {e : TypeId} {sz : Nat} {v : Value} {n : Nat} {xs : List Value} (h : w.ownsRow base e sz v n xs) : Seg w base sz v n xs := by
  refine ⟨h.1, ?_⟩
  rcases h.2 with hn | ⟨g, cap, cur, rfl, hb, hh, hn, hc, hcs, ht⟩
  · exact .inl hn
  · refine .inr ⟨g, 0, cap, rfl, hb, (Array.getElem?_eq_some_iff.1 hh).1, hn, hc, fun j hj => ?_, fun j u hu => ?_⟩
    · simp only [World.cell?, World.frozen?, hh, Option.isSome_none, Nat.zero_add]
      simp [hcs, hj]
    · rw [← ht, List.getElem?_take] at hu
      split at hu
      · simp only [World.cell?, hh, Option.isSome_none, Nat.zero_add]
        simpa using hu
      · cases hu

theorem Seg.slV {w : World} {base sz : Nat} {v : Value} {n : Nat} {xs : List Value} (h : Seg w base sz v n xs) : SlV w sz v n xs := by
  rcases h with ⟨hl, ⟨rfl, rfl⟩ | ⟨g, off, cap, rfl, hs⟩⟩
  · exact ⟨none, 0, rfl, hl, by simp, by simp, .inl ⟨rfl, rfl⟩⟩
  · exact ⟨_, cap, rfl, hl, hs.le, hs.max, .inr ⟨g, off, rfl, hs.lt, hs.cells⟩⟩

theorem Seg.keeps {p : Nat → Prop} {w w' : World} {base sz : Nat} {v : Value} {n : Nat} {xs : List Value} (h : Seg w base sz v n xs) (hk : Keeps p w w') (hp : ∀ k, v.ownBlock = some k → p k) : Seg w' base sz v n xs := by
  refine ⟨h.1, ?_⟩
  rcases h.2 with hn | ⟨g, off, cap, rfl, hs⟩
  · exact .inl hn
  · have hb := hk.block g hs.lt (hp g rfl)
    refine .inr ⟨g, off, cap, rfl, hs.base, Nat.lt_of_lt_of_le hs.lt hk.size, hs.le, hs.max, fun j hj => ?_, fun j u hu => ?_⟩
    · rw [World.cell?_of_block (a := ⟨g, off + j, none⟩) hb, World.frozen?_of_block (a := ⟨g, off + j, none⟩) hb]; exact hs.free j hj
    · rw [World.cell?_of_block (a := ⟨g, off + j, none⟩) hb]; exact hs.cells j u hu

theorem Seg.own_lt {w : World} {base sz : Nat} {v : Value} {n : Nat} {xs : List Value} (h : Seg w base sz v n xs) : ∀ k, v.ownBlock = some k → base ≤ k ∧ k < w.heap.size := by
  rcases h.2 with ⟨rfl, _⟩ | ⟨g, off, cap, rfl, hs⟩
  · intro k hk; cases hk
  · intro k hk; cases hk; exact ⟨hs.base, hs.lt⟩

theorem Seg.alloc {w : World} {base sz : Nat} {v : Value} {n : Nat} {xs : List Value} (h : Seg w base sz v n xs) (o : Obj) : Seg (w.alloc o) base sz v n xs :=
  h.keeps (Keeps.alloc (fun _ => True) w o) (fun _ _ => trivial)

/-- A store into a slice of the call's own. -/
theorem SegA.set {w : World} {base sz g off n cap : Nat} {xs : List Value} (h : SegA w base sz g off n cap xs) (j : Nat) (hj : j < cap * sz) (v : Value) : SegA (w.setCell ⟨g, off + j, none⟩ v) base sz g off n cap (xs.set j v) := by
  have hs := (h.free j hj).1
  refine ⟨h.base, by simpa [World.setCell] using h.lt, h.le, h.max, fun k hk => ?_, fun k u hu => ?_⟩
  · rw [World.frozen?_setCell]
    refine ⟨?_, (h.free k hk).2⟩
    by_cases e : k = j
    · subst e; rw [World.cell?_setCell_same' _ _ _ hs]; rfl
    · rw [World.cell?_setCell_other]
      · exact (h.free k hk).1
      · intro e'; injection e' with _ e2; omega
  · rw [List.getElem?_set] at hu
    split at hu
    · rename_i e
      subst e
      split at hu
      · cases hu; exact World.cell?_setCell_same' _ _ _ hs
      · cases hu
    · rename_i e
      rw [World.cell?_setCell_other]
      · exact h.cells k u hu
      · intro e'; injection e' with _ e2; omega

theorem setCells_grown (b : Nat) : ∀ (vs : List Value) (o : Nat) (w : World), w.grownBy (w.setCells b o vs) (some b) := by
  intro vs
  induction vs with
  | nil => intro o w; exact ⟨rfl, rfl, rfl, Nat.le_refl _, fun _ _ _ => rfl⟩
  | cons v vs ih =>
    intro o w
    have h1 : w.grownBy (w.setCell ⟨b, o, none⟩ v) (some b) := ⟨rfl, rfl, rfl, by simp [World.setCell], fun k _ hk => Below.heap_setCell _ _ _ _ (fun e => hk (by rw [e]))⟩
    have h2 := ih (o + 1) (w.setCell ⟨b, o, none⟩ v)
    exact ⟨h2.os.trans h1.os, h2.tape.trans h1.tape, h2.output.trans h1.output, Nat.le_trans h1.size h2.size, fun k hk hn => (h2.block k (Nat.lt_of_lt_of_le hk h1.size) hn).trans (h1.block k hk hn)⟩

section
variable {P : Program} {w : World} {ops : Array Oper} {rest : List Oper} {o : Oper} {a : Act} {Q : Exit → Act → World → Prop}

theorem run_appSeg {t ty e : TypeId} {sz : Nat} (hE : ElT P t e sz) (base : Nat) (v : Value) (n : Nat) (xs : List Value) (hown : Seg w base sz v n xs) (cs : Array Value)
    (hl : cs.size = sz) (h1 : ∀ u ∈ cs.toList, u.oneCell' = true) (hn : n < 1000000) (hbase : base ≤ w.heap.size) :
    ∃ g off cap w1, (Builtin.append_ #[t, t] ty #[v, .slice (some ⟨w.heap.size, 0, none⟩) 1 1]).run P (w.alloc (.cells cs e)) = .ok (.slice (some ⟨g, off, none⟩) (n + 1) cap) w1 ∧
      Seg w1 base sz (.slice (some ⟨g, off, none⟩) (n + 1) cap) (n + 1) (xs ++ cs.toList) ∧ (w.alloc (.cells cs e)).grownBy w1 v.ownBlock ∧ (v.ownBlock = some g ∨ w.heap.size < g) ∧ g < w1.heap.size := by
  have hE' := hE
  obtain ⟨⟨i, z, q1, q2, q3, q4, q5, q6⟩, q7⟩ := hE
  have hcl : cs.toList.length = 1 * sz := by rw [Array.length_toList, hl]; omega
  rcases hown.2 with ⟨rfl, rfl⟩ | ⟨g, off, cap, rfl, hs⟩
  · obtain ⟨g, cap, w1, r1, r2, r3, r4, r5⟩ := run_app1 (P := P) (ty := ty) hE' base (.slice none 0 0) 0 xs ⟨hown.1, .inl ⟨rfl, rfl⟩⟩ cs hl h1 hn hbase
    exact ⟨g, 0, cap, w1, r1, seg_of_own r2, r3, r4.imp id (fun h => by omega), r5⟩
  · have hsA := (hown.alloc (.cells cs e)).2
    rcases hsA with ⟨h, _⟩ | ⟨g', off', cap', hv', hsA⟩
    · cases h
    cases hv'
    have hlen : (xs ++ cs.toList).length = (n + 1) * sz := by rw [List.length_append, hown.1, hcl, Nat.add_mul]
    by_cases hroom : n + 1 ≤ cap
    · have hfit : ∀ j, j < cs.toList.length → off + n * i.size + j < off + cap * sz ∧ off + n * i.size + j = off + (n * sz + j) ∧ n * sz + j < cap * sz := by
        intro j hj
        rw [q4]
        have h2 : (n + 1) * sz ≤ cap * sz := Nat.mul_le_mul_right _ hroom
        rw [Nat.add_mul] at h2
        omega
      have hr := run_append_room_cells (P := P) (w.alloc (.cells cs e)) t ty e i q1 q2 g off n cap ⟨w.heap.size, 0, none⟩ 1 1 cs.toList (by rw [hcl, q4]) news_new h1 hroom
        (fun j hj => by obtain ⟨_, e2, e3⟩ := hfit j hj; rw [e2]; exact (hsA.free _ e3).1) (fun j hj => by obtain ⟨_, e2, e3⟩ := hfit j hj; rw [e2]; exact (hsA.free _ e3).2)
      rw [q4] at hr
      refine ⟨g, off, cap, _, hr, ⟨hlen, .inr ⟨g, off, cap, rfl, hs.base, ?_, hroom, hs.max, fun j hj => ?_, fun j u hu => ?_⟩⟩, setCells_grown g _ _ _, .inl rfl, ?_⟩
      · exact Nat.lt_of_lt_of_le hsA.lt (setCells_grown g _ _ _).size
      · rw [World.frozen?_setCells]
        refine ⟨?_, (hsA.free j hj).2⟩
        by_cases hin : n * sz ≤ j ∧ j < n * sz + cs.toList.length
        · have hj' : off + j = (off + n * sz) + (j - n * sz) := by omega
          rw [hj', World.cell?_setCells_in g _ _ _ (fun k hk => by obtain ⟨_, e2, e3⟩ := hfit k hk; rw [q4] at e2; rw [e2]; exact (hsA.free _ e3).1) (j - n * sz) (by omega)]
          rfl
        · rw [World.cell?_setCells_out]
          · exact (hsA.free j hj).1
          · intro _ _; simp only; omega
      · by_cases hin : j < xs.length
        · rw [List.getElem?_append_left hin] at hu
          rw [World.cell?_setCells_out]
          · exact hsA.cells j u hu
          · intro _ _; simp only; rw [hown.1] at hin; omega
        · have hj1 : j < (xs ++ cs.toList).length := by
            rcases Nat.lt_or_ge j (xs ++ cs.toList).length with h | h
            · exact h
            · rw [List.getElem?_eq_none h] at hu; cases hu
          rw [List.length_append, hown.1] at hj1
          rw [hown.1] at hin
          rw [List.getElem?_append_right (by rw [hown.1]; omega), hown.1] at hu
          have hj' : off + j = (off + n * sz) + (j - n * sz) := by omega
          rw [hj', World.cell?_setCells_in g _ _ _ (fun k hk => by obtain ⟨_, e2, e3⟩ := hfit k hk; rw [q4] at e2; rw [e2]; exact (hsA.free _ e3).1) (j - n * sz) (by omega), ← hu]
          exact (List.getElem?_eq_getElem _).symm
      · exact Nat.lt_of_lt_of_le hsA.lt (setCells_grown g _ _ _).size
    · obtain ⟨v', w1, r1, r2, r3⟩ := run_append_arg_grows (P := P) (w.alloc (.cells cs e)) t ty e i z sz i.bytes q1 q2 q3 q4 rfl q6 q7 ⟨g, off, none⟩ n cap xs hown.1 (fun j u hu => by rw [Addr.add_lit]; exact hsA.cells j u hu)
        ⟨w.heap.size, 0, none⟩ 1 1 cs.toList hcl news_new (by omega) (by simp only [maxLen]; omega) (mul_small (by omega) q5)
      obtain ⟨g2, cap2, rfl, hb2, hlt2⟩ := r2.form (by omega)
      refine ⟨g2, 0, cap2, w1, r1, seg_of_own (own_base r2 (by simp; omega)), ⟨r3.os, r3.tape, r3.output, r3.size, fun k hk _ => r3.block k hk (by simp)⟩, .inr (by simp at hb2; omega), hlt2⟩

theorem wpList_appSeg (hgd : o.guard = none) (s x : Operand) (t : TypeId) (ho : o.op = .call { callee := .builtin .append, args := #[s, x], argTypes := #[t, t] }) {e : TypeId} {sz : Nat} (hE : ElT P t e sz)
    (base : Nat) (v : Value) (n : Nat) (xs : List Value) (hs : a.eval s = v) (hown : Seg w base sz v n xs) (cs : Array Value) (hx : a.eval x = .slice (some ⟨w.heap.size, 0, none⟩) 1 1)
    (hl : cs.size = sz) (h1 : ∀ u ∈ cs.toList, u.oneCell' = true) (hn : n < 1000000) (hbase : base ≤ w.heap.size)
    (h : ∀ g off cap w1, Seg w1 base sz (.slice (some ⟨g, off, none⟩) (n + 1) cap) (n + 1) (xs ++ cs.toList) → (w.alloc (.cells cs e)).grownBy w1 v.ownBlock → (v.ownBlock = some g ∨ w.heap.size < g) → g < w1.heap.size →
      wpList P ops Q rest (a.put o.dst (.slice (some ⟨g, off, none⟩) (n + 1) cap)) w1) : wpList P ops Q (o :: rest) a (w.alloc (.cells cs e)) := by
  refine wpList_plain hgd fun K hK => ?_
  obtain ⟨g, off, cap, w1, r1, r2, r3, r4, r5⟩ := run_appSeg (P := P) (ty := o.type) hE base v n xs hown cs hl h1 hn hbase
  unfold Oper.wp execOp
  simp only [ho, resolve, invoke, builtin, Sem.run_bind, Sem.run_pure, Result.andThen_ok, List.map_toArray, List.map_cons, List.map_nil, hs, hx, r1]
  exact hK _ _ (h g off cap w1 r2 r3 r4 r5)

theorem wpListIn_appSeg {F : Fence} {m : Nat} (hgd : o.guard = none) (s x : Operand) (t : TypeId) (ho : o.op = .call { callee := .builtin .append, args := #[s, x], argTypes := #[t, t] }) {e : TypeId} {sz : Nat} (hE : ElT P t e sz)
    (base : Nat) (v : Value) (n : Nat) (xs : List Value) (hs : a.eval s = v) (hown : Seg w base sz v n xs) (cs : Array Value) (hx : a.eval x = .slice (some ⟨w.heap.size, 0, none⟩) 1 1)
    (hl : cs.size = sz) (h1 : ∀ u ∈ cs.toList, u.oneCell' = true) (hn : n < 1000000) (hbase : base ≤ w.heap.size)
    (h : ∀ g off cap w1, Seg w1 base sz (.slice (some ⟨g, off, none⟩) (n + 1) cap) (n + 1) (xs ++ cs.toList) → (w.alloc (.cells cs e)).grownBy w1 v.ownBlock → (v.ownBlock = some g ∨ w.heap.size < g) → g < w1.heap.size →
      wpListIn F m P ops Q rest (a.put o.dst (.slice (some ⟨g, off, none⟩) (n + 1) cap)) w1) : wpListIn F m P ops Q (o :: rest) a (w.alloc (.cells cs e)) := by
  refine wpListIn_plain hgd fun K hK' => ?_
  obtain ⟨g, off, cap, w1, r1, r2, r3, r4, r5⟩ := run_appSeg (P := P) (ty := o.type) hE base v n xs hown cs hl h1 hn hbase
  unfold Oper.wpIn
  refine ⟨?_, ?_⟩
  · simp [Oper.about, ho, resolve, Target.leads, Sem.run_pure]
  · rw [Oper.semAt_plain F _ _ (by rw [ho]; intro c hc'; cases hc')]
    unfold execOp
    simp only [ho, resolve, invoke, builtin, Sem.run_bind, Sem.run_pure, Result.andThen_ok, List.map_toArray, List.map_cons, List.map_nil, hs, hx, r1]
    exact hK' _ _ (h g off cap w1 r2 r3 r4 r5)
end
end Go.Proofs.Ytfdlhlabkcmikaa
