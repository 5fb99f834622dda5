/- The shelf's contracts of package slices on a call's own rows; fewer than a million elements. -/
import Derived.Test.YtfdlhlabkcmikaaBuild
import Derived.Sort.OwnSorted
namespace Go.Proofs.Ytfdlhlabkcmikaa
open Go.RowKit Go.Shelf Go.Sort

section
variable {α : Type} [Inhabited α] {enc : α → Value}

theorem holds_own {w : World} {g : Nat} {cur : Array Value} {e : TypeId} {ss : List α} (hb : w.heap[g]? = some (.cells cur e (0, 0))) (ht : cur.toList.take ss.length = ss.map enc) : Holds enc w g 0 ss.toArray := by
  intro j hj
  have hj' : j < ss.length := by simpa using hj
  refine ⟨?_, by simp [World.frozen?, hb]⟩
  have h1 : (cur.toList.take ss.length)[j]? = (ss.map enc)[j]? := by rw [ht]
  rw [List.getElem?_take_of_lt hj'] at h1
  simp only [World.cell?, hb, Nat.zero_add]
  simp only [Option.isSome_none, Bool.false_eq_true, if_false]
  rw [← Array.getElem?_toList, h1]
  simp [hj']

theorem heap_put {w : World} {g n : Nat} {os : Array Obj} {cur : Array Value} {e : TypeId} {fr : Nat × Nat} (d : Array α) (hb : w.heap[g]? = some (.cells cur e fr)) :
    (grow (putRow enc (Sort.ahead w n) g 0 d) os).heap[g]? = some (.cells (putCells enc 0 d cur) e fr) := by
  have hg : g < w.heap.size := (Array.getElem?_eq_some_iff.1 hb).1
  rw [heap_grow_old _ _ (by simpa using hg)]
  simp [putRow, mapBlock, Sort.ahead, Array.getElem?_modify, hb, onCells]

theorem grownBy_put {w : World} {g n : Nat} {os : Array Obj} (d : Array α) : w.grownBy (grow (putRow enc (Sort.ahead w n) g 0 d) os) (some g) := by
  refine ⟨rfl, rfl, rfl, by simp, fun k hk hne => ?_⟩
  rw [heap_grow_old _ _ (by simpa using hk)]
  have : g ≠ k := fun e => hne (by rw [e])
  simp [putRow, mapBlock, Sort.ahead, Array.getElem?_modify, this]

theorem take_put (cur : Array Value) (ts : List α) (h : ts.length ≤ cur.size) : (putCells enc 0 ts.toArray cur).toList.take ts.length = ts.map enc := by
  apply List.ext_getElem?
  intro j
  by_cases hj : j < ts.length
  · rw [List.getElem?_take_of_lt hj, Array.getElem?_toList]
    simp [putCells, hj, show j < cur.size by omega]
  · rw [List.getElem?_take_eq_none (by omega), List.getElem?_eq_none (by simp; omega)]

theorem own_put {w : World} {base g cap n : Nat} {e : TypeId} {os : Array Obj} {cur : Array Value} {ss ts : List α} (hl : ts.length = ss.length) (hbase : base ≤ g) (hb : w.heap[g]? = some (.cells cur e (0, 0)))
    (h1 : ss.length ≤ cap) (h2 : cap ≤ maxLen) (h3 : cur.size = cap * 1) :
    (grow (putRow enc (Sort.ahead w n) g 0 ts.toArray) os).ownsRow base e 1 (.slice (some ⟨g, 0, none⟩) ss.length cap) ss.length (ts.map enc) :=
  ⟨by simp [hl], .inr ⟨g, cap, _, rfl, hbase, heap_put _ hb, h1, h2, by simp [putCells, h3], by rw [Nat.mul_one, ← hl]; exact take_put cur ts (by omega)⟩⟩
end

def sortI (l : List Int) : List Int := l.mergeSort fun x y => decide (x ≤ y)

theorem sort_own {base : Nat} {v : Value} {zs : List Int} {w : World} (h : w.ownsRow base 3 1 v zs.length (intsC zs)) (hn : zs.length < 1000000) :
    Calls Try.prog 45 #[v] w fun e w' => e = .returned (.tuple #[]) ∧ w'.ownsRow base 3 1 v zs.length (intsC (sortI zs)) ∧ w.grownBy w' v.ownBlock := by
  rcases h.2 with ⟨rfl, h0⟩ | ⟨g, cap, cur, rfl, hb, hh, h1, h2, h3, h4⟩
  · obtain rfl : zs = [] := List.eq_nil_of_length_eq_zero h0
    refine (Try.slices_Sort_int_none none 0 w).mono ?_
    rintro e w' ⟨rfl, rfl⟩
    exact ⟨rfl, by simpa [sortI, intsC] using World.ownsRow_nil _ _ _ _, rfl, rfl, rfl, Nat.le_refl _, fun _ _ _ => rfl⟩
  · refine (Try.slices_Sort_int g 0 cap zs w (holds_own hh (by simpa [intsC] using h4)) (Array.getElem?_eq_some_iff.1 hh).1 (by omega)).mono ?_
    rintro e w' ⟨rfl, n, os, rfl⟩
    exact ⟨rfl, own_put (by simp) hb hh h1 h2 h3, grownBy_put _⟩

theorem slV_cells {w : World} {A : Option Addr} {n c : Nat} {zs : List Int} (h : SlV w 1 (.slice A n c) n (intsC zs)) (h0 : n ≠ 0) : ∃ b off, A = some ⟨b, off, none⟩ ∧ b < w.heap.size ∧ ∀ j, j < zs.length → w.cell? ⟨b, off + j, none⟩ = some (.int .i64 (zs.getD j 0)) := by
  obtain ⟨a, cap, e, hs⟩ := h
  cases e
  rcases hs.mem with ⟨rfl, hc⟩ | ⟨b, off, rfl, hb, hcell⟩
  · have := hs.le; omega
  · exact ⟨b, off, rfl, hb, fun j hj => hcell j _ (by simp [intsC, hj, List.getD_eq_getElem?_getD])⟩

theorem slV_len {w : World} {v : Value} {n : Nat} {zs : List Int} (h : SlV w 1 v n (intsC zs)) : zs.length = n := by
  obtain ⟨a, cap, e, hs⟩ := h
  have := hs.len
  simpa [intsC] using this

theorem index_any {w : World} {v : Value} {n : Nat} {zs : List Int} (x : Int) (h : SlV w 1 v n (intsC zs)) (hn : n < 1000000) :
    Calls Try.prog 33 #[v, .int .i64 x] w fun e w' => e = .returned (.int .i64 (Lib.idxOf zs x)) ∧ w' = w := by
  have hl := slV_len h
  obtain ⟨A, c, rfl, hs⟩ := h
  by_cases h0 : n = 0
  · subst h0
    obtain rfl := List.eq_nil_of_length_eq_zero hl
    exact Try.slices_Index_int_empty A c x w
  · obtain ⟨b, off, rfl, -, hc⟩ := slV_cells ⟨A, c, rfl, hs⟩ h0
    have := Try.slices_Index_int b off n c zs x w (by omega) (by omega) hc
    rwa [List.take_of_length_le (by omega)] at this

theorem contains_any {w : World} {v : Value} {n : Nat} {zs : List Int} (x : Int) (h : SlV w 1 v n (intsC zs)) (hn : n < 1000000) :
    Calls Try.prog 11 #[v, .int .i64 x] w fun e w' => e = .returned (.bool (zs.contains x)) ∧ w' = w := by
  have hl := slV_len h
  obtain ⟨A, c, rfl, hs⟩ := h
  by_cases h0 : n = 0
  · subst h0
    obtain rfl := List.eq_nil_of_length_eq_zero hl
    exact Try.slices_Contains_int_empty A c x w
  · obtain ⟨b, off, rfl, -, hc⟩ := slV_cells ⟨A, c, rfl, hs⟩ h0
    have := Try.slices_Contains_int b off n c zs x w (by omega) (by omega) hc
    rwa [List.take_of_length_le (by omega)] at this

theorem clone_int {w : World} {v : Value} {n : Nat} {zs : List Int} (h : SlV w 1 v n (intsC zs)) (h0 : n ≠ 0) (hn : n < 1000000) :
    Calls Try.prog 44 #[v] w fun e w' => ∃ v', e = .returned v' ∧ w'.ownsRow w.heap.size 3 1 v' n (intsC zs) ∧ Below w.heap.size w w' := by
  have hl := slV_len h
  obtain ⟨A, c, rfl, hs⟩ := h
  obtain ⟨b, off, rfl, -, hc⟩ := slV_cells ⟨A, c, rfl, hs⟩ h0
  obtain ⟨i, q2, q3, q4, q5⟩ := info_parts (show (Try.prog.info? 3).map (fun i => (i.zero, i.size, i.bytes)) = some (some (.int .i64 0), 1, 8) by kernel_rfl)
  refine (Try.slices_Clone_f44 i (.int .i64 0) 1 8 q2 q3 q4 q5 rfl (by decide) (fun w => ?sz) b off n c (intsC zs) w (by simp [intsC, hl]) (by unfold maxLen; omega) (by omega) ?_ ?_).mono ?_
  case sz => go_simp
  · intro j u hu
    have hj : j < zs.length := by
      have := (List.getElem?_eq_some_iff.1 hu).1
      simpa [intsC] using this
    rw [hc j hj]
    simp [intsC, hj] at hu
    rw [← hu]
    simp [List.getD_eq_getElem?_getD, hj]
  · intro u hu
    simp [intsC] at hu
    obtain ⟨z, -, rfl⟩ := hu
    rfl
  · rintro e w' ⟨v', rfl, h1, -, h2⟩
    exact ⟨v', rfl, h1, h2⟩
end Go.Proofs.Ytfdlhlabkcmikaa
