/- loops.rings' visit. -/
import Derived.Test.YtfdlhlabkcmikaaVisit1
import Derived.Deep.QuietTactic
import Derived.BigQuiet
namespace Go.Proofs.Ytfdlhlabkcmikaa
open Go.RowKit Go.Shelf

/-- The arguments of visit: the instruction, and the eight variables. -/
def vArgs (B i : Nat) : Array Value := #[.int .i64 i, .pointer (some ⟨B + 6, 0, none⟩), .pointer (some ⟨B + 1, 0, none⟩), .pointer (some ⟨B + 2, 0, none⟩), .pointer (some ⟨B + 4, 0, none⟩), .pointer (some ⟨B + 3, 0, none⟩), .pointer (some ⟨B, 0, none⟩), .pointer (some ⟨B + 7, 0, none⟩), .pointer (some ⟨B + 5, 0, none⟩)]

theorem cell_back {W : World} {b c j o : Nat} {v u : Value} (h : (W.setCell ⟨b, o, none⟩ v).cell? ⟨c, j, none⟩ = some u) (hn : c ≠ b) : W.cell? ⟨c, j, none⟩ = some u := by
  rwa [World.cell?_setCell_other] at h
  intro e
  injection e with e1
  exact hn e1.symm
theorem frozen_back {W : World} {b c j o : Nat} {v : Value} (h : (W.setCell ⟨b, o, none⟩ v).frozen? ⟨c, j, none⟩ = false) : W.frozen? ⟨c, j, none⟩ = false := by
  rwa [World.frozen?_setCell] at h

set_option maxRecDepth 8000 in
set_option maxHeartbeats 1000000 in
theorem visit_any {w : World} {base Gb R : Nat} {pv rv : Value} {vs : List Value} {p : List Ins} (hG : GraphM w base Gb R pv rv vs p p.length) (hR : Right p) (hnx : ∀ (i : Nat) (r : List Int), (nextX p)[i]? = some r → ∀ k ∈ r, 0 ≤ k ∧ k < (p.length : Int)) :
    ∀ (f i : Nat) (s : TS) (W : World) (sv ov : Value) (rvs : List Value), TM w W Gb s sv ov rvs → TI p.length s → i < p.length → s.index[i]?.getD 0 = 0 → zeros s.index ≤ f →
      Calls Try.prog 43 (vArgs w.heap.size i) W fun e W' => e = .returned (.tuple #[]) ∧ ∃ sv' ov' rvs', TM w W' Gb (visit (nextX p) f i s) sv' ov' rvs' := by
  have hle := hR.le
  intro f
  induction f with
  | zero =>
    intro i s W sv ov rvs _ h hi h0 hz
    have := h.zero_at (by omega) h0
    have hp : 0 < zeros s.index := List.countP_pos_iff.2 ⟨0, List.mem_of_getElem? this, by simp⟩
    omega
  | succ f ih =>
    intro i s W sv ov rvs hM hI hi h0 hz
    obtain ⟨B, hB⟩ : ∃ B, w.heap.size = B := ⟨_, rfl⟩
    rw [hB]
    have hHB := Lib.hid hB
    have hi256 : (i : Int) < 256 := by omega
    have hi0 : (0 : Int) ≤ i := by omega
    have hn1 : 0 ≤ s.n := by have := hI.sn; omega
    have hn2 : s.n ≤ 256 := by have := hI.nz; omega
    have c6 := hM.num.cell
    have f6 := hM.num.frozen
    rw [hB] at c6 f6
    have HM := Lib.hid hM
    have HI := Lib.hid hI
    have IH := Lib.hid ih
    clear hM hI hB ih
    unfold vArgs
    go_enter Try.func43, Try.ntmps43
    go_wp2_with fail
    have hM1 := HM.out.setNum (s.n + 1)
    rw [hHB.out] at hM1
    obtain ⟨X1, hX1⟩ : ∃ X1, W.setCell ⟨B + 6, 0, none⟩ (.int .i64 (s.n + 1)) = X1 := ⟨_, rfl⟩
    rw [hX1] at hM1 ⊢
    have hil : i < s.index.length := by rw [HI.out.il]; omega
    have hll : i < s.low.length := by rw [HI.out.ll]; omega
    have hwl : i < s.within.length := by rw [HI.out.wl]; omega
    have c6' := hM1.num.cell
    have cI := hM1.index.cell (intsC_get (List.getElem?_eq_getElem hil))
    have fI := hM1.index.frozen i
    have cL := hM1.low.cell (intsC_get (List.getElem?_eq_getElem hll))
    have fL := hM1.low.frozen i
    rw [hHB.out] at c6' cI fI cL fL
    have HM1 := Lib.hid hM1
    clear hM1 hX1
    go_region_held3 (fun w' : World => w'.cell? ⟨B + 6, 0, none⟩ = some (.int .i64 (s.n + 1))) (simp [go_sem, *]) (fail)
    have hM2 : TM w ((X1.setCell ⟨B + 1, i, none⟩ (.int .i64 (s.n + 1))).setCell ⟨B + 2, i, none⟩ (.int .i64 (s.n + 1))).drew Gb { s with n := s.n + 1, index := s.index.set i (s.n + 1), low := s.low.set i (s.n + 1) } sv ov rvs := by
      have h1 := HM1.out.setIndex i (s.n + 1)
      have h2 := h1.setLow i (s.n + 1)
      rw [hHB.out] at h2
      exact h2.keep ((Keeps.refl _ _).drew)
    obtain ⟨X2, hX2⟩ : ∃ X2, ((X1.setCell ⟨B + 1, i, none⟩ (.int .i64 (s.n + 1))).setCell ⟨B + 2, i, none⟩ (.int .i64 (s.n + 1))).drew = X2 := ⟨_, rfl⟩
    rw [hX2] at hM2 ⊢
    clear hX2 c6' cI fI cL fL HM1
    have c4 := hM2.sbox.cell
    rw [hHB.out] at c4
    have HM2 := Lib.hid hM2
    have hseg := hM2.seg
    have hst : s.stack.length < 1000000 := by have := HI.out.sn; omega
    have hsz : w.heap.size + 8 ≤ X2.heap.size := by have := hM2.fn.lt; omega
    have Hseg := Lib.hid hseg
    clear hM2 hseg
    obtain ⟨ri, hri⟩ : ∃ r, vs[i]? = some r := ⟨_, List.getElem?_eq_getElem (by rw [hG.rows.len]; simp [nextUpto]; exact hi)⟩
    obtain ⟨li, hli, hown⟩ := hG.rows.at hri
    obtain ⟨rA, rc, rfl⟩ := seg_form (seg_of_own hown)
    have hGb : Gb < B := by have := hG.blk.lt; have := hHB.out; omega
    have hRb : R < B := by have := hG.row.lt; have := hHB.out; omega
    have n1 : ¬ Gb = B + 4 := by omega
    have n2 : ¬ Gb = B + 3 := by omega
    have n3 : ¬ R = B + 4 := by omega
    have n4 : ¬ R = B + 3 := by omega
    have hin : (i : Int) < p.length := by omega
    go_wp2_with (at_builtin; refine wpList_appSeg rfl _ _ 26 rfl elT_int (w.heap.size + 8) sv s.stack.length _ rfl Hseg.out #[.int .i64 i] rfl rfl (by simp [Value.oneCell']) hst hsz ?_; intro g5 off5 cap5 w5 hs5 hg5 hat5 hlt5; obtain ⟨hb5, hM5⟩ := HM2.out.push hs5 hg5 hat5; have HM5 := Lib.hid hM5; have c45 := hb5.cell; have f45 := hb5.frozen; have l45 := hb5.lt; have hk5 := HM5.out.keeps; have cg5 := cell_back HM5.out.g.cell (by omega); have cw5 := cell_back (HM5.out.within.cell (boolsC_get (List.getElem?_eq_getElem hwl))) (by omega); have fw5 := frozen_back (HM5.out.within.frozen i); have cG5 := cell_back (hk5.cell (hG.blk.cell (j := 2) rfl) hG.blk.lt) (Nat.ne_of_lt (Nat.lt_of_lt_of_le hG.blk.lt (Nat.le_add_right _ _))); have cR5 := cell_back (hk5.cell (hG.row.cell hri) hG.row.lt) (Nat.ne_of_lt (Nat.lt_of_lt_of_le hG.row.lt (Nat.le_add_right _ _))); rw [hHB.out] at c45 f45 l45 cg5 cw5 fw5; clear hM5 hb5 hs5 hg5 hat5 hk5)
    have hM6 : TM w ((w5.setCell ⟨B + 4, 0, none⟩ (.slice (some ⟨g5, off5, none⟩) (s.stack.length + 1) cap5)).setCell ⟨B + 3, i, none⟩ (.bool true)) Gb (s.enter i) (.slice (some ⟨g5, off5, none⟩) (s.stack.length + 1) cap5) ov rvs := by
      have h1 := HM5.out.setWithin i true
      rw [hHB.out] at h1
      exact h1
    obtain ⟨X6, hX6⟩ : ∃ X6, (w5.setCell ⟨B + 4, 0, none⟩ (.slice (some ⟨g5, off5, none⟩) (s.stack.length + 1) cap5)).setCell ⟨B + 3, i, none⟩ (.bool true) = X6 := ⟨_, rfl⟩
    rw [hX6] at hM6 ⊢
    have hnext : (nextX p)[i]? = some li := by rw [← nextUpto_all]; exact hli
    have HM6 := Lib.hid hM6
    have Hown := Lib.hid hown
    clear hX6 HM5 hM6 c45 f45 l45 cg5 cw5 fw5 cG5 cR5 hown
    obtain ⟨e1, e2, e3, e4, e5⟩ := HI.out.enter hle hi h0
    have hV := visit_ok hle hnx f
    have hli3 : li.length < 1000000 := by
      have e : nextAt p i = li := by simpa [nextX, hi] using hnext
      rw [← e]
      unfold nextAt
      split
      · split
        · rename_i x _
          have := edgesX_len x i
          omega
        · simp
      · simp
    go_loopw [38] (fun t W' => ∃ (k : Nat) (sv' ov' : Value) (rvs' : List Value), k ≤ li.length ∧ t = .int .i64 k ∧ TM w W' Gb ((li.take k).foldl (vstep (nextX p) f i) (s.enter i)) sv' ov' rvs') (fun t _ => li.length - (intOf t).toNat)
    case atStart => exact ⟨0, _, _, _, Nat.zero_le _, rfl, HM6.out⟩
    case round =>
      obtain ⟨k, sv', ov', rvs', hk, rfl, hM⟩ := hrel
      obtain ⟨l1, l2⟩ := vsteps_ok (i := i) hV (li.take k) e1 (by omega) (fun k' hk' => hnx i li hnext k' (List.mem_of_mem_take hk'))
      by_cases hlt : k < li.length
      · obtain ⟨y, hy⟩ : ∃ y, li[k]? = some y := ⟨_, List.getElem?_eq_getElem hlt⟩
        obtain ⟨y1, y2⟩ := hnx i li hnext y (List.mem_of_getElem? hy)
        obtain ⟨yk, rfl⟩ : ∃ yk : Nat, y = yk := ⟨y.toNat, by omega⟩
        have hy256 : (yk : Int) < 256 := by omega
        have htk : (li.take (k + 1)).foldl (vstep (nextX p) f i) (s.enter i) = vstep (nextX p) f i ((li.take k).foldl (vstep (nextX p) f i) (s.enter i)) yk := by
          rw [List.take_add_one, hy, List.foldl_append]; rfl
        have hzt := l2.zeros
        obtain ⟨t, ht⟩ : ∃ t, (li.take k).foldl (vstep (nextX p) f i) (s.enter i) = t := ⟨_, rfl⟩
        rw [ht] at htk hM l1 l2 hzt
        have htz : zeros t.index ≤ f := by omega
        obtain ⟨b', o', rfl, hbl, hcy⟩ : ∃ b' o', rA = some ⟨b', o', none⟩ ∧ b' < w.heap.size ∧ w.cell? ⟨b', o' + k, none⟩ = some (.int .i64 yk) := by
          obtain ⟨a', c', e', hs⟩ := slV_of_own Hown.out
          cases e'
          have hg : (li.flatMap cellsI)[k]? = some (.int .i64 yk) := by
            have := flat_get cellsI 1 (fun _ => rfl) li k _ hy 0 (by decide)
            simpa [cellsI] using this
          obtain ⟨b', o', e2, hb', hc2⟩ := hs.one hg
          exact ⟨b', o', e2, hb', hc2⟩
        have hcy' := hM.keeps.cell hcy hbl
        have hyl : yk < t.index.length := by rw [l1.il]; omega
        have hyl2 : yk < t.low.length := by rw [l1.ll]; omega
        have hyl3 : yk < t.within.length := by rw [l1.wl]; omega
        have hil2 : i < t.low.length := by rw [l1.ll]; omega
        have ci := hM.index.cell (intsC_get (List.getElem?_eq_getElem hyl))
        have cw := hM.within.cell (boolsC_get (List.getElem?_eq_getElem hyl3))
        have cf := hM.fn.cell
        rw [hHB.out] at ci cw cf
        have HM7 := Lib.hid hM
        have Ht := Lib.hid ht
        have Htk := Lib.hid htk
        have Hl1 := Lib.hid l1
        have Hl2 := Lib.hid l2
        clear hM ht htk l1 l2 hcy
        by_cases hz0 : t.index[yk] = 0
        · rw [hz0] at ci
          have hv := IH.out yk t wr sv' ov' rvs' HM7.out Hl1.out (by omega) (by simp [hyl, hz0]) htz
          rw [hHB.out] at hv
          unfold vArgs at hv
          go_wp2_with fail
          refine hv.mono ?_
          rintro e w8 ⟨rfl, sv8, ov8, rvs8, hM8⟩
          obtain ⟨x1, x2, x3⟩ := hV yk t Hl1.out (by omega) (by simp [hyl, hz0]) htz
          obtain ⟨t8, ht8⟩ : ∃ t8, visit (nextX p) f yk t = t8 := ⟨_, rfl⟩
          rw [ht8] at hM8 x1
          have hi8 : i < t8.low.length := by rw [x1.ll]; omega
          have hy8 : yk < t8.low.length := by rw [x1.ll]; omega
          have cl := hM8.low.cell (intsC_get (List.getElem?_eq_getElem hi8))
          have cy := hM8.low.cell (intsC_get (List.getElem?_eq_getElem hy8))
          rw [hHB.out] at cl cy
          have HM8 := Lib.hid hM8
          have Ht8 := Lib.hid ht8
          clear hM8 x2 x3 hv ht8
          go_wp2_with fail
          refine held_plain (m := 9) (S := fun b w' => b = false → (w'.cell? ⟨B + 2, i, none⟩ = some (.int .i64 t8.low[i]) ∧ w'.cell? ⟨B + 2, yk, none⟩ = some (.int .i64 t8.low[yk]))) (by kernel_rfl) ?_
          have hS : false = false → (w8.drew.cell? ⟨B + 2, i, none⟩ = some (.int .i64 t8.low[i]) ∧ w8.drew.cell? ⟨B + 2, yk, none⟩ = some (.int .i64 t8.low[yk])) := fun _ => ⟨cl, cy⟩
          refine held_take (i := 0) (oi := _) (v := ?av0) (some 50) rfl rfl (by kernel_rfl) rfl (fun _ _ _ h => h) hS ?ay0 ?ar0
          case ay0 => (rintro w' s1; (try have s1 := s1 rfl); (try obtain ⟨s1, s2⟩ := s1); go_simp; with_reducible rfl)
          simp only [Act.put, List.setIfInBounds_toArray, List.set_cons_zero, List.set_cons_succ]
          refine held_take (i := 1) (oi := _) (v := ?av1) (some 51) rfl rfl (by kernel_rfl) rfl (fun _ _ _ h => h) hS ?ay1 ?ar1
          case ay1 => (rintro w' s1; (try have s1 := s1 rfl); (try obtain ⟨s1, s2⟩ := s1); go_simp; with_reducible rfl)
          simp only [Act.put, List.setIfInBounds_toArray, List.set_cons_zero, List.set_cons_succ]
          refine held_take (i := 2) (oi := _) (v := ?av2) (some 52) rfl rfl (by kernel_rfl) rfl (fun _ _ _ h => h) hS ?ay2 ?ar2
          case ay2 => (rintro w' s1; (try have s1 := s1 rfl); (try obtain ⟨s1, s2⟩ := s1); go_simp; with_reducible rfl)
          simp only [Act.put, List.setIfInBounds_toArray, List.set_cons_zero, List.set_cons_succ]
          refine held_take (i := 3) (oi := _) (v := ?av3) (some 53) rfl rfl (by kernel_rfl) rfl (fun _ _ _ h => h) hS ?ay3 ?ar3
          case ay3 => (rintro w' s1; (try have s1 := s1 rfl); (try obtain ⟨s1, s2⟩ := s1); go_simp; with_reducible rfl)
          simp only [Act.put, List.setIfInBounds_toArray, List.set_cons_zero, List.set_cons_succ]
          refine held_take (i := 4) (oi := _) (v := ?av4) (some 54) rfl rfl (by kernel_rfl) rfl (fun _ _ _ h => h) hS ?ay4 ?ar4
          case ay4 => (rintro w' s1; (try have s1 := s1 rfl); (try obtain ⟨s1, s2⟩ := s1); go_simp; with_reducible rfl)
          simp only [Act.put, List.setIfInBounds_toArray, List.set_cons_zero, List.set_cons_succ]
          refine held_take (i := 5) (oi := _) (v := ?av5) (some 55) rfl rfl (by kernel_rfl) rfl (fun _ _ _ h => h) hS ?ay5 ?ar5
          case ay5 => (rintro w' s1; (try have s1 := s1 rfl); (try obtain ⟨s1, s2⟩ := s1); go_simp; with_reducible rfl)
          simp only [Act.put, List.setIfInBounds_toArray, List.set_cons_zero, List.set_cons_succ]
          refine held_take (i := 6) (oi := _) (v := ?av6) (some 56) rfl rfl (by kernel_rfl) rfl (fun _ _ _ h => h) hS ?ay6 ?ar6
          case ay6 => (rintro w' s1; (try have s1 := s1 rfl); (try obtain ⟨s1, s2⟩ := s1); go_simp; with_reducible rfl)
          simp only [Act.put, List.setIfInBounds_toArray, List.set_cons_zero, List.set_cons_succ]
          refine held_take (i := 7) (oi := _) (v := ?av7) (some 57) rfl rfl (by kernel_rfl) rfl (fun _ _ _ h => h) hS ?ay7 ?ar7
          case ay7 => (rintro w' s1; (try have s1 := s1 rfl); (try obtain ⟨s1, s2⟩ := s1); go_simp; with_reducible rfl)
          simp only [Act.put, List.setIfInBounds_toArray, List.set_cons_zero, List.set_cons_succ]
          refine held_take (i := 8) (oi := _) (v := ?av8) (some 58) rfl rfl (by kernel_rfl) rfl (fun _ _ _ h => h) hS ?ay8 ?ar8
          case ay8 => (rintro w' s1; (try have s1 := s1 rfl); (try obtain ⟨s1, s2⟩ := s1); go_simp; with_reducible rfl)
          simp only [Act.put, List.setIfInBounds_toArray, List.set_cons_zero, List.set_cons_succ]
          have hM9 : TM w (w8.drew.setCell ⟨B + 2, i, none⟩ (.int .i64 (min t8.low[i] t8.low[yk]))) Gb (t8.lower i t8.low[yk]) sv8 ov8 rvs8 := by
            have h1 := (HM8.out.keep ((Keeps.refl _ w8).drew)).setLow i (min t8.low[i] t8.low[yk])
            rw [hHB.out] at h1
            have e : t8.lower i t8.low[yk] = { t8 with low := t8.low.set i (min t8.low[i] t8.low[yk]) } := by unfold TS.lower; rw [List.getElem?_eq_getElem hi8]; rfl
            rw [e]; exact h1
          have HM9 := Lib.hid hM9
          clear hM9
          refine held_step (i := 9) (oi := _) rfl (by kernel_rfl) rfl (wp_skip (w' := w8.drew.setCell ⟨B + 2, i, none⟩ (.int .i64 (min t8.low[i] t8.low[yk]))) rfl ?ab9 ⟨fun h => absurd h (by decide), held_done (by kernel_rfl) ?_⟩)
          case ab9 =>
            have hc : w8.drew.cell? ⟨B + 2, i, none⟩ = _ := cl
            have hf : w8.drew.frozen? ⟨B + 2, i, none⟩ = false := by have := HM8.out.low.frozen i; rw [hHB.out] at this; exact this
            go_simp
          obtain ⟨X8, hX8⟩ : ∃ X8, w8.drew.setCell ⟨B + 2, i, none⟩ (.int .i64 (min t8.low[i] t8.low[yk])) = X8 := ⟨_, rfl⟩
          rw [hX8] at HM9 ⊢
          go_wp2_with fail
          go_roundw
          case rel =>
            refine ⟨k + 1, sv8, ov8, rvs8, by omega, by go_num, ?_⟩
            rw [Htk.out]
            have h1 : t.index[((yk : Nat) : Int).toNat]?.getD 0 = 0 := by simp [hyl, hz0]
            unfold vstep
            rw [if_pos h1, Int.toNat_natCast, Ht8.out]
            have h3 : t8.low[yk]?.getD 0 = t8.low[yk] := by simp [hy8]
            rw [h3]
            exact HM9.out
          case measure => simp [intOf]; omega
        · by_cases hwi : t.within[yk] = true
          · rw [hwi] at cw
            have cl := HM7.out.low.cell (intsC_get (List.getElem?_eq_getElem hil2))
            rw [hHB.out] at cl
            go_wp2_with fail
            refine held_plain (m := 9) (S := fun b w' => b = false → (w'.cell? ⟨B + 2, i, none⟩ = some (.int .i64 t.low[i]) ∧ w'.cell? ⟨B + 1, yk, none⟩ = some (.int .i64 t.index[yk]))) (by kernel_rfl) ?_
            have hS : false = false → (wr.drew.cell? ⟨B + 2, i, none⟩ = some (.int .i64 t.low[i]) ∧ wr.drew.cell? ⟨B + 1, yk, none⟩ = some (.int .i64 t.index[yk])) := fun _ => ⟨cl, ci⟩
            refine held_take (i := 0) (oi := _) (v := ?v0) (some 63) rfl rfl (by kernel_rfl) rfl (fun _ _ _ h => h) hS ?y0 ?r0
            case y0 => (rintro w' s1; (try have s1 := s1 rfl); (try obtain ⟨s1, s2⟩ := s1); go_simp; with_reducible rfl)
            simp only [Act.put, List.setIfInBounds_toArray, List.set_cons_zero, List.set_cons_succ]
            refine held_take (i := 1) (oi := _) (v := ?v1) (some 64) rfl rfl (by kernel_rfl) rfl (fun _ _ _ h => h) hS ?y1 ?r1
            case y1 => (rintro w' s1; (try have s1 := s1 rfl); (try obtain ⟨s1, s2⟩ := s1); go_simp; with_reducible rfl)
            simp only [Act.put, List.setIfInBounds_toArray, List.set_cons_zero, List.set_cons_succ]
            refine held_take (i := 2) (oi := _) (v := ?v2) (some 65) rfl rfl (by kernel_rfl) rfl (fun _ _ _ h => h) hS ?y2 ?r2
            case y2 => (rintro w' s1; (try have s1 := s1 rfl); (try obtain ⟨s1, s2⟩ := s1); go_simp; with_reducible rfl)
            simp only [Act.put, List.setIfInBounds_toArray, List.set_cons_zero, List.set_cons_succ]
            refine held_take (i := 3) (oi := _) (v := ?v3) (some 66) rfl rfl (by kernel_rfl) rfl (fun _ _ _ h => h) hS ?y3 ?r3
            case y3 => (rintro w' s1; (try have s1 := s1 rfl); (try obtain ⟨s1, s2⟩ := s1); go_simp; with_reducible rfl)
            simp only [Act.put, List.setIfInBounds_toArray, List.set_cons_zero, List.set_cons_succ]
            refine held_take (i := 4) (oi := _) (v := ?v4) (some 67) rfl rfl (by kernel_rfl) rfl (fun _ _ _ h => h) hS ?y4 ?r4
            case y4 => (rintro w' s1; (try have s1 := s1 rfl); (try obtain ⟨s1, s2⟩ := s1); go_simp; with_reducible rfl)
            simp only [Act.put, List.setIfInBounds_toArray, List.set_cons_zero, List.set_cons_succ]
            refine held_take (i := 5) (oi := _) (v := ?v5) (some 68) rfl rfl (by kernel_rfl) rfl (fun _ _ _ h => h) hS ?y5 ?r5
            case y5 => (rintro w' s1; (try have s1 := s1 rfl); (try obtain ⟨s1, s2⟩ := s1); go_simp; with_reducible rfl)
            simp only [Act.put, List.setIfInBounds_toArray, List.set_cons_zero, List.set_cons_succ]
            refine held_take (i := 6) (oi := _) (v := ?v6) (some 69) rfl rfl (by kernel_rfl) rfl (fun _ _ _ h => h) hS ?y6 ?r6
            case y6 => (rintro w' s1; (try have s1 := s1 rfl); (try obtain ⟨s1, s2⟩ := s1); go_simp; with_reducible rfl)
            simp only [Act.put, List.setIfInBounds_toArray, List.set_cons_zero, List.set_cons_succ]
            refine held_take (i := 7) (oi := _) (v := ?v7) (some 70) rfl rfl (by kernel_rfl) rfl (fun _ _ _ h => h) hS ?y7 ?r7
            case y7 => (rintro w' s1; go_simp; with_reducible rfl)
            simp only [Act.put, List.setIfInBounds_toArray, List.set_cons_zero, List.set_cons_succ]
            refine held_take (i := 8) (oi := _) (v := ?v8) (some 71) rfl rfl (by kernel_rfl) rfl (fun _ _ _ h => h) hS ?y8 ?r8
            case y8 => (rintro w' s1; go_simp; with_reducible rfl)
            simp only [Act.put, List.setIfInBounds_toArray, List.set_cons_zero, List.set_cons_succ]
            have hM8 : TM w (wr.drew.setCell ⟨B + 2, i, none⟩ (.int .i64 (min t.low[i] t.index[yk]))) Gb (t.lower i t.index[yk]) sv' ov' rvs' := by
              have h1 := (HM7.out.keep ((Keeps.refl _ wr).drew)).setLow i (min t.low[i] t.index[yk])
              rw [hHB.out] at h1
              have e : t.lower i t.index[yk] = { t with low := t.low.set i (min t.low[i] t.index[yk]) } := by unfold TS.lower; rw [List.getElem?_eq_getElem hil2]; rfl
              rw [e]; exact h1
            have HM8 := Lib.hid hM8
            clear hM8
            refine held_step (i := 9) (oi := _) rfl (by kernel_rfl) rfl (wp_skip (w' := wr.drew.setCell ⟨B + 2, i, none⟩ (.int .i64 (min t.low[i] t.index[yk]))) rfl ?b9 ⟨fun h => absurd h (by decide), held_done (by kernel_rfl) ?_⟩)
            case b9 =>
              have hc : wr.drew.cell? ⟨B + 2, i, none⟩ = _ := cl
              have hf : wr.drew.frozen? ⟨B + 2, i, none⟩ = false := by have := HM7.out.low.frozen i; rw [hHB.out] at this; exact this
              go_simp
            obtain ⟨X8, hX8⟩ : ∃ X8, wr.drew.setCell ⟨B + 2, i, none⟩ (.int .i64 (min t.low[i] t.index[yk])) = X8 := ⟨_, rfl⟩
            rw [hX8] at HM8 ⊢
            go_wp2_with fail
            go_roundw
            case rel =>
              refine ⟨k + 1, sv', ov', rvs', by omega, by go_num, ?_⟩
              rw [Htk.out]
              have h1 : t.index[((yk : Nat) : Int).toNat]?.getD 0 ≠ 0 := by simp [hyl]; exact hz0
              have h2 : t.within[((yk : Nat) : Int).toNat]?.getD false = true := by simp [hyl3, hwi]
              have h3 : t.index[((yk : Nat) : Int).toNat]?.getD 0 = t.index[yk] := by simp [hyl]
              unfold vstep
              rw [if_neg h1, if_pos h2, h3]
              exact HM8.out
            case measure => simp [intOf]; omega
          · have hwi' : t.within[yk] = false := by simpa using hwi
            rw [hwi'] at cw
            go_wp2_with fail
            go_roundw
            case rel =>
              refine ⟨k + 1, sv', ov', rvs', by omega, by go_num, ?_⟩
              rw [Htk.out]
              have h1 : t.index[((yk : Nat) : Int).toNat]?.getD 0 ≠ 0 := by simp [hyl]; exact hz0
              have h2 : t.within[((yk : Nat) : Int).toNat]?.getD false = false := by simp [hyl3, hwi']
              unfold vstep
              rw [if_neg h1, if_neg (by rw [h2]; decide)]
              exact HM7.out
            case measure => simp [intOf]; omega
      · have hk' : k = li.length := by omega
        subst hk'
        rw [List.take_length] at hM l1 l2
        obtain ⟨z1, z2, z3, z4, z5, z6, z7⟩ := TI.closing (next := nextX p) hle hi HI.out h0 l1 l2
        have hfin : visit (nextX p) (f + 1) i s = TS.close (nextX p) (li.foldl (vstep (nextX p) f i) (s.enter i)) i := by rw [visit_succ, hnext]; rfl
        have hpre := l2.stack
        obtain ⟨t, ht⟩ : ∃ t, li.foldl (vstep (nextX p) f i) (s.enter i) = t := ⟨_, rfl⟩
        rw [ht] at hM l1 l2 hfin z5 z6 z7 hpre
        have hil2 : i < t.index.length := by rw [l1.il]; omega
        have hll2 : i < t.low.length := by rw [l1.ll]; omega
        have cl := hM.low.cell (intsC_get (List.getElem?_eq_getElem hll2))
        have ci := hM.index.cell (intsC_get (List.getElem?_eq_getElem hil2))
        have cs := hM.sbox.cell
        rw [hHB.out] at cl ci cs
        have Hfin := Lib.hid hfin
        have HM7 := Lib.hid hM
        have Hl1 := Lib.hid l1
        have Z5 := Lib.hid z5
        have Z7 := Lib.hid z7
        have Hpre := Lib.hid hpre
        clear hfin hM l1 l2 z1 z2 z3 z4 z5 z7 ht hpre
        by_cases heq : t.low[i] = t.index[i]
        · have hne : (t.low[i] != t.index[i]) = false := by simp [heq]
          have Heq := Lib.hid heq
          clear heq
          go_upto_region 12 with (fail)
          go_quiet (fail)
          obtain ⟨X7, hX7⟩ : ∃ X7, wr.drewN nq = X7 := ⟨_, rfl⟩
          have hM7 := HM7.out.keep (Keeps.drewN (fun b => b < wr.heap.size) wr nq)
          rw [hX7] at hM7 ⊢
          have hlen : s.stack.length < t.stack.length := by
            rcases Nat.lt_or_ge s.stack.length t.stack.length with h | h
            · exact h
            · exact absurd (List.drop_eq_nil_of_le h) z6
          have hidx : Lib.idxOf t.stack i = s.stack.length := by
            have hp : s.stack ++ [(i : Int)] <+: t.stack := Hpre.out
            obtain ⟨r, hr⟩ := hp
            refine idxOf_stack ⟨[(i : Int)] ++ r, by rw [← List.append_assoc]; exact hr⟩ hlen ?_ e5
            rw [← hr]
            simp
          have hstn : t.stack.length < 1000000 := by have h1 := Hl1.out.sn; have h2 := Hl1.out.nz; omega
          obtain ⟨A, c, rfl⟩ := seg_form hM7.seg
          have hsl := hM7.seg.slV
          have hI := index_any (i : Int) hsl hstn
          rw [hidx] at hI
          obtain ⟨sb, so, rfl, hmc, hnc, hdr⟩ := slV_drop hsl hlen
          have cs7 := hM7.sbox.cell
          rw [hHB.out] at cs7
          have HM7 := Lib.hid hM7
          have HI7 := Lib.hid hI
          have Hidx := Lib.hid hidx
          have Hdr := Lib.hid hdr
          clear hX7 cl ci cs hM7 hI hidx hdr hsl z6 hne
          go_wp2_with fail
          refine HI7.out.mono ?_
          rintro e w8 ⟨rfl, rfl⟩
          go_wp2_with fail
          obtain ⟨ring, hring⟩ : ∃ r, t.stack.drop s.stack.length = r := ⟨_, rfl⟩
          have hlr : ring.length = t.stack.length - s.stack.length := by rw [← hring]; simp
          have hcl := clone_int Hdr.out (by omega) (by omega)
          rw [hring] at hcl
          have Hring := Lib.hid hring
          have Hlr := Lib.hid hlr
          clear hring hlr Hdr HI7
          refine hcl.mono ?_
          rintro e w9 ⟨rv, rfl, hown9, hb9⟩
          rw [← Hlr.out] at hown9
          have hrl : 0 < ring.length := by rw [Hlr.out]; omega
          obtain ⟨rg, rcap, rfl, hrg, hrg2⟩ := hown9.form hrl
          have hM9 := HM7.out.keep (Keeps.of_below hb9)
          have cs9 := hM9.sbox.cell
          have fs9 := hM9.sbox.frozen
          have hrn : ring.length < 1000000 := by rw [Hlr.out]; omega
          have hM10 := hM9.cut rfl (Nat.le_of_lt hlen)
          rw [hHB.out] at cs9 fs9 hM10
          have hown10 := own_keeps hown9 (Keeps.setCell (p := fun b => b ≠ B + 4) w9 ⟨B + 4, 0, none⟩ (.slice (some ⟨sb, so, none⟩) s.stack.length c) (fun h => h rfl)) (fun b hb => by have h1 := (hown9.lt b hb).1; have h2 := HM7.out.fn.lt; have h3 := hHB.out; omega)
          have HM9 := Lib.hid hM9
          have HM10 := Lib.hid hM10
          have Hown10 := Lib.hid hown10
          clear cs7 hcl hM9 hM10 hown9 hown10 hb9
          go_wp2_with fail
          go_loopw [92] (fun j W' => ∃ k : Nat, k ≤ ring.length ∧ j = .int .i64 k ∧ TM w W' Gb { t with stack := t.stack.take s.stack.length, within := unmark t.within (ring.take k) } (.slice (some ⟨sb, so, none⟩) s.stack.length c) ov' rvs' ∧ W'.ownsRow w8.heap.size 3 1 (.slice (some ⟨rg, 0, none⟩) ring.length rcap) ring.length (intsC ring)) (fun j _ => ring.length - (intOf j).toNat)
          case atStart => exact ⟨0, Nat.zero_le _, rfl, HM10.out, Hown10.out⟩
          case round =>
            obtain ⟨k, hk, rfl, hM, hown⟩ := hrel
            by_cases hlt : k < ring.length
            · obtain ⟨y, hy⟩ : ∃ y, ring[k]? = some y := ⟨_, List.getElem?_eq_getElem hlt⟩
              have hym : y ∈ t.stack := by
                have := List.mem_of_getElem? hy
                rw [← Hring.out] at this
                exact List.mem_of_mem_drop this
              obtain ⟨y1, y2, -⟩ := Hl1.out.st y hym
              obtain ⟨yk, rfl⟩ : ∃ yk : Nat, y = yk := ⟨y.toNat, by omega⟩
              have hy256 : (yk : Int) < 256 := by omega
              have hcy : wr.cell? ⟨rg, k, none⟩ = some (.int .i64 yk) := by
                obtain ⟨a', c', e', hs⟩ := slV_of_own hown
                cases e'
                obtain ⟨b', o', e2, -, hc2⟩ := hs.one (intsC_get hy)
                cases e2
                simpa using hc2
              have hyl : yk < (unmark t.within (ring.take k)).length := by rw [unmark_len, Hl1.out.wl]; omega
              have cw := hM.within.cell (boolsC_get (List.getElem?_eq_getElem hyl))
              have fw := hM.within.frozen yk
              have hM2 := hM.setWithin yk false
              have hown2 := ring_keeps (c := 3) (by have := HM7.out.fn.lt; omega) hown (by decide) (Keeps.setCell wr ⟨w.heap.size + 3, yk, none⟩ (.bool false) (fun h => h rfl))
              have hun := unmark_take (wi := t.within) hy
              rw [hHB.out] at cw fw hM2 hown2
              have HM2 := Lib.hid hM2
              have Hown2 := Lib.hid hown2
              have Hun := Lib.hid hun
              clear hM hown hM2 hown2 hun hy
              go_wp2_with fail
              go_roundw
              case rel =>
                refine ⟨k + 1, by omega, by go_num, ?_, Hown2.out⟩
                rw [Hun.out]
                exact HM2.out
              case measure => simp [intOf]; omega
            · have hk' : k = ring.length := by omega
              subst hk'
              rw [List.take_length] at hM
              have hcl : TS.close (nextX p) t i = { t with stack := t.stack.take s.stack.length, within := unmark t.within ring, out := if 1 < ring.length ∨ li.contains (i : Int) = true then t.out ++ [sortI ring] else t.out } := by
                unfold TS.close
                rw [Z5.out, if_pos (by simpa [hil2, hll2] using Heq.out), Hring.out, hnext]
                rfl
              rw [hcl] at Hfin
              have hon : t.out.length < 1000000 := by have h1 := Hl1.out.on; have h2 := Hl1.out.nz; omega
              have cg := hM.g.cell
              have cG := hM.keeps.cell (hG.blk.cell (j := 2) rfl) hG.blk.lt
              have cR := hM.keeps.cell (hG.row.cell hri) hG.row.lt
              have cob := hM.obox.cell
              have fob := hM.obox.frozen
              rw [hHB.out] at cg cob fob
              have HM := Lib.hid hM
              have HownR := Lib.hid hown
              clear hM hown hcl
              by_cases hr1 : 1 < ring.length
              · have htell : 1 < ring.length ∨ li.contains (i : Int) = true := .inl hr1
                go_wp2_with fail
                refine (sort_own HownR.out hrn).mono ?_
                rintro e w11 ⟨rfl, hs11, hg11⟩
                have hk11 : Keeps (fun b => b < w8.heap.size) wr w11 := Keeps.grown hg11 (fun b hb => by cases hb; exact Nat.not_lt.2 hrg)
                have hM11 := TM.beside HM7.out HM.out (fun b hb => (HM7.out.seg.own_lt b hb).2) hk11
                have cob := hM11.obox.cell
                have hon : t.out.length < 1000000 := by have h1 := Hl1.out.on; have h2 := Hl1.out.nz; omega
                have hsz11 : w.heap.size + 8 ≤ w11.heap.size := by have := hM11.fn.lt; omega
                have hro : w11.ownsRow (w.heap.size + 8) 3 1 (.slice (some ⟨rg, 0, none⟩) ring.length rcap) (sortI ring).length ((sortI ring).flatMap cellsI) := by
                  rw [sortI_len, intsC_flat]
                  exact own_base hs11 (by have := HM7.out.fn.lt; omega)
                have horow := hM11.orow
                rw [hHB.out] at cob
                have HM11 := Lib.hid hM11
                have Hro := Lib.hid hro
                have Horow := Lib.hid horow
                clear hM11 hs11 hg11 hk11 hro horow cg cG cR cs9 fs9
                go_wp2_with (at_builtin; refine wpList_app1 rfl _ _ 30 rfl elT_rows (w.heap.size + 8) ov' t.out.length _ rfl Horow.out #[.slice (some ⟨rg, 0, none⟩) ring.length rcap] rfl rfl (by simp [Value.oneCell']) hon hsz11 ?_; intro g12 cap12 w12 hs12 hg12 hat12 hlt12; obtain ⟨hb12, hM12⟩ := HM11.out.told Hro.out (fun b hb e => by cases hb; exact absurd (HM7.out.seg.own_lt _ e).2 (Nat.not_lt.2 hrg)) hs12 hg12 hat12; have HM12 := Lib.hid hM12; have c12 := hb12.cell; have f12 := hb12.frozen; rw [hHB.out] at c12 f12; clear hM12 hb12 hs12 hg12 hat12)
                first | (refine bodyPost_end (results_none rfl _ _ _) rfl ?_) | (refine bodyPost_ret (results_none rfl _ _ _) rfl ?_)
                refine ⟨rfl, .slice (some ⟨sb, so, none⟩) s.stack.length c, .slice (some ⟨g12, 0, none⟩) (t.out.length + 1) cap12, rvs' ++ [.slice (some ⟨rg, 0, none⟩) ring.length rcap], ?_⟩
                rw [Hfin.out, if_pos htell]
                have hM12 := HM12.out
                rw [hHB.out] at hM12
                exact hM12
              · have hrow := (slV_of_own Hown.out).keeps HM.out.keeps (fun b off m cap e hb => hb)
                rw [show li.flatMap cellsI = intsC li from intsC_flat li] at hrow
                have hco := contains_any (i : Int) hrow hli3
                have hr2 : ring.length = 1 := by omega
                by_cases hct : li.contains (i : Int) = true
                · have htell : 1 < ring.length ∨ li.contains (i : Int) = true := .inr hct
                  rw [hct] at hco
                  have Hco := Lib.hid hco
                  have Htell := Lib.hid htell
                  clear hco hrow hct hr2 htell
                  go_wp2_with fail
                  refine Hco.out.mono ?_
                  rintro e w13 ⟨rfl, rfl⟩
                  have htell := Htell.out
                  go_wp2_with fail
                  refine (sort_own HownR.out hrn).mono ?_
                  rintro e w11 ⟨rfl, hs11, hg11⟩
                  have hk11 : Keeps (fun b => b < w8.heap.size) w13 w11 := Keeps.grown hg11 (fun b hb => by cases hb; exact Nat.not_lt.2 hrg)
                  have hM11 := TM.beside HM7.out HM.out (fun b hb => (HM7.out.seg.own_lt b hb).2) hk11
                  have cob := hM11.obox.cell
                  have hon : t.out.length < 1000000 := by have h1 := Hl1.out.on; have h2 := Hl1.out.nz; omega
                  have hsz11 : w.heap.size + 8 ≤ w11.heap.size := by have := hM11.fn.lt; omega
                  have hro : w11.ownsRow (w.heap.size + 8) 3 1 (.slice (some ⟨rg, 0, none⟩) ring.length rcap) (sortI ring).length ((sortI ring).flatMap cellsI) := by
                    rw [sortI_len, intsC_flat]
                    exact own_base hs11 (by have := HM7.out.fn.lt; omega)
                  have horow := hM11.orow
                  rw [hHB.out] at cob
                  have HM11 := Lib.hid hM11
                  have Hro := Lib.hid hro
                  have Horow := Lib.hid horow
                  clear hM11 hs11 hg11 hk11 hro horow cg cG cR cs9 fs9
                  go_wp2_with (at_builtin; refine wpList_app1 rfl _ _ 30 rfl elT_rows (w.heap.size + 8) ov' t.out.length _ rfl Horow.out #[.slice (some ⟨rg, 0, none⟩) ring.length rcap] rfl rfl (by simp [Value.oneCell']) hon hsz11 ?_; intro g12 cap12 w12 hs12 hg12 hat12 hlt12; obtain ⟨hb12, hM12⟩ := HM11.out.told Hro.out (fun b hb e => by cases hb; exact absurd (HM7.out.seg.own_lt _ e).2 (Nat.not_lt.2 hrg)) hs12 hg12 hat12; have HM12 := Lib.hid hM12; have c12 := hb12.cell; have f12 := hb12.frozen; rw [hHB.out] at c12 f12; clear hM12 hb12 hs12 hg12 hat12)
                  first | (refine bodyPost_end (results_none rfl _ _ _) rfl ?_) | (refine bodyPost_ret (results_none rfl _ _ _) rfl ?_)
                  refine ⟨rfl, .slice (some ⟨sb, so, none⟩) s.stack.length c, .slice (some ⟨g12, 0, none⟩) (t.out.length + 1) cap12, rvs' ++ [.slice (some ⟨rg, 0, none⟩) ring.length rcap], ?_⟩
                  rw [Hfin.out, if_pos htell]
                  have hM12 := HM12.out
                  rw [hHB.out] at hM12
                  exact hM12
                · have hct' : li.contains (i : Int) = false := by simpa using hct
                  rw [hct'] at hco
                  have Hco := Lib.hid hco
                  have Htell : Hid (¬ (1 < ring.length ∨ li.contains (i : Int) = true)) := Lib.hid (by rw [hct']; simp; omega)
                  clear hco hrow hct hct' hr2
                  go_wp2_with fail
                  refine Hco.out.mono ?_
                  rintro e w13 ⟨rfl, rfl⟩
                  go_wp2_with fail
                  first | (refine bodyPost_end (results_none rfl _ _ _) rfl ?_) | (refine bodyPost_ret (results_none rfl _ _ _) rfl ?_)
                  refine ⟨rfl, .slice (some ⟨sb, so, none⟩) s.stack.length c, ov', rvs', ?_⟩
                  rw [Hfin.out, if_neg Htell.out]
                  exact HM.out
        · have hne : (t.low[i] != t.index[i]) = true := by simp [heq]
          have Heq := Lib.hid heq
          clear heq
          go_upto_region 12 with (fail)
          go_quiet (fail)
          go_wp2_with fail
          first | (refine bodyPost_end (results_none rfl _ _ _) rfl ?_) | (refine bodyPost_ret (results_none rfl _ _ _) rfl ?_)
          refine ⟨rfl, sv', ov', rvs', ?_⟩
          rw [Hfin.out]
          have hcl : TS.close (nextX p) t i = t := by
            unfold TS.close
            rw [if_neg]
            simpa [hil2, hll2] using Heq.out
          rw [hcl]
          exact HM7.out.keep (Keeps.drewN _ _ _)
end Go.Proofs.Ytfdlhlabkcmikaa
