/- fermatalaw14.Small.One: its walk. -/
import Derived.Test.YtfdlhlabkcmikaaMade1
import Derived.Test.YtfdlhlabkcmikaaGrow
namespace Go.Proofs.Ytfdlhlabkcmikaa
open Go.RowKit

structure MW (w : World) (x : Ins) (op : Int) (s : ByteArray) (wr : World) (Bo Br It : Nat) (k : Nat) (st : MSt) : Prop where
  out : Blk wr Bo 45 [.int .u8 op, .int .u8 st.a, .int .u8 st.b, .int .u8 st.c, .int .i64 st.n]
  xs : Blk wr w.heap.size 63 [.int .u8 x.op, .int .u8 x.a, .int .u8 x.b, .int .u8 x.c, .int .i64 x.n]
  res : Blk wr (w.heap.size + 1) 45 [.int .u8 0, .int .u8 0, .int .u8 0, .int .u8 0, .int .i64 0]
  rg : Blk wr Br 89 [.pointer (some ⟨Bo, 1, none⟩), .pointer (some ⟨Bo, 2, none⟩), .pointer (some ⟨Bo, 3, none⟩)]
  it : wr.heap[It]? = some (.stringIter s k)
  o1 : w.heap.size + 1 < Bo
  o2 : Bo < Br
  o3 : Br < It
  below : Below w.heap.size w wr

theorem MW.next {w : World} {x : Ins} {op : Int} {s : ByteArray} {wr : World} {Bo Br It k : Nat} {st : MSt} (h : MW w x op s wr Bo Br It k st) (k' : Nat) : MW w x op s (wr.iterAt It s k') Bo Br It k' st := by
  obtain ⟨h1, h2, h3, h4, h5, h6, h7, h8, h9⟩ := h
  exact ⟨(Lib.iterAt_other wr It _ s k' (by omega)).trans h1, (Lib.iterAt_other wr It _ s k' (by omega)).trans h2, (Lib.iterAt_other wr It _ s k' (by omega)).trans h3, (Lib.iterAt_other wr It _ s k' (by omega)).trans h4, Lib.iterAt_heap _ _ _ _ _ h5, h6, h7, h8, Lib.below_iterAt h9 (by omega) s k'⟩

theorem MW.keep {w : World} {x : Ins} {op : Int} {s : ByteArray} {wr wr' : World} {Bo Br It k : Nat} {st : MSt} (h : MW w x op s wr Bo Br It k st) (hk : Keeps (fun b => b < wr.heap.size) wr wr') : MW w x op s wr' Bo Br It k st := by
  have hi := (Array.getElem?_eq_some_iff.1 h.it).1
  have hs := h.below.size
  exact ⟨h.out.keeps hk h.out.lt, h.xs.keeps hk h.xs.lt, h.res.keeps hk h.res.lt, h.rg.keeps hk h.rg.lt, (hk.heap h.it hi), h.o1, h.o2, h.o3, h.below.trans (hk.below hs (fun b hb => by omega))⟩

theorem MW.put {w : World} {x : Ins} {op : Int} {s : ByteArray} {wr : World} {Bo Br It k : Nat} {st st' : MSt} (h : MW w x op s wr Bo Br It k st) (j : Nat) (v : Value)
    (h' : [Value.int .u8 op, .int .u8 st.a, .int .u8 st.b, .int .u8 st.c, .int .i64 st.n].set j v = [.int .u8 op, .int .u8 st'.a, .int .u8 st'.b, .int .u8 st'.c, .int .i64 st'.n]) : MW w x op s (wr.setCell ⟨Bo, j, none⟩ v) Bo Br It k st' := by
  obtain ⟨h1, h2, h3, h4, h5, h6, h7, h8, h9⟩ := h
  have hk : Keeps (fun b => b ≠ Bo) wr (wr.setCell ⟨Bo, j, none⟩ v) := Keeps.setCell _ _ _ (fun h => h rfl)
  exact ⟨h' ▸ h1.set j v, h2.keeps hk (by omega), h3.keeps hk (by omega), h4.keeps hk (by omega), hk.heap h5 (by omega), h6, h7, h8, h9.setCell (p := ⟨Bo, j, none⟩) (by show w.heap.size ≤ Bo; omega) _⟩

set_option maxRecDepth 100000 in
set_option maxHeartbeats 4000000 in
theorem smallone_any (x : Ins) (N : Int) (w : World) (h : x.Ok) (hN : 1 ≤ N) (hN2 : N ≤ 256) : Calls Try.prog 35 #[x.val, .int .i64 N] w fun e w' => ∃ y : Ins, e = .returned y.val ∧ y.Ok ∧ oneE y = 0 ∧ (targetB y = true → target y < N) ∧ Below w.heap.size w w' := by
  obtain ⟨U, hU⟩ : ∃ U, IntKind.u64.wrap x.n = U := ⟨_, rfl⟩
  have hU0 : 0 ≤ U := by rw [← hU]; simp [IntKind.wrap, IntKind.bits, IntKind.signed]; omega
  have hmade := made_ok x h U N (by omega) hN2
  have hop := fun w => smallop_any x w h
  obtain ⟨p0, p1, hf⟩ := smallOp_form x.op
  obtain ⟨o0, o1, a0, a1, b0, b1, c0, c1, n0, n1⟩ := h
  have Hm := Lib.hid hmade
  have Hop := Lib.hid hop
  clear hmade hop hf
  unfold Ins.val at Hop ⊢
  obtain ⟨op', hop'⟩ : ∃ o, smallOp x.op = o := ⟨_, rfl⟩
  rw [hop'] at Hop p0 p1
  have HO := Lib.hid hop'
  have HU := Lib.hid hU
  clear hop' hU
  go_enter Try.func35, Try.ntmps35
  go_wp2_with fail
  refine (Hop.out _).mono ?_
  rintro e w1 ⟨rfl, hb1⟩
  obtain ⟨hc1, hf1⟩ := bcell hb1
  have hs1 : w.heap.size + 1 < w1.heap.size := by have := hb1.size; simp at this; omega
  simp at hc1 hf1
  go_wp2_with fail
  refine (form_any _ _ p0 p1).mono ?_
  rintro e w2 ⟨rfl, hb2⟩
  have hs2 := hb2.size
  clear hc1 hf1
  go_wp2_with fail
  have hx2 : Blk w2 w.heap.size 63 [.int .u8 x.op, .int .u8 x.a, .int .u8 x.b, .int .u8 x.c, .int .i64 x.n] := by
    refine (hb2.block _ (by omega)).trans ((hb1.block _ (by simp; omega)).trans ?_)
    exact (Below.heap_alloc _ _ _ (by simp)).trans (World.alloc_heap_new w _)
  have hr2 : Blk w2 (w.heap.size + 1) 45 [.int .u8 0, .int .u8 0, .int .u8 0, .int .u8 0, .int .i64 0] := by
    refine (hb2.block _ (by omega)).trans ((hb1.block _ (by simp)).trans ?_)
    have := World.alloc_heap_new (w.alloc (.cells #[.int .u8 x.op, .int .u8 x.a, .int .u8 x.b, .int .u8 x.c, .int .i64 x.n] 63)) (.cells #[.int .u8 0, .int .u8 0, .int .u8 0, .int .u8 0, .int .i64 0] 45)
    simpa using this
  have hbel : Below w.heap.size w w2 := (((Below.refl _ _).alloc (Nat.le_refl _) _).alloc (by simp) _).trans ((hb1.mono (by simp; omega)).trans (hb2.mono (by omega)))
  have HX2 := Lib.hid hx2
  have HR2 := Lib.hid hr2
  have HB2 := Lib.hid hbel
  clear hx2 hr2 hbel hb1 hb2
  go_loopw [10] (fun u wr => ∃ (k : Nat) (st : MSt) (rest : List Nat), u = .int .i64 st.u ∧ MW w x op' (formStr op') wr w2.heap.size (w2.heap.size + 1) (w2.heap.size + 1 + 1) k st ∧ rest = ((formStr op').data.toList.drop k).map (·.toNat) ∧ goodL rest st.u ∧ rest.foldl (stepM x U N) st = (letters op').foldl (stepM x U N) ⟨0, 0, 0, 0, 0⟩)
    (fun _ wr => (formStr op').size - wr.iterPos (w2.heap.size + 1 + 1))
  case atStart =>
    have hb3 : Keeps (fun b => b < w2.heap.size) w2 (((w2.alloc (.cells #[.int .u8 op', .int .u8 0, .int .u8 0, .int .u8 0, .int .i64 0] 45)).alloc (.cells #[.pointer (some ⟨w2.heap.size, 1, none⟩), .pointer (some ⟨w2.heap.size, 2, none⟩), .pointer (some ⟨w2.heap.size, 3, none⟩)] 89)).iter (formStr op') 0) := by
      exact (Keeps.alloc _ _ _).trans ((Keeps.alloc _ _ _).trans (Keeps.alloc _ _ (.stringIter (formStr op') 0)))
    refine ⟨0, ⟨0, 0, 0, 0, 0⟩, letters op', rfl, ⟨?_, HX2.out.keeps hb3 HX2.out.lt, HR2.out.keeps hb3 HR2.out.lt, ?_, ?_, by omega, by omega, by omega, HB2.out.trans (hb3.below (by omega) (fun b hb => by omega))⟩, rfl, letters_good _, rfl⟩
    · exact (Below.heap_alloc _ _ _ (by simp; omega)).trans ((Below.heap_alloc _ _ _ (by simp)).trans (World.alloc_heap_new w2 _))
    · refine (Below.heap_alloc _ _ _ (by simp)).trans ?_
      have := World.alloc_heap_new (w2.alloc (.cells #[.int .u8 op', .int .u8 0, .int .u8 0, .int .u8 0, .int .i64 0] 45)) (.cells #[.pointer (some ⟨w2.heap.size, 1, none⟩), .pointer (some ⟨w2.heap.size, 2, none⟩), .pointer (some ⟨w2.heap.size, 3, none⟩)] 89)
      simpa using this
    · have := World.iter_heap ((w2.alloc (.cells #[.int .u8 op', .int .u8 0, .int .u8 0, .int .u8 0, .int .i64 0] 45)).alloc (.cells #[.pointer (some ⟨w2.heap.size, 1, none⟩), .pointer (some ⟨w2.heap.size, 2, none⟩), .pointer (some ⟨w2.heap.size, 3, none⟩)] 89)) (formStr op') 0
      simpa using this
  case round =>
    obtain ⟨k, st, rest, rfl, hW, hrest, hgood, hend⟩ := hrel
    by_cases hlt : k < (formStr op').size
    · rw [bytes_drop _ _ hlt] at hrest
      subst hrest
      have hit := hW.it
      have hW2 := hW.next (k + 1)
      have hpos : ∀ W3 st', MW w x op' (formStr op') W3 w2.heap.size (w2.heap.size + 1) (w2.heap.size + 1 + 1) (k + 1) st' → (formStr op').size - W3.iterPos (w2.heap.size + 1 + 1) < (formStr op').size - wr.iterPos (w2.heap.size + 1 + 1) := by
        intro W3 st' h3
        have e1 : W3.iterPos (w2.heap.size + 1 + 1) = k + 1 := by simp [World.iterPos, h3.it]
        have e2 : wr.iterPos (w2.heap.size + 1 + 1) = k := by simp [World.iterPos, hit]
        omega
      have Hpos := Lib.hid hpos
      clear hpos
      have Hend := Lib.hid hend
      clear hend
      obtain ⟨W2, hw2⟩ : ∃ W2, wr.iterAt (w2.heap.size + 1 + 1) (formStr op') (k + 1) = W2 := ⟨_, rfl⟩
      have hna := fun ty (ha : ((formStr op')[k]'hlt).toNat < 128) => Lib.run_next_ascii_at (P := Try.prog) wr (w2.heap.size + 1 + 1) (formStr op') k ty hit hlt ha
      rw [hw2] at hna hW2
      have HW2 := Lib.hid hW2
      clear hW hW2 hit hw2
      simp only [goodL] at hgood
      obtain ⟨a, b, c, u, n⟩ := st
      rcases hgood with ⟨hc, hu, hg1, hg2⟩ | ⟨hc | hc | hc, hg⟩
      · have hnx := fun ty => hna ty (by omega)
        clear hna
        simp only [hc] at hnx
        have Hg1 := Lib.hid hg1
        have Hc := Lib.hid hc
        clear hg1 hg2 hc
        have q1 : W2.cell? ⟨w.heap.size, 1, none⟩ = some (.int .u8 x.a) := HW2.out.xs.cell rfl
        have q2 : W2.cell? ⟨w.heap.size, 2, none⟩ = some (.int .u8 x.b) := HW2.out.xs.cell rfl
        have q3 : W2.cell? ⟨w.heap.size, 3, none⟩ = some (.int .u8 x.c) := HW2.out.xs.cell rfl
        have r1 : W2.cell? ⟨w2.heap.size + 1, 0, none⟩ = some (.pointer (some ⟨w2.heap.size, 1, none⟩)) := HW2.out.rg.cell rfl
        have r2 : W2.cell? ⟨w2.heap.size + 1, 1, none⟩ = some (.pointer (some ⟨w2.heap.size, 2, none⟩)) := HW2.out.rg.cell rfl
        have r3 : W2.cell? ⟨w2.heap.size + 1, 2, none⟩ = some (.pointer (some ⟨w2.heap.size, 3, none⟩)) := HW2.out.rg.cell rfl
        have s1 : W2.cell? ⟨w2.heap.size, 1, none⟩ = some (.int .u8 a) := HW2.out.out.cell rfl
        have s2 : W2.cell? ⟨w2.heap.size, 2, none⟩ = some (.int .u8 b) := HW2.out.out.cell rfl
        have s3 : W2.cell? ⟨w2.heap.size, 3, none⟩ = some (.int .u8 c) := HW2.out.out.cell rfl
        have f1 := HW2.out.out.frozen 1
        have f2 := HW2.out.out.frozen 2
        have f3 := HW2.out.out.frozen 3
        have hu' : u = 0 ∨ u = 1 ∨ u = 2 := by simp at hu; omega
        have hW2s : w2.heap.size + 1 + 1 < W2.heap.size := (Array.getElem?_eq_some_iff.1 HW2.out.it).1
        have d1 : ¬ w2.heap.size + 1 = W2.heap.size := by omega
        have d2 : ¬ w.heap.size = W2.heap.size := by omega
        have d3 : ¬ w2.heap.size = W2.heap.size := by omega
        have d4 : ¬ W2.heap.size = w2.heap.size + 1 := by omega
        have d5 : ¬ W2.heap.size = w.heap.size := by omega
        have d6 : ¬ W2.heap.size = w2.heap.size := by omega
        have e1 := Int.emod_nonneg x.a (b := 8) (by decide)
        have e2 := Int.emod_lt_of_pos x.a (b := 8) (by decide)
        have e3 := Int.emod_nonneg x.b (b := 8) (by decide)
        have e4 := Int.emod_lt_of_pos x.b (b := 8) (by decide)
        have e5 := Int.emod_nonneg x.c (b := 8) (by decide)
        have e6 := Int.emod_lt_of_pos x.c (b := 8) (by decide)
        have hWa := HW2.out.keep (Keeps.alloc (fun b => b < W2.heap.size) W2 (.cells #[.int .u8 x.a, .int .u8 x.b, .int .u8 x.c] 5))
        have A0 : (W2.alloc (.cells #[.int .u8 x.a, .int .u8 x.b, .int .u8 x.c] 5)).cell? ⟨w.heap.size, 1, none⟩ = some (.int .u8 x.a) := hWa.xs.cell rfl
        have B0 : (W2.alloc (.cells #[.int .u8 x.a, .int .u8 x.b, .int .u8 x.c] 5)).cell? ⟨w2.heap.size + 1, 0, none⟩ = some (.pointer (some ⟨w2.heap.size, 1, none⟩)) := hWa.rg.cell rfl
        have C0 : (W2.alloc (.cells #[.int .u8 x.a, .int .u8 x.b, .int .u8 x.c] 5)).cell? ⟨w2.heap.size, 1, none⟩ = some (.int .u8 a) := hWa.out.cell rfl
        have D0 : (W2.alloc (.cells #[.int .u8 x.a, .int .u8 x.b, .int .u8 x.c] 5)).frozen? ⟨w2.heap.size, 1, none⟩ = false := hWa.out.frozen 1
        have A1 : (W2.alloc (.cells #[.int .u8 x.a, .int .u8 x.b, .int .u8 x.c] 5)).cell? ⟨w.heap.size, 2, none⟩ = some (.int .u8 x.b) := hWa.xs.cell rfl
        have B1 : (W2.alloc (.cells #[.int .u8 x.a, .int .u8 x.b, .int .u8 x.c] 5)).cell? ⟨w2.heap.size + 1, 1, none⟩ = some (.pointer (some ⟨w2.heap.size, 2, none⟩)) := hWa.rg.cell rfl
        have C1 : (W2.alloc (.cells #[.int .u8 x.a, .int .u8 x.b, .int .u8 x.c] 5)).cell? ⟨w2.heap.size, 2, none⟩ = some (.int .u8 b) := hWa.out.cell rfl
        have D1 : (W2.alloc (.cells #[.int .u8 x.a, .int .u8 x.b, .int .u8 x.c] 5)).frozen? ⟨w2.heap.size, 2, none⟩ = false := hWa.out.frozen 2
        have A2 : (W2.alloc (.cells #[.int .u8 x.a, .int .u8 x.b, .int .u8 x.c] 5)).cell? ⟨w.heap.size, 3, none⟩ = some (.int .u8 x.c) := hWa.xs.cell rfl
        have B2 : (W2.alloc (.cells #[.int .u8 x.a, .int .u8 x.b, .int .u8 x.c] 5)).cell? ⟨w2.heap.size + 1, 2, none⟩ = some (.pointer (some ⟨w2.heap.size, 3, none⟩)) := hWa.rg.cell rfl
        have C2 : (W2.alloc (.cells #[.int .u8 x.a, .int .u8 x.b, .int .u8 x.c] 5)).cell? ⟨w2.heap.size, 3, none⟩ = some (.int .u8 c) := hWa.out.cell rfl
        have D2 : (W2.alloc (.cells #[.int .u8 x.a, .int .u8 x.b, .int .u8 x.c] 5)).frozen? ⟨w2.heap.size, 3, none⟩ = false := hWa.out.frozen 3
        have HWa := Lib.hid hWa
        clear hWa
        rcases hu' with rfl | rfl | rfl
        · go_wp2_with fail
          go_region
          have h3 : MW w x op' (formStr op') (((W2.alloc (.cells #[.int .u8 x.a, .int .u8 x.b, .int .u8 x.c] 5)).setCell ⟨w2.heap.size, 1, none⟩ (.int .u8 (x.a % 8))).drew) w2.heap.size (w2.heap.size + 1) (w2.heap.size + 1 + 1) (k + 1) ⟨x.a % 8, b, c, 1, n⟩ := by
            have h2 := HWa.out.put (st' := ⟨x.a % 8, b, c, 1, n⟩) 1 (.int .u8 (x.a % 8)) rfl
            exact h2.keep ((Keeps.refl _ _).drew)
          go_wp2_with fail
          exact ⟨⟨k + 1, ⟨x.a % 8, b, c, 1, n⟩, _, rfl, h3, rfl, Hg1.out, by rw [← Hend.out, List.foldl_cons, Hc.out, stepM_r0]⟩, Hpos.out _ _ h3⟩
        · go_wp2_with fail
          go_region
          have h3 : MW w x op' (formStr op') (((W2.alloc (.cells #[.int .u8 x.a, .int .u8 x.b, .int .u8 x.c] 5)).setCell ⟨w2.heap.size, 2, none⟩ (.int .u8 (x.b % 8))).drew) w2.heap.size (w2.heap.size + 1) (w2.heap.size + 1 + 1) (k + 1) ⟨a, x.b % 8, c, 2, n⟩ := by
            have h2 := HWa.out.put (st' := ⟨a, x.b % 8, c, 2, n⟩) 2 (.int .u8 (x.b % 8)) rfl
            exact h2.keep ((Keeps.refl _ _).drew)
          go_wp2_with fail
          exact ⟨⟨k + 1, ⟨a, x.b % 8, c, 2, n⟩, _, rfl, h3, rfl, Hg1.out, by rw [← Hend.out, List.foldl_cons, Hc.out, stepM_r1]⟩, Hpos.out _ _ h3⟩
        · go_wp2_with fail
          go_region
          have h3 : MW w x op' (formStr op') (((W2.alloc (.cells #[.int .u8 x.a, .int .u8 x.b, .int .u8 x.c] 5)).setCell ⟨w2.heap.size, 3, none⟩ (.int .u8 (x.c % 8))).drew) w2.heap.size (w2.heap.size + 1) (w2.heap.size + 1 + 1) (k + 1) ⟨a, b, x.c % 8, 3, n⟩ := by
            have h2 := HWa.out.put (st' := ⟨a, b, x.c % 8, 3, n⟩) 3 (.int .u8 (x.c % 8)) rfl
            exact h2.keep ((Keeps.refl _ _).drew)
          go_wp2_with fail
          exact ⟨⟨k + 1, ⟨a, b, x.c % 8, 3, n⟩, _, rfl, h3, rfl, Hg1.out, by rw [← Hend.out, List.foldl_cons, Hc.out, stepM_r2]⟩, Hpos.out _ _ h3⟩
      · have hnx := fun ty => hna ty (by omega)
        clear hna
        simp only [hc] at hnx
        have Hg := Lib.hid hg
        have Hc := Lib.hid hc
        clear hg hc
        have q4 : W2.cell? ⟨w.heap.size, 4, none⟩ = some (.int .i64 x.n) := HW2.out.xs.cell rfl
        have s4 : W2.cell? ⟨w2.heap.size, 4, none⟩ = some (.int .i64 n) := HW2.out.out.cell rfl
        have f4 := HW2.out.out.frozen 4
        have h3 : MW w x op' (formStr op') (W2.setCell ⟨w2.heap.size, 4, none⟩ (.int .i64 (x.n))) w2.heap.size (w2.heap.size + 1) (w2.heap.size + 1 + 1) (k + 1) ⟨a, b, c, u, x.n⟩ := HW2.out.put 4 _ rfl
        have H3 := Lib.hid h3
        clear h3
        go_wp2_with fail
        exact ⟨⟨k + 1, ⟨a, b, c, u, x.n⟩, _, rfl, H3.out, rfl, Hg.out, by rw [← Hend.out, List.foldl_cons, Hc.out, stepM_n]⟩, Hpos.out _ _ H3.out⟩
      · have hnx := fun ty => hna ty (by omega)
        clear hna
        simp only [hc] at hnx
        have Hg := Lib.hid hg
        have Hc := Lib.hid hc
        clear hg hc
        have q4 : W2.cell? ⟨w.heap.size, 4, none⟩ = some (.int .i64 x.n) := HW2.out.xs.cell rfl
        have s4 : W2.cell? ⟨w2.heap.size, 4, none⟩ = some (.int .i64 n) := HW2.out.out.cell rfl
        have f4 := HW2.out.out.frozen 4
        have hU := HU.out
        have u0 := Int.emod_nonneg U (b := 16) (by decide)
        have u1 := Int.emod_lt_of_pos U (b := 16) (by decide)
        have h3 : MW w x op' (formStr op') (W2.setCell ⟨w2.heap.size, 4, none⟩ (.int .i64 (U % 16))) w2.heap.size (w2.heap.size + 1) (w2.heap.size + 1 + 1) (k + 1) ⟨a, b, c, u, U % 16⟩ := HW2.out.put 4 _ rfl
        have H3 := Lib.hid h3
        clear h3
        go_wp2_with fail
        exact ⟨⟨k + 1, ⟨a, b, c, u, U % 16⟩, _, rfl, H3.out, rfl, Hg.out, by rw [← Hend.out, List.foldl_cons, Hc.out, stepM_p]⟩, Hpos.out _ _ H3.out⟩
      · have hnx := fun ty => hna ty (by omega)
        clear hna
        simp only [hc] at hnx
        have Hg := Lib.hid hg
        have Hc := Lib.hid hc
        clear hg hc
        have q4 : W2.cell? ⟨w.heap.size, 4, none⟩ = some (.int .i64 x.n) := HW2.out.xs.cell rfl
        have s4 : W2.cell? ⟨w2.heap.size, 4, none⟩ = some (.int .i64 n) := HW2.out.out.cell rfl
        have f4 := HW2.out.out.frozen 4
        have hU := HU.out
        have u0 := Int.emod_nonneg U (b := N) (by omega)
        have u1 := Int.emod_lt_of_pos U (b := N) (by omega)
        have h3 : MW w x op' (formStr op') (W2.setCell ⟨w2.heap.size, 4, none⟩ (.int .i64 (U % N))) w2.heap.size (w2.heap.size + 1) (w2.heap.size + 1 + 1) (k + 1) ⟨a, b, c, u, U % N⟩ := HW2.out.put 4 _ rfl
        have H3 := Lib.hid h3
        clear h3
        go_wp2_with fail
        exact ⟨⟨k + 1, ⟨a, b, c, u, U % N⟩, _, rfl, H3.out, rfl, Hg.out, by rw [← Hend.out, List.foldl_cons, Hc.out, stepM_t]⟩, Hpos.out _ _ H3.out⟩
    · have hend' : st = mEnd x U N := by
        have : (formStr op').data.toList.drop k = [] := List.drop_eq_nil_of_le (by simpa using Nat.not_lt.1 hlt)
        rw [hrest, this] at hend
        unfold mEnd
        rw [HO.out]
        exact hend
      have hnx := fun ty => Lib.run_next_end_at (P := Try.prog) wr (w2.heap.size + 1 + 1) (formStr op') k ty hW.it hlt
      have hy : madeIns x U N = ⟨op', st.a, st.b, st.c, st.n⟩ := by unfold madeIns; rw [HO.out, hend']
      obtain ⟨a, b, c, u, n⟩ := st
      have t0 : wr.cell? ⟨w2.heap.size, 0, none⟩ = some (.int .u8 op') := hW.out.cell rfl
      have t1 : wr.cell? ⟨w2.heap.size, 1, none⟩ = some (.int .u8 a) := hW.out.cell rfl
      have t2 : wr.cell? ⟨w2.heap.size, 2, none⟩ = some (.int .u8 b) := hW.out.cell rfl
      have t3 : wr.cell? ⟨w2.heap.size, 3, none⟩ = some (.int .u8 c) := hW.out.cell rfl
      have t4 : wr.cell? ⟨w2.heap.size, 4, none⟩ = some (.int .i64 n) := hW.out.cell rfl
      have v0 : wr.cell? ⟨w.heap.size + 1, 0, none⟩ = some (.int .u8 0) := hW.res.cell rfl
      have v1 : wr.cell? ⟨w.heap.size + 1, 1, none⟩ = some (.int .u8 0) := hW.res.cell rfl
      have v2 : wr.cell? ⟨w.heap.size + 1, 2, none⟩ = some (.int .u8 0) := hW.res.cell rfl
      have v3 : wr.cell? ⟨w.heap.size + 1, 3, none⟩ = some (.int .u8 0) := hW.res.cell rfl
      have v4 : wr.cell? ⟨w.heap.size + 1, 4, none⟩ = some (.int .i64 0) := hW.res.cell rfl
      have f0 := hW.res.frozen 0
      have f1 := hW.res.frozen 1
      have f2 := hW.res.frozen 2
      have f3 := hW.res.frozen 3
      have f4 := hW.res.frozen 4
      have HB := Lib.hid hW.below
      have Hy := Lib.hid hy
      clear hW hend hend' hrest hgood hy
      go_wp2_with fail
      refine bodyPost_ret (v := .agg #[.int .u8 op', .int .u8 a, .int .u8 b, .int .u8 c, .int .i64 n]) (by simp [results, Try.results35, go_sem, *]) rfl ?_
      have hm := Hm.out
      rw [Hy.out] at hm
      refine ⟨⟨op', a, b, c, n⟩, rfl, hm.1, hm.2.1, hm.2.2, ?_⟩
      exact ((((HB.out.setCell (by simp) _).setCell (by simp) _).setCell (by simp) _).setCell (by simp) _).setCell (by simp) _
end Go.Proofs.Ytfdlhlabkcmikaa
