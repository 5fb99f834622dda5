/- Contracts of package code: registers, One, Goes, Target, Check return what the plain definitions say; a program of fewer than a million instructions. -/
import Derived.Test.YtfdlhlabkcmikaaForm
import Derived.Deep.DeepCutAuto
import Derived.Deep.CutBlock
import Derived.Deep.RegionWith
import Derived.Deep.RegionHeld3
import Derived.Lib.OthersKept
namespace Go.Proofs.Ytfdlhlabkcmikaa
open Go.RowKit

theorem regs_any (x : Ins) (w : World) : Calls Try.prog 57 #[x.val] w fun e w' => e = .returned (.agg #[.int .u8 x.a, .int .u8 x.b, .int .u8 x.c]) ∧ Below w.heap.size w w' := by
  unfold Ins.val
  go_enter Try.func57, Try.ntmps57
  go_wp2_with fail
  exact bodyPost_ret (v := .agg #[.int .u8 x.a, .int .u8 x.b, .int .u8 x.c]) (by simp [results, Try.results57, go_sem]) rfl ⟨rfl, by repeat (first | exact Below.refl _ _ | (refine Below.setCell ?_ (by simp) _) | (refine Below.alloc ?_ (by simp) _))⟩

/-- Three registers in a block of their own. -/
def Regs (w : World) (B : Nat) (r0 r1 r2 : Int) : Prop := w.heap[B]? = some (.cells #[.int .u8 r0, .int .u8 r1, .int .u8 r2] 95 (0, 0))

theorem Regs.cells {w : World} {B : Nat} {r0 r1 r2 : Int} (h : Regs w B r0 r1 r2) : w.cell? ⟨B, 0, none⟩ = some (.int .u8 r0) ∧ w.cell? ⟨B, 1, none⟩ = some (.int .u8 r1) ∧ w.cell? ⟨B, 2, none⟩ = some (.int .u8 r2) ∧
    w.frozen? ⟨B, 0, none⟩ = false ∧ w.frozen? ⟨B, 1, none⟩ = false ∧ w.frozen? ⟨B, 2, none⟩ = false := by
  unfold Regs at h
  simp [World.cell?, World.frozen?, h]

theorem Regs.set {w : World} {B : Nat} {r0 r1 r2 : Int} (h : Regs w B r0 r1 r2) (v : Int) : Regs (w.setCell ⟨B, 0, none⟩ (.int .u8 v)) B v r1 r2 ∧ Regs (w.setCell ⟨B, 1, none⟩ (.int .u8 v)) B r0 v r2 ∧ Regs (w.setCell ⟨B, 2, none⟩ (.int .u8 v)) B r0 r1 v := by
  obtain ⟨hlt, hk⟩ := Array.getElem?_eq_some_iff.1 h
  refine ⟨?_, ?_, ?_⟩ <;>
  · show (w.heap.modify B _)[B]? = _
    rw [Array.getElem?_eq_getElem (by rw [Array.size_modify]; exact hlt), Array.getElem_modify_self, hk]
    rfl

theorem regs_neq (a b c : Int) (w : World) : (binOp .neq 95 (.agg #[.int .u8 a, .int .u8 b, .int .u8 c]) (.agg #[.int .u8 0, .int .u8 0, .int .u8 0])).run Try.prog w = .ok (.bool (!(a == 0 && b == 0 && c == 0))) w := by
  have h : ∀ (x : Int) (w : World), (Op.equalIn 9999 5 (.int .u8 x) (.int .u8 0)).run Try.prog w = .ok (x == 0) w := fun x w => run_equalIn_int w 9998 5 .u8 .u8 x 0 Try.underlying5
  rw [run_neq_struct, arr_eq3 _ _ _ _ _ _ _ _ _ 9999 w Try.underlying95 (fun _ => by kernel_rfl) (fun _ => by kernel_rfl) (h a) (h b) (h c)]
  rfl

/-- The world of the loop of One: the registers, the iterator over the letters; what was there before stands. -/
structure OneW (w : World) (s : ByteArray) (wr : World) (B It : Nat) (k : Nat) (st : LSt) : Prop where
  regs : Regs wr B st.r0 st.r1 st.r2
  it : wr.heap[It]? = some (.stringIter s k)
  ne : B ≠ It
  b1 : w.heap.size ≤ B
  b2 : w.heap.size ≤ It
  below : Below w.heap.size w wr

theorem OneW.next {w : World} {s : ByteArray} {wr : World} {B It k : Nat} {st : LSt} (h : OneW w s wr B It k st) (k' : Nat) : OneW w s (wr.iterAt It s k') B It k' st := by
  obtain ⟨h1, h2, h3, h4, h5, h6⟩ := h
  exact ⟨(Lib.iterAt_other wr It B s k' h3).trans h1, Lib.iterAt_heap _ _ _ _ _ h2, h3, h4, h5, Lib.below_iterAt h6 h5 s k'⟩

theorem OneW.put {w : World} {s : ByteArray} {wr : World} {B It k : Nat} {st st' : LSt} (h : OneW w s wr B It k st) (j : Nat) (v : Int) (h' : Regs (wr.setCell ⟨B, j, none⟩ (.int .u8 v)) B st'.r0 st'.r1 st'.r2) :
    OneW w s (wr.setCell ⟨B, j, none⟩ (.int .u8 v)) B It k st' := by
  obtain ⟨h1, h2, h3, h4, h5, h6⟩ := h
  exact ⟨h', (Below.heap_setCell _ _ _ _ (fun e => h3 e.symm)).trans h2, h3, h4, h5, h6.setCell (p := ⟨B, j, none⟩) h4 _⟩

set_option maxRecDepth 100000 in
set_option maxHeartbeats 2000000 in
theorem one_any (x : Ins) (w : World) (h : x.Ok) : Calls Try.prog 41 #[x.val] w fun e w' => e = .returned (.int .i64 (oneE x)) ∧ Below w.heap.size w w' := by
  obtain ⟨o0, o1, a0, a1, b0, b1, c0, c1, n0, n1⟩ := h
  have hr := regs_any x
  have Hr := Lib.hid hr
  clear hr
  unfold Ins.val at Hr ⊢
  by_cases hf : (formK x.op).isSome = true
  · have hf' : (formK x.op).isNone = false := by simpa using hf
    have Hf := Lib.hid hf
    go_enter Try.func41, Try.ntmps41
    go_upto_region 4 with (go_at_call 51; refine (form_any _ _ o0 o1).mono ?_; rintro e w1 ⟨rfl, hb1⟩; obtain ⟨hc1, hf1⟩ := bcell hb1; have hs1 : w.heap.size < w1.heap.size := (by have := hb1.size; simp at this; omega); simp at hc1 hf1)
    go_cut [5, 6] (fun s5 s6 w' => ∃ B, s5 = .pointer (some ⟨B, 0, none⟩) ∧ s6 = .int .i64 x.n ∧ Regs w' B x.a x.b x.c ∧ w.heap.size ≤ B ∧ Below w.heap.size w w')
    case first =>
      go_region_held3 (fun w' => w'.cell? ⟨w.heap.size, 0, none⟩ = some (.int .u8 x.op) ∧ w'.cell? ⟨w.heap.size, 1, none⟩ = some (.int .u8 x.a) ∧ w'.cell? ⟨w.heap.size, 2, none⟩ = some (.int .u8 x.b) ∧ w'.cell? ⟨w.heap.size, 3, none⟩ = some (.int .u8 x.c) ∧ w'.cell? ⟨w.heap.size, 4, none⟩ = some (.int .i64 x.n))
        (simp [go_sem, *]) ((go_at_call 57; refine (Hr.out _).mono ?_; rintro e w2 ⟨rfl, hb2⟩; obtain ⟨hc2, hf2⟩ := bcell hb2; simp at hc2 hf2; have hs2 := hb2.size; simp at hs2; have hl2 : w.heap.size < w2.heap.size := (by omega)))
      all_goals go_wp2
      all_goals go_meet
      case rel =>
        have hbase : Below w.heap.size w w1 := ((Below.refl _ _).alloc (Nat.le_refl _) _).trans (hb1.mono (by simp))
        exact ⟨_, rfl, rfl, World.alloc_heap_new _ _, by omega, ((hbase.drew.trans (hb2.mono (by simp; omega)))).alloc (by omega) _⟩
      case rel =>
        have hbase : Below w.heap.size w w1 := ((Below.refl _ _).alloc (Nat.le_refl _) _).trans (hb1.mono (by simp))
        have hz : Regs w2 w1.heap.size 0 0 0 := (hb2.block _ (by simp)).trans (World.alloc_heap_new w1 _)
        refine ⟨_, rfl, rfl, (((hz.set x.a).1.set x.b).2.1.set x.c).2.2, by omega, ?_⟩
        exact ((((hbase.alloc (by omega) _).drew.trans (hb2.mono (by simp; omega))).setCell (by simp; omega) _).setCell (by simp; omega) _).setCell (by simp; omega) _
    case rest =>
      obtain ⟨B, rfl, rfl, hregs, hB, hb⟩ := hcut
      go_wp2_with fail
      go_loopw [6, 7] (fun n u wr => ∃ (k : Nat) (st : LSt) (rest : List Nat), n = .int .i64 st.n ∧ u = .int .i64 st.u ∧ OneW w (formStr x.op) wr B wc.heap.size k st ∧ rest = ((formStr x.op).data.toList.drop k).map (·.toNat) ∧ goodL rest st.u ∧ rest.foldl stepL st = lEnd x)
        (fun _ _ wr => (formStr x.op).size - wr.iterPos wc.heap.size)
      case atStart =>
        refine ⟨0, ⟨x.a, x.b, x.c, 0, x.n⟩, letters x.op, rfl, rfl, ⟨?_, World.iter_heap _ _ _, ?_, hB, hb.size, hb.alloc hb.size _⟩, rfl, letters_good _, rfl⟩
        · exact (Below.heap_alloc _ _ _ (Array.getElem?_eq_some_iff.1 hregs).1).trans hregs
        · have := (Array.getElem?_eq_some_iff.1 hregs).1; omega
      case round =>
        obtain ⟨k, st, rest, rfl, rfl, hW, hrest, hgood, hend⟩ := hrel
        by_cases hlt : k < (formStr x.op).size
        · rw [bytes_drop _ _ hlt] at hrest
          subst hrest
          have hit := hW.it
          have hW2 := hW.next (k + 1)
          have hpos : ∀ W3 st', OneW w (formStr x.op) W3 B wc.heap.size (k + 1) st' → (formStr x.op).size - W3.iterPos wc.heap.size < (formStr x.op).size - wr.iterPos wc.heap.size := by
            intro W3 st' h3
            have e1 : W3.iterPos wc.heap.size = k + 1 := by simp [World.iterPos, h3.it]
            have e2 : wr.iterPos wc.heap.size = k := by simp [World.iterPos, hit]
            omega
          have Hpos := Lib.hid hpos
          clear hpos
          have Hend := Lib.hid hend
          clear hend
          obtain ⟨W2, hw2⟩ : ∃ W2, wr.iterAt wc.heap.size (formStr x.op) (k + 1) = W2 := ⟨_, rfl⟩
          have hna := fun ty (ha : ((formStr x.op)[k]'hlt).toNat < 128) => Lib.run_next_ascii_at (P := Try.prog) wr wc.heap.size (formStr x.op) k ty hit hlt ha
          rw [hw2] at hna hW2
          obtain ⟨q0, q1, q2, f0, f1, f2⟩ := hW2.regs.cells
          have HW2 := Lib.hid hW2
          clear hW hW2 hit hw2 hc1 hf1
          simp only [goodL] at hgood
          rcases hgood with ⟨hc, hu, hg1, hg2⟩ | ⟨hc | hc | hc, hg⟩
          · have hnx := fun ty => hna ty (by omega)
            clear hna
            simp only [hc] at hnx
            have Hg1 := Lib.hid hg1
            have Hg2 := Lib.hid hg2
            clear hg1 hg2
            have Hc := Lib.hid hc
            clear hc
            obtain ⟨r0, r1, r2, u, n⟩ := st
            have hu' : u = 0 ∨ u = 1 ∨ u = 2 := by simp at hu; omega
            rcases hu' with rfl | rfl | rfl
            · by_cases hr : r0 < 8
              · go_wp2_with fail
                have h3 : OneW w (formStr x.op) (W2.setCell ⟨B, 0, none⟩ (.int .u8 0)) B wc.heap.size (k + 1) ⟨0, r1, r2, 1, n⟩ := HW2.out.put 0 0 (HW2.out.regs.set 0).1
                exact ⟨⟨k + 1, ⟨0, r1, r2, 1, n⟩, _, rfl, rfl, h3, rfl, Hg1.out, by rw [← Hend.out, List.foldl_cons, Hc.out, stepL_r0 rfl hr]⟩, Hpos.out _ _ h3⟩
              · go_wp2_with fail
                exact ⟨⟨k + 1, _, _, rfl, rfl, HW2.out, rfl, Hg2.out, by rw [← Hend.out, List.foldl_cons, Hc.out, stepL_no (by simpa [LSt.get] using hr)]⟩, Hpos.out _ _ HW2.out⟩
            · by_cases hr : r1 < 8
              · go_wp2_with fail
                have h3 : OneW w (formStr x.op) (W2.setCell ⟨B, 1, none⟩ (.int .u8 0)) B wc.heap.size (k + 1) ⟨r0, 0, r2, 2, n⟩ := HW2.out.put 1 0 (HW2.out.regs.set 0).2.1
                exact ⟨⟨k + 1, ⟨r0, 0, r2, 2, n⟩, _, rfl, rfl, h3, rfl, Hg1.out, by rw [← Hend.out, List.foldl_cons, Hc.out, stepL_r1 rfl hr]⟩, Hpos.out _ _ h3⟩
              · go_wp2_with fail
                exact ⟨⟨k + 1, _, _, rfl, rfl, HW2.out, rfl, Hg2.out, by rw [← Hend.out, List.foldl_cons, Hc.out, stepL_no (by simpa [LSt.get] using hr)]⟩, Hpos.out _ _ HW2.out⟩
            · by_cases hr : r2 < 8
              · go_wp2_with fail
                have h3 : OneW w (formStr x.op) (W2.setCell ⟨B, 2, none⟩ (.int .u8 0)) B wc.heap.size (k + 1) ⟨r0, r1, 0, 3, n⟩ := HW2.out.put 2 0 (HW2.out.regs.set 0).2.2
                exact ⟨⟨k + 1, ⟨r0, r1, 0, 3, n⟩, _, rfl, rfl, h3, rfl, Hg1.out, by rw [← Hend.out, List.foldl_cons, Hc.out, stepL_r2 rfl hr]⟩, Hpos.out _ _ h3⟩
              · go_wp2_with fail
                exact ⟨⟨k + 1, _, _, rfl, rfl, HW2.out, rfl, Hg2.out, by rw [← Hend.out, List.foldl_cons, Hc.out, stepL_no (by simpa [LSt.get] using hr)]⟩, Hpos.out _ _ HW2.out⟩
          · have hnx := fun ty => hna ty (by omega)
            clear hna
            simp only [hc] at hnx
            have Hg := Lib.hid hg
            have Hc := Lib.hid hc
            clear hg hc
            obtain ⟨r0, r1, r2, u, n⟩ := st
            go_wp2_with fail
            have h3 : OneW w (formStr x.op) W2 B wc.heap.size (k + 1) ⟨r0, r1, r2, u, 0⟩ := ⟨HW2.out.regs, HW2.out.it, HW2.out.ne, HW2.out.b1, HW2.out.b2, HW2.out.below⟩
            exact ⟨⟨k + 1, ⟨r0, r1, r2, u, 0⟩, _, rfl, rfl, h3, rfl, Hg.out, by rw [← Hend.out, List.foldl_cons, Hc.out, stepL_n]⟩, Hpos.out _ _ h3⟩
          · have hnx := fun ty => hna ty (by omega)
            clear hna
            simp only [hc] at hnx
            have Hg := Lib.hid hg
            have Hc := Lib.hid hc
            clear hg hc
            obtain ⟨r0, r1, r2, u, n⟩ := st
            by_cases hn1 : 0 ≤ n
            · by_cases hn2 : n < 16
              · go_wp2_with fail
                have h3 : OneW w (formStr x.op) W2 B wc.heap.size (k + 1) ⟨r0, r1, r2, u, 0⟩ := ⟨HW2.out.regs, HW2.out.it, HW2.out.ne, HW2.out.b1, HW2.out.b2, HW2.out.below⟩
                exact ⟨⟨k + 1, ⟨r0, r1, r2, u, 0⟩, _, rfl, rfl, h3, rfl, Hg.out, by rw [← Hend.out, List.foldl_cons, Hc.out, stepL_p ⟨hn1, hn2⟩]⟩, Hpos.out _ _ h3⟩
              · go_wp2_with fail
                exact ⟨⟨k + 1, _, _, rfl, rfl, HW2.out, rfl, Hg.out, by rw [← Hend.out, List.foldl_cons, Hc.out, stepL_p' (fun h => hn2 h.2)]⟩, Hpos.out _ _ HW2.out⟩
            · go_wp2_with fail
              exact ⟨⟨k + 1, _, _, rfl, rfl, HW2.out, rfl, Hg.out, by rw [← Hend.out, List.foldl_cons, Hc.out, stepL_p' (fun h => hn1 h.1)]⟩, Hpos.out _ _ HW2.out⟩
          · have hnx := fun ty => hna ty (by omega)
            clear hna
            simp only [hc] at hnx
            have Hg := Lib.hid hg
            have Hc := Lib.hid hc
            clear hg hc
            obtain ⟨r0, r1, r2, u, n⟩ := st
            by_cases hn1 : 0 ≤ n
            · by_cases hn2 : n < 256
              · go_wp2_with fail
                have h3 : OneW w (formStr x.op) W2 B wc.heap.size (k + 1) ⟨r0, r1, r2, u, 0⟩ := ⟨HW2.out.regs, HW2.out.it, HW2.out.ne, HW2.out.b1, HW2.out.b2, HW2.out.below⟩
                exact ⟨⟨k + 1, ⟨r0, r1, r2, u, 0⟩, _, rfl, rfl, h3, rfl, Hg.out, by rw [← Hend.out, List.foldl_cons, Hc.out, stepL_t ⟨hn1, hn2⟩]⟩, Hpos.out _ _ h3⟩
              · go_wp2_with fail
                exact ⟨⟨k + 1, _, _, rfl, rfl, HW2.out, rfl, Hg.out, by rw [← Hend.out, List.foldl_cons, Hc.out, stepL_t' (fun h => hn2 h.2)]⟩, Hpos.out _ _ HW2.out⟩
            · go_wp2_with fail
              exact ⟨⟨k + 1, _, _, rfl, rfl, HW2.out, rfl, Hg.out, by rw [← Hend.out, List.foldl_cons, Hc.out, stepL_t' (fun h => hn1 h.1)]⟩, Hpos.out _ _ HW2.out⟩
        · have hend' : st = lEnd x := by
            have : (formStr x.op).data.toList.drop k = [] := List.drop_eq_nil_of_le (by simpa using Nat.not_lt.1 hlt)
            rw [hrest, this] at hend
            exact hend
          have hnx := fun ty => Lib.run_next_end_at (P := Try.prog) wr wc.heap.size (formStr x.op) k ty hW.it hlt
          obtain ⟨q0, q1, q2, f0, f1, f2⟩ := hW.regs.cells
          have HW := Lib.hid hW
          have Hend := Lib.hid hend'
          clear hW hend hend' hrest hgood hc1 hf1
          obtain ⟨r0, r1, r2, u, n⟩ := st
          have hq := regs_neq r0 r1 r2
          by_cases hall : r0 = 0 ∧ r1 = 0 ∧ r2 = 0
          · have hb0 : (r0 == 0 && r1 == 0 && r2 == 0) = true := by simpa [and_assoc] using hall
            simp only [hb0] at hq
            by_cases hn : n = 0
            · have hn0 : (n != 0) = false := by simpa using hn
              have e1 : opOk x = true := (lEnd_ok x Hf.out).1 (by rw [← Hend.out]; exact ⟨hall.1, hall.2.1, hall.2.2, hn⟩)
              have Hn := Lib.hid hn
              have Hall := Lib.hid hall
              have E1 := Lib.hid e1
              clear hn hall e1 hb0
              go_wp2_with fail
              go_ret
              exact ⟨ret_int (by unfold oneE; rw [if_neg (by rw [hf']; simp), if_pos E1.out]), HW.out.below⟩
            · have hn0 : (n != 0) = true := by simpa using hn
              have e1 : ¬ opOk x = true := fun h => hn (by have := ((lEnd_ok x Hf.out).2 h).2.2.2; rw [← Hend.out] at this; exact this)
              have E1 := Lib.hid e1
              clear hn hall e1 hb0
              go_wp2_with fail
              go_ret
              exact ⟨ret_int (by unfold oneE; rw [if_neg (by rw [hf']; simp), if_neg E1.out]), HW.out.below⟩
          · have hb0 : (r0 == 0 && r1 == 0 && r2 == 0) = false := by
              rw [Bool.eq_false_iff]
              simpa [and_assoc] using hall
            simp only [hb0] at hq
            have e1 : ¬ opOk x = true := fun h => hall (by have := (lEnd_ok x Hf.out).2 h; rw [← Hend.out] at this; exact ⟨this.1, this.2.1, this.2.2.1⟩)
            have E1 := Lib.hid e1
            clear hall e1 hb0
            go_wp2_with fail
            go_ret
            exact ⟨ret_int (by unfold oneE; rw [if_neg (by rw [hf']; simp), if_neg E1.out]), HW.out.below⟩
  · have hf' : (formK x.op).isNone = true := by simpa using hf
    go_enter Try.func41, Try.ntmps41
    go_wp2_with (go_at_call 51; refine (form_any _ _ o0 o1).mono ?_; rintro e w1 ⟨rfl, hb1⟩; obtain ⟨hc1, hf1⟩ := bcell hb1; have hs1 : w.heap.size < w1.heap.size := (by have := hb1.size; simp at this; omega); simp at hc1 hf1)
    go_ret
    exact ⟨ret_int (by unfold oneE; rw [if_pos hf']), ((Below.refl _ _).alloc (Nat.le_refl _) _).trans (hb1.mono (by simp))⟩

theorem target_no (x : Ins) (w : World) (h : x.Ok) (ht : targetB x = false) : Calls Try.prog 26 #[x.val] w fun e w' => e = .returned (.tuple #[.int .i64 0, .bool false]) ∧ Below w.heap.size w w' := by
  have ho := one_any x
  unfold Ins.val at ho ⊢
  by_cases h1 : oneE x = 0
  · have e1 : (oneE x != 0) = false := by simpa using h1
    have hj : isJump x.op = false := by simpa [targetB, h1] using ht
    have j9 : (x.op != 9) = true := by simp [isJump] at hj ⊢; omega
    have j10 : (x.op != 10) = true := by simp [isJump] at hj ⊢; omega
    have j11 : (x.op != 11) = true := by simp [isJump] at hj ⊢; omega
    clear hj h1 ht
    go_enter Try.func26, Try.ntmps26
    go_wp2_with (go_at_call 41; refine (ho _ h).mono ?_; rintro e w1 ⟨rfl, hb1⟩; obtain ⟨hc1, hf1⟩ := bcell hb1; simp at hc1 hf1)
    go_ret2
    exact ⟨rfl, ((Below.refl _ _).alloc (Nat.le_refl _) _).trans (hb1.mono (by simp))⟩
  · have e1 : (oneE x != 0) = true := by simpa using h1
    clear h1 ht
    go_enter Try.func26, Try.ntmps26
    go_wp2_with (go_at_call 41; refine (ho _ h).mono ?_; rintro e w1 ⟨rfl, hb1⟩; obtain ⟨hc1, hf1⟩ := bcell hb1; simp at hc1 hf1)
    go_ret2
    exact ⟨rfl, ((Below.refl _ _).alloc (Nat.le_refl _) _).trans (hb1.mono (by simp))⟩

theorem target_yes (x : Ins) (w : World) (h : x.Ok) (ht : targetB x = true) : Calls Try.prog 26 #[x.val] w fun e w' => e = .returned (.tuple #[.int .i64 x.n, .bool true]) ∧ Below w.heap.size w w' := by
  have ho := one_any x
  unfold Ins.val at ho ⊢
  have h1 : oneE x = 0 := by simp [targetB] at ht; exact ht.1
  have hj : isJump x.op = true := by simp [targetB] at ht; exact ht.2
  have e1 : (oneE x != 0) = false := by simpa using h1
  have hj' : x.op = 9 ∨ x.op = 10 ∨ x.op = 11 := by simp [isJump] at hj; omega
  clear hj h1 ht
  rcases hj' with hj | hj | hj
  · have j9 : (x.op != 9) = false := by simp [hj]
    have j10 : (x.op != 10) = true := by simp [hj]
    have j11 : (x.op != 11) = true := by simp [hj]
    clear hj
    go_enter Try.func26, Try.ntmps26
    go_wp2_with (go_at_call 41; refine (ho _ h).mono ?_; rintro e w1 ⟨rfl, hb1⟩; obtain ⟨hc1, hf1⟩ := bcell hb1; simp at hc1 hf1)
    go_ret2
    exact ⟨rfl, ((Below.refl _ _).alloc (Nat.le_refl _) _).trans (hb1.mono (by simp))⟩
  · have j9 : (x.op != 9) = true := by simp [hj]
    have j10 : (x.op != 10) = false := by simp [hj]
    have j11 : (x.op != 11) = true := by simp [hj]
    clear hj
    go_enter Try.func26, Try.ntmps26
    go_wp2_with (go_at_call 41; refine (ho _ h).mono ?_; rintro e w1 ⟨rfl, hb1⟩; obtain ⟨hc1, hf1⟩ := bcell hb1; simp at hc1 hf1)
    go_ret2
    exact ⟨rfl, ((Below.refl _ _).alloc (Nat.le_refl _) _).trans (hb1.mono (by simp))⟩
  · have j9 : (x.op != 9) = true := by simp [hj]
    have j10 : (x.op != 10) = true := by simp [hj]
    have j11 : (x.op != 11) = false := by simp [hj]
    clear hj
    go_enter Try.func26, Try.ntmps26
    go_wp2_with (go_at_call 41; refine (ho _ h).mono ?_; rintro e w1 ⟨rfl, hb1⟩; obtain ⟨hc1, hf1⟩ := bcell hb1; simp at hc1 hf1)
    go_ret2
    exact ⟨rfl, ((Below.refl _ _).alloc (Nat.le_refl _) _).trans (hb1.mono (by simp))⟩

theorem goes_no (x : Ins) (w : World) (h : x.Ok) (ht : goesB x = false) : Calls Try.prog 55 #[x.val] w fun e w' => e = .returned (.bool false) ∧ Below w.heap.size w w' := by
  have ho := one_any x
  unfold Ins.val at ho ⊢
  by_cases h1 : oneE x = 0
  · have e1 : (oneE x == 0) = true := by simpa using h1
    have hj : x.op = 1 ∨ x.op = 2 ∨ x.op = 9 := by simp [goesB, h1] at ht; omega
    clear h1 ht
    rcases hj with hj | hj | hj
    · have j1 : (x.op != 1) = false := by simp [hj]
      have j2 : (x.op != 2) = true := by simp [hj]
      have j9 : (x.op != 9) = true := by simp [hj]
      clear hj
      go_enter Try.func55, Try.ntmps55
      go_wp2_with (go_at_call 41; refine (ho _ h).mono ?_; rintro e w1 ⟨rfl, hb1⟩; obtain ⟨hc1, hf1⟩ := bcell hb1; simp at hc1 hf1)
      go_ret
      exact ⟨rfl, ((Below.refl _ _).alloc (Nat.le_refl _) _).trans (hb1.mono (by simp))⟩
    · have j1 : (x.op != 1) = true := by simp [hj]
      have j2 : (x.op != 2) = false := by simp [hj]
      have j9 : (x.op != 9) = true := by simp [hj]
      clear hj
      go_enter Try.func55, Try.ntmps55
      go_wp2_with (go_at_call 41; refine (ho _ h).mono ?_; rintro e w1 ⟨rfl, hb1⟩; obtain ⟨hc1, hf1⟩ := bcell hb1; simp at hc1 hf1)
      go_ret
      exact ⟨rfl, ((Below.refl _ _).alloc (Nat.le_refl _) _).trans (hb1.mono (by simp))⟩
    · have j1 : (x.op != 1) = true := by simp [hj]
      have j2 : (x.op != 2) = true := by simp [hj]
      have j9 : (x.op != 9) = false := by simp [hj]
      clear hj
      go_enter Try.func55, Try.ntmps55
      go_wp2_with (go_at_call 41; refine (ho _ h).mono ?_; rintro e w1 ⟨rfl, hb1⟩; obtain ⟨hc1, hf1⟩ := bcell hb1; simp at hc1 hf1)
      go_ret
      exact ⟨rfl, ((Below.refl _ _).alloc (Nat.le_refl _) _).trans (hb1.mono (by simp))⟩
  · have e1 : (oneE x == 0) = false := by simpa using h1
    clear h1 ht
    go_enter Try.func55, Try.ntmps55
    go_wp2_with (go_at_call 41; refine (ho _ h).mono ?_; rintro e w1 ⟨rfl, hb1⟩; obtain ⟨hc1, hf1⟩ := bcell hb1; simp at hc1 hf1)
    go_ret
    exact ⟨rfl, ((Below.refl _ _).alloc (Nat.le_refl _) _).trans (hb1.mono (by simp))⟩

theorem goes_yes (x : Ins) (w : World) (h : x.Ok) (ht : goesB x = true) : Calls Try.prog 55 #[x.val] w fun e w' => e = .returned (.bool true) ∧ Below w.heap.size w w' := by
  have ho := one_any x
  unfold Ins.val at ho ⊢
  simp [goesB] at ht
  have e1 : (oneE x == 0) = true := by simpa using ht.1.1.1
  have j1 : (x.op != 1) = true := by simpa using ht.1.1.2
  have j2 : (x.op != 2) = true := by simpa using ht.1.2
  have j9 : (x.op != 9) = true := by simpa using ht.2
  clear ht
  go_enter Try.func55, Try.ntmps55
  go_wp2_with (go_at_call 41; refine (ho _ h).mono ?_; rintro e w1 ⟨rfl, hb1⟩; obtain ⟨hc1, hf1⟩ := bcell hb1; simp at hc1 hf1)
  go_ret
  exact ⟨rfl, ((Below.refl _ _).alloc (Nat.le_refl _) _).trans (hb1.mono (by simp))⟩

theorem goes_any (x : Ins) (w : World) (h : x.Ok) : Calls Try.prog 55 #[x.val] w fun e w' => e = .returned (.bool (goesB x)) ∧ Below w.heap.size w w' := by
  cases hg : goesB x
  · exact goes_no x w h hg
  · exact goes_yes x w h hg

theorem target_any (x : Ins) (w : World) (h : x.Ok) : Calls Try.prog 26 #[x.val] w fun e w' => e = .returned (.tuple #[.int .i64 (target x), .bool (targetB x)]) ∧ Below w.heap.size w w' := by
  unfold target
  cases hg : targetB x
  · exact target_no x w h hg
  · exact target_yes x w h hg
end Go.Proofs.Ytfdlhlabkcmikaa
