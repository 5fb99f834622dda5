/- flow.Distances. -/
import Derived.Test.YtfdlhlabkcmikaaDist1
namespace Go.Proofs.Ytfdlhlabkcmikaa
open Go.RowKit Go.Shelf
attribute [local go_sem] Oper.semAt_some

set_option maxRecDepth 8000 in
set_option maxHeartbeats 1000000 in
theorem distances_any (a : Option Addr) (cap : Nat) (p : List Ins) (w : World) (hp : Prg w a cap p) (hok : ∀ x ∈ p, x.Ok) (hc : (checkP p).2 = 0) :
    Calls Try.prog 30 #[.slice a p.length cap] w fun e w' => ∃ R, e = .returned (.tuple #[.slice (some ⟨R, 0, none⟩) p.length p.length, .int .i64 0]) ∧ Blk w' R 3 (intsC (distX p)) ∧ (distX p).length = p.length ∧ w.heap.size ≤ R ∧ Below w.heap.size w w' := by
  have hR := right_of hc
  have hlen : p.length < 1000000 := by have := hR.le; omega
  have hr := right_any a cap p w hp hok hlen
  rw [hc, show ferr 0 = 0 from rfl] at hr
  have hpos := hR.pos
  have hle := hR.le
  refine (callsIn_wide (n := 0)).1 ?_
  refine callsIn_of_wp_marks Try.func30 rfl trivial ?_
  simp only [Try.ntmps30, List.size_toArray, List.length_cons, List.length_nil, Nat.reduceAdd, Nat.reduceSub, Array.replicate_succ, Array.replicate_zero, List.push_toArray, List.append_toArray, List.nil_append, List.cons_append]
  refine wpIn_wide.2 ?_
  go_wp2_with fail
  refine hr.mono ?_
  rintro e w1 ⟨rfl, hb1⟩
  go_wp2_with fail
  refine (repeat_int _ _ _ p.length (-1) _ (Lib.hid ⟨?q1, ?q2⟩) hlen hpos).mono ?_
  case q1 => simp
  case q2 => simp [go_sem]
  rintro e w2 ⟨R, rfl, hown, hb2⟩
  simp only [World.size_alloc] at hb2
  have hblk := own_full hown
  have hc0 := hblk.cell (j := 0) (u := .int .i64 (-1)) (by simp [hpos])
  have hf0 := hblk.frozen 0
  have hl0 := hblk.lt
  have hp0 : (0 : Int) < p.length := by omega
  have hge : w1.heap.size + 1 ≤ R := by
    have := (hown.lt R rfl).1
    simpa using this
  have Hown := Lib.hid hblk
  clear hown hblk
  go_wp2_with fail
  refine wp_loop_ghost (fun m a' w' => ∃ (C : Nat) (out wave : List Int) (wv : Value) (Ds : List Nat) (u7 u8 u21 u22 u23 u24 u25 u26 u27 u28 u29 u30 u31 u32 u33 u34 u35 u36 u37 u38 u39 u40 u41 u42 u43 u44 u45 u46 u47 u48 u49 u50 : Value), DB w w' w2.heap.size R C p.length out wave wv Ds ∧ DI p.length out wave ∧ negs out + wave.length ≤ m ∧ m ≤ p.length ∧ distX p = bfsGo p m out wave ∧
    a' = { tmps := #[(.slice a p.length cap), undef, (.slice none 0 0), (.int .i64 0), (.int .i64 0), (.pointer (some ⟨w2.heap.size, 0, none⟩)), (.pointer (some ⟨C, 0, none⟩)), u7, u8, (.slice a p.length cap), (.int .i64 0), (.int .i64 0), (.bool false), undef, (.slice (some ⟨w1.heap.size, 0, none⟩) 1 1), (.slice a p.length cap), (.int .i64 p.length), (.slice (some ⟨R, 0, none⟩) p.length p.length), (.slice (some ⟨R, 0, none⟩) p.length p.length), (.pointer (some ⟨R, 0, none⟩)), (.slice (some ⟨w2.heap.size + 1, 0, none⟩) 1 1), u21, u22, u23, u24, u25, u26, u27, u28, u29, u30, u31, u32, u33, u34, u35, u36, u37, u38, u39, u40, u41, u42, u43, u44, u45, u46, u47, u48, u49, u50, undef], defers := Ds.map mark }) p.length ?start ?round
  case start =>
    refine ⟨w2.heap.size + 1 + 1, (List.replicate p.length (-1)).set 0 0, [0], .slice (some ⟨w2.heap.size + 1, 0, none⟩) 1 1, [], undef, undef, undef, undef, undef, undef, undef, undef, undef, undef, undef, undef, undef, undef, undef, undef, undef, undef, undef, undef, undef, undef, undef, undef, undef, undef, undef, undef, undef, undef, undef, undef, ?_, (DI.start hpos).1, Nat.le_of_eq (DI.start hpos).2, Nat.le_refl _, rfl, rfl⟩
    have r0 : Blk (w2.setCell ⟨R, 0, none⟩ (.int .i64 0)) R 3 (intsC ((List.replicate p.length (-1)).set 0 0)) := by
      have := Hown.out.set 0 (.int .i64 0)
      rwa [← intsC_set, show intsC (List.replicate p.length (-1)) = List.replicate p.length (.int .i64 (-1)) by simp [intsC]]
    have z0 : (w2.setCell ⟨R, 0, none⟩ (.int .i64 0)).heap.size = w2.heap.size := by simp [World.setCell]
    have k0 : Keeps (fun b => b < w.heap.size) w (w2.setCell ⟨R, 0, none⟩ (.int .i64 0)) := by
      have h1 := hb1.size
      have e1 : Keeps (fun b => b < w.heap.size) w w1 := Keeps.of_below hb1
      have e2 : Keeps (fun b => b < w.heap.size) w1 w2 := (Keeps.alloc _ _ _).trans ((Keeps.of_below hb2).mono fun b _ hb => by omega)
      exact (e1.trans e2).trans (Keeps.setCell _ _ _ (fun (h : R < w.heap.size) => by omega))
    have hws : w.heap.size ≤ w2.heap.size := by have := k0.size; rwa [z0] at this
    obtain ⟨W0, hW0⟩ : ∃ W0, w2.setCell ⟨R, 0, none⟩ (.int .i64 0) = W0 := ⟨_, rfl⟩
    rw [hW0] at r0 z0 k0 ⊢
    have b1 : Boxed (W0.alloc (.cells #[.slice (some ⟨R, 0, none⟩) p.length p.length] 26)) w2.heap.size 26 (.slice (some ⟨R, 0, none⟩) p.length p.length) := z0 ▸ Boxed.new W0 _ _
    obtain ⟨W1, hW1⟩ : ∃ W1, W0.alloc (.cells #[.slice (some ⟨R, 0, none⟩) p.length p.length] 26) = W1 := ⟨_, rfl⟩
    have r1 := r0.alloc (.cells #[.slice (some ⟨R, 0, none⟩) p.length p.length] 26)
    have k1 := k0.trans (Keeps.alloc (fun b => b < w.heap.size) W0 (.cells #[.slice (some ⟨R, 0, none⟩) p.length p.length] 26))
    have z1 : W1.heap.size = w2.heap.size + 1 := by rw [← hW1]; simp [z0]
    rw [hW1] at b1 r1 k1 ⊢
    have c2 : Boxed (W1.alloc (.cells #[.int .i64 0] 3)) (w2.heap.size + 1) 3 (.int .i64 0) := z1 ▸ Boxed.new W1 _ _
    have b2 := b1.alloc (.cells #[.int .i64 0] 3)
    have r2 := r1.alloc (.cells #[.int .i64 0] 3)
    have k2 := k1.trans (Keeps.alloc (fun b => b < w.heap.size) W1 (.cells #[.int .i64 0] 3))
    have z2 : (W1.alloc (.cells #[.int .i64 0] 3)).heap.size = w2.heap.size + 1 + 1 := by simp [z1]
    obtain ⟨W2, hW2⟩ : ∃ W2, W1.alloc (.cells #[.int .i64 0] 3) = W2 := ⟨_, rfl⟩
    rw [hW2] at b2 r2 k2 c2 z2 ⊢
    have c3 := c2.alloc (.cells #[.slice (some ⟨w2.heap.size + 1, 0, none⟩) 1 1] 26)
    refine ⟨b2.alloc _, r2.alloc _, z2 ▸ Boxed.new W2 _ _, seg_of_own (e := 3) ⟨by simp [intsC], .inr ⟨w2.heap.size + 1, 1, #[.int .i64 0], rfl, by omega, c3, Nat.le_refl _, by simp [maxLen], by simp, by simp [intsC]⟩⟩, k2.trans (Keeps.alloc _ _ _), Marks.nil _, ⟨hws, by have := hb1.size; omega, by omega⟩, (fun _ h => by cases h), ⟨by omega, by omega, by omega⟩, fun b hb => ?_⟩
    obtain rfl : w2.heap.size + 1 = b := by simpa [Value.ownBlock] using hb
    refine ⟨?_, ?_, ?_, fun h => by cases h⟩
    · omega
    · omega
    · omega
  case round =>
    rintro m a' wr ⟨C, out, wave, wv, Ds, u7, u8, u21, u22, u23, u24, u25, u26, u27, u28, u29, u30, u31, u32, u33, u34, u35, u36, u37, u38, u39, u40, u41, u42, u43, u44, u45, u46, u47, u48, u49, u50, hB, hI, hm, hmp, hd, rfl⟩
    have hcC := hB.wbox.cell
    have ltC := hB.wbox.lt
    have hws := hB.keeps.size
    cases wave with
    | nil =>
      have hcB := hB.box.cell
      rw [bfsGo_nil] at hd
      have Hd := Lib.hid hd
      clear hd
      have fin : ∀ W', CellKeep wr W' → Keeps (fun b => b ∉ Ds) wr W' → ∃ R', Ending.returned (.tuple #[.slice (some ⟨R, 0, none⟩) p.length p.length, .int .i64 0]) = Ending.returned (.tuple #[.slice (some ⟨R', 0, none⟩) p.length p.length, .int .i64 0]) ∧
          Blk W' R' 3 (intsC (distX p)) ∧ (distX p).length = p.length ∧ w.heap.size ≤ R' ∧ Below w.heap.size w W' := fun W' hcK hkK =>
        ⟨R, rfl, by rw [Hd.out]; exact hcK _ _ hB.row rfl, by rw [Hd.out]; exact hI.len, hB.ge.2.1, (hB.keeps.trans (hkK.mono fun b _ hb hD => by have := hB.mge b hD; omega)).below (Nat.le_refl _) (fun _ h => h)⟩
      have Fin := Lib.hid fin
      clear fin
      rcases hB.seg.2 with ⟨rfl, -⟩ | ⟨g, off, cp, rfl, hs⟩
      · go_wp2_with fail
        exact leaves_marks Ds wr hB.marks fun W' hcK hkK => ⟨_, results_tmp2 (t := 2) (u := 3) rfl _ _ _, Fin.out W' hcK hkK⟩
      · go_wp2_with fail
        exact leaves_marks Ds wr hB.marks fun W' hcK hkK => ⟨_, results_tmp2 (t := 2) (u := 3) rfl _ _ _, Fin.out W' hcK hkK⟩
    | cons i0 rest =>
      obtain ⟨i1, i2, i3⟩ := hI.wav i0 (by simp)
      obtain ⟨i, rfl⟩ : ∃ i : Nat, i0 = i := ⟨i0.toNat, by omega⟩
      have hil : i < p.length := by omega
      obtain ⟨x, hx⟩ : ∃ x, p[i]? = some x := ⟨p[i], List.getElem?_eq_getElem hil⟩
      have hxo : x.Ok := hok x (List.mem_of_getElem? hx)
      have hbk := hR.edges i x hx
      obtain ⟨g, off, cp, rfl, hs⟩ : ∃ g off cp, wv = .slice (some ⟨g, off, none⟩) (rest.length + 1) cp ∧ SegA wr w.heap.size 1 g off (rest.length + 1) cp (intsC ((i : Int) :: rest)) := by
        rcases hB.seg.2 with ⟨_, h⟩ | h
        · simp at h
        · exact h
      have hci : wr.cell? ⟨g, off, none⟩ = some (.int .i64 i) := hs.cells 0 (.int .i64 i) rfl
      have hfC := hB.wbox.frozen
      have ltg := hs.lt
      have hcp := hs.le
      obtain ⟨off', hif, hseg⟩ := seg_tail hs rfl
      have Hp := Lib.hid hp
      have HB := Lib.hid hB
      have HI := Lib.hid hI
      have Hm := Lib.hid hm
      have Hd := Lib.hid hd
      have Hs := Lib.hid hs
      have Hseg := Lib.hid hseg
      obtain ⟨L, hL⟩ : ∃ L, Hid (L = rest.length + 1) := ⟨_, rfl⟩
      rw [← hL.out] at hcC
      have hL1 : (1 : Int) ≤ L := by have := hL.out; omega
      have hL2 : (L : Int) ≤ cp := by have := hL.out; omega
      clear hB hI hm hd hs hseg hp
      go_wp2_with fail
      have hLr : L - 1 = rest.length := by have := hL.out; omega
      rw [hLr]
      obtain ⟨wv, hwv⟩ : ∃ wv, wv = Value.slice (some ⟨g, off', none⟩) rest.length (cp - 1) := ⟨_, rfl⟩
      rw [← hwv]
      obtain ⟨hT, hTk⟩ := HB.out.tail Hseg.out hwv
      have HT := Lib.hid hT
      clear hT hwv
      have hk0 : Keeps (fun b => b < w.heap.size) wr (wr.setCell ⟨C, 0, none⟩ wv) := hTk _ (by have := HB.out.ge; omega)
      have hpX : Prg (wr.setCell ⟨C, 0, none⟩ wv) a cap p := SlA.keeps Hp.out (HB.out.keeps.trans hk0) (fun b off _ h => h)
      refine (edges_any a cap p i x _ (SlA.keep hpX ((Below.refl _ _).alloc (Nat.le_refl _) _) (Nat.le_refl _)) hx hxo hlen).mono ?_
      rintro e w3 ⟨rfl, hb3, hs3, hit⟩
      have hszC : (wr.setCell ⟨C, 0, none⟩ wv).heap.size = wr.heap.size := by simp [World.setCell]
      simp only [World.size_alloc, hszC, Nat.add_assoc, Nat.reduceAdd] at hit hs3 hb3
      go_wp2_with fail
      refine wpIn_wide.1 (range_law rfl eg_edges hit (fun _ _ _ h => by rw [h]; rfl) (fun _ _ _ h _ => h) (fun b h => h.elim) (JD w w2.heap.size R C p.length Ds wr.heap.size (wr.heap.size + 2) i (out, rest)) (fun _ _ _ _ => False) (fun _ => jd_calm _ _ _ _ _ _ _ _ _ _ _) (fun _ _ _ _ _ h _ => h) ?h0 ?rnd ?pr ?done ?stop)
      case pr => exact fun b hb => by omega
      case h0 =>
        have hX := HT.out
        have hk3 : Keeps (fun b => b < wr.heap.size + 1) (wr.setCell ⟨C, 0, none⟩ wv) w3 := (Keeps.alloc _ _ _).trans (Keeps.of_below hb3)
        have l1 := hX.box.lt
        have l2 := hX.row.lt
        have l3 := hX.wbox.lt
        have l4 := hX.seg.own_lt
        have l5 := hX.marks.lt
        rw [hszC] at l1 l2 l3
        have hbox : Boxed w3 wr.heap.size 3 (.int .i64 i) := box_keeps (hszC ▸ Boxed.new (wr.setCell ⟨C, 0, none⟩ wv) 3 (.int .i64 i)) (Keeps.of_below hb3) (Nat.lt_succ_self _)
        refine ⟨wv, hX.keep hk3 (by omega) (by omega) (by omega) (fun b hb => by have := (l4 b hb).2; rw [hszC] at this; omega) (fun b hb => by omega) (fun D hD => by have := l5 D hD; rw [hszC] at this; omega), hbox, hws, by omega, by omega, id, id, id, id, fun b hb => ?_, fun b h => h.elim, fun _ _ h => h, ⟨by omega, by omega⟩, by omega⟩
        have := (l4 b hb).2
        rw [hszC] at this
        exact ⟨id, by omega, by omega⟩
      case stop => exact fun _ _ _ _ _ _ _ _ h => h.elim
      case done =>
        rintro T W D hD hTD ⟨wv', h, hBi, hge, n1, n2, t1, t2, t9, t3, t4, t5, t6, t7, t8⟩ - hDe
        obtain ⟨A, c', rfl⟩ := seg_form h.seg
        have hc := h.wbox.cell
        have hml := HB.out.marks.lt
        have hall := HI.out
        have hm0 := Hm.out
        have hi0 : 0 ≤ out[i]?.getD (-1) := by simpa using i3
        have hI2 : DI p.length out rest := ⟨hall.len, hall.val, fun k' hk' => hall.wav k' (by simp [hk'])⟩
        obtain ⟨hI3, hM3, -⟩ := hI2.steps (edgesX x i) hi0 hbk
        simp only [List.length_cons] at hm0
        have Hall := Lib.hid hI3
        have HM := Lib.hid hM3
        have Hdb := Lib.hid (h.mark (fun hm => by have := hml D hm; omega) (by omega) hDe (fun e => (t4 D e).1 hTD))
        clear hI3 hM3 hI2 hall h
        go_wp2_with fail
        refine ⟨m - 1, by omega, W.heap.size, ((edgesX x i).foldl (bfsK i) (out, rest)).1, ((edgesX x i).foldl (bfsK i) (out, rest)).2, _, D :: Ds, _, _, _, _, _, _, _, _, _, _, _, _, _, _, _, _, _, _, _, _, _, _, _, _, _, _, _, _, _, _, _, _, Hdb.out.newbox, Hall.out, by have := HM.out; omega, by omega, ?_, rfl⟩
        rw [Hd.out, show m = m - 1 + 1 by omega, bfsGo_cons hx]
        rfl
      case rnd =>
        rintro l pre y post T vs1 W1 hl hTl hT0T hxs hJ hR
        obtain rfl : vs1 = #[.int .i64 y] := hR
        have hy := hbk y (by rw [hxs]; simp)
        obtain ⟨yk, rfl⟩ : ∃ yk : Nat, y = yk := ⟨y.toNat, by omega⟩
        gi_wp2_with fail
        refine ⟨hJ, Keeps.refl _ _, fun W2 _ _ hJ2 => ?_⟩
        obtain ⟨wv', h, hBi, hge, n1, n2, t1, t2, t9, t3, t4, t5, t6, t7, t8⟩ := hJ2
        have hI' := HI.out
        have hpre : ∀ k' ∈ pre, 0 ≤ k' ∧ k' < (p.length : Int) := fun k' hk' => hbk k' (by rw [hxs]; simp [hk'])
        have hi0 : 0 ≤ out[i]?.getD (-1) := by simpa using i3
        have hI2 : DI p.length out rest := ⟨hI'.len, hI'.val, fun k' hk' => hI'.wav k' (by simp [hk'])⟩
        obtain ⟨hI3, hM3, hu0⟩ := hI2.steps pre hi0 hpre
        have hlen3 := hI3.len
        obtain ⟨v, hv⟩ : ∃ v, (pre.foldl (bfsK i) (out, rest)).1[yk]? = some v := ⟨_, List.getElem?_eq_getElem (by omega)⟩
        obtain ⟨u, hu⟩ : ∃ u, (pre.foldl (bfsK i) (out, rest)).1[i]? = some u := ⟨_, List.getElem?_eq_getElem (by omega)⟩
        have hvb := hI3.val v (List.mem_of_getElem? hv)
        have hub := hI3.val u (List.mem_of_getElem? hu)
        have hwl : (pre.foldl (bfsK i) (out, rest)).2.length < 1000000 := by have := Hm.out; simp at this; omega
        have y1 : (0 : Int) ≤ yk := hy.1
        have y2 : (yk : Int) < p.length := hy.2
        have x1 : (0 : Int) ≤ i := by omega
        have x2 : (i : Int) < p.length := by omega
        have c1 := h.box.cell
        have c2 := h.row.cell (intsC_get hv)
        by_cases hneg : v < 0
        · gi_wp2_with fail
          have c3 := h.row.cell (intsC_get hu)
          have hw : IntKind.i64.wrap (u + 1) = u + 1 := IntWalk.i64_in _ ⟨by omega, by omega⟩
          refine held_in (m := 8) (S := fun b w' => w'.cell? ⟨w2.heap.size, 0, none⟩ = some (.slice (some ⟨R, 0, none⟩) p.length p.length) ∧ w'.cell? ⟨wr.heap.size, 0, none⟩ = some (.int .i64 i) ∧ (b = false → w'.cell? ⟨R, i, none⟩ = some (.int .i64 u))) (by kernel_rfl) (by kernel_rfl) (fun ⟨_, _, h⟩ => h) ?_
          have hS : ∀ W3 : World, W3 = W2.drew → W3.cell? ⟨w2.heap.size, 0, none⟩ = some (.slice (some ⟨R, 0, none⟩) p.length p.length) ∧ W3.cell? ⟨wr.heap.size, 0, none⟩ = some (.int .i64 i) ∧ (false = false → W3.cell? ⟨R, i, none⟩ = some (.int .i64 u)) := by
            rintro _ rfl
            exact ⟨c1, hBi.cell, fun _ => c3⟩
          refine held_take (i := 0) (oi := _) (v := ?v0) (some 38) rfl rfl (by kernel_rfl) rfl (fun _ _ _ h => h) (hS _ rfl) ?y0 ?r0
          case y0 => (rintro w' ⟨s1, s2, s3⟩; (try have s3 := s3 rfl); go_simp; with_reducible rfl)
          simp only [Act.put, List.setIfInBounds_toArray, List.set_cons_zero, List.set_cons_succ]
          refine held_take (i := 1) (oi := _) (v := ?v1) (some 39) rfl rfl (by kernel_rfl) rfl (fun _ _ _ h => h) (hS _ rfl) ?y1 ?r1
          case y1 => (rintro w' ⟨s1, s2, s3⟩; (try have s3 := s3 rfl); go_simp; with_reducible rfl)
          simp only [Act.put, List.setIfInBounds_toArray, List.set_cons_zero, List.set_cons_succ]
          refine held_take (i := 2) (oi := _) (v := ?v2) (some 40) rfl rfl (by kernel_rfl) rfl (fun _ _ _ h => h) (hS _ rfl) ?y2 ?r2
          case y2 => (rintro w' ⟨s1, s2, s3⟩; (try have s3 := s3 rfl); go_simp; with_reducible rfl)
          simp only [Act.put, List.setIfInBounds_toArray, List.set_cons_zero, List.set_cons_succ]
          refine held_take (i := 3) (oi := _) (v := ?v3) (some 41) rfl rfl (by kernel_rfl) rfl (fun _ _ _ h => h) (hS _ rfl) ?y3 ?r3
          case y3 => (rintro w' ⟨s1, s2, s3⟩; (try have s3 := s3 rfl); go_simp; with_reducible rfl)
          simp only [Act.put, List.setIfInBounds_toArray, List.set_cons_zero, List.set_cons_succ]
          refine held_take (i := 4) (oi := _) (v := ?v4) (some 42) rfl rfl (by kernel_rfl) rfl (fun _ _ _ h => h) (hS _ rfl) ?y4 ?r4
          case y4 => (rintro w' ⟨s1, s2, s3⟩; (try have s3 := s3 rfl); go_simp; with_reducible rfl)
          simp only [Act.put, List.setIfInBounds_toArray, List.set_cons_zero, List.set_cons_succ]
          refine held_take (i := 5) (oi := _) (v := ?v5) (some 43) rfl rfl (by kernel_rfl) rfl (fun _ _ _ h => h) (hS _ rfl) ?y5 ?r5
          case y5 => (rintro w' ⟨s1, s2, s3⟩; (try have s3 := s3 rfl); go_simp; with_reducible rfl)
          simp only [Act.put, List.setIfInBounds_toArray, List.set_cons_zero, List.set_cons_succ]
          refine held_take (i := 6) (oi := _) (v := .int .i64 (u + 1)) (some 44) rfl rfl (by kernel_rfl) rfl (fun _ _ _ h => h) (hS _ rfl) ?y6 ?r6
          case y6 => (rintro w' ⟨s1, s2, s3⟩; (try have s3 := s3 rfl); go_simp)
          simp only [Act.put, List.setIfInBounds_toArray, List.set_cons_zero, List.set_cons_succ]
          refine held_take (i := 7) (oi := _) (v := ?v7) (some 45) rfl rfl (by kernel_rfl) rfl (fun _ _ _ h => h) (hS _ rfl) ?y7 ?r7
          case y7 => (rintro w' ⟨s1, s2, s3⟩; (try have s3 := s3 rfl); go_simp; with_reducible rfl)
          simp only [Act.put, List.setIfInBounds_toArray, List.set_cons_zero, List.set_cons_succ]
          have hdr : DB w W2.drew w2.heap.size R C p.length (pre.foldl (bfsK i) (out, rest)).1 (pre.foldl (bfsK i) (out, rest)).2 wv' Ds := h.keep ((Keeps.refl (fun _ => True) W2).drew) trivial trivial trivial (fun _ _ => trivial) (fun _ _ => trivial) (fun _ _ => trivial)
          obtain ⟨hd3, hk3⟩ := hdr.stored yk (u + 1)
          have hBi3 : Boxed (W2.drew.setCell ⟨R, yk, none⟩ (.int .i64 (u + 1))) wr.heap.size 3 (.int .i64 i) := box_keeps hBi ((Keeps.refl _ _).drew.trans (hk3 (fun b => b ≠ R) (fun h => h rfl))) (fun e => n1 e.symm)
          refine held_step (i := 8) (oi := _) rfl (by kernel_rfl) rfl (wp_skip (w' := W2.drew.setCell ⟨R, yk, none⟩ (.int .i64 (u + 1))) rfl ?b8 ⟨⟨hd3.box.cell, hBi3.cell, fun h => absurd h (by decide)⟩, held_done (by kernel_rfl) ?_⟩)
          case b8 =>
            have hc : W2.drew.cell? ⟨R, yk, none⟩ = _ := c2
            have hf : W2.drew.frozen? ⟨R, yk, none⟩ = false := h.row.frozen yk
            go_simp
          obtain ⟨X, hX⟩ : ∃ X, W2.drew.setCell ⟨R, yk, none⟩ (.int .i64 (u + 1)) = X := ⟨_, rfl⟩
          rw [hX] at hd3 hBi3 ⊢
          have cX := hd3.wbox.cell
          have hsX := hd3.keeps.size
          gi_wp2_with (gi_at_builtin; refine wpListIn_appSeg rfl _ _ 26 rfl elT_int w.heap.size wv' (pre.foldl (bfsK i) (out, rest)).2.length _ rfl hd3.seg #[.int .i64 yk] rfl rfl (by simp [Value.oneCell']) hwl hsX ?_; intro g5 off5 cap5 w5 hs5 hg5 hat5 hlt5; obtain ⟨hC5, -, -⟩ := hd3.appended hs5 hg5 hat5; have cC5 := hC5.cell; have fC5 := hC5.frozen; have lC5 := hC5.lt)
          have hdrew : Keeps (fun b => (b = wr.heap.size + 2) ∨ T b) W2 W2.drew := (Keeps.refl _ _).drew
          obtain ⟨r1, r2⟩ := jd_step (Pr := fun b => b = wr.heap.size + 2) hdr (show Boxed W2.drew _ _ _ from hBi) hge n1 n2 t1 t2 t9 t3 t4 t5 t6 t7 t8 hv hneg hu (fun b h => h) rfl hs5 (by rw [hX]; exact hg5) (by rw [hX]; exact hat5)
          exact ⟨r1, hdrew.trans r2⟩
        · gi_wp2_with fail
          have hf : (pre ++ [(yk : Int)]).foldl (bfsK i) (out, rest) = pre.foldl (bfsK i) (out, rest) := by
            rw [List.foldl_append, List.foldl_cons, List.foldl_nil]
            generalize pre.foldl (bfsK i) (out, rest) = s at hv
            unfold bfsK
            rw [if_neg (by simpa [hv] using hneg)]
          exact ⟨⟨wv', by rw [hf]; exact h, hBi, hge, n1, n2, t1, t2, t9, t3, t4, t5, t6, t7, t8⟩, Keeps.refl _ _⟩
end Go.Proofs.Ytfdlhlabkcmikaa
