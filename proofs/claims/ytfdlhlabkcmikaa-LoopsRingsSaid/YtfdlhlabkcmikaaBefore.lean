/- flow.before, flow.Before. -/
import Derived.Test.YtfdlhlabkcmikaaBefore0
namespace Go.Proofs.Ytfdlhlabkcmikaa
open Go.RowKit Go.Shelf
attribute [local go_sem] Oper.semAt_some

set_option maxRecDepth 8000 in
set_option maxHeartbeats 1000000 in
theorem before_any (a : Option Addr) (cap : Nat) (p : List Ins) (w : World) (hp : Prg w a cap p) (hok : ∀ x ∈ p, x.Ok) (h256 : p.length ≤ 256) (hb : ∀ (i : Nat) (x : Ins), p[i]? = some x → ∀ k ∈ edgesX x i, 0 ≤ k ∧ k < p.length) :
    Calls Try.prog 32 #[.slice a p.length cap] w fun e w' => ∃ R vs, e = .returned (.slice (some ⟨R, 0, none⟩) p.length p.length) ∧ Blk w' R 26 vs ∧ w.heap.size ≤ R ∧
      RowsOk w' w.heap.size 3 1 cellsI vs (beforeX p) ∧ Below w.heap.size w w' := by
  have hlen : p.length < 1000000 := by omega
  have q1 : Try.prog.underlying 30 = some (.slice 26) := Try.underlying30
  obtain ⟨i, q2, q3, q4, q5⟩ := info_parts (show (Try.prog.info? 26).map (fun i => (i.zero, i.size, i.bytes)) = some (some (.slice none 0 0), 1, 24) by kernel_rfl)
  have hby : i.bytes * p.length ≤ 281474976710656 := by rw [q5]; omega
  have hml : p.length ≤ maxLen := by unfold maxLen; omega
  obtain ⟨G, hG⟩ : ∃ G, Hid (w.heap.size = G) := ⟨_, rfl⟩
  refine (callsIn_wide (n := 0)).1 ?_
  refine callsIn_of_wp_marks Try.func32 rfl trivial ?_
  simp only [Try.ntmps32, List.size_toArray, List.length_cons, List.length_nil, Nat.reduceAdd, Nat.reduceSub, Array.replicate_succ, Array.replicate_zero, List.push_toArray, List.append_toArray, List.nil_append, List.cons_append]
  refine wpIn_wide.2 ?_
  go_wp2_with (at_make; refine wpList_make_full _ rfl _ _ 30 rfl w.heap.size 26 i (.slice none 0 0) 1 q1 q2 q3 q4 .i64 .i64 _ _ p.length rfl rfl rfl rfl hby hml (Nat.le_refl _) ?_; intro w2 hown2 hgrow2; obtain ⟨hrow, hbel⟩ := made_row rfl hown2 hgrow2 G hG.out)
  obtain ⟨B, hB⟩ : ∃ B, w2.heap.size = B := ⟨_, rfl⟩
  have hGe := hG.out
  subst hGe
  rw [hB]
  clear hown2 hgrow2
  refine wp_loop (fun a' w' => ∃ (k : Nat) (vs : List Value) (ls : List (List Int)) (Ds : List Nat) (u4 u5 u12 u13 u14 u15 u16 u17 u18 u19 u20 u21 u22 u23 u24 u25 u26 u27 u28 : Value), k ≤ p.length ∧ BB w w' B w.heap.size p.length vs ls Ds ∧ (∀ l ∈ ls, l.length ≤ 3 * k) ∧ beforeX p = beforeOf p.length (p.drop k) k ls ∧
    a' = { tmps := #[.slice a p.length cap, undef, .slice none 0 0, .pointer (some ⟨B, 0, none⟩), u4, u5, .slice a p.length cap, .int .i64 p.length, .slice (some ⟨w.heap.size, 0, none⟩) p.length p.length, .slice a p.length cap, .int .i64 p.length, .int .i64 k, u12, u13, u14, u15, u16, u17, u18, u19, u20, u21, u22, u23, u24, u25, u26, u27, u28, undef], defers := Ds.map mark })
    (fun a' _ => p.length - (intOf (a'.tmps.getD 11 undef)).toNat) ?start ?round
  case start =>
    refine ⟨0, List.replicate p.length (.slice none 0 0), List.replicate p.length [], [], undef, undef, undef, undef, undef, undef, undef, undef, undef, undef, undef, undef, undef, undef, undef, undef, undef, undef, undef, Nat.zero_le _, ?_, ?_, rfl, rfl⟩
    rotate_left
    · intro l hl; rw [(List.mem_replicate.1 hl).2]; simp
    have hk2 := (Keeps.of_below hbel).trans (Keeps.alloc (fun b => b < w.heap.size) w2 (.cells #[.slice (some ⟨w.heap.size, 0, none⟩) p.length p.length] 30))
    have hlt2 := (Array.getElem?_eq_some_iff.1 hrow.out).1
    refine ⟨hB ▸ Boxed.new w2 _ _, Blk.alloc hrow.out _, ⟨by simp, fun k v l hv hl => ?_, fun j k vj vk b hvj _ hb => ?_⟩, by simp, hk2, Marks.nil _, ⟨by omega, Nat.le_refl _⟩, fun D h => by cases h⟩
    · obtain rfl := List.eq_of_mem_replicate (List.mem_of_getElem? hv)
      obtain rfl := List.eq_of_mem_replicate (List.mem_of_getElem? hl)
      exact World.ownsRow_nil _ _ _ _
    · obtain rfl := List.eq_of_mem_replicate (List.mem_of_getElem? hvj)
      cases hb
  case round =>
    rintro a' wr ⟨k, vs, ls, Ds, u4, u5, u12, u13, u14, u15, u16, u17, u18, u19, u20, u21, u22, u23, u24, u25, u26, u27, u28, hk, hB', hll, hbx, rfl⟩
    by_cases hlt : k < p.length
    · obtain ⟨x, hx⟩ : ∃ x, p[k]? = some x := ⟨p[k], List.getElem?_eq_getElem hlt⟩
      have hxo : x.Ok := hok x (List.mem_of_getElem? hx)
      have hbk := hb k x hx
      have Hp := Lib.hid (SlA.keeps hp hB'.keeps (fun b off _ h => h) : Prg _ _ _ _)
      have HB := Lib.hid hB'
      have Hb := Lib.hid hbx
      have Hll := Lib.hid hll
      clear hB' hbx hp hll
      go_wp2_with (go_at_call 38; refine (edges_any a cap p k x _ (SlA.keep Hp.out ((Below.refl _ _).alloc (Nat.le_refl _) _) (Nat.le_refl _)) hx hxo hlen).mono ?_; rintro e w3 ⟨rfl, hb3, hs3, hit⟩)
      simp only [World.size_alloc, Nat.add_assoc, Nat.reduceAdd] at hit hs3 hb3
      refine wpIn_wide.1 (range_law rfl eg_edges hit (fun _ _ _ h => by rw [h]; rfl) (fun _ _ _ h _ => h) (fun b h => h.elim) (JB w B w.heap.size p.length Ds wr.heap.size (wr.heap.size + 2) k ls) (fun _ _ _ _ => False) (fun _ => jb_calm _ _ _ _ _ _ _ _ _ _) (fun _ _ _ _ _ h _ => h) ?h0 ?rnd ?pr ?done ?stop)
      case pr => exact fun b hb => by omega
      case h0 =>
        have hk3 : Keeps (fun b => b < wr.heap.size + 1) wr w3 := (Keeps.alloc _ _ _).trans (Keeps.of_below hb3)
        have hlt : ∀ b, b < wr.heap.size → b < wr.heap.size + 1 := fun b h => by omega
        have hws := HB.out.keeps.size
        refine ⟨vs, HB.out.keep hk3 (hlt _ HB.out.box.lt) (hlt _ HB.out.row.lt) (fun v hv b hb => hlt _ (HB.out.rows.lt v hv b hb).2) (fun b hb => by omega) (fun D hD => hlt _ (HB.out.marks.lt D hD)), box_keeps (Boxed.new wr _ _) (Keeps.of_below hb3) (Nat.lt_succ_self _), hws, id, id, id, fun v hv b hb => ?_, fun b h => h.elim, fun _ _ h => h, ?_, by omega⟩
        · have := (HB.out.rows.lt v hv b hb).2
          exact ⟨id, by omega, by omega⟩
        · have := HB.out.row.lt; omega
      case stop => exact fun _ _ _ _ _ _ _ _ h => h.elim
      case done =>
        rintro T W D hD - ⟨vs', h, hBi, hge, t1, t2, t3, t4, t5, t6, t7, t8⟩ - hDe
        go_wp2_with fail
        have hml := HB.out.marks.lt
        have hw3 : wr.heap.size ≤ w3.heap.size := by omega
        refine ⟨⟨k + 1, vs', addAll k ls (edgesX x k), D :: Ds, _, _, _, _, _, _, _, _, _, _, _, _, _, _, _, _, _, _, _, by omega, ⟨h.box, h.row, h.rows, h.len, h.keeps, h.marks.cons (fun hm => by have := hml D hm; omega) hDe, h.ge, fun E hE => by rcases List.mem_cons.1 hE with rfl | hE; (have := HB.out.keeps.size; omega); exact h.mge E hE⟩, ?_, ?_, rfl⟩, ?_⟩
        · intro l hl
          have h1 := addAll_bound (edgesX x k) Hll.out l hl
          have h2 := edgesX_len x k
          omega
        · rw [Hb.out, drop_cons hx]; rfl
        · simp [intOf]; omega
      case rnd =>
        rintro l pre y post T vs1 W1 hl hTl hT0T hxs hJ hR
        obtain rfl : vs1 = #[.int .i64 y] := hR
        have hy := hbk y (by rw [hxs]; simp)
        obtain ⟨yk, rfl⟩ : ∃ yk : Nat, y = yk := ⟨y.toNat, by omega⟩
        gi_wp2_with fail
        refine ⟨hJ, Keeps.refl _ _, fun W2 _ _ hJ2 => ?_⟩
        obtain ⟨vs', h, hBi, hge, t1, t2, t3, t4, t5, t6, t7, t8⟩ := hJ2
        have hyk : yk < vs'.length := by rw [h.rows.len, h.len]; omega
        obtain ⟨v, hv⟩ : ∃ v, vs'[yk]? = some v := ⟨vs'[yk], List.getElem?_eq_getElem hyk⟩
        obtain ⟨l', hl', hown⟩ := h.rows.at hv
        have y1 : (0 : Int) ≤ yk := hy.1
        have y2 : (yk : Int) < p.length := hy.2
        gi_wp2_with fail
        refine held_in (m := 10) (S := fun b w' => w'.cell? ⟨B, 0, none⟩ = some (.slice (some ⟨w.heap.size, 0, none⟩) p.length p.length) ∧ w'.cell? ⟨wr.heap.size, 0, none⟩ = some (.int .i64 k) ∧ (b = false → w'.cell? ⟨w.heap.size, yk, none⟩ = some v)) (by kernel_rfl) (by kernel_rfl) (fun ⟨_, _, h⟩ => h) ?_
        have hS : ∀ W3 : World, W3 = W2.drew → W3.cell? ⟨B, 0, none⟩ = some (.slice (some ⟨w.heap.size, 0, none⟩) p.length p.length) ∧ W3.cell? ⟨wr.heap.size, 0, none⟩ = some (.int .i64 k) ∧ (false = false → W3.cell? ⟨w.heap.size, yk, none⟩ = some v) := by
          rintro _ rfl
          exact ⟨h.box.cell, hBi.cell, fun _ => h.row.cell hv⟩
        refine held_take (i := 0) (oi := _) (v := ?v0) (some 18) rfl rfl (by kernel_rfl) rfl (fun _ _ _ h => h) (hS _ rfl) ?y0 ?r0
        case y0 => (rintro w' ⟨s1, s2, s3⟩; (try have s3 := s3 rfl); go_simp; with_reducible rfl)
        simp only [Act.put, List.setIfInBounds_toArray, List.set_cons_zero, List.set_cons_succ]
        refine held_take (i := 1) (oi := _) (v := ?v1) (some 19) rfl rfl (by kernel_rfl) rfl (fun _ _ _ h => h) (hS _ rfl) ?y1 ?r1
        case y1 => (rintro w' ⟨s1, s2, s3⟩; (try have s3 := s3 rfl); go_simp; with_reducible rfl)
        simp only [Act.put, List.setIfInBounds_toArray, List.set_cons_zero, List.set_cons_succ]
        refine held_take (i := 2) (oi := _) (v := ?v2) (some 20) rfl rfl (by kernel_rfl) rfl (fun _ _ _ h => h) (hS _ rfl) ?y2 ?r2
        case y2 => (rintro w' ⟨s1, s2, s3⟩; (try have s3 := s3 rfl); go_simp; with_reducible rfl)
        simp only [Act.put, List.setIfInBounds_toArray, List.set_cons_zero, List.set_cons_succ]
        refine held_take (i := 3) (oi := _) (v := ?v3) (some 21) rfl rfl (by kernel_rfl) rfl (fun _ _ _ h => h) (hS _ rfl) ?y3 ?r3
        case y3 => (rintro w' ⟨s1, s2, s3⟩; (try have s3 := s3 rfl); go_simp; with_reducible rfl)
        simp only [Act.put, List.setIfInBounds_toArray, List.set_cons_zero, List.set_cons_succ]
        refine held_take (i := 4) (oi := _) (v := ?v4) (some 22) rfl rfl (by kernel_rfl) rfl (fun _ _ _ h => h) (hS _ rfl) ?y4 ?r4
        case y4 => (rintro w' ⟨s1, s2, s3⟩; (try have s3 := s3 rfl); go_simp; with_reducible rfl)
        simp only [Act.put, List.setIfInBounds_toArray, List.set_cons_zero, List.set_cons_succ]
        refine held_take (i := 5) (oi := _) (v := ?v5) (some 23) rfl rfl (by kernel_rfl) rfl (fun _ _ _ h => h) (hS _ rfl) ?y5 ?r5
        case y5 => (rintro w' ⟨s1, s2, s3⟩; (try have s3 := s3 rfl); go_simp; with_reducible rfl)
        simp only [Act.put, List.setIfInBounds_toArray, List.set_cons_zero, List.set_cons_succ]
        refine held_take (i := 6) (oi := _) (v := ?v6) (some 24) rfl rfl (by kernel_rfl) rfl (fun _ _ _ h => h) (hS _ rfl) ?y6 ?r6
        case y6 => (rintro w' ⟨s1, s2, s3⟩; (try have s3 := s3 rfl); go_simp; with_reducible rfl)
        simp only [Act.put, List.setIfInBounds_toArray, List.set_cons_zero, List.set_cons_succ]
        have lt1 := h.box.lt
        have lt2 := h.row.lt
        have lt3 := hBi.lt
        have hal : Keeps (fun _ => True) W2 (W2.drew.alloc (.cells #[.int .i64 k] 3)) := ((Keeps.refl _ _).drew).trans (Keeps.alloc _ _ _)
        refine held_step (i := 7) (oi := _) rfl (by kernel_rfl) rfl (wp_value (some 25) rfl (v := .slice (some ⟨W2.drew.heap.size, 0, none⟩) 1 1) (w' := W2.drew.alloc (.cells #[.int .i64 k] 3)) ?b7 ⟨⟨hal.cell h.box.cell trivial, hal.cell hBi.cell trivial, fun _ => hal.cell (h.row.cell hv) trivial⟩, ?_⟩)
        case b7 => go_simp
        simp only [Act.put, List.setIfInBounds_toArray, List.set_cons_zero, List.set_cons_succ]
        have hownd : W2.drew.ownsRow w.heap.size 3 1 v l'.length (l'.flatMap cellsI) := hown
        have hn8 : l'.length < 1000000 := by
          have h1 := addAll_bound pre Hll.out l' (List.mem_of_getElem? hl')
          have h2 := edgesX_len x k
          rw [hxs] at h2
          simp at h2
          omega
        have hc8 : w.heap.size ≤ W2.drew.heap.size := h.keeps.size
        refine held_step (i := 8) (oi := _) rfl (by kernel_rfl) rfl ?_
        refine wp_app1 (w := W2.drew) (some 26) rfl (.tmp 23) (.tmp 25) 26 rfl elT_int w.heap.size v l'.length _ ?hs8 hownd #[.int .i64 k] ?hx8 rfl (by simp [Value.oneCell']) hn8 hc8 ?_
        case hs8 => rfl
        case hx8 => rfl
        intro g cap' w1 hown1 hg hat hgl
        have hg : (W2.alloc (.cells #[.int .i64 k] 3)).grownBy w1 v.ownBlock := ⟨hg.os, hg.tape, hg.output, hg.size, hg.block⟩
        obtain ⟨b1, b2, b3, b4, b5, b6, b7⟩ := jb_step (x := (yk : Int)) h hBi hge t1 t2 t3 t4 t5 t6 t7 t8 rfl hv hl' (fun b (hb : b = wr.heap.size + 2) => hb) hown1 hg hat
        refine ⟨⟨b1.cell, b2.cell, fun _ => b3.cell hv⟩, ?_⟩
        simp only [Act.put, List.setIfInBounds_toArray, List.set_cons_zero, List.set_cons_succ]
        refine held_take (i := 9) (oi := _) (v := ?v9) (some 27) rfl rfl (by kernel_rfl) rfl (fun _ _ _ h => h) ⟨b1.cell, b2.cell, fun _ => b3.cell hv⟩ ?y9 ?r9
        case y9 => (rintro w' ⟨s1, s2, s3⟩; (try have s3 := s3 rfl); go_simp; with_reducible rfl)
        simp only [Act.put, List.setIfInBounds_toArray, List.set_cons_zero, List.set_cons_succ]
        refine held_step (i := 10) (oi := _) rfl (by kernel_rfl) rfl (wp_skip (w' := w1.setCell ⟨w.heap.size, yk, none⟩ (.slice (some ⟨g, 0, none⟩) (l'.length + 1) cap')) rfl ?b10 ⟨⟨?_, ?_, fun h => absurd h (by decide)⟩, held_done (by kernel_rfl) ?_⟩)
        case b10 =>
          have hc := b3.cell hv
          have hf := b3.frozen yk
          go_simp
        · rw [World.cell?_setCell_other]; exact b1.cell; intro e; injection e with e1; exact b4 e1.symm
        · rw [World.cell?_setCell_other]; exact b2.cell; intro e; injection e with e1; exact b5 e1.symm
        exact ⟨b6, b7⟩
    · obtain rfl : k = p.length := by omega
      have hc := hB'.box.cell
      go_wp2_with fail
      refine leaves_marks Ds wr hB'.marks fun W' hcK hkK => ⟨_, results_tmp rfl _ _ _, w.heap.size, rfl, vs, hcK _ _ hB'.row rfl, Nat.le_refl _, hB'.rows.cellkeep hcK, ?_⟩
      exact (hB'.keeps.trans (hkK.mono fun b _ hb hD => by have := hB'.mge b hD; omega)).below (Nat.le_refl _) (fun _ h => h)
end Go.Proofs.Ytfdlhlabkcmikaa
