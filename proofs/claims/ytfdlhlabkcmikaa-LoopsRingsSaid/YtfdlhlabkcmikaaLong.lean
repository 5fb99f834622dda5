/- loops.Longest. -/
import Derived.Test.YtfdlhlabkcmikaaLong0
namespace Go.Proofs.Ytfdlhlabkcmikaa
open Go.RowKit Go.Shelf
attribute [local go_sem] Oper.semAt_some

set_option maxRecDepth 8000 in
set_option maxHeartbeats 2000000 in
theorem Longest_yes (a : Option Addr) (cap : Nat) (p : List Ins) (w : World) (hp : Prg w a cap p) (hok : ∀ x ∈ p, x.Ok) (hc : (checkP p).2 = 0) (hs : ringsRaw p = []) :
    Calls Try.prog 22 #[.slice a p.length cap] w fun e w' => e = .returned (.tuple #[.int .i64 (longX p), .int .i64 0]) ∧ Below w.heap.size w w' := by
  have hR := right_of hc
  have hle := hR.le
  have hol : (orderX p).length ≤ 256 := orderGo_len 256 _
  have hom : ∀ k ∈ orderX p, 0 ≤ k ∧ k < (p.length : Int) := fun k hk => by have := orderGo_mem 256 _ k hk; exact ⟨this.1, this.2.1⟩
  have hd := straight_yes a cap p w hp hok hc hs (by omega)
  have hnx := nextX_bound hR
  clear hs
  refine (callsIn_wide (n := 0)).1 ?_
  refine callsIn_of_wp_marks Try.func22 rfl trivial ?_
  simp only [Try.ntmps22, List.size_toArray, List.length_cons, List.length_nil, Nat.reduceAdd, Nat.reduceSub, Array.replicate_succ, Array.replicate_zero, List.push_toArray, List.append_toArray, List.nil_append, List.cons_append]
  refine wpIn_wide.2 ?_
  go_wp2_with fail
  refine hd.mono ?_
  rintro e w1 ⟨v, Gb, R, rv, vs, rfl, hown, hG, hb1⟩
  obtain ⟨A, c, rfl⟩ := seg_form (seg_of_own hown)
  have hlo : ∀ b off, A = some ⟨b, off, none⟩ → b < w1.heap.size := fun b off e => (hown.lt b (by rw [e]; rfl)).2
  have hsl := slV_of_own hown
  obtain ⟨A', c', e', hsA⟩ := hsl
  cases e'
  have HGl := Lib.hid (And.intro hG.blk.lt hG.row.lt)
  have HG := Lib.hid hG
  have Hlo := Lib.hid hlo
  have HsA := Lib.hid hsA
  clear hG hown hd hlo hsA
  go_wp2_with fail
  obtain ⟨W2, hW2⟩ : ∃ W2, (w1.alloc (.cells #[.pointer (some ⟨Gb, 0, none⟩)] 53)).alloc (.cells Try.zeroCells71 71) = W2 := ⟨_, rfl⟩
  have hs2 : W2.heap.size = w1.heap.size + 2 := by rw [← hW2]; simp
  have hk2 : ∀ q, Keeps q w1 W2 := fun q => hW2 ▸ (Keeps.alloc q _ _).trans (Keeps.alloc q _ _)
  have hbox : Boxed W2 w1.heap.size 53 (.pointer (some ⟨Gb, 0, none⟩)) := by rw [← hW2]; exact (Boxed.new w1 _ _).alloc _
  have hblk : Blk W2 (w1.heap.size + 1) 71 (intsC z256) := by
    rw [← hW2]
    have := World.alloc_heap_new (w1.alloc (.cells #[.pointer (some ⟨Gb, 0, none⟩)] 53)) (.cells Try.zeroCells71 71)
    rw [World.size_alloc] at this
    exact this.trans (by rw [zeros71]; rfl)
  rw [hW2]
  have hback := back_any (SlA.keeps HsA.out (hk2 (fun _ => True)) (fun _ _ _ _ => trivial)) (by omega)
  have hG2 := HG.out.keep (hk2 (fun b => b < w1.heap.size))
  have HG2 := Lib.hid hG2
  have Hbox := Lib.hid hbox
  have Hblk := Lib.hid hblk
  have Hk2 := Lib.hid (hk2 (fun b => b < w.heap.size))
  have Hk2b := Lib.hid (hk2 (fun b => b < w1.heap.size))
  have Hs2 := Lib.hid hs2
  clear hW2 hs2 hk2 hbox hblk hG2
  refine hback.mono ?_
  rintro e w3 ⟨rfl, rfl, hit⟩
  rw [Hs2.out] at hit ⊢
  obtain ⟨W3, hW3⟩ : ∃ W3, W2.alloc (.cells #[.slice A (orderX p).length c] 26) = W3 := ⟨_, rfl⟩
  have hs3 : W3.heap.size = w1.heap.size + 3 := by rw [← hW3]; simp [Hs2.out]
  have hk3 : ∀ q, Keeps q W2 W3 := fun q => hW3 ▸ Keeps.alloc q _ _
  have hG3 := HG2.out.keep (hk3 (fun b => b < W2.heap.size))
  have hbox3 := box_keeps Hbox.out (hk3 (fun _ => True)) trivial
  have hblk3 := Hblk.out.keeps (hk3 (fun _ => True)) trivial
  have hbel3 : Below w.heap.size w W3 := (hb1.trans (Hk2.out.below (by have := hb1.size; omega) (fun _ h => h))).trans ((hk3 (fun b => b < w.heap.size)).below (by have := hb1.size; have := Hs2.out; omega) (fun _ h => h))
  rw [hW3] at hit ⊢
  have Hk13 := Lib.hid (Hk2b.out.trans (hk3 (fun b => b < w1.heap.size)))
  have HG3 := Lib.hid hG3
  have Hbox3 := Lib.hid hbox3
  have Hblk3 := Lib.hid hblk3
  have Hs3 := Lib.hid hs3
  have Hbel3 := Lib.hid hbel3
  have ltw := hb1.size
  clear hW3 hs3 hk3 hG3 hbox3 hblk3 hbel3 hback hb1 HG2 Hbox Hblk Hk2b
  go_wp2_with fail
  refine wpIn_wide.1 (range_law rfl eg_back hit (fun _ _ _ h => by rw [h]; rfl) (fun _ _ _ h _ => h) (fun b h => h.elim)
    (fun pre => Arr W3 (w1.heap.size + 1) (pre.foldl (stepLong (nextX p)) z256)) (fun _ _ _ _ => False) (fun _ => Arr.calm _ _ _) (fun _ _ _ _ _ h _ => h) ?h0 ?rnd ?pr ?done ?stop)
  case pr =>
    rintro b (rfl | ⟨off, rfl⟩)
    · have := Hs3.out; omega
    · have := Hlo.out b off rfl; have := Hs3.out; omega
  case h0 => exact ⟨Hblk3.out, fun b h => h.elim, Keeps.refl _ _, by have := Hs3.out; omega⟩
  case stop => exact fun _ _ _ _ _ _ _ _ h => h.elim
  case done =>
    rintro T W D hD hTD hA - hDe
    have hlen : ((backX (orderX p) (orderX p).length).foldl (stepLong (nextX p)) z256).length = 256 := by rw [stepsLong_len]; exact z256_len
    have hx : ((backX (orderX p) (orderX p).length).foldl (stepLong (nextX p)) z256)[0]? = some (longX p) := by
      have : 0 < ((backX (orderX p) (orderX p).length).foldl (stepLong (nextX p)) z256).length := by omega
      unfold longX
      simp [this]
    have c0 := hA.blk.cell (intsC_get hx)
    have hkA := hA.keeps
    have HA := Lib.hid hkA
    clear hA hx hlen hkA
    go_wp2_with fail
    refine ⟨by simp, .inl ⟨_, _, rfl, run_takeDeferred hDe, ?_⟩⟩
    refine ⟨_, results_tmp2 (t := 2) (u := 3) rfl _ _ _, rfl, ?_⟩
    have h3 := Hs3.out
    exact (Hbel3.out.trans (HA.out.below (by omega) (fun b hb => by omega))).trans ((Keeps.putObj (p := fun b => b < w.heap.size) W D _ (fun h => by omega)).below (by have := HA.out.size; omega) (fun _ h => h))
  case rnd =>
    rintro l pre x post T vs1 W1 hl hTl hT0T hxs hJ hR1
    obtain rfl : vs1 = #[.int .i64 x.1, .int .i64 x.2] := hR1
    gi_wp2_with fail
    refine ⟨hJ, Keeps.refl _ _, fun X _ _ hJ2 => ?_⟩
    have hxm : x.2 ∈ orderX p := backX_mem _ (Nat.le_refl _) x (by rw [hxs]; simp)
    obtain ⟨x1, x2⟩ := hom x.2 hxm
    have hpl : pre.length ≤ 256 := by
      have := congrArg List.length hxs
      rw [backX_len] at this
      simp at this
      omega
    obtain ⟨xi, xv⟩ := x
    simp only at x1 x2 hxm hxs ⊢
    obtain ⟨i, rfl⟩ : ∃ i : Nat, xv = i := ⟨xv.toNat, by omega⟩
    have hi : i < p.length := by omega
    have hi256 : (i : Int) < 256 := by omega
    have hi0 : (0 : Int) ≤ i := by omega
    have hin : (i : Int) < p.length := by omega
    have hml : (pre.foldl (stepLong (nextX p)) z256).length = 256 := by rw [stepsLong_len]; exact z256_len
    have hmb := stepsLong_bound (next := nextX p) nextX_row pre (m := z256) (b := 0) (Int.le_refl 0) (fun v hv => by have := z256_mem v hv; omega)
    obtain ⟨m0, hm0⟩ : ∃ m0, pre.foldl (stepLong (nextX p)) z256 = m0 := ⟨_, rfl⟩
    rw [hm0] at hml hmb hJ2
    have hmb2 : ∀ v ∈ m0, 0 ≤ v ∧ v ≤ 2000 := fun v hv => by have := hmb v hv; omega
    have hpre : (pre ++ [(xi, (i : Int))]).foldl (stepLong (nextX p)) z256 = stepLong (nextX p) m0 (xi, i) := by rw [List.foldl_append, hm0]; rfl
    have Hpre := Lib.hid hpre
    clear hmb hm0 hpre hxs hxm hJ
    obtain ⟨li, B, d, hli, hvi, hsl⟩ := HG.out.rowAt hi
    have hll : li.length ≤ 3 := nextX_row li (List.mem_of_getElem? hli)
    have hst : stepLong (nextX p) m0 (xi, i) = li.foldl (innerLong i) (m0.set i 1) := by unfold stepLong; simp only [Int.toNat_natCast, hli]; rfl
    have h3 := Hs3.out
    have ne1 : w1.heap.size ≠ w1.heap.size + 1 := by omega
    have cbx := (box_keeps Hbox3.out hJ2.keeps ⟨Hbox3.out.lt, ne1⟩).cell
    have hGl := HGl.out
    have cgx := hJ2.keeps.cell (HG3.out.blk.cell (j := 2) rfl) ⟨HG3.out.blk.lt, by show Gb ≠ _; omega⟩
    have crx := hJ2.keeps.cell (HG3.out.row.cell hvi) ⟨HG3.out.row.lt, by show R ≠ _; omega⟩
    have cm := hJ2.blk.cell (intsC_get (List.getElem?_eq_getElem (show i < m0.length by omega)))
    have fm := hJ2.blk.frozen i
    have hnew := hJ2.blk.set i (.int .i64 1)
    rw [intsC_set] at hnew
    have hkX : Keeps (fun b => b ≠ w1.heap.size + 1) X (X.setCell ⟨w1.heap.size + 1, i, none⟩ (.int .i64 1)) := Keeps.setCell _ _ _ (fun h => h rfl)
    have hsX : X.heap.size = (X.setCell ⟨w1.heap.size + 1, i, none⟩ (.int .i64 1)).heap.size := by simp [World.setCell]
    have n1 : ¬ w1.heap.size = w1.heap.size + 1 := by omega
    have n2 : ¬ Gb = w1.heap.size + 1 := by omega
    have n3 : ¬ R = w1.heap.size + 1 := by omega
    have HJ2 := Lib.hid hJ2
    have Hnew := Lib.hid hnew
    have HkX := Lib.hid (And.intro hkX hsX)
    have Hli := Lib.hid hli
    have Hsl := Lib.hid hsl
    have Hst := Lib.hid hst
    clear hJ2 hnew hkX hsX hli hsl hst hvi
    gi_wp2_with fail
    clear cbx cgx crx cm fm n1 n2 n3
    gi_loopw [35] (fun t W' => ∃ k : Nat, k ≤ li.length ∧ t = .int .i64 k ∧ Hid (Blk W' (w1.heap.size + 1) 71 (intsC ((li.take k).foldl (innerLong i) (m0.set i 1)))) ∧ Hid (Keeps (fun b => b ≠ w1.heap.size + 1) X W')) (fun t _ => li.length - (intOf t).toNat)
    case atStart => exact ⟨0, Nat.zero_le _, rfl, Hnew, Lib.hid HkX.out.1⟩
    case round =>
      obtain ⟨k, hk, rfl, hL, hkk⟩ := hrel
      by_cases hlt2 : k < li.length
      · obtain ⟨y, hy⟩ : ∃ y, li[k]? = some y := ⟨_, List.getElem?_eq_getElem hlt2⟩
        obtain ⟨y1, y2⟩ := hnx i li Hli.out y (List.mem_of_getElem? hy)
        obtain ⟨yk, rfl⟩ : ∃ yk : Nat, y = yk := ⟨y.toNat, by omega⟩
        have hy256 : (yk : Int) < 256 := by omega
        have hcl : ((li.take k).foldl (innerLong i) (m0.set i 1)).length = 256 := by rw [innersLong_len]; simpa using hml
        have hbd := innersLong_bound i (li.take k) (m0.set i 1) 2001 (by omega) (fun u hu => by
          rcases List.mem_or_eq_of_mem_set hu with hu | rfl
          · have := hmb2 u hu; omega
          · omega)
        have hl3 : (li.take k).length ≤ 3 := by have := List.length_take_le k li; omega
        have htk : (li.take (k + 1)).foldl (innerLong i) (m0.set i 1) = innerLong i ((li.take k).foldl (innerLong i) (m0.set i 1)) yk := by rw [List.take_add_one, hy, List.foldl_append]; rfl
        obtain ⟨m1, hm1⟩ : ∃ m1, (li.take k).foldl (innerLong i) (m0.set i 1) = m1 := ⟨_, rfl⟩
        rw [hm1] at hcl hbd htk hL
        obtain ⟨u, hu⟩ : ∃ u, m1[i]? = some u := ⟨_, List.getElem?_eq_getElem (by omega)⟩
        obtain ⟨z, hz⟩ : ∃ z, m1[yk]? = some z := ⟨_, List.getElem?_eq_getElem (by omega)⟩
        obtain ⟨u1, u2⟩ := hbd u (List.mem_of_getElem? hu)
        obtain ⟨z1, z2⟩ := hbd z (List.mem_of_getElem? hz)
        have hw : IntKind.i64.wrap (1 + z) = 1 + z := IntWalk.i64_in _ ⟨by omega, by omega⟩
        have cu := hL.out.cell (intsC_get hu)
        have cz := hL.out.cell (intsC_get hz)
        have fu := hL.out.frozen i
        obtain ⟨b', o', rfl, hbl, hcy⟩ := Hsl.out.one (intsC_get hy)
        have hcy' := hkk.out.cell (HJ2.out.keeps.cell (Hk13.out.cell hcy hbl) ⟨by show b' < _; have := Hs3.out; omega, by show b' ≠ _; omega⟩) (by show b' ≠ _; omega)
        have hnew := hL.out.set i (.int .i64 (max u (1 + z)))
        rw [intsC_set] at hnew
        have hin1 : innerLong i m1 (yk : Int) = m1.set i (max u (1 + z)) := by unfold innerLong; simp [hu, hz]
        rw [hin1] at htk
        have Htk := Lib.hid htk
        have Hnew := Lib.hid hnew
        clear hm1 hcl hbd htk hL hu hz hcy hin1 hnew hy
        gi_wp2_with fail
        refine held_in (m := 10) (S := fun b w' => b = false → (w'.cell? ⟨w1.heap.size + 1, i, none⟩ = some (.int .i64 u) ∧ w'.cell? ⟨w1.heap.size + 1, yk, none⟩ = some (.int .i64 z))) (by kernel_rfl) (by kernel_rfl) (fun ⟨_, _, h⟩ => h) ?_
        have hS : false = false → (wr.drew.cell? ⟨w1.heap.size + 1, i, none⟩ = some (.int .i64 u) ∧ wr.drew.cell? ⟨w1.heap.size + 1, yk, none⟩ = some (.int .i64 z)) := fun _ => ⟨cu, cz⟩
        refine held_take (i := 0) (oi := _) (v := ?av0) (some 39) rfl rfl (by kernel_rfl) rfl (fun _ _ _ h => h) hS ?ay0 ?ar0
        case ay0 => (rintro w' s1; (try have s1 := s1 rfl); (try obtain ⟨s1, s2⟩ := s1); go_simp; with_reducible rfl)
        simp only [Act.put, List.setIfInBounds_toArray, List.set_cons_zero, List.set_cons_succ]
        refine held_take (i := 1) (oi := _) (v := ?av1) (some 40) rfl rfl (by kernel_rfl) rfl (fun _ _ _ h => h) hS ?ay1 ?ar1
        case ay1 => (rintro w' s1; (try have s1 := s1 rfl); (try obtain ⟨s1, s2⟩ := s1); go_simp; with_reducible rfl)
        simp only [Act.put, List.setIfInBounds_toArray, List.set_cons_zero, List.set_cons_succ]
        refine held_take (i := 2) (oi := _) (v := ?av2) (some 41) rfl rfl (by kernel_rfl) rfl (fun _ _ _ h => h) hS ?ay2 ?ar2
        case ay2 => (rintro w' s1; (try have s1 := s1 rfl); (try obtain ⟨s1, s2⟩ := s1); go_simp; with_reducible rfl)
        simp only [Act.put, List.setIfInBounds_toArray, List.set_cons_zero, List.set_cons_succ]
        refine held_take (i := 3) (oi := _) (v := ?av3) (some 42) rfl rfl (by kernel_rfl) rfl (fun _ _ _ h => h) hS ?ay3 ?ar3
        case ay3 => (rintro w' s1; (try have s1 := s1 rfl); (try obtain ⟨s1, s2⟩ := s1); go_simp; with_reducible rfl)
        simp only [Act.put, List.setIfInBounds_toArray, List.set_cons_zero, List.set_cons_succ]
        refine held_take (i := 4) (oi := _) (v := ?av4) (some 43) rfl rfl (by kernel_rfl) rfl (fun _ _ _ h => h) hS ?ay4 ?ar4
        case ay4 => (rintro w' s1; (try have s1 := s1 rfl); (try obtain ⟨s1, s2⟩ := s1); go_simp; with_reducible rfl)
        simp only [Act.put, List.setIfInBounds_toArray, List.set_cons_zero, List.set_cons_succ]
        refine held_take (i := 5) (oi := _) (v := ?av5) (some 44) rfl rfl (by kernel_rfl) rfl (fun _ _ _ h => h) hS ?ay5 ?ar5
        case ay5 => (rintro w' s1; (try have s1 := s1 rfl); (try obtain ⟨s1, s2⟩ := s1); go_simp; with_reducible rfl)
        simp only [Act.put, List.setIfInBounds_toArray, List.set_cons_zero, List.set_cons_succ]
        refine held_take (i := 6) (oi := _) (v := ?av6) (some 45) rfl rfl (by kernel_rfl) rfl (fun _ _ _ h => h) hS ?ay6 ?ar6
        case ay6 => (rintro w' s1; (try have s1 := s1 rfl); (try obtain ⟨s1, s2⟩ := s1); go_simp; with_reducible rfl)
        simp only [Act.put, List.setIfInBounds_toArray, List.set_cons_zero, List.set_cons_succ]
        refine held_take (i := 7) (oi := _) (v := .int .i64 (1 + z)) (some 46) rfl rfl (by kernel_rfl) rfl (fun _ _ _ h => h) hS ?ay7 ?ar7
        case ay7 => (rintro w' s1; go_simp)
        simp only [Act.put, List.setIfInBounds_toArray, List.set_cons_zero, List.set_cons_succ]
        refine held_take (i := 8) (oi := _) (v := .int .i64 (max u (1 + z))) (some 47) rfl rfl (by kernel_rfl) rfl (fun _ _ _ h => h) hS ?ay8 ?ar8
        case ay8 => (rintro w' s1; go_simp)
        simp only [Act.put, List.setIfInBounds_toArray, List.set_cons_zero, List.set_cons_succ]
        refine held_take (i := 9) (oi := _) (v := ?av9) (some 48) rfl rfl (by kernel_rfl) rfl (fun _ _ _ h => h) hS ?ay9 ?ar9
        case ay9 => (rintro w' s1; go_simp; with_reducible rfl)
        simp only [Act.put, List.setIfInBounds_toArray, List.set_cons_zero, List.set_cons_succ]
        refine held_step (i := 10) (oi := _) rfl (by kernel_rfl) rfl (wp_skip (w' := wr.drew.setCell ⟨w1.heap.size + 1, i, none⟩ (.int .i64 (max u (1 + z)))) rfl ?b10 ⟨fun h => absurd h (by decide), held_done (by kernel_rfl) ?_⟩)
        case b10 =>
          have hc : wr.drew.cell? ⟨w1.heap.size + 1, i, none⟩ = _ := cu
          have hf : wr.drew.frozen? ⟨w1.heap.size + 1, i, none⟩ = false := fu
          go_simp
        have hbn : Blk (wr.drew.setCell ⟨w1.heap.size + 1, i, none⟩ (.int .i64 (max u (1 + z)))) (w1.heap.size + 1) 71 (intsC (m1.set i (max u (1 + z)))) := Hnew.out
        have hkn : Keeps (fun b => b ≠ w1.heap.size + 1) X (wr.drew.setCell ⟨w1.heap.size + 1, i, none⟩ (.int .i64 (max u (1 + z)))) := (hkk.out.drew).trans (Keeps.setCell _ _ _ (fun h => h rfl))
        obtain ⟨X8, hX8⟩ : ∃ X8, wr.drew.setCell ⟨w1.heap.size + 1, i, none⟩ (.int .i64 (max u (1 + z))) = X8 := ⟨_, rfl⟩
        rw [hX8] at hbn hkn ⊢
        have Hbn := Lib.hid hbn
        have Hkn := Lib.hid hkn
        clear hX8 hbn hkn cu cz fu hcy'
        gi_wp2_with fail
        go_roundw
        case rel =>
          refine ⟨k + 1, by omega, by go_num, ?_, Hkn⟩
          rw [Htk.out]
          exact Hbn
        case measure => simp [intOf]; omega
      · have hk' : k = li.length := by omega
        subst hk'
        rw [List.take_length] at hL
        gi_wp2_with fail
        have hpr : Keeps (fun b => (b = w1.heap.size + 2 ∨ ∃ off, A = some ⟨b, off, none⟩) ∨ T b) X wr := hkk.out.mono fun b _ hb => by
          rintro rfl
          rcases hb with (hb | ⟨off, hb⟩) | hb
          · omega
          · have := Hlo.out _ off hb; omega
          · have := HJ2.out.tge _ hb; omega
        refine ⟨?_, hpr⟩
        show Arr W3 (w1.heap.size + 1) _ T wr
        rw [Hpre.out, Hst.out]
        exact HJ2.out.step hL.out hkk.out

theorem Longest_no (a : Option Addr) (cap : Nat) (p : List Ins) (w : World) (hp : Prg w a cap p) (hok : ∀ x ∈ p, x.Ok) (hc : (checkP p).2 = 0) (hs : ringsRaw p ≠ []) :
    Calls Try.prog 22 #[.slice a p.length cap] w fun e w' => e = .returned (.tuple #[.int .i64 0, .int .i64 201]) ∧ Below w.heap.size w w' := by
  have hd := straight_no a cap p w hp hok hc hs
  clear hs
  go_enter Try.func22, Try.ntmps22
  go_wp2_with fail
  refine hd.mono ?_
  rintro e w1 ⟨rfl, hb1⟩
  have hws := hb1.size
  go_wp2_with fail
  go_ret2
  exact ⟨rfl, by repeat (first | exact hb1 | (refine Below.alloc ?_ hws _) | (refine Below.setCell ?_ hws _))⟩
end Go.Proofs.Ytfdlhlabkcmikaa
