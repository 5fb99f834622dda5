/- loops.order: its iterator. -/
import Derived.Test.YtfdlhlabkcmikaaRings
import Derived.Test.YtfdlhlabkcmikaaOrd1
import Derived.Deep.LoopGhost
namespace Go.Proofs.Ytfdlhlabkcmikaa
open Go.RowKit Go.Shelf

def orderX (p : List Ins) : List Int := orderOf (reachedX p) (nextX p) p.length

theorem nextX_len (p : List Ins) : (nextX p).length = p.length := by simp [nextX]
theorem nextX_bound {p : List Ins} (hR : Right p) : ∀ (i : Nat) (r : List Int), (nextX p)[i]? = some r → ∀ k ∈ r, 0 ≤ k ∧ k < (p.length : Int) := by
  intro i r hr k hk
  have hi : i < p.length := by have := (List.getElem?_eq_some_iff.1 hr).1; rwa [nextX_len] at this
  have e : nextAt p i = r := by simpa [nextX, hi] using hr
  rw [← e] at hk
  unfold nextAt at hk
  split at hk
  · have hx : p[i]? = some p[i] := List.getElem?_eq_getElem hi
    rw [hx] at hk
    exact hR.edges i _ hx k hk
  · cases hk

theorem nextX_row {p : List Ins} : ∀ r ∈ nextX p, r.length ≤ 3 := by
  intro r hr
  obtain ⟨i, -, rfl⟩ := List.mem_map.1 hr
  unfold nextAt
  split
  · split
    · exact edgesX_len _ _
    · simp
  · simp

/-- What a row of the graph is, in memory. -/
theorem GraphM.rowAt {w : World} {base Gb R : Nat} {pv rv : Value} {vs : List Value} {p : List Ins} (hG : GraphM w base Gb R pv rv vs p p.length) {i : Nat} (hi : i < p.length) :
    ∃ li A c, (nextX p)[i]? = some li ∧ vs[i]? = some (.slice A li.length c) ∧ SlA w 1 A li.length c (intsC li) := by
  obtain ⟨ri, hri⟩ : ∃ r, vs[i]? = some r := ⟨_, List.getElem?_eq_getElem (by rw [hG.rows.len]; simp [nextUpto]; exact hi)⟩
  obtain ⟨li, hli, hown⟩ := hG.rows.at hri
  rw [nextUpto_all] at hli
  have h := slV_of_own hown
  rw [intsC_flat] at h
  obtain ⟨A, c, rfl, hs⟩ := h
  exact ⟨li, A, c, hli, hri, hs⟩

theorem calm_same {J : (Nat → Prop) → World → Prop} (hc : Calm J) {T : Nat → Prop} {X Y : World} (hs : X.heap.size = Y.heap.size) (hk : Keeps (fun b => ¬ T b) X Y) (h : J T X) : J T Y := by
  have := hc T X Y h hk
  have he : (fun b => T b ∨ (X.heap.size ≤ b ∧ b < Y.heap.size)) = T := set_eq fun b => ⟨fun h => h.elim id (fun h => by omega), .inl⟩
  rwa [he] at this

/-- The two lists of the iterator. -/
structure OM (w W : World) (L D : Nat) (p : List Ins) (g : Nat) (s : OS) (pre : List Int) : Prop where
  left : Blk W L 71 (intsC s.left)
  done : Blk W D 79 (boolsC s.done)
  ll : s.left.length = 256
  dl : s.done.length = 256
  lb : ∀ v ∈ s.left, 3 * (g : Int) - 768 ≤ v ∧ v ≤ 768
  rest : pre ++ orderGo (reachedX p) (nextX p) p.length g s = orderX p
  un : undone s ≤ g
  g256 : g ≤ 256
  keeps : Keeps (fun b => b < w.heap.size) w W
  ge : w.heap.size ≤ L ∧ w.heap.size ≤ D ∧ L ≠ D

set_option maxRecDepth 8000 in
set_option maxHeartbeats 2000000 in
theorem order_iter {w : World} {base Gb R B1 : Nat} {pv rv : Value} {vs : List Value} {p : List Ins} (hG : GraphM w base Gb R pv rv vs p p.length) (hB : Boxed w B1 53 (.pointer (some ⟨Gb, 0, none⟩))) (hR : Right p) :
    Iter Try.prog 58 #[.pointer (some ⟨B1, 0, none⟩)] intR (fun _ _ => True) (fun b => b < w.heap.size) (fun _ => False) w (orderX p) := by
  obtain ⟨rg, rc, rfl, -, hrg⟩ := hG.reached.form hR.pos
  have hrl : (reachedX p).length = p.length := by have := hG.reached.1; simpa [boolsC] using this
  have Hrl := Lib.hid hrl
  clear hrl
  intro l J Jx W hW hJ hJx hY h0
  have hle := hR.le
  have hnx := nextX_bound hR
  have hGW := hG.keep (hW.mono fun _ _ _ => trivial)
  have hBW := box_keeps hB hW trivial
  have hwW := hW.size
  refine callsIn_of_wp Try.func58 rfl trivial ?_
  simp only [Try.ntmps58, List.size_toArray, List.length_cons, List.length_nil, Nat.reduceAdd, Nat.reduceSub, Array.replicate_succ, Array.replicate_zero, List.push_toArray, List.append_toArray, List.nil_append, List.cons_append]
  rw [wpIn_wide]
  have cb := hBW.cell
  have cg := hGW.blk.cell (j := 2) rfl
  have k1 := hBW.lt
  have k2 := hGW.blk.lt
  have HGW := Lib.hid hGW
  have HW := Lib.hid hW
  have HY := Lib.hid hY
  have HJ := Lib.hid hJ
  clear hGW hW hY hJ
  go_wp2_with fail
  go_step3
  go_wp2_with fail
  have hacc : ∀ i : Nat, ((((nextX p).take i).foldl (bumpAll 1) (List.replicate 256 0)).length = 256) := fun i => by rw [bumps_len]; exact List.length_replicate
  have haccb : ∀ i : Nat, i ≤ 256 → ∀ v ∈ ((nextX p).take i).foldl (bumpAll 1) (List.replicate 256 0), 0 ≤ v ∧ v ≤ 768 := fun i hi v hv => by
    have := bumps_bound ((nextX p).take i) 3 (fun r hr => nextX_row r (List.mem_of_mem_take hr)) (List.replicate 256 0) 0 0 (fun v hv => by have := List.eq_of_mem_replicate hv; omega) v hv
    have h2 : ((nextX p).take i).length ≤ i := List.length_take_le _ _
    omega
  have Hacc := Lib.hid hacc
  have Haccb := Lib.hid haccb
  clear hacc haccb
  go_loopw [16] (fun t W' => ∃ i : Nat, i ≤ p.length ∧ t = .int .i64 i ∧ Blk W' W.heap.size 71 (intsC (((nextX p).take i).foldl (bumpAll 1) (List.replicate 256 0))) ∧ Keeps (fun b => b < W.heap.size) W W') (fun t _ => p.length - (intOf t).toNat)
  case atStart => exact ⟨0, Nat.zero_le _, rfl, (World.alloc_heap_new _ _).trans (by rw [zeros71]; rfl), Keeps.alloc _ _ _⟩
  case round =>
    obtain ⟨i, hi, rfl, hL, hk⟩ := hrel
    by_cases hlt : i < p.length
    · obtain ⟨li, A, c, hli, hvi, hsl⟩ := HGW.out.rowAt hlt
      have hll : li.length ≤ 3 := nextX_row li (List.mem_of_getElem? hli)
      have cb1 := hk.cell cb hBW.lt
      have cg1 := hk.cell cg HGW.out.blk.lt
      have cr1 := hk.cell (HGW.out.row.cell hvi) HGW.out.row.lt
      have hin : (i : Int) < p.length := by omega
      have HL := Lib.hid hL
      have HK := Lib.hid hk
      have Hsl := Lib.hid hsl
      have Hli := Lib.hid hli
      clear hL hk hsl hvi hli
      go_wp2_with fail
      obtain ⟨Wi, hWi⟩ : ∃ Wi : World, wr = Wi := ⟨_, rfl⟩
      rw [hWi] at HL HK ⊢
      clear cb1 cg1 cr1 hWi
      go_loopw [27] (fun t W' => ∃ k : Nat, k ≤ li.length ∧ t = .int .i64 k ∧ Blk W' W.heap.size 71 (intsC (bumpAll 1 (((nextX p).take i).foldl (bumpAll 1) (List.replicate 256 0)) (li.take k))) ∧ Keeps (fun b => b < W.heap.size) W W') (fun t _ => li.length - (intOf t).toNat)
      case atStart => exact ⟨0, Nat.zero_le _, rfl, HL.out, HK.out⟩
      case round =>
        obtain ⟨k, hk, rfl, hL, hkk⟩ := hrel
        by_cases hlt2 : k < li.length
        · obtain ⟨y, hy⟩ : ∃ y, li[k]? = some y := ⟨_, List.getElem?_eq_getElem hlt2⟩
          obtain ⟨y1, y2⟩ := hnx i li Hli.out y (List.mem_of_getElem? hy)
          obtain ⟨yk, rfl⟩ : ∃ yk : Nat, y = yk := ⟨y.toNat, by omega⟩
          have hy256 : (yk : Int) < 256 := by omega
          obtain ⟨b', o', rfl, hbl, hcy⟩ := Hsl.out.one (intsC_get hy)
          have hcy' := hkk.cell hcy hbl
          obtain ⟨acc, hac⟩ : ∃ acc, ((nextX p).take i).foldl (bumpAll 1) (List.replicate 256 0) = acc := ⟨_, rfl⟩
          have hal := Hacc.out i
          have hab := Haccb.out i (by omega)
          have htk := bumpAll_take (d := 1) (l := acc) hy
          rw [hac] at hL hal hab
          have hbl2 := bumpUp_bound (li.take k) acc 0 768 hab
          have hl3 : (li.take k).length ≤ 1000 := by have := List.length_take_le k li; omega
          have hcl : (bumpAll 1 acc (li.take k)).length = 256 := by rw [bumpAll_len]; exact hal
          obtain ⟨u, hu⟩ : ∃ u, (bumpAll 1 acc (li.take k))[yk]? = some u := ⟨_, List.getElem?_eq_getElem (by rw [hcl]; omega)⟩
          obtain ⟨u1, u2⟩ := hbl2 u (List.mem_of_getElem? hu)
          have hu3 : u ≤ 1000000 := by omega
          have cu := hL.cell (intsC_get hu)
          have fu := hL.frozen yk
          have hnew := hL.set yk (.int .i64 (u + 1))
          rw [intsC_set] at hnew
          have hk2 := hkk.trans (Keeps.setCell wr ⟨W.heap.size, yk, none⟩ (.int .i64 (u + 1)) (Nat.lt_irrefl _))
          have Hac := Lib.hid hac
          have Htk := Lib.hid htk
          have Hu := Lib.hid hu
          have Hnew := Lib.hid hnew
          have HK2 := Lib.hid hk2
          clear hac htk hu hnew hk2 hL hkk hal hab hbl2 hcl hy hcy
          go_wp2_with fail
          go_roundw
          case rel =>
            refine ⟨k + 1, by omega, by go_num, ?_, HK2.out⟩
            rw [Hac.out, Htk.out, Int.toNat_natCast, Hu.out]
            exact Hnew.out
          case measure => simp [intOf]; omega
        · have hk' : k = li.length := by omega
          subst hk'
          rw [List.take_length] at hL
          have HL2 := Lib.hid hL
          have HK2 := Lib.hid hkk
          clear hL hkk
          go_wp2_with fail
          go_roundw
          case rel =>
            refine ⟨i + 1, by omega, by go_num, ?_, HK2.out⟩
            rw [List.take_add_one, Hli.out, List.foldl_append]
            exact HL2.out
          case measure => simp [intOf]; omega
    · obtain rfl : i = p.length := by omega
      go_wp2_with fail
      have hlen : (nextX p).take p.length = nextX p := List.take_of_length_le (Nat.le_of_eq (nextX_len p))
      rw [hlen] at hL
      have hb0 := Haccb.out p.length hle
      have hl0 := Hacc.out p.length
      rw [hlen] at hb0 hl0
      obtain ⟨D, hD⟩ : ∃ D, wr.heap.size = D := ⟨_, rfl⟩
      obtain ⟨L, hLe⟩ : ∃ L, W.heap.size = L := ⟨_, rfl⟩
      have hLD : L < D := by have := hL.lt; omega
      obtain ⟨W2, hW2⟩ : ∃ W2, wr.alloc (.cells Try.zeroCells79 79) = W2 := ⟨_, rfl⟩
      have hs2 : W2.heap.size = D + 1 := by rw [← hW2, ← hD]; simp
      have hk2 : Keeps (fun b => b < W.heap.size) W W2 := hW2 ▸ hk.trans (Keeps.alloc _ _ _)
      have hJ0 := HJ.out [] (fun _ => False) W W2 h0 (hk2.mono fun b hb _ => hb)
      have hOM : OM w W2 L D p 256 (OS.start (nextX p)) [] := by
        refine ⟨?_, ?_, hl0, List.length_replicate, fun v hv => ?_, rfl, ?_, Nat.le_refl _, (HW.out.mono fun _ _ _ => trivial).trans (hk2.mono fun b _ hb => by omega), by omega⟩
        · rw [← hLe, ← hW2]; exact hL.keeps (Keeps.alloc (fun _ => True) _ _) trivial
        · rw [← hD, ← hW2]; exact (World.alloc_heap_new _ _).trans (by rw [zeros79]; rfl)
        · have := hb0 v hv; omega
        · have := List.countP_le_length (p := (! ·)) (l := List.replicate 256 false)
          rwa [List.length_replicate] at this
      obtain ⟨T, hT⟩ : ∃ T : Nat → Prop, T = fun b => False ∨ (W.heap.size ≤ b ∧ b < W2.heap.size) := ⟨_, rfl⟩
      rw [← hT] at hJ0
      have hTL : T L := by rw [hT]; exact .inr (by omega)
      have hTD : T D := by rw [hT]; exact .inr (by omega)
      clear hT
      rw [hD, hW2, hLe]
      have HX := Lib.hid (And.intro hOM (And.intro hJ0 (And.intro hTL hTD)))
      have HBx := Lib.hid hB
      have HGx := Lib.hid hG
      clear hL hk hlen hb0 hl0 hD hLe hW2 hs2 hk2 hJ0 hOM hTL hTD hB hG cb cg HGW Hacc Haccb h0 hBW k1 k2 hlt
      go_step3
      go_wp2_with fail
      go_loopg [] 256 (fun g wr => ∃ (s : OS) (pre : List Int) (T : Nat → Prop), Hid (OM w wr L D p g s pre) ∧ Hid (J pre T wr) ∧ T L ∧ T D)
      case atStart => exact ⟨_, [], T, HX.out.1, HX.out.2.1, HX.out.2.2.1, HX.out.2.2.2⟩
      case round =>
        clear HX
        obtain ⟨s, pre, T, HO, HJt, hTL, hTD⟩ := hrel
        have hbb := (box_keeps HBx.out HO.out.keeps HBx.out.lt).cell
        have hGo := HGx.out.keep HO.out.keeps
        have cg := hGo.blk.cell (j := 2) rfl
        have cr := hGo.blk.cell (j := 1) rfl
        have HGo := Lib.hid hGo
        clear hGo
        go_wp2_with fail
        obtain ⟨Wo, hWo⟩ : ∃ Wo : World, wr = Wo := ⟨_, rfl⟩
        rw [hWo] at HO HJt HGo hbb cg cr ⊢
        clear hWo
        obtain ⟨ga, hga⟩ : ∃ ga : Nat, gk = ga := ⟨_, rfl⟩
        rw [hga] at HO
        have Hga := Lib.hid hga
        clear hga
        go_loopg [43] p.length (fun g4 t wx => ∃ i : Nat, i + g4 = p.length ∧ t = .int .i64 i ∧ wx = Wo ∧ Hid (∀ j, j < i → s.can (reachedX p) j = false))
        case atStart => exact ⟨0, by omega, rfl, rfl, Lib.hid (fun j hj => absurd hj (Nat.not_lt_zero _))⟩
        case round =>
          obtain ⟨i, hi, rfl, rfl, hno⟩ := hrel
          by_cases hlt : i < p.length
          · have hin : (i : Int) < p.length := by omega
            have hi256 : (i : Int) < 256 := by omega
            obtain ⟨g', rfl⟩ : ∃ g', gk = g' + 1 := ⟨gk - 1, by omega⟩
            obtain ⟨r, hr⟩ : ∃ r, (reachedX p)[i]? = some r := ⟨_, List.getElem?_eq_getElem (by rw [Hrl.out]; exact hlt)⟩
            obtain ⟨d, hd⟩ : ∃ d, s.done[i]? = some d := ⟨_, List.getElem?_eq_getElem (by rw [HO.out.dl]; omega)⟩
            obtain ⟨u, hu⟩ : ∃ u, s.left[i]? = some u := ⟨_, List.getElem?_eq_getElem (by rw [HO.out.ll]; omega)⟩
            have hcan : s.can (reachedX p) i = (r && (!d && decide (u ≤ 0))) := by unfold OS.can; rw [hr, hd, hu]; rfl
            have cri : wr.cell? ⟨rg, i, none⟩ = some (.bool r) := by
              obtain ⟨a', c', e', hs⟩ := slV_of_own HGo.out.reached
              cases e'
              obtain ⟨b', o', e2, -, hc2⟩ := hs.one (boolsC_get hr)
              cases e2
              simpa using hc2
            have cdi := HO.out.done.cell (boolsC_get hd)
            have cui := HO.out.left.cell (intsC_get hu)
            have Hr := Lib.hid hr
            have Hd := Lib.hid hd
            have Hu := Lib.hid hu
            have hstep : s.can (reachedX p) i = false → Hid (∀ j, j < i + 1 → s.can (reachedX p) j = false) := fun hc => Lib.hid fun j hj => by
              by_cases e : j = i
              · rw [e]; exact hc
              · exact hno.out j (by omega)
            have Hstep := Lib.hid hstep
            have Hcan := Lib.hid hcan
            clear hr hd hu hcan hstep
            cases r with
            | false =>
              go_wp2_with fail
              go_roundg g'
              case measure => omega
              case rel => exact ⟨i + 1, by omega, by go_num, rfl, Hstep.out (by rw [Hcan.out]; rfl)⟩
            | true =>
              cases d with
              | true =>
                go_wp2_with fail
                go_roundg g'
                case measure => omega
                case rel => exact ⟨i + 1, by omega, by go_num, rfl, Hstep.out (by rw [Hcan.out]; rfl)⟩
              | false =>
                by_cases hup : 0 < u
                · go_wp2_with fail
                  go_roundg g'
                  case measure => omega
                  case rel => exact ⟨i + 1, by omega, by go_num, rfl, Hstep.out (by rw [Hcan.out]; simp; omega)⟩
                · have hcn : s.can (reachedX p) i = true := by rw [Hcan.out]; simp; omega
                  have hpk : s.pick (reachedX p) p.length = some i := pick_some hlt hcn hno.out
                  have hup := undone_take (next := nextX p) Hd.out
                  have hga : ∃ g1, ga = g1 + 1 := ⟨ga - 1, by have := HO.out.un; omega⟩
                  obtain ⟨g1, rfl⟩ := hga
                  have hrest := HO.out.rest
                  rw [orderGo] at hrest
                  simp only [hpk] at hrest
                  have fdi := HO.out.done.frozen i
                  have hge := HO.out.ge
                  have hks : ∀ q : Nat → Prop, ¬ q D → Keeps q wr (wr.setCell ⟨D, i, none⟩ (.bool true)) := fun q hq => Keeps.setCell _ _ _ hq
                  have hdn := HO.out.done.set i (.bool true)
                  rw [boolsC_set] at hdn
                  have hlf := HO.out.left.keeps (hks (fun b => b ≠ D) (fun h => h rfl)) hge.2.2
                  have hJ1 := calm_same (HJ.out pre) (by simp [World.setCell]) (hks (fun b => ¬ T b) (fun h => h hTD)) HJt.out
                  have hk1 := HO.out.keeps.trans (hks (fun b => b < w.heap.size) (by omega))
                  obtain ⟨W1, hW1⟩ : ∃ W1, wr.setCell ⟨D, i, none⟩ (.bool true) = W1 := ⟨_, rfl⟩
                  rw [hW1] at hdn hlf hJ1 hk1
                  have Hrest := Lib.hid hrest
                  have Hdn := Lib.hid hdn
                  have Hlf := Lib.hid hlf
                  have HJ1 := Lib.hid hJ1
                  have Hk1 := Lib.hid hk1
                  have Hup := Lib.hid hup
                  clear hcn hpk hrest hdn hlf hJ1 hk1 hks hup
                  go_upto_region 16 with (fail)
                  clear hW1
                  have hYi := HY.out pre i _ T #[.int .i64 i] W1 Hrest.out.symm HJ1.out rfl
                  obtain ⟨fn0, tmps0, assign0, body0, hy0, hR0⟩ := hYi
                  refine (wpIn_wide (n := 0)).1 ?_
                  gi_wp2_with fail
                  refine hR0.mono ?_
                  rintro e V (⟨rfl, hJ2, hkV⟩ | ⟨rfl, hJ2, hkV⟩)
                  · have kV := Hk1.out.trans (hkV.mono (fun b _ h => .inl h))
                    obtain ⟨li, A, c, hli, hvi, hsl⟩ := HGx.out.rowAt hlt
                    have hll : li.length ≤ 3 := nextX_row li (List.mem_of_getElem? hli)
                    have cbV := (box_keeps HBx.out kV HBx.out.lt).cell
                    have cgV := kV.cell (HGx.out.blk.cell (j := 2) rfl) HGx.out.blk.lt
                    have crV := kV.cell (HGx.out.row.cell hvi) HGx.out.row.lt
                    have hLV := Hlf.out.keeps hkV (.inr hTL)
                    have hDV := Hdn.out.keeps hkV (.inr hTD)
                    have HLV := Lib.hid hLV
                    have HDV := Lib.hid hDV
                    have HJ2 := Lib.hid hJ2
                    have HkV := Lib.hid kV
                    have Hli := Lib.hid hli
                    have Hsl := Lib.hid hsl
                    clear hLV hDV hJ2 kV hli hvi hsl hkV cri cdi cui fdi hbb cg cr hy0 hR0
                    gi_wp2_with fail
                    go_wp2_with fail
                    clear cbV cgV crV
                    go_loopw [79] (fun t W' => ∃ k : Nat, k ≤ li.length ∧ t = .int .i64 k ∧ Hid (Blk W' L 71 (intsC (bumpAll (-1) s.left (li.take k)))) ∧ Hid (Keeps (fun b => b ≠ L) V W' ∧ V.heap.size = W'.heap.size)) (fun t _ => li.length - (intOf t).toNat)
                    case atStart => exact ⟨0, Nat.zero_le _, rfl, HLV, Lib.hid ⟨Keeps.refl _ _, rfl⟩⟩
                    case round =>
                      obtain ⟨k, hk, rfl, hL, hkk⟩ := hrel
                      by_cases hlt2 : k < li.length
                      · obtain ⟨y, hy⟩ : ∃ y, li[k]? = some y := ⟨_, List.getElem?_eq_getElem hlt2⟩
                        obtain ⟨y1, y2⟩ := hnx i li Hli.out y (List.mem_of_getElem? hy)
                        obtain ⟨yk, rfl⟩ : ∃ yk : Nat, y = yk := ⟨y.toNat, by omega⟩
                        have hy256 : (yk : Int) < 256 := by omega
                        obtain ⟨b', o', rfl, hbl, hcy⟩ := Hsl.out.one (intsC_get hy)
                        have hgeL := HO.out.ge.1
                        have hcy' := hkk.out.1.cell (HkV.out.cell hcy hbl) (by show b' ≠ L; omega)
                        have htk := bumpAll_take (d := -1) (l := s.left) hy
                        have hbl2 := bumpDown_bound (li.take k) s.left _ 768 HO.out.lb
                        have hl3 : (li.take k).length ≤ 3 := by have := List.length_take_le k li; omega
                        have hcl : (bumpAll (-1) s.left (li.take k)).length = 256 := by rw [bumpAll_len]; exact HO.out.ll
                        obtain ⟨z, hz⟩ : ∃ z, (bumpAll (-1) s.left (li.take k))[yk]? = some z := ⟨_, List.getElem?_eq_getElem (by rw [hcl]; omega)⟩
                        obtain ⟨z1, z2⟩ := hbl2 z (List.mem_of_getElem? hz)
                        have z3 : -1000000 ≤ z := by omega
                        have z4 : z ≤ 1000000 := by omega
                        have cu := hL.out.cell (intsC_get hz)
                        have fu := hL.out.frozen yk
                        have hnew := hL.out.set yk (.int .i64 (z + -1))
                        rw [intsC_set] at hnew
                        have hk2 : Keeps (fun b => b ≠ L) V (wr.setCell ⟨L, yk, none⟩ (.int .i64 (z + -1))) ∧ V.heap.size = (wr.setCell ⟨L, yk, none⟩ (.int .i64 (z + -1))).heap.size :=
                          ⟨hkk.out.1.trans (Keeps.setCell wr _ _ (fun h => h rfl)), by rw [hkk.out.2]; simp [World.setCell]⟩
                        rw [show z + -1 = z - 1 from rfl] at hnew hk2
                        have Htk := Lib.hid htk
                        have Hz := Lib.hid hz
                        have Hnew := Lib.hid hnew
                        have HK2 := Lib.hid hk2
                        clear htk hz hnew hk2 hL hkk hbl2 hcl hy hcy
                        go_wp2_with fail
                        go_roundw
                        case rel =>
                          refine ⟨k + 1, by omega, by go_num, ?_, HK2⟩
                          rw [Htk.out, Int.toNat_natCast, Hz.out]
                          exact Hnew
                        case measure => simp [intOf]; omega
                      · have hk' : k = li.length := by omega
                        subst hk'
                        rw [List.take_length] at hL
                        go_wp2_with fail
                        go_roundg g1
                        case measure => have := Hga.out; omega
                        case rel =>
                          have hd' := HDV.out.keeps hkk.out.1 (Ne.symm HO.out.ge.2.2)
                          refine ⟨s.take (nextX p) i, pre ++ [(i : Int)], T, Lib.hid ⟨?_, hd', ?_, ?_, fun v hv => ?_, ?_, ?_, ?_, ?_, HO.out.ge⟩, Lib.hid ?_, hTL, hTD⟩
                          · show Blk _ _ _ (intsC (bumpAll (-1) s.left ((nextX p)[i]?.getD [])))
                            rw [Hli.out]; exact hL.out
                          · show (bumpAll (-1) s.left _).length = 256
                            rw [bumpAll_len]; exact HO.out.ll
                          · show (s.done.set i true).length = 256
                            rw [List.length_set]; exact HO.out.dl
                          · have h1 : v ∈ bumpAll (-1) s.left ((nextX p)[i]?.getD []) := hv
                            rw [Hli.out] at h1
                            have := bumpDown_bound li s.left _ 768 HO.out.lb v h1
                            omega
                          · rw [List.append_assoc]; exact Hrest.out
                          · have := HO.out.un; have := Hup.out; omega
                          · have := HO.out.g256; omega
                          · exact HkV.out.trans (hkk.out.1.mono fun b _ hb => by have := HO.out.ge.1; omega)
                          · exact calm_same (HJ.out _) hkk.out.2 (hkk.out.1.mono fun b _ hn e => hn (e ▸ hTL)) HJ2.out
                  · gi_wp2_with fail
                    go_wp2_with fail
                    rw [Exit.noGoto_ret]
                    refine bodyPost_ret (results_none rfl _ _ _) rfl ?_
                    exact ⟨⟨_, rfl⟩, .inr ⟨pre ++ [(i : Int)], T, ⟨_, by rw [List.append_assoc]; exact Hrest.out⟩, hJ2, trivial⟩⟩
          · obtain rfl : i = p.length := by omega
            go_wp2_with fail
            rw [Exit.noGoto_normal]
            refine bodyPost_end (results_none rfl _ _ _) rfl ?_
            refine ⟨⟨_, rfl⟩, .inl ⟨T, ?_, trivial⟩⟩
            have hrest := HO.out.rest
            have hpk : s.pick (reachedX p) p.length = none := pick_none hno.out
            have : orderGo (reachedX p) (nextX p) p.length ga s = [] := by
              cases ga with
              | zero => rfl
              | succ g => simp [orderGo, hpk]
            rw [this, List.append_nil] at hrest
            rw [← hrest]
            exact HJt.out
end Go.Proofs.Ytfdlhlabkcmikaa
