/- loops.Shortest, Enough. -/
import Derived.Test.YtfdlhlabkcmikaaCount
namespace Go.Proofs.Ytfdlhlabkcmikaa
open Go.RowKit Go.Shelf

/-- The loop of Shortest: the best so far. -/
def stepShort (p : List Ins) (best : Int) (i : Nat) : Int :=
  if 0 ≤ (distX p)[i]?.getD (-1) ∧ (p[i]?.map Ins.op).getD 0 = 1 ∧ (best = 0 ∨ (distX p)[i]?.getD (-1) + 1 < best) then (distX p)[i]?.getD (-1) + 1 else best
def shortX (p : List Ins) : Int := (List.range p.length).foldl (stepShort p) 0
def shortE (p : List Ins) : Int := if shortX p = 0 then 6 else 0

theorem bfs_ok {p : List Ins} (hR : Right p) : ∀ (m : Nat) (out wave : List Int), DI p.length out wave → ∀ v ∈ bfsGo p m out wave, -1 ≤ v ∧ v < p.length := by
  intro m
  induction m with
  | zero => intro out wave h v hv; have := h.val v hv; omega
  | succ m ih =>
    intro out wave h v hv
    cases wave with
    | nil => rw [bfsGo_nil] at hv; have := h.val v hv; omega
    | cons i0 rest =>
      obtain ⟨i1, i2, i3⟩ := h.wav i0 (by simp)
      obtain ⟨i, rfl⟩ : ∃ i : Nat, i0 = i := ⟨i0.toNat, by omega⟩
      have hx : p[i]? = some (p[i]'(by omega)) := List.getElem?_eq_getElem (by omega)
      rw [bfsGo_cons hx] at hv
      have hI2 : DI p.length out rest := ⟨h.len, h.val, fun k' hk' => h.wav k' (by simp [hk'])⟩
      obtain ⟨hI3, -, -⟩ := hI2.steps (edgesX _ i) (by simpa using i3) (hR.edges i _ hx)
      exact ih _ _ hI3 v hv
theorem distX_ok {p : List Ins} (hR : Right p) : ∀ v ∈ distX p, -1 ≤ v ∧ v < p.length := bfs_ok hR _ _ _ (DI.start hR.pos).1

set_option maxRecDepth 8000 in
set_option maxHeartbeats 2000000 in
theorem Shortest_any (a : Option Addr) (cap : Nat) (p : List Ins) (w : World) (hp : Prg w a cap p) (hok : ∀ x ∈ p, x.Ok) (hc : (checkP p).2 = 0) :
    Calls Try.prog 21 #[.slice a p.length cap] w fun e w' => e = .returned (.tuple #[.int .i64 (shortX p), .int .i64 (shortE p)]) ∧ Below w.heap.size w w' := by
  have hR := right_of hc
  have hle := hR.le
  have hd := distances_any a cap p w hp hok hc
  go_enter Try.func21, Try.ntmps21
  go_wp2_with fail
  refine hd.mono ?_
  rintro e w1 ⟨R, rfl, hblk, hl, hge, hb1⟩
  go_wp2_with fail
  have hws := hb1.size
  have HR := Lib.hid hblk
  have Hb := Lib.hid hb1
  have Hp := Lib.hid (show Prg w1 a cap p from SlA.keep hp hb1 (Nat.le_refl _))
  clear hblk hb1 hd hp
  have hdo := distX_ok hR
  have Hdo := Lib.hid hdo
  have Hl := Lib.hid hl
  clear hdo hl
  go_loop [6, 18] (fun b t => ∃ (i : Nat) (best : Int), i ≤ p.length ∧ t = .int .i64 i ∧ b = .int .i64 best ∧ 0 ≤ best ∧ best ≤ 1000 ∧ Hid ((List.range i).foldl (stepShort p) 0 = best)) (fun _ t => p.length - (intOf t).toNat)
  case atStart => exact ⟨0, 0, Nat.zero_le _, rfl, rfl, by omega, by omega, Lib.hid rfl⟩
  case round =>
    obtain ⟨i, best, hi, rfl, rfl, b0, b1, hbest⟩ := hrel
    by_cases hlt : i < p.length
    · have hin : (i : Int) < p.length := by omega
      obtain ⟨x, hx⟩ : ∃ x, p[i]? = some x := ⟨_, List.getElem?_eq_getElem hlt⟩
      obtain ⟨d, hd⟩ : ∃ d, (distX p)[i]? = some d := ⟨_, List.getElem?_eq_getElem (by rw [Hl.out]; exact hlt)⟩
      obtain ⟨d1, d2⟩ := Hdo.out d (List.mem_of_getElem? hd)
      have hxo := hok x (List.mem_of_getElem? hx)
      obtain ⟨b', o', rfl, hbl, q0, q1, q2, q3, q4⟩ := Prg.at Hp.out hx
      have cd := HR.out.cell (intsC_get hd)
      have hw : IntKind.i64.wrap (d + 1) = d + 1 := IntWalk.i64_in _ ⟨by omega, by omega⟩
      have hnext : ∀ v, stepShort p best i = v → Hid ((List.range (i + 1)).foldl (stepShort p) 0 = v) := fun v hv => Lib.hid (by rw [List.range_succ, List.foldl_append, hbest.out]; exact hv)
      have hst : stepShort p best i = if 0 ≤ d ∧ x.op = 1 ∧ (best = 0 ∨ d + 1 < best) then d + 1 else best := by unfold stepShort; rw [hd, hx]; rfl
      have Hnext := Lib.hid hnext
      have Hst := Lib.hid hst
      clear hd hx hnext hst q1 q2 q3 q4
      by_cases h1 : 0 ≤ d
      · by_cases h2 : x.op = 1
        · have e2 : (x.op == 1) = true := by simpa using h2
          have H2 := Lib.hid h2
          clear h2
          by_cases h3 : best = 0
          · have e3 : (best == 0) = true := by simpa using h3
            have H3 := Lib.hid h3
            clear h3
            go_wp2_with fail
            go_round
            case rel => exact ⟨i + 1, d + 1, by omega, by go_num, rfl, by omega, by omega, Hnext.out _ (by rw [Hst.out, if_pos ⟨h1, H2.out, .inl H3.out⟩])⟩
            case measure => simp [intOf]; omega
          · have e3 : (best == 0) = false := by simpa using h3
            have H3 := Lib.hid h3
            clear h3
            by_cases h4 : d + 1 < best
            · go_wp2_with fail
              go_round
              case rel => exact ⟨i + 1, d + 1, by omega, by go_num, rfl, by omega, by omega, Hnext.out _ (by rw [Hst.out, if_pos ⟨h1, H2.out, .inr h4⟩])⟩
              case measure => simp [intOf]; omega
            · go_wp2_with fail
              go_round
              case rel => exact ⟨i + 1, best, by omega, by go_num, rfl, by omega, by omega, Hnext.out _ (by rw [Hst.out, if_neg (fun h => h.2.2.elim H3.out h4)])⟩
              case measure => simp [intOf]; omega
        · have e2 : (x.op == 1) = false := by simpa using h2
          have H2 := Lib.hid h2
          clear h2
          go_wp2_with fail
          go_round
          case rel => exact ⟨i + 1, best, by omega, by go_num, rfl, by omega, by omega, Hnext.out _ (by rw [Hst.out, if_neg (fun h => H2.out h.2.1)])⟩
          case measure => simp [intOf]; omega
      · go_wp2_with fail
        go_round
        case rel => exact ⟨i + 1, best, by omega, by go_num, rfl, by omega, by omega, Hnext.out _ (by rw [Hst.out, if_neg (fun h => h1 h.1)])⟩
        case measure => simp [intOf]; omega
    · obtain rfl : i = p.length := by omega
      have hX : shortX p = best := hbest.out
      have HX := Lib.hid hX
      clear hX
      by_cases h3 : best = 0
      · have e3 : (best == 0) = true := by simpa using h3
        have H3 := Lib.hid h3
        clear h3
        go_wp2_with fail
        go_ret2
        have hE : shortE p = 6 := by unfold shortE; rw [HX.out, if_pos H3.out]
        exact ⟨by rw [hE, HX.out, H3.out]; rfl, Hb.out⟩
      · have e3 : (best == 0) = false := by simpa using h3
        have H3 := Lib.hid h3
        clear h3
        go_wp2_with fail
        go_ret2
        have hE : shortE p = 0 := by unfold shortE; rw [HX.out, if_neg H3.out]
        exact ⟨by rw [hE, HX.out]; rfl, Hb.out⟩

theorem Enough_yes (a : Option Addr) (cap : Nat) (p : List Ins) (fuel : Int) (w : World) (hp : Prg w a cap p) (hok : ∀ x ∈ p, x.Ok) (hc : (checkP p).2 = 0) (hs : ringsRaw p = []) :
    Calls Try.prog 23 #[.slice a p.length cap, .int .i64 fuel] w fun e w' => e = .returned (.tuple #[.bool (decide (longX p ≤ fuel)), .int .i64 0]) ∧ Below w.heap.size w w' := by
  have hd := Longest_yes a cap p w hp hok hc hs
  clear hs
  go_enter Try.func23, Try.ntmps23
  go_wp2_with fail
  refine hd.mono ?_
  rintro e w1 ⟨rfl, hb1⟩
  by_cases h : longX p ≤ fuel
  · go_wp2_with fail
    go_ret2
    exact ⟨by simp [h], hb1⟩
  · go_wp2_with fail
    go_ret2
    exact ⟨by simp [h], hb1⟩

theorem Enough_no (a : Option Addr) (cap : Nat) (p : List Ins) (fuel : Int) (w : World) (hp : Prg w a cap p) (hok : ∀ x ∈ p, x.Ok) (hc : (checkP p).2 = 0) (hs : ringsRaw p ≠ []) :
    Calls Try.prog 23 #[.slice a p.length cap, .int .i64 fuel] w fun e w' => e = .returned (.tuple #[.bool false, .int .i64 0]) ∧ Below w.heap.size w w' := by
  have hd := Longest_no a cap p w hp hok hc hs
  clear hs
  go_enter Try.func23, Try.ntmps23
  go_wp2_with fail
  refine hd.mono ?_
  rintro e w1 ⟨rfl, hb1⟩
  go_wp2_with fail
  go_ret2
  exact ⟨rfl, hb1⟩
end Go.Proofs.Ytfdlhlabkcmikaa
