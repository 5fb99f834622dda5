/- LoopsRings's closures and callees. -/
import Derived.Test.YtfdlhlabkcmikaaClo
import Derived.Test.YtfdlhlabkcmikaaRLaw
import Derived.BigQuiet
namespace Go.Proofs.Ytfdlhlabkcmikaa
open Go.RowKit Go.Shelf Go.Lib

set_option maxHeartbeats 1000000 in
theorem clW_any {w : World} {Bp Bn Bi n cap : Nat} {a : Option Addr} {nv : Value} {num : List Int} {i : Nat} (hp : w.cell? ⟨Bp, 0, none⟩ = some (.slice a n cap)) (hn : w.cell? ⟨Bn, 0, none⟩ = some nv) (hb : w.cell? ⟨Bi, 0, none⟩ = some (.int .i64 (i : Int)))
    (hns : SlV w 1 nv n (intsC num)) (hi : i < n) (x : Int) :
    Calls Try.prog 17 #[.int .i64 x, .pointer (some ⟨Bp, 0, none⟩), .pointer (some ⟨Bn, 0, none⟩), .pointer (some ⟨Bi, 0, none⟩)] w fun e w' => e = .returned (.bool (clW n num i x)) ∧ ∃ q, w' = w.drewN q := by
  have hnl := slV_len hns
  have hin : (i : Int) < n := by omega
  by_cases h1 : 0 ≤ x
  · by_cases h2 : x < n
    · obtain ⟨k, rfl⟩ : ∃ k : Nat, x = k := ⟨x.toNat, by omega⟩
      obtain ⟨u, hu⟩ : ∃ u, num[k]? = some u := ⟨_, List.getElem?_eq_getElem (by omega)⟩
      obtain ⟨v, hv⟩ : ∃ v, num[i]? = some v := ⟨_, List.getElem?_eq_getElem (by omega)⟩
      obtain ⟨b, off, c, rfl, -, hc⟩ := slV_get hns (intsC_get hu)
      obtain ⟨b', off', c', e', -, hc'⟩ := slV_get hns (intsC_get hv)
      cases e'
      have hcl : clW n num i (k : Int) = (u == v) := by
        unfold clW
        rw [Int.toNat_natCast, Int.toNat_natCast, hu, hv]
        rw [Bool.eq_iff_iff]
        simp [h2]
      rw [hcl]
      clear hcl hu hv hns hnl
      go_enter Try.func17, Try.ntmps17
      go_wp2_with fail
      go_quiet (fail)
      go_wp2_with fail
      go_ret
      exact ⟨rfl, _, rfl⟩
    · have hcl : clW n num i x = false := by unfold clW; simp [h2]
      rw [hcl]
      have h2' : decide (x < (n : Int)) = false := decide_eq_false h2
      clear hcl hns hnl
      go_enter Try.func17, Try.ntmps17
      go_wp2_with fail
      go_quiet (fail)
      go_wp2_with fail
      go_ret
      exact ⟨rfl, _, rfl⟩
  · have hcl : clW n num i x = false := by unfold clW; simp [h1]
    rw [hcl]
    have h1' : decide ((0 : Int) ≤ x) = false := decide_eq_false h1
    clear hcl hns hnl
    go_enter Try.func17, Try.ntmps17
    go_wp2_with fail
    go_quiet (fail)
    go_wp2_with fail
    go_ret
    exact ⟨rfl, _, rfl⟩

set_option maxHeartbeats 4000000 in
theorem clL_any {w : World} {Bp Bl Bn Bi n cap : Nat} {a : Option Addr} {lv nv : Value} {left : List Bool} {num : List Int} {i : Nat} (hp : w.cell? ⟨Bp, 0, none⟩ = some (.slice a n cap)) (hl : w.cell? ⟨Bl, 0, none⟩ = some lv) (hn : w.cell? ⟨Bn, 0, none⟩ = some nv) (hb : w.cell? ⟨Bi, 0, none⟩ = some (.int .i64 (i : Int)))
    (hls : SlV w 1 lv n (boolsC left)) (hns : SlV w 1 nv n (intsC num)) (hi : i < n) (x : Int) :
    Calls Try.prog 19 #[.int .i64 x, .pointer (some ⟨Bp, 0, none⟩), .pointer (some ⟨Bl, 0, none⟩), .pointer (some ⟨Bn, 0, none⟩), .pointer (some ⟨Bi, 0, none⟩)] w fun e w' => e = .returned (.bool (clL n left num i x)) ∧ ∃ q, w' = w.drewN q := by
  have hnl := slV_len hns
  have hll : left.length = n := by obtain ⟨A, c, rfl, hs⟩ := hls; have := hs.len; simpa [boolsC] using this
  have hin : (i : Int) < n := by omega
  by_cases h1 : 0 ≤ x
  · by_cases h2 : x < n
    · obtain ⟨k, rfl⟩ : ∃ k : Nat, x = k := ⟨x.toNat, by omega⟩
      obtain ⟨u, hu⟩ : ∃ u, num[k]? = some u := ⟨_, List.getElem?_eq_getElem (by omega)⟩
      obtain ⟨v, hv⟩ : ∃ v, num[i]? = some v := ⟨_, List.getElem?_eq_getElem (by omega)⟩
      obtain ⟨g, hg⟩ : ∃ g, left[k]? = some g := ⟨_, List.getElem?_eq_getElem (by omega)⟩
      obtain ⟨b, off, c, rfl, -, hc⟩ := slV_get hns (intsC_get hu)
      obtain ⟨b', off', c', e', -, hc'⟩ := slV_get hns (intsC_get hv)
      cases e'
      obtain ⟨b2, off2, c2, rfl, -, hc2⟩ := slV_get hls (boolsC_get hg)
      have hcl : clL n left num i (k : Int) = (g && ((u == 0) || (u != v))) := by
        unfold clL
        rw [Int.toNat_natCast, hu, hv, hg]
        rw [Bool.eq_iff_iff]
        simp [h2]
      rw [hcl]
      clear hcl hu hv hns hnl hg hls hll
      cases g with
      | false =>
        go_enter Try.func19, Try.ntmps19
        go_wp2_with fail
        go_quiet (fail)
        go_wp2_with fail
        go_ret
        exact ⟨rfl, _, rfl⟩
      | true =>
        by_cases h3 : u = 0
        · subst h3
          go_enter Try.func19, Try.ntmps19
          go_wp2_with fail
          go_quiet (fail)
          go_wp2_with fail
          go_ret
          exact ⟨rfl, _, rfl⟩
        · have h3' : (u == 0) = false := by simpa using h3
          have h3'' : decide (u = 0) = false := by simpa using h3
          rw [h3']
          go_enter Try.func19, Try.ntmps19
          go_wp2_with fail
          go_quiet (fail)
          go_wp2_with fail
          go_ret
          exact ⟨by simp, _, rfl⟩
    · have hcl : clL n left num i x = false := by unfold clL; simp [h2]
      rw [hcl]
      have h2' : decide (x < (n : Int)) = false := decide_eq_false h2
      clear hcl hns hnl hls hll
      go_enter Try.func19, Try.ntmps19
      go_wp2_with fail
      go_quiet (fail)
      go_wp2_with fail
      go_ret
      exact ⟨rfl, _, rfl⟩
  · have hcl : clL n left num i x = false := by unfold clL; simp [h1]
    rw [hcl]
    have h1' : decide ((0 : Int) ≤ x) = false := decide_eq_false h1
    clear hcl hns hnl hls hll
    go_enter Try.func19, Try.ntmps19
    go_wp2_with fail
    go_quiet (fail)
    go_wp2_with fail
    go_ret
    exact ⟨rfl, _, rfl⟩

set_option maxHeartbeats 1000000 in
theorem sorted_any {w : World} {v : Value} {n : Nat} {zs : List Int} (h : SlV w 1 v n (intsC zs)) (hn : n < 1000000) (hs : zs.Pairwise (· ≤ ·)) :
    Calls Try.prog 15 #[v] w fun e w' => e = .returned (.bool true) ∧ ∃ q, w' = w.drewN q := by
  have hl := slV_len h
  obtain ⟨A, c, rfl, ha⟩ := h
  have Ha := Lib.hid ha
  have Hs := Lib.hid hs
  have hcl : (n : Int) ≤ c := by have := ha.le; omega
  clear ha hs
  go_enter Try.func15, Try.ntmps15
  go_wp2_with fail
  go_loopw [3] (fun t W => ∃ (k q : Nat), t = .int .i64 ((k : Int) - 1) ∧ k ≤ n ∧ W = w.drewN q) (fun t _ => (intOf t + 1).toNat)
  case atStart => exact ⟨n, 0, rfl, Nat.le_refl _, rfl⟩
  case round =>
    obtain ⟨k, q, rfl, hk, rfl⟩ := hrel
    by_cases h1 : 2 ≤ k
    · obtain ⟨j, rfl⟩ : ∃ j, k = j + 2 := ⟨k - 2, by omega⟩
      obtain ⟨y, hy⟩ : ∃ y, zs[j + 1]? = some y := ⟨_, List.getElem?_eq_getElem (by omega)⟩
      obtain ⟨x, hx⟩ : ∃ x, zs[j]? = some x := ⟨_, List.getElem?_eq_getElem (by omega)⟩
      have hle : x ≤ y := by
        have := List.pairwise_iff_getElem.1 Hs.out j (j + 1) (by omega) (by omega) (by omega)
        obtain ⟨h3, rfl⟩ := List.getElem?_eq_some_iff.1 hx
        obtain ⟨h4, rfl⟩ := List.getElem?_eq_some_iff.1 hy
        exact this
      have hlt : decide (y < x) = false := decide_eq_false (by omega)
      obtain ⟨b, off, rfl, -, hc⟩ := Ha.out.one (intsC_get hy)
      obtain ⟨b', off', e', -, hc'⟩ := Ha.out.one (intsC_get hx)
      cases e'
      obtain ⟨J, hJ⟩ : ∃ J, j + 1 = J := ⟨_, rfl⟩
      have e1 : ((j + 2 : Nat) : Int) - 1 = (J : Int) := by omega
      have e2 : (J : Int) - 1 = (j : Int) := by omega
      have p1 : (J : Int) < n := by omega
      have p2 : (j : Int) < n := by omega
      have p3 : (0 : Int) < J := by omega
      have hw : IntKind.i64.wrap (j : Int) = (j : Int) := IntWalk.i64_in _ ⟨by omega, by omega⟩
      rw [hJ] at hc
      rw [e1]
      have Hk := Lib.hid (And.intro hJ hk)
      have hcmp : ∀ W, Calls Try.prog 36 #[.int .i64 y, .int .i64 x] W fun e w' => e = .returned (.bool false) ∧ w' = W := fun W => (Try.cmp_Less_int2 y x W).mono (by
        rintro e w' ⟨rfl, rfl⟩
        exact ⟨by rw [hlt], rfl⟩)
      have k1 : (w.drewN q).cell? ⟨b, off + J, none⟩ = some (.int .i64 y) := hc
      have k2 : (w.drewN q).cell? ⟨b, off + j, none⟩ = some (.int .i64 x) := hc'
      obtain ⟨W, hW⟩ : ∃ W, w.drewN q = W := ⟨_, rfl⟩
      rw [hW] at k1 k2 ⊢
      have HW := Lib.hid hW
      clear hx hy hle e1 hJ hk h1 hW hc hc' hlt
      go_wp2_with fail
      go_quiet (first | (go_at_call 36; refine Calls.quiet_of_same (hcmp _)))
      go_wp2_with fail
      obtain ⟨hJ, hk⟩ := Hk.out
      go_roundw
      case rel => exact ⟨j + 1, q + nq, by go_num, by omega, by rw [← HW.out, World.drewN_drewN]⟩
      case measure => simp [intOf]; omega
    · have p3 : k = 0 ∨ k = 1 := by omega
      clear h1
      rcases p3 with rfl | rfl
      · rw [show ((0 : Nat) : Int) - 1 = -1 from rfl]
        go_wp2_with fail
        go_ret
        exact ⟨rfl, q, rfl⟩
      · rw [show ((1 : Nat) : Int) - 1 = 0 from rfl]
        go_wp2_with fail
        go_ret
        exact ⟨rfl, q, rfl⟩

theorem clone_bool {w : World} {v : Value} {n : Nat} {zs : List Bool} (h : SlV w 1 v n (boolsC zs)) (h0 : n ≠ 0) (hn : n < 1000000) :
    Calls Try.prog 18 #[v] w fun e w' => ∃ v', e = .returned v' ∧ w'.ownsRow w.heap.size 4 1 v' n (boolsC zs) ∧ Below w.heap.size w w' := by
  obtain ⟨A, c, rfl, hs⟩ := h
  have hl : zs.length = n := by have := hs.len; simpa [boolsC] using this
  obtain ⟨b, off, rfl, hc⟩ : ∃ b off, A = some ⟨b, off, none⟩ ∧ ∀ j u, (boolsC zs)[j]? = some u → w.cell? ⟨b, off + j, none⟩ = some u := by
    rcases hs.mem with ⟨rfl, hc⟩ | ⟨b, off, rfl, hb, hcell⟩
    · have := hs.le; omega
    · exact ⟨b, off, rfl, hcell⟩
  obtain ⟨i, q2, q3, q4, q5⟩ := info_parts (show (Try.prog.info? 4).map (fun i => (i.zero, i.size, i.bytes)) = some (some (.bool false), 1, 1) by kernel_rfl)
  refine (Try.slices_Clone_f18 i (.bool false) 1 1 q2 q3 q4 q5 rfl (by decide) (fun w => ?sz) b off n c (boolsC zs) w (by simp [boolsC, hl]) (by unfold maxLen; omega) (by omega) hc ?_).mono ?_
  case sz => go_simp
  · intro u hu
    simp [boolsC] at hu
    rcases hu with ⟨-, rfl⟩ | ⟨-, rfl⟩ <;> rfl
  · rintro e w' ⟨v', rfl, h1, -, h2⟩
    exact ⟨v', rfl, h1, h2⟩

theorem contains_bool {w : World} {v : Value} {n : Nat} {zs : List Bool} (x : Bool) (h : SlV w 1 v n (boolsC zs)) (h0 : n ≠ 0) (hn : n < 1000000) :
    Calls Try.prog 20 #[v, .bool x] w fun e w' => e = .returned (.bool (zs.any fun y => x == y)) ∧ w' = w := by
  obtain ⟨A, c, rfl, hs⟩ := h
  have hl : zs.length = n := by have := hs.len; simpa [boolsC] using this
  obtain ⟨b, off, rfl, hc⟩ : ∃ b off, A = some ⟨b, off, none⟩ ∧ ∀ j u, (boolsC zs)[j]? = some u → w.cell? ⟨b, off + j, none⟩ = some u := by
    rcases hs.mem with ⟨rfl, hc⟩ | ⟨b, off, rfl, hb, hcell⟩
    · have := hs.le; omega
    · exact ⟨b, off, rfl, hcell⟩
  have heq : EqlAt Try.prog 4 Value.bool (fun x y => x == y) := EqlAt.bool _ Try.underlying4
  have := Try.slices_Contains_f20 Value.bool (fun x y => x == y) heq b off n c zs x w (by omega) (by omega) (fun j hj => hc j _ (by simp [boolsC, hj, getElem!_pos]))
  rwa [List.take_of_length_le (by omega)] at this
end Go.Proofs.Ytfdlhlabkcmikaa
