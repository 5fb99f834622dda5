/- slices.Backward at []int: its iterator; fewer than a million elements. -/
import Derived.Test.YtfdlhlabkcmikaaLoops
namespace Go.Proofs.Ytfdlhlabkcmikaa
open Go.RowKit Go.Shelf

def backX (l : List Int) : Nat → List (Int × Int)
  | 0 => []
  | g + 1 => ((g : Int), l[g]?.getD 0) :: backX l g
def pairR (_ : World) (vs : Array Value) (x : Int × Int) : Prop := vs = #[.int .i64 x.1, .int .i64 x.2]

set_option maxHeartbeats 1000000 in
theorem back_iter {w : World} {B1 n c : Nat} {A : Option Addr} {xs : List Int} (hB : Boxed w B1 26 (.slice A n c)) (hs : SlA w 1 A n c (intsC xs)) (hn : n < 1000000) :
    Iter Try.prog 56 #[.pointer (some ⟨B1, 0, none⟩)] pairR (fun _ _ => True) (fun b => b = B1 ∨ ∃ off, A = some ⟨b, off, none⟩) (fun _ => False) w (backX xs n) := by
  intro l J Jx W hW hJ hJx hY h0
  have hlx : xs.length = n := by have := hs.len; simpa [intsC] using this
  have hW1 : Keeps (fun b => b = B1 ∨ ∃ off, A = some ⟨b, off, none⟩) w W := hW.mono fun _ _ _ => trivial
  refine callsIn_of_wp Try.func56 rfl trivial ?_
  simp only [Try.ntmps56, List.size_toArray, List.length_cons, List.length_nil, Nat.reduceAdd, Nat.reduceSub, Array.replicate_succ, Array.replicate_zero, List.push_toArray, List.append_toArray, List.nil_append, List.cons_append]
  rw [wpIn_wide]
  have cb := (box_keeps hB hW1 (.inl rfl)).cell
  have HB := Lib.hid hB
  have Hs := Lib.hid hs
  have HY := Lib.hid hY
  have HJ := Lib.hid hJ
  have HW1 := Lib.hid hW1
  have Hlx := Lib.hid hlx
  clear hB hs hY hJ hW1 hlx
  go_wp2_with fail
  clear cb
  go_loopg [3] n (fun g t W' => ∃ pre, t = .int .i64 ((g : Int) - 1) ∧ g ≤ n ∧ Hid (pre ++ backX xs g = backX xs n) ∧ Hid (J pre (fun _ => False) W') ∧ Hid (Keeps (fun b => b = B1 ∨ ∃ off, A = some ⟨b, off, none⟩) w W'))
  case atStart => exact ⟨[], rfl, Nat.le_refl _, Lib.hid rfl, Lib.hid h0, HW1⟩
  case round =>
    obtain ⟨pre, rfl, hg, hpre, hJp, hk⟩ := hrel
    cases gk with
    | zero =>
      go_wp2_with fail
      refine bodyPost_end (results_none rfl _ _ _) rfl ?_
      refine ⟨⟨_, rfl⟩, .inl ⟨fun _ => False, ?_, trivial⟩⟩
      have h := hpre.out
      rw [show backX xs 0 = [] from rfl, List.append_nil] at h
      rw [← h]
      exact hJp.out
    | succ g =>
      have hgi : ((g + 1 : Nat) : Int) - 1 = (g : Int) := by omega
      rw [hgi]
      clear hgi
      have hx : xs[g]? = some (xs[g]?.getD 0) := by
        have : g < xs.length := by rw [Hlx.out]; omega
        simp [this]
      obtain ⟨b', o', rfl, hbl, hcy⟩ := Hs.out.one (intsC_get hx)
      have hcy' := hk.out.cell hcy (.inr ⟨o', rfl⟩)
      have hcb := (box_keeps HB.out hk.out (.inl rfl)).cell
      have hgn : (g : Int) < n := by omega
      obtain ⟨z, hz⟩ : ∃ z, xs[g]?.getD 0 = z := ⟨_, rfl⟩
      have hpre' : pre ++ ((g : Int), z) :: backX xs g = backX xs n := by rw [← hz]; exact hpre.out
      rw [hz] at hcy'
      have Hpre := Lib.hid hpre'
      have hYi := HY.out pre ((g : Int), z) (backX xs g) (fun _ => False) #[.int .i64 g, .int .i64 z] wr hpre'.symm hJp.out rfl
      obtain ⟨fn0, tmps0, assign0, body0, hy0, hR0⟩ := hYi
      clear hx hcy hz hpre'
      go_upto_region 3 with (fail)
      refine (wpIn_wide (n := 0)).1 ?_
      gi_wp2_with fail
      refine hR0.mono ?_
      rintro e V (⟨rfl, hJ2, hkV⟩ | ⟨rfl, hJ2, hkV⟩)
      · have HJ2 := Lib.hid hJ2
        have HkV := Lib.hid hkV
        clear hJ2 hkV hcy' hcb hy0 hR0
        gi_wp2_with fail
        go_wp2_with fail
        go_roundg g
        case measure => omega
        case rel =>
          refine ⟨pre ++ [((g : Int), z)], rfl, by omega, Lib.hid ?_, HJ2, Lib.hid (hk.out.trans (HkV.out.mono fun b _ h => .inl h))⟩
          rw [List.append_assoc]; exact Hpre.out
      · gi_wp2_with fail
        go_wp2_with fail
        refine bodyPost_ret (results_none rfl _ _ _) rfl ?_
        refine ⟨⟨_, rfl⟩, .inr ⟨pre ++ [((g : Int), z)], fun _ => False, ⟨backX xs g, ?_⟩, hJ2, trivial⟩⟩
        rw [List.append_assoc]; exact Hpre.out
theorem eg_back : ∀ args w, (callFunc 56 args).run Try.prog w = .ok (.enter 56 args) w := enters_of Try.func56 (by kernel_rfl) rfl

theorem back_any {w : World} {n c : Nat} {A : Option Addr} {xs : List Int} (hs : SlA w 1 A n c (intsC xs)) (hn : n < 1000000) :
    Calls Try.prog 40 #[.slice A n c] w fun e w' => e = .returned (.func (.func 56) #[] #[.pointer (some ⟨w.heap.size, 0, none⟩)]) ∧ w' = w.alloc (.cells #[.slice A n c] 26) ∧
      Iter Try.prog 56 #[.pointer (some ⟨w.heap.size, 0, none⟩)] pairR (fun _ _ => True) (fun b => b = w.heap.size ∨ ∃ off, A = some ⟨b, off, none⟩) (fun _ => False) w' (backX xs n) := by
  have Hs := Lib.hid hs
  clear hs
  go_enter Try.func40, Try.ntmps40
  go_wp2_with fail
  go_ret
  exact ⟨rfl, rfl, back_iter (World.alloc_heap_new _ _) (SlA.keeps Hs.out (Keeps.alloc (fun _ => True) w _) (fun _ _ _ _ => trivial)) hn⟩
end Go.Proofs.Ytfdlhlabkcmikaa
