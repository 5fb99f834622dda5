/- slices.AppendSeq and slices.Collect over an iterator: all its elements in order; fewer than a million elements. -/
import Derived.Test.YtfdlhlabkcmikaaProg
import Derived.Test.YtfdlhlabkcmikaaBase
import Derived.TacticsInMore
import Derived.LoopNIn
import Derived.LoopIn
import Derived.Shelf.RegionOpen
import Derived.WalkSpells
namespace Go.Proofs.Ytfdlhlabkcmikaa
open Go.RowKit Go.Shelf
attribute [local go_sem] Oper.semAt_some

theorem elT_int : ElT Try.prog 26 3 1 := ElT.mk' (z := .int .i64 0) (by_ := 8) Try.underlying26 (by kernel_rfl) (by decide) rfl (by decide)

def intR (_ : World) (vs : Array Value) (x : Int) : Prop := vs = #[.int .i64 x]

set_option maxHeartbeats 1000000 in
theorem appendSeq_int {gf : Nat} {lb : Array Value} (eg : ∀ args w, (callFunc gf args).run Try.prog w = .ok (.enter gf args) w) {G : List Int → World → Prop} {Pr T0 : Nat → Prop} {w : World} {xs : List Int}
    (hit : Iter Try.prog gf lb intR G Pr T0 w xs) (hG : ∀ W W' s, G s W → CellKeep W W' → G s W') (hT0 : ∀ b, T0 b → b < w.heap.size) (hPr : ∀ b, Pr b → b < w.heap.size) (hlen : xs.length < 1000000) :
    Calls Try.prog 53 #[.slice none 0 0, .func (.func gf) #[] lb] w fun e w' =>
      ∃ v, e = .returned v ∧ w'.ownsRow w.heap.size 3 1 v xs.length (xs.flatMap fun x => [Value.int .i64 x]) ∧ Keeps (fun b => ¬ T0 b) w w' ∧ G xs w' := by
  refine (callsIn_wide (n := 0)).1 ?_
  refine callsIn_of_wp_marks Try.func53 rfl trivial ?_
  simp only [Try.ntmps53, List.size_toArray, List.length_cons, List.length_nil, Nat.reduceAdd, Nat.reduceSub, Array.replicate_succ, Array.replicate_zero, List.push_toArray, List.append_toArray, List.nil_append, List.cons_append]
  gi_wp2_with fail
  refine range_law rfl eg (hit.later (alloc_true _ _)) (fun _ _ _ h => by rw [h]; rfl) hG (fun b h => by have := hT0 b h; simp; omega)
    (Coll w w.heap.size 26 3 1 (fun x => [Value.int .i64 x]) T0) (fun _ _ _ _ => False) (fun s => coll_calm _ _ _ _ _ _ _ _ (Nat.le_refl _)) (fun _ _ _ _ _ h _ => h)
    ?h0 ?round (fun b h => by have := hPr b h; simp; omega) ?done ?stop
  case h0 =>
    exact ⟨⟨_, Boxed.new w _ _, World.ownsRow_nil _ _ _ _, fun k hk => by cases hk⟩, fun h => by have := hT0 _ h; omega, fun b h => .inl h, fun b h => by have := hT0 b h; simp; omega, Keeps.alloc _ _ _⟩
  case round =>
    rintro l pre x post T vs W1 hl hTl hT0T hxs hJ hR
    obtain rfl : vs = #[.int .i64 x] := hR
    gi_wp2_with fail
    refine ⟨hJ, Keeps.refl _ _, fun W2 _ _ hJ2 => ?_⟩
    obtain ⟨v, hv, hr, hnT⟩ := hJ2.1
    have hc := hv.cell
    have hn : pre.length < 1000000 := by rw [hxs] at hlen; simp at hlen; omega
    have hsz := hJ2.2.2.2.2.size
    gi_wp2_with (gi_at_builtin; refine wpListIn_app1 rfl _ _ 26 rfl elT_int w.heap.size v pre.length _ rfl hr #[.int .i64 x] rfl rfl (by simp [Value.oneCell']) hn hsz ?_; intro g cap w1 hown hgrow hat hlt; obtain ⟨hv1, hJ3, hk3⟩ := coll_step (x := x) (by decide) (Nat.le_refl _) hJ2 hv hnT hr rfl hown hgrow hat hPr; have hc1 := hv1.cell; have hf1 := hv1.frozen)
    exact ⟨hJ3, hk3⟩
  case done =>
    rintro T W D hD - hJ hG' hDe
    obtain ⟨v, hv, hr, hnT⟩ := hJ.1
    have hc := hv.cell
    have hk := hJ.2.2.2.2
    gi_wp2_with fail
    refine ⟨by simp, .inl ⟨_, _, rfl, run_takeDeferred hDe, ?_⟩⟩
    refine ⟨_, results_tmp rfl _ _ _, _, rfl, ownsRow_putObj hr _ hDe rfl, (hk.trans (Keeps.putObj _ _ _ (fun h => by simp at hD; omega))).lt, hG _ _ _ hG' (CellKeep.putObj _ hDe rfl)⟩
  case stop =>
    rintro c pre T W D hD - hpre h
    exact h.elim

theorem collect_int {gf : Nat} {lb : Array Value} (eg : ∀ args w, (callFunc gf args).run Try.prog w = .ok (.enter gf args) w) {G : List Int → World → Prop} {Pr T0 : Nat → Prop} {w : World} {xs : List Int}
    (hit : Iter Try.prog gf lb intR G Pr T0 w xs) (hG : ∀ W W' s, G s W → CellKeep W W' → G s W') (hT0 : ∀ b, T0 b → b < w.heap.size) (hPr : ∀ b, Pr b → b < w.heap.size) (hlen : xs.length < 1000000) :
    Calls Try.prog 37 #[.func (.func gf) #[] lb] w fun e w' =>
      ∃ v, e = .returned v ∧ w'.ownsRow w.heap.size 3 1 v xs.length (xs.flatMap fun x => [Value.int .i64 x]) ∧ Keeps (fun b => ¬ T0 b) w w' ∧ G xs w' := by
  go_enter Try.func37, Try.ntmps37
  go_wp2_with (go_at_call 53; refine (appendSeq_int eg hit hG hT0 hPr hlen).mono ?_; rintro e w' ⟨v, rfl, h1, h2, h3⟩)
  go_ret
  exact ⟨_, rfl, h1, h2, h3⟩
end Go.Proofs.Ytfdlhlabkcmikaa
