/- Contracts of package flow: edges, Next, before, Before; programs of fewer than a million instructions. -/
import Derived.Test.YtfdlhlabkcmikaaEdges
namespace Go.Proofs.Ytfdlhlabkcmikaa
open Go.RowKit Go.Shelf

theorem eg_edges : ∀ args w, (callFunc 54 args).run Try.prog w = .ok (.enter 54 args) w := enters_of Try.func54 (by kernel_rfl) rfl

/-- What a call of flow.edges hands back: an iterator over the edges. -/
theorem edges_any (a : Option Addr) (cap : Nat) (p : List Ins) (i : Nat) (x : Ins) (w : World) (hp : Prg w a cap p) (hx : p[i]? = some x) (hxo : x.Ok) (hlen : p.length < 1000000) :
    Calls Try.prog 38 #[.slice a p.length cap, .int .i64 i] w fun e w' => e = .returned (.func (.func 54) #[] #[.pointer (some ⟨w.heap.size, 0, none⟩), .pointer (some ⟨w.heap.size + 1, 0, none⟩)]) ∧
      Below w.heap.size w w' ∧ w'.heap.size = w.heap.size + 2 ∧
      Iter Try.prog 54 #[.pointer (some ⟨w.heap.size, 0, none⟩), .pointer (some ⟨w.heap.size + 1, 0, none⟩)] intR (fun _ _ => True) (fun b => b = w.heap.size + 1) (fun _ => False) w' (edgesX x i) := by
  go_enter Try.func38, Try.ntmps38
  go_wp2_with fail
  go_ret
  refine ⟨rfl, ((Below.refl _ _).alloc (Nat.le_refl _) _).alloc (by simp) _, by simp, ?_⟩
  refine edges_iter _ _ a cap p i x _ ?_ ?_ ((hp.keep ((Below.refl _ _).alloc (Nat.le_refl _) _) (Nat.le_refl _)).keep ((Below.refl _ _).alloc (Nat.le_refl _) _) (Nat.le_refl _)) hx hxo hlen
  · simp [go_sem]
  · simp [go_sem]

set_option maxHeartbeats 1000000 in
theorem next_any (a : Option Addr) (cap : Nat) (p : List Ins) (i : Nat) (x : Ins) (w : World) (hp : Prg w a cap p) (hok : ∀ x ∈ p, x.Ok) (hc : (checkP p).2 = 0) (hx : p[i]? = some x) (hlen : p.length < 1000000) :
    Calls Try.prog 16 #[.slice a p.length cap, .int .i64 i] w fun e w' => ∃ v, e = .returned (.tuple #[v, .int .i64 0]) ∧ w'.ownsRow w.heap.size 3 1 v (edgesX x i).length ((edgesX x i).flatMap fun x => [Value.int .i64 x]) ∧ Below w.heap.size w w' := by
  have hlt := (List.getElem?_eq_some_iff.1 hx).1
  have hr := right_any a cap p w hp hok hlen
  rw [hc, show ferr 0 = 0 from rfl] at hr
  have hel : (edgesX x i).length < 1000000 := by unfold edgesX; repeat' split
                                                 all_goals simp
  go_enter Try.func16, Try.ntmps16
  go_wp2_with fail
  refine hr.mono ?_
  rintro e w1 ⟨rfl, hb1⟩
  go_wp2_with fail
  refine (edges_any a cap p i x w1 (hp.keep hb1 (Nat.le_refl _)) hx (hok x (List.mem_of_getElem? hx)) hlen).mono ?_
  rintro e w2 ⟨rfl, hb2, hs2, hit⟩
  go_wp2_with fail
  refine (collect_int eg_edges hit (fun _ _ _ h _ => h) (fun _ h => h.elim) (fun b h => by omega) hel).mono ?_
  rintro e w3 ⟨v, rfl, hv, hk, -⟩
  go_wp2_with fail
  go_ret2
  have h12 := hb1.size
  have h23 := hb2.size
  exact ⟨v, rfl, own_base hv (by omega), (hb1.trans (hb2.mono h12)).trans (hk.below (by omega) (fun _ _ h => h))⟩
end Go.Proofs.Ytfdlhlabkcmikaa
