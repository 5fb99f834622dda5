/- loops.Rings, order, straight, Order. -/
import Derived.Test.YtfdlhlabkcmikaaOrder
namespace Go.Proofs.Ytfdlhlabkcmikaa
open Go.RowKit Go.Shelf

theorem eg_order : ∀ args w, (callFunc 58 args).run Try.prog w = .ok (.enter 58 args) w := enters_of Try.func58 (by kernel_rfl) rfl

theorem order_any {w : World} {base Gb R : Nat} {pv rv : Value} {vs : List Value} {p : List Ins} (hG : GraphM w base Gb R pv rv vs p p.length) (hR : Right p) :
    Calls Try.prog 42 #[.pointer (some ⟨Gb, 0, none⟩)] w fun e w' => e = .returned (.func (.func 58) #[] #[.pointer (some ⟨w.heap.size, 0, none⟩)]) ∧ Below w.heap.size w w' ∧ w'.heap.size = w.heap.size + 1 ∧
      GraphM w' base Gb R pv rv vs p p.length ∧ Iter Try.prog 58 #[.pointer (some ⟨w.heap.size, 0, none⟩)] intR (fun _ _ => True) (fun b => b < w'.heap.size) (fun _ => False) w' (orderX p) := by
  have HG := Lib.hid hG
  clear hG
  go_enter Try.func42, Try.ntmps42
  go_wp2_with fail
  go_ret
  have hg := HG.out.keep (Keeps.alloc (fun b => b < w.heap.size) w (.cells #[.pointer (some ⟨Gb, 0, none⟩)] 53))
  exact ⟨rfl, (Below.refl _ _).alloc (Nat.le_refl _) _, by simp, hg, order_iter hg (World.alloc_heap_new _ _) hR⟩

/-- loops.Rings. -/
theorem Rings_any (a : Option Addr) (cap : Nat) (p : List Ins) (w : World) (hp : Prg w a cap p) (hok : ∀ x ∈ p, x.Ok) (hc : (checkP p).2 = 0) :
    Calls Try.prog 8 #[.slice a p.length cap] w fun e w' => ∃ v rvs out, e = .returned (.tuple #[v, .int .i64 0]) ∧ w'.ownsRow w.heap.size 26 1 v out.length rvs ∧ RowsR w' w.heap.size 3 1 cellsI rvs out ∧
      out.Perm (ringsRaw p) ∧ out.Pairwise (fun a b => headI a ≤ headI b) ∧ Below w.heap.size w w' := by
  have hR := right_of hc
  have hb := build_any a cap p w hp hok hc
  go_enter Try.func8, Try.ntmps8
  go_wp2_with fail
  refine hb.mono ?_
  rintro e w1 ⟨Gb, R, rv, vs, rfl, hG, hb1⟩
  have hr := rings_any hG hR (nextX_bound hR)
  have HG := Lib.hid hG
  clear hG hb
  go_wp2_with fail
  refine hr.mono ?_
  rintro e w2 ⟨v, rvs, out, rfl, h1, h2, h3, h4, h5⟩
  have hws := hb1.size
  have H := Lib.hid (And.intro h1 (And.intro h2 (And.intro h3 h4)))
  clear h1 h2 h3 h4 hr
  go_wp2_with fail
  go_ret2
  obtain ⟨h1, h2, h3, h4⟩ := H.out
  exact ⟨v, rvs, out, rfl, own_base h1 hws, ⟨h2.len, fun k v l hv hl => own_base (h2.own k v l hv hl) hws⟩, h3, h4, hb1.trans (h5.mono hws)⟩

/-- loops.straight: a program with no ring. -/
theorem straight_yes (a : Option Addr) (cap : Nat) (p : List Ins) (w : World) (hp : Prg w a cap p) (hok : ∀ x ∈ p, x.Ok) (hc : (checkP p).2 = 0) (hs : ringsRaw p = []) (hl : (orderX p).length < 1000000) :
    Calls Try.prog 27 #[.slice a p.length cap] w fun e w' => ∃ v Gb R rv vs, e = .returned (.tuple #[v, .pointer (some ⟨Gb, 0, none⟩), .int .i64 0]) ∧ w'.ownsRow w.heap.size 3 1 v (orderX p).length (intsC (orderX p)) ∧
      GraphM w' w.heap.size Gb R (.slice a p.length cap) rv vs p p.length ∧ Below w.heap.size w w' := by
  have hR := right_of hc
  have hb := build_any a cap p w hp hok hc
  have Hs := Lib.hid hs
  clear hs
  go_enter Try.func27, Try.ntmps27
  go_wp2_with fail
  refine hb.mono ?_
  rintro e w1 ⟨Gb, R, rv, vs, rfl, hG, hb1⟩
  have hr := rings_any hG hR (nextX_bound hR)
  have HG := Lib.hid hG
  clear hG hb
  go_wp2_with fail
  refine hr.mono ?_
  rintro e w2 ⟨v, rvs, out, rfl, h1, h2, h3, h4, h5⟩
  obtain rfl : out = [] := by have := h3.length_eq; rw [Hs.out] at this; exact List.eq_nil_of_length_eq_zero this
  have hA : ∃ A c, v = .slice A 0 c := seg_form (seg_of_own h1)
  obtain ⟨A, c, rfl⟩ := hA
  clear h1 h2 h3 h4 hr
  have hws := hb1.size
  have hws2 := h5.size
  have hG2 := HG.out.keep (Keeps.of_below h5)
  have ho := order_any hG2 hR
  have HG2 := Lib.hid hG2
  clear hG2
  go_wp2_with fail
  refine ho.mono ?_
  rintro e w3 ⟨rfl, hb3, hs3, hG3, hit⟩
  have hcl := collect_int eg_order hit (fun _ _ _ _ _ => trivial) (fun _ h => h.elim) (fun b h => h) hl
  have HG3 := Lib.hid hG3
  clear hG3 ho hit hs3
  have hws3 := hb3.size
  go_wp2_with fail
  refine hcl.mono ?_
  rintro e w4 ⟨v, rfl, hv, hk, -⟩
  rw [show ((orderX p).flatMap fun x => [Value.int .i64 x]) = intsC (orderX p) from intsC_flat _] at hv
  have Hv := Lib.hid hv
  have hG4 := HG3.out.keep (hk.mono fun b _ _ h => h)
  have HG4 := Lib.hid hG4
  clear hv hcl hG4
  go_wp2_with fail
  go_ret3
  refine ⟨v, Gb, R, rv, vs, rfl, own_base Hv.out (by omega), HG4.out, ?_⟩
  exact hb1.trans ((h5.mono hws).trans ((hb3.mono (by omega)).trans (hk.below (by omega) (fun _ _ h => h))))

/-- loops.straight: a program with a ring. -/
theorem straight_no (a : Option Addr) (cap : Nat) (p : List Ins) (w : World) (hp : Prg w a cap p) (hok : ∀ x ∈ p, x.Ok) (hc : (checkP p).2 = 0) (hs : ringsRaw p ≠ []) :
    Calls Try.prog 27 #[.slice a p.length cap] w fun e w' => e = .returned (.tuple #[.slice none 0 0, .pointer none, .int .i64 201]) ∧ Below w.heap.size w w' := by
  have hR := right_of hc
  have hb := build_any a cap p w hp hok hc
  have hr256 : (ringsRaw p).length ≤ 256 := by
    have h := ringsRaw_ok hR (nextX_bound hR)
    have h1 := h.on
    have h2 := h.nz
    show (visit (nextX p) 256 0 TS.start).out.length ≤ 256
    omega
  have hpos : 0 < (ringsRaw p).length := List.length_pos_iff.2 hs
  clear hs
  go_enter Try.func27, Try.ntmps27
  go_wp2_with fail
  refine hb.mono ?_
  rintro e w1 ⟨Gb, R, rv, vs, rfl, hG, hb1⟩
  have hr := rings_any hG hR (nextX_bound hR)
  clear hG hb
  go_wp2_with fail
  refine hr.mono ?_
  rintro e w2 ⟨v, rvs, out, rfl, h1, h2, h3, h4, h5⟩
  have hlen := h3.length_eq
  have hA : ∃ A c, v = .slice A out.length c := seg_form (seg_of_own h1)
  obtain ⟨A, c, rfl⟩ := hA
  have hp1 : 0 < out.length := by omega
  have hp2 : out.length ≤ 256 := by omega
  clear h1 h2 h3 h4 hr hlen
  have hws := hb1.size
  go_wp2_with fail
  go_ret3
  exact ⟨rfl, hb1.trans (h5.mono hws)⟩

theorem Order_yes (a : Option Addr) (cap : Nat) (p : List Ins) (w : World) (hp : Prg w a cap p) (hok : ∀ x ∈ p, x.Ok) (hc : (checkP p).2 = 0) (hs : ringsRaw p = []) (hl : (orderX p).length < 1000000) :
    Calls Try.prog 7 #[.slice a p.length cap] w fun e w' => ∃ v, e = .returned (.tuple #[v, .int .i64 0]) ∧ w'.ownsRow w.heap.size 3 1 v (orderX p).length (intsC (orderX p)) ∧ Below w.heap.size w w' := by
  have hd := straight_yes a cap p w hp hok hc hs hl
  clear hs
  go_enter Try.func7, Try.ntmps7
  go_wp2_with fail
  refine hd.mono ?_
  rintro e w1 ⟨v, Gb, R, rv, vs, rfl, h1, -, h3⟩
  have H1 := Lib.hid h1
  clear h1 hd
  go_wp2_with fail
  go_ret2
  exact ⟨v, rfl, H1.out, h3⟩
end Go.Proofs.Ytfdlhlabkcmikaa
