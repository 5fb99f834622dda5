/- flow.Reached, flow.Before. -/
import Derived.Test.YtfdlhlabkcmikaaDist
import Derived.Test.YtfdlhlabkcmikaaBefore
namespace Go.Proofs.Ytfdlhlabkcmikaa
open Go.RowKit Go.Shelf

theorem elT_bool : ElT Try.prog 33 4 1 := ElT.mk' (z := .bool false) (by_ := 1) Try.underlying33 (by kernel_rfl) (by decide) rfl (by decide)

def boolsC (l : List Bool) : List Value := l.map Value.bool
def reachedX (p : List Ins) : List Bool := (distX p).map fun d => decide (0 ≤ d)
theorem boolsC_get {l : List Bool} {k : Nat} {v : Bool} (h : l[k]? = some v) : (boolsC l)[k]? = some (.bool v) := by simp [boolsC, h]

theorem take_succ_bools {l : List Int} {k : Nat} {d : Int} (h : l[k]? = some d) : boolsC ((l.map fun d => decide (0 ≤ d)).take (k + 1)) = boolsC ((l.map fun d => decide (0 ≤ d)).take k) ++ [.bool (decide (0 ≤ d))] := by
  rw [List.take_add_one]
  simp [boolsC, h]

set_option maxRecDepth 8000 in
set_option maxHeartbeats 1000000 in
theorem reached_any (a : Option Addr) (cap : Nat) (p : List Ins) (w : World) (hp : Prg w a cap p) (hok : ∀ x ∈ p, x.Ok) (hc : (checkP p).2 = 0) :
    Calls Try.prog 9 #[.slice a p.length cap] w fun e w' => ∃ v, e = .returned (.tuple #[v, .int .i64 0]) ∧ w'.ownsRow w.heap.size 4 1 v p.length (boolsC (reachedX p)) ∧ (reachedX p).length = p.length ∧ Below w.heap.size w w' := by
  have hR := right_of hc
  have hle := hR.le
  have hd := distances_any a cap p w hp hok hc
  go_enter Try.func9, Try.ntmps9
  go_wp2_with fail
  refine hd.mono ?_
  rintro e w1 ⟨R, rfl, hblk, hl, hge, hb1⟩
  go_wp2_with fail
  have hws := hb1.size
  have HR := Lib.hid hblk
  have Hb := Lib.hid hb1
  clear hblk hb1 hd
  go_loopw [6, 19] (fun v t wr => ∃ k : Nat, k ≤ p.length ∧ t = .int .i64 k ∧ wr.ownsRow w1.heap.size 4 1 v k (boolsC ((reachedX p).take k)) ∧ Keeps (fun b => b < w1.heap.size) w1 wr) (fun _ t _ => p.length - (intOf t).toNat)
  case atStart => exact ⟨0, Nat.zero_le _, rfl, by simpa [boolsC] using World.ownsRow_nil _ _ _ _, Keeps.refl _ _⟩
  case round =>
    obtain ⟨k, hk, rfl, hown, hkp⟩ := hrel
    by_cases hlt : k < p.length
    · obtain ⟨d, hd⟩ : ∃ d, (distX p)[k]? = some d := ⟨_, List.getElem?_eq_getElem (by omega)⟩
      have hcell := (HR.out.keeps hkp HR.out.lt).cell (intsC_get hd)
      have htk := take_succ_bools hd
      have Ho := Lib.hid hown
      have Htk := Lib.hid htk
      have hsz := hkp.size
      have hn : k < 1000000 := by omega
      clear hown htk
      go_wp2_with (at_builtin; refine wpList_app1 rfl _ _ 33 rfl elT_bool w1.heap.size _ k _ rfl Ho.out #[.bool (decide (0 ≤ d))] rfl rfl (by simp [Value.oneCell']) hn hsz ?_; intro g cp w5 hown5 hg5 hat5 hlt5; have hk5 := hkp.trans ((Keeps.alloc _ _ _).trans (Keeps.grown hg5 (fun b hb h => by have := (Ho.out.lt b hb).1; omega))))
      go_roundw
      case rel => exact ⟨k + 1, by omega, by go_num, by unfold reachedX; rw [Htk.out]; exact hown5, hk5⟩
      case measure => simp [intOf]; omega
    · obtain rfl : k = p.length := by omega
      have hl2 : (reachedX p).length = p.length := by simp [reachedX, hl]
      rw [List.take_of_length_le (Nat.le_of_eq hl2)] at hown
      have Ho := Lib.hid hown
      clear hown
      go_wp2_with fail
      go_ret2
      exact ⟨_, rfl, own_base Ho.out hws, hl2, Hb.out.trans ((hkp.below (Nat.le_refl _) (fun _ h => h)).mono hws)⟩

set_option maxRecDepth 8000 in
set_option maxHeartbeats 1000000 in
theorem Before_any (a : Option Addr) (cap : Nat) (p : List Ins) (i : Nat) (w : World) (hp : Prg w a cap p) (hok : ∀ x ∈ p, x.Ok) (hc : (checkP p).2 = 0) (hi : i < p.length) :
    Calls Try.prog 10 #[.slice a p.length cap, .int .i64 i] w fun e w' => ∃ v l, e = .returned (.tuple #[v, .int .i64 0]) ∧ (beforeX p)[i]? = some l ∧ w'.ownsRow w.heap.size 3 1 v l.length (l.flatMap cellsI) ∧ Below w.heap.size w w' := by
  have hR := right_of hc
  have hlen : p.length < 1000000 := by have := hR.le; omega
  have hr := right_any a cap p w hp hok hlen
  rw [hc, show ferr 0 = 0 from rfl] at hr
  go_enter Try.func10, Try.ntmps10
  go_wp2_with fail
  refine hr.mono ?_
  rintro e w1 ⟨rfl, hb1⟩
  have i0 : (0 : Int) ≤ i := by omega
  have i1 : (i : Int) < p.length := by omega
  go_wp2_with fail
  refine (before_any a cap p w1 (hp.keep hb1 (Nat.le_refl _)) hok hR.le hR.edges).mono ?_
  rintro e w2 ⟨R, vs, rfl, hblk, hge, hrows, hb2⟩
  have hl : (beforeX p).length = p.length := by
    have h : ∀ (q : List Ins) (j : Nat) (ls : List (List Int)), (beforeOf p.length q j ls).length = ls.length := by
      intro q
      induction q with
      | nil => exact fun _ _ => rfl
      | cons x q ih => intro j ls; exact (ih _ _).trans (addAll_len _ _ _)
    exact (h _ _ _).trans (by simp)
  obtain ⟨v, hv⟩ : ∃ v, vs[i]? = some v := ⟨_, List.getElem?_eq_getElem (by rw [hrows.len, hl]; exact hi)⟩
  obtain ⟨l, hl', ho⟩ := hrows.at hv
  have hcell := hblk.cell hv
  have Ho := Lib.hid ho
  have Hl := Lib.hid hl'
  clear ho hl' hrows hblk
  go_wp2_with fail
  go_ret2
  exact ⟨v, l, rfl, Hl.out, own_base Ho.out hb1.size, hb1.trans (hb2.mono hb1.size)⟩
end Go.Proofs.Ytfdlhlabkcmikaa
