/- fermatalaw14.Made: a program that is right. -/
import Derived.Test.YtfdlhlabkcmikaaMade2
import Derived.Test.YtfdlhlabkcmikaaCheck0
namespace Go.Proofs.Ytfdlhlabkcmikaa
open Go.RowKit

theorem elT_instr : ElT Try.prog 24 45 5 := ElT.mk' (z := .agg #[.int .u8 0, .int .u8 0, .int .u8 0, .int .u8 0, .int .i64 0]) (by_ := 16) Try.underlying24 (by kernel_rfl) (by decide) rfl (by decide)

/-- An instruction that is right, in a program of N. -/
structure Good (N : Int) (x : Ins) : Prop where
  ok : x.Ok
  one : oneE x = 0
  lead : targetB x = true → target x < N

def halt : Ins := ⟨1, 0, 0, 0, 0⟩
theorem halt_good {N : Int} : Good N halt := by
  refine ⟨by constructor <;> decide, by kernel_rfl, fun h => ?_⟩
  have e : targetB halt = false := by kernel_rfl
  rw [e] at h
  cases h

def MadePost (w : World) (e : Ending) (w' : World) : Prop := ∃ v p, e = .returned v ∧ w'.ownsRow w.heap.size 45 5 v (p.length + 1) ((p ++ [halt]).flatMap Ins.cells) ∧ p.length ≤ 40 ∧ (∀ x ∈ p, Good (p.length + 1) x) ∧ Below w.heap.size w w'

set_option maxRecDepth 100000 in
set_option maxHeartbeats 2000000 in
theorem made_any (a : Option Addr) (cap : Nat) (l : List Ins) (w : World) (hp : Prg w a cap l) (hok : ∀ x ∈ l, x.Ok) (hcap : l.length ≤ maxLen) :
    Calls Try.prog 14 #[.slice a l.length cap] w (MadePost w) := by
  unfold maxLen at hcap
  have hcl : (l.length : Int) ≤ cap := by have := hp.le; omega
  have Hp := Lib.hid hp
  have hmx : max (40 : Int) 0 = 40 := by decide
  clear hp
  by_cases h40 : l.length ≤ 40
  · go_enter Try.func14, Try.ntmps14
    go_wp2_with fail
    have Hcl := Lib.hid hcl
    have Hcap := Lib.hid hcap
    clear hcl hcap hmx
    go_loopw [3, 13] (fun v t wr => ∃ (k : Nat) (out : List Ins), k ≤ l.length ∧ t = .int .i64 k ∧ Hid (out.length = k) ∧ wr.ownsRow w.heap.size 45 5 v k (out.flatMap Ins.cells) ∧ Hid (∀ x ∈ out, Good ((l.length : Int) + 1) x) ∧ Below w.heap.size w wr) (fun _ t _ => l.length - (intOf t).toNat)
    case atStart => exact ⟨0, [], Nat.zero_le _, rfl, Lib.hid rfl, World.ownsRow_nil _ _ _ _, Lib.hid (fun _ h => by cases h), Below.refl _ _⟩
    case round =>
      obtain ⟨k, out, hk, rfl, hol, hown, hgood, hbel⟩ := hrel
      by_cases hlt : k < l.length
      · have hlt2 : k < l.length := by omega
        have hin : (k : Int) < l.length := by omega
        have hin2 : (k : Int) < (l.length : Int) := by omega
        obtain ⟨x, hx⟩ : ∃ x, l[k]? = some x := ⟨_, List.getElem?_eq_getElem hlt2⟩
        have hxo := hok x (List.mem_of_getElem? hx)
        obtain ⟨b', o', rfl, hbl, q0, q1, q2, q3, q4⟩ := Prg.at (show Prg wr a cap l from SlA.keep Hp.out hbel (Nat.le_refl _)) hx
        have hws := hbel.size
        have hone := smallone_any x ((l.length : Int) + 1)
        unfold Ins.val at hone
        have Hone := Lib.hid hone
        have Hown := Lib.hid hown
        have Hbel := Lib.hid hbel
        clear hone hown hbel hx
        go_wp2_with fail
        have hw : IntKind.i64.wrap (((l.length : Int) : Int) + 1) = (l.length : Int) + 1 := IntWalk.i64_in _ ⟨by omega, by omega⟩
        try rw [hw]
        clear q0 q1 q2 q3 q4 hw
        refine (Hone.out _ hxo (by omega) (by omega)).mono ?_
        rintro e w5 ⟨y, rfl, y1, y2, y3, hb5⟩
        have hb5' : Below wr.heap.size wr w5 := ((Below.refl _ _).alloc (Nat.le_refl _) _).trans (hb5.mono (by simp))
        have hown5 := own_keeps Hown.out (Keeps.of_below hb5') (fun b hb => (Hown.out.lt b hb).2)
        have Hown5 := Lib.hid hown5
        have hkn : k < 1000000 := by omega
        have hsz5 : w.heap.size ≤ w5.heap.size := by have := hb5'.size; omega
        have Hb5 := Lib.hid hb5'
        have Hy := Lib.hid (Good.mk (N := (l.length : Int) + 1) y1 y2 y3)
        clear hown5 hb5 hb5' y1 y2 y3
        go_wp2_with (at_builtin; refine wpList_app1 rfl _ _ 24 rfl elT_instr w.heap.size u3 k _ rfl Hown5.out #[.int .u8 y.op, .int .u8 y.a, .int .u8 y.b, .int .u8 y.c, .int .i64 y.n] rfl rfl (by simp [Value.oneCell']) hkn hsz5 ?_; intro g cp w6 hown6 hg6 hat6 hlt6; have hb6 : Below w.heap.size w5 w6 := (Keeps.below ((Keeps.alloc _ _ _).trans (Keeps.grown hg6 (fun b hb => fun h => absurd (Hown5.out.lt b hb).1 (by exact Nat.not_le.2 h)))) hsz5 (fun _ h => h)); have Hown6 := Lib.hid hown6; have Hb6 := Lib.hid hb6; clear hown6 hg6 hb6)
        go_roundw
        case rel =>
          refine ⟨k + 1, out ++ [y], by omega, by go_num, Lib.hid (by simp [hol.out]), ?_, Lib.hid (fun z hz => ?_), Hbel.out.trans ((Hb5.out.mono hws).trans Hb6.out)⟩
          · have := Hown6.out
            simpa [List.flatMap_append, Ins.cells] using this
          · rcases List.mem_append.1 hz with hz | hz
            · exact hgood.out z hz
            · simp at hz; rw [hz]; exact Hy.out
        case measure => simp [intOf]; omega
      · have hkM : k = l.length := by omega
        have hsz : w.heap.size ≤ wr.heap.size := hbel.size
        have hkn : k < 1000000 := by omega
        have Hown := Lib.hid hown
        have Hbel := Lib.hid hbel
        have HkM := Lib.hid hkM
        clear hown hbel hkM
        go_wp2_with (at_builtin; refine wpList_app1 rfl _ _ 24 rfl elT_instr w.heap.size u3 k _ rfl Hown.out #[.int .u8 1, .int .u8 0, .int .u8 0, .int .u8 0, .int .i64 0] rfl rfl (by simp [Value.oneCell']) hkn hsz ?_; intro g cp w6 hown6 hg6 hat6 hlt6; have hb6 : Below w.heap.size wr w6 := (Keeps.below ((Keeps.alloc _ _ _).trans (Keeps.grown hg6 (fun b hb => fun h => absurd (Hown.out.lt b hb).1 (by exact Nat.not_le.2 h)))) hsz (fun _ h => h)); have Hown6 := Lib.hid hown6; have Hb6 := Lib.hid hb6; clear hown6 hg6 hb6)
        go_ret
        have hol' := hol.out
        refine ⟨_, out, rfl, ?_, by rw [hol', HkM.out]; omega, fun z hz => ?_, Hbel.out.trans Hb6.out⟩
        · rw [hol']
          have := Hown6.out
          simpa [List.flatMap_append, Ins.cells, halt] using this
        · have := hgood.out z hz
          rw [hol', HkM.out]
          exact this
  · go_enter Try.func14, Try.ntmps14
    go_wp2_with fail
    have Hcl := Lib.hid hcl
    have Hcap := Lib.hid hcap
    clear hcl hcap hmx
    go_loopw [3, 13] (fun v t wr => ∃ (k : Nat) (out : List Ins), k ≤ 40 ∧ t = .int .i64 k ∧ Hid (out.length = k) ∧ wr.ownsRow w.heap.size 45 5 v k (out.flatMap Ins.cells) ∧ Hid (∀ x ∈ out, Good ((40 : Int) + 1) x) ∧ Below w.heap.size w wr) (fun _ t _ => 40 - (intOf t).toNat)
    case atStart => exact ⟨0, [], Nat.zero_le _, rfl, Lib.hid rfl, World.ownsRow_nil _ _ _ _, Lib.hid (fun _ h => by cases h), Below.refl _ _⟩
    case round =>
      obtain ⟨k, out, hk, rfl, hol, hown, hgood, hbel⟩ := hrel
      by_cases hlt : k < 40
      · have hlt2 : k < l.length := by omega
        have hin : (k : Int) < l.length := by omega
        have hin2 : (k : Int) < (40 : Int) := by omega
        obtain ⟨x, hx⟩ : ∃ x, l[k]? = some x := ⟨_, List.getElem?_eq_getElem hlt2⟩
        have hxo := hok x (List.mem_of_getElem? hx)
        obtain ⟨b', o', rfl, hbl, q0, q1, q2, q3, q4⟩ := Prg.at (show Prg wr a cap l from SlA.keep Hp.out hbel (Nat.le_refl _)) hx
        have hws := hbel.size
        have hone := smallone_any x ((40 : Int) + 1)
        unfold Ins.val at hone
        have Hone := Lib.hid hone
        have Hown := Lib.hid hown
        have Hbel := Lib.hid hbel
        clear hone hown hbel hx
        go_wp2_with fail
        have hw : IntKind.i64.wrap (((40 : Int) : Int) + 1) = (40 : Int) + 1 := IntWalk.i64_in _ ⟨by omega, by omega⟩
        try rw [hw]
        clear q0 q1 q2 q3 q4 hw
        refine (Hone.out _ hxo (by omega) (by omega)).mono ?_
        rintro e w5 ⟨y, rfl, y1, y2, y3, hb5⟩
        have hb5' : Below wr.heap.size wr w5 := ((Below.refl _ _).alloc (Nat.le_refl _) _).trans (hb5.mono (by simp))
        have hown5 := own_keeps Hown.out (Keeps.of_below hb5') (fun b hb => (Hown.out.lt b hb).2)
        have Hown5 := Lib.hid hown5
        have hkn : k < 1000000 := by omega
        have hsz5 : w.heap.size ≤ w5.heap.size := by have := hb5'.size; omega
        have Hb5 := Lib.hid hb5'
        have Hy := Lib.hid (Good.mk (N := (40 : Int) + 1) y1 y2 y3)
        clear hown5 hb5 hb5' y1 y2 y3
        go_wp2_with (at_builtin; refine wpList_app1 rfl _ _ 24 rfl elT_instr w.heap.size u3 k _ rfl Hown5.out #[.int .u8 y.op, .int .u8 y.a, .int .u8 y.b, .int .u8 y.c, .int .i64 y.n] rfl rfl (by simp [Value.oneCell']) hkn hsz5 ?_; intro g cp w6 hown6 hg6 hat6 hlt6; have hb6 : Below w.heap.size w5 w6 := (Keeps.below ((Keeps.alloc _ _ _).trans (Keeps.grown hg6 (fun b hb => fun h => absurd (Hown5.out.lt b hb).1 (by exact Nat.not_le.2 h)))) hsz5 (fun _ h => h)); have Hown6 := Lib.hid hown6; have Hb6 := Lib.hid hb6; clear hown6 hg6 hb6)
        go_roundw
        case rel =>
          refine ⟨k + 1, out ++ [y], by omega, by go_num, Lib.hid (by simp [hol.out]), ?_, Lib.hid (fun z hz => ?_), Hbel.out.trans ((Hb5.out.mono hws).trans Hb6.out)⟩
          · have := Hown6.out
            simpa [List.flatMap_append, Ins.cells] using this
          · rcases List.mem_append.1 hz with hz | hz
            · exact hgood.out z hz
            · simp at hz; rw [hz]; exact Hy.out
        case measure => simp [intOf]; omega
      · have hkM : k = 40 := by omega
        have hsz : w.heap.size ≤ wr.heap.size := hbel.size
        have hkn : k < 1000000 := by omega
        have Hown := Lib.hid hown
        have Hbel := Lib.hid hbel
        have HkM := Lib.hid hkM
        clear hown hbel hkM
        go_wp2_with (at_builtin; refine wpList_app1 rfl _ _ 24 rfl elT_instr w.heap.size u3 k _ rfl Hown.out #[.int .u8 1, .int .u8 0, .int .u8 0, .int .u8 0, .int .i64 0] rfl rfl (by simp [Value.oneCell']) hkn hsz ?_; intro g cp w6 hown6 hg6 hat6 hlt6; have hb6 : Below w.heap.size wr w6 := (Keeps.below ((Keeps.alloc _ _ _).trans (Keeps.grown hg6 (fun b hb => fun h => absurd (Hown.out.lt b hb).1 (by exact Nat.not_le.2 h)))) hsz (fun _ h => h)); have Hown6 := Lib.hid hown6; have Hb6 := Lib.hid hb6; clear hown6 hg6 hb6)
        go_ret
        have hol' := hol.out
        refine ⟨_, out, rfl, ?_, by rw [hol', HkM.out]; omega, fun z hz => ?_, Hbel.out.trans Hb6.out⟩
        · rw [hol']
          have := Hown6.out
          simpa [List.flatMap_append, Ins.cells, halt] using this
        · have := hgood.out z hz
          rw [hol', HkM.out]
          exact this
end Go.Proofs.Ytfdlhlabkcmikaa
