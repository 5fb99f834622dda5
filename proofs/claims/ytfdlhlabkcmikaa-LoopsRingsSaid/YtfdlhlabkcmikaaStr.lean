/- fermatalaw20.straight: its walk. -/
import Derived.Test.YtfdlhlabkcmikaaStr0
import Derived.Test.YtfdlhlabkcmikaaGrow
namespace Go.Proofs.Ytfdlhlabkcmikaa
open Go.RowKit

/-- A store into a row of the call's own. -/
theorem own_set {w : World} {base : Nat} {e : TypeId} {sz g n cap : Nat} {xs : List Value} (h : w.ownsRow base e sz (.slice (some ⟨g, 0, none⟩) n cap) n xs) (j : Nat) (u : Value) :
    (w.setCell ⟨g, j, none⟩ u).ownsRow base e sz (.slice (some ⟨g, 0, none⟩) n cap) n (xs.set j u) := by
  refine ⟨by rw [List.length_set]; exact h.1, ?_⟩
  rcases h.2 with ⟨h0, _⟩ | ⟨g', c', cur, hv, hb, hh, q1, q2, q3, q4⟩
  · cases h0
  · cases hv
    refine .inr ⟨g, cap, cur.setIfInBounds j u, rfl, hb, ?_, q1, q2, by simp [q3], ?_⟩
    · obtain ⟨hlt, hk⟩ := Array.getElem?_eq_some_iff.1 hh
      show (w.heap.modify g _)[g]? = _
      rw [Array.getElem?_eq_getElem (by rw [Array.size_modify]; exact hlt), Array.getElem_modify_self, hk]
      simp
    · rw [Array.toList_setIfInBounds, List.take_set, q4]

theorem flat_set (x : Ins) (z : Int) : ∀ (q : List Ins) (i : Nat), q[i]? = some x → (q.flatMap Ins.cells).set (i * 5 + 4) (.int .i64 z) = (q.set i { x with n := z }).flatMap Ins.cells := by
  intro q
  induction q with
  | nil => intro i h; simp at h
  | cons y q ih =>
    intro i h
    cases i with
    | zero =>
      simp at h; subst h
      simp [Ins.cells]
    | succ i =>
      have := ih i (by simpa using h)
      rw [List.set_cons_succ, List.flatMap_cons, List.flatMap_cons, ← this, List.set_append]
      rw [if_neg (by simp [Ins.cells]; omega)]
      congr 2
      simp [Ins.cells]
      omega

def StrPost (w : World) (e : Ending) (w' : World) : Prop := ∃ g cap p, e = .returned (.slice (some ⟨g, 0, none⟩) p.length cap) ∧ w'.ownsRow w.heap.size 45 5 (.slice (some ⟨g, 0, none⟩) p.length cap) p.length (p.flatMap Ins.cells) ∧ p.length ≤ 41 ∧ Strt p ∧ Below w.heap.size w w'

set_option maxRecDepth 100000 in
set_option maxHeartbeats 2000000 in
theorem straight_any (a : Option Addr) (cap : Nat) (l : List Ins) (w : World) (hp : Prg w a cap l) (hok : ∀ x ∈ l, x.Ok) (hcap : l.length ≤ maxLen) :
    Calls Try.prog 6 #[.slice a l.length cap] w (StrPost w) := by
  have hm := made_any a cap l w hp hok hcap
  clear hp hcap
  go_enter Try.func6, Try.ntmps6
  go_wp2_with fail
  refine hm.mono ?_
  rintro e w1 ⟨v, q, rfl, hown, hq, hgood, hb1⟩
  obtain ⟨g, c, rfl, hg1, hg2⟩ := hown.form (Nat.succ_pos _)
  obtain ⟨p, hpq⟩ : ∃ p, q ++ [halt] = p := ⟨_, rfl⟩
  have hlen : p.length = q.length + 1 := by rw [← hpq]; simp
  have hst := straight_ok hgood hq
  rw [hpq, ← hlen] at hst
  have hgp : ∀ x ∈ p, Good p.length x := fun x hx => by
    have e : (p.length : Int) = q.length + 1 := by omega
    rw [e]
    rw [← hpq] at hx
    rcases List.mem_append.1 hx with hx | hx
    · exact hgood x hx
    · simp at hx; rw [hx]; exact halt_good
  have hlast : ∀ (i : Nat) (x : Ins), p[i]? = some x → targetB x = true → (i : Int) < p.length - 1 := fun i x hx ht => by
    have hi := (List.getElem?_eq_some_iff.1 hx).1
    by_cases e : i = q.length
    · subst e
      rw [← hpq, List.getElem?_append_right (Nat.le_refl _), Nat.sub_self] at hx
      simp at hx
      rw [← hx] at ht
      have e : targetB halt = false := by kernel_rfl
      rw [e] at ht; cases ht
    · omega
  rw [hpq, ← hlen] at hown
  have hl41 : p.length ≤ 41 := by omega
  rw [← hlen]
  have Hown := Lib.hid hown
  have Hst := Lib.hid hst
  have Hgp := Lib.hid hgp
  have Hlast := Lib.hid hlast
  have Hb1 := Lib.hid hb1
  have hws := hb1.size
  clear hown hst hgp hlast hb1 hm hpq hlen hgood hq hok
  go_wp2_with fail
  go_loopw [12] (fun t wr => ∃ k : Nat, k ≤ p.length ∧ t = .int .i64 k ∧ wr.ownsRow w.heap.size 45 5 (.slice (some ⟨g, 0, none⟩) p.length c) p.length ((fwdUpto p k).flatMap Ins.cells) ∧ Below w.heap.size w wr) (fun t _ => p.length - (intOf t).toNat)
  case atStart => exact ⟨0, Nat.zero_le _, rfl, by rw [fwdUpto_zero]; exact Hown.out, Hb1.out⟩
  case round =>
    obtain ⟨k, hk, rfl, hown, hbel⟩ := hrel
    by_cases hlt : k < p.length
    · have hin : (k : Int) < p.length := by omega
      obtain ⟨x, hx⟩ : ∃ x, p[k]? = some x := ⟨_, List.getElem?_eq_getElem hlt⟩
      have hxk := fwdUpto_get (k := k) hx
      rw [if_neg (Nat.lt_irrefl _)] at hxk
      have hprg : Prg wr (some ⟨g, 0, none⟩) c (fwdUpto p k) := by
        obtain ⟨a', c', e', hs⟩ := slV_of_own hown
        cases e'
        unfold Prg
        rw [fwdUpto_len]
        exact hs
      obtain ⟨b', o', e', hbl, q0, q1, q2, q3, q4⟩ := hprg.at hxk
      cases e'
      simp only [Nat.zero_add] at q0 q1 q2 q3 q4
      have hgx := Hgp.out x (List.mem_of_getElem? hx)
      have hxo := hgx.ok
      have htg := fun w => target_any x w hxo
      unfold Ins.val at htg
      have Htg := Lib.hid htg
      have Hx := Lib.hid hx
      have Hxk := Lib.hid hxk
      have Hgx := Lib.hid hgx
      have Hown := Lib.hid hown
      have Hbel := Lib.hid hbel
      have hsz := hbel.size
      clear htg hx hxk hgx hxo hown hbel hprg
      go_wp2_with fail
      refine (Htg.out _).mono ?_
      rintro e w5 ⟨rfl, hb5⟩
      have hb5' : Below wr.heap.size wr w5 := ((Below.refl _ _).alloc (Nat.le_refl _) _).trans (hb5.mono (by simp))
      have hs5 : wr.heap.size < w5.heap.size := by have := hb5.size; simp at this; omega
      have hvar : w5.cell? ⟨wr.heap.size, 4, none⟩ = some (.int .i64 x.n) := by
        refine (hb5.cell (p := ⟨wr.heap.size, 4, none⟩) (by simp)).trans ?_
        exact Blk.cell (cs := [.int .u8 x.op, .int .u8 x.a, .int .u8 x.b, .int .u8 x.c, .int .i64 x.n]) (World.alloc_heap_new wr _) rfl
      have hown5 := own_keeps Hown.out (Keeps.of_below hb5') (fun b hb => (Hown.out.lt b hb).2)
      have Hown5 := Lib.hid hown5
      have Hb5 := Lib.hid hb5'
      clear q0 q1 q2 q3 q4 hown5 hb5 hb5'
      cases ht : targetB x with
      | false =>
        have Ht := Lib.hid ht
        clear ht hvar
        go_wp2_with fail
        go_roundw
        case rel => exact ⟨k + 1, by omega, by go_num, by rw [← fwdUpto_same Hx.out Ht.out]; exact Hown5.out, Hbel.out.trans (Hb5.out.mono hsz)⟩
        case measure => simp [intOf]; omega
      | true =>
        have hl := Hlast.out k x Hx.out ht
        have hn := target_range ht
        rw [target_eq ht] at hn
        obtain ⟨n0, n1⟩ := hn
        have m1 := Int.emod_nonneg x.n (b := (p.length : Int) - 1 - k) (by omega)
        have m2 := Int.emod_lt_of_pos x.n (b := (p.length : Int) - 1 - k) (by omega)
        have hq4 : w5.cell? ⟨g, k * 5 + 4, none⟩ = some (.int .i64 x.n) := by
          have hprg : Prg w5 (some ⟨g, 0, none⟩) c (fwdUpto p k) := by
            obtain ⟨a', c', e', hs⟩ := slV_of_own Hown5.out
            cases e'
            unfold Prg
            rw [fwdUpto_len]
            exact hs
          obtain ⟨b', o', e', -, -, -, -, -, q4⟩ := hprg.at Hxk.out
          cases e'
          simpa only [Nat.zero_add] using q4
        have hf4 : w5.frozen? ⟨g, k * 5 + 4, none⟩ = false := by
          rcases Hown5.out.2 with ⟨h0, _⟩ | ⟨g', c', cur, hv, hb, hh, -⟩
          · cases h0
          · cases hv
            simp [World.frozen?, hh]
        have Ht := Lib.hid ht
        clear ht
        go_wp2_with fail
        go_roundw
        case rel =>
          refine ⟨k + 1, by omega, by go_num, ?_, (Hbel.out.trans (Hb5.out.mono hsz)).setCell (by exact hg1) _⟩
          have h1 := own_set Hown5.out (k * 5 + 4) (.int .i64 ((k : Int) + 1 + x.n % ((p.length : Int) - 1 - k)))
          rw [flat_set x _ _ _ Hxk.out] at h1
          have h2 := fwdUpto_set Hx.out
          have h3 : fwdIns p.length k x = { x with n := (k : Int) + 1 + x.n % ((p.length : Int) - 1 - k) } := by unfold fwdIns; rw [if_pos Ht.out]
          rw [h3] at h2
          rw [h2] at h1
          exact h1
        case measure => simp [intOf]; omega
    · obtain rfl : k = p.length := by omega
      have Hown := Lib.hid hown
      have Hbel := Lib.hid hbel
      clear hown hbel
      go_wp2_with fail
      go_ret
      have hlen := fwdUpto_len p p.length
      refine ⟨g, c, fwdUpto p p.length, by rw [hlen]; rfl, by rw [hlen]; exact Hown.out, by omega, Hst.out, Hbel.out⟩
end Go.Proofs.Ytfdlhlabkcmikaa
