/- LoopsOrder's closure, and ContainsFunc. -/
import Derived.Test.YtfdlhlabkcmikaaOLaw
namespace Go.Proofs.Ytfdlhlabkcmikaa
open Go.RowKit Go.Shelf Go.Lib

theorem SlV.form {w : World} {sz n : Nat} {v : Value} {cs : List Value} (h : SlV w sz v n cs) : ∃ A c, v = .slice A n c ∧ SlA w sz A n c cs := h

theorem slV_get {w : World} {v : Value} {n : Nat} {cs : List Value} (h : SlV w 1 v n cs) {j : Nat} {u : Value} (hu : cs[j]? = some u) : ∃ b off c, v = .slice (some ⟨b, off, none⟩) n c ∧ b < w.heap.size ∧ w.cell? ⟨b, off + j, none⟩ = some u := by
  obtain ⟨A, c, rfl, hs⟩ := h
  obtain ⟨b, off, rfl, hb, hc⟩ := hs.one hu
  exact ⟨b, off, c, rfl, hb, hc⟩

set_option maxHeartbeats 1000000 in
theorem clo_any {w : World} {Bp Br Bd n m cap : Nat} {a : Option Addr} {rv dv : Value} {rl : List Bool} {dl : List Int} (hp : w.cell? ⟨Bp, 0, none⟩ = some (.slice a n cap)) (hr : w.cell? ⟨Br, 0, none⟩ = some rv) (hd : w.cell? ⟨Bd, 0, none⟩ = some dv)
    (hrs : SlV w 1 rv n (boolsC rl)) (hds : SlV w 1 dv m (intsC dl)) (hm : m < 1000000) (x : Int) :
    Calls Try.prog 13 #[.int .i64 x, .pointer (some ⟨Bp, 0, none⟩), .pointer (some ⟨Br, 0, none⟩), .pointer (some ⟨Bd, 0, none⟩)] w fun e w' => e = .returned (.bool (cloB n rl dl x)) ∧ w' = w := by
  have hrl : rl.length = n := by obtain ⟨A, c, rfl, hs⟩ := hrs; have := hs.len; simpa [boolsC] using this
  have hco := contains_any x hds hm
  by_cases h1 : 0 ≤ x
  · by_cases h2 : x < n
    · obtain ⟨k, rfl⟩ : ∃ k : Nat, x = k := ⟨x.toNat, by omega⟩
      obtain ⟨r, hrk⟩ : ∃ r, rl[k]? = some r := ⟨_, List.getElem?_eq_getElem (by omega)⟩
      obtain ⟨b, off, c, rfl, -, hc⟩ := slV_get hrs (boolsC_get hrk)
      have hcl : cloB n rl dl (k : Int) = (r && !dl.contains (k : Int)) := by unfold cloB; simp [h2, hrk]
      rw [hcl]
      have Hco := Lib.hid hco
      clear hcl hrk hrs hds hrl hco
      cases r with
      | false =>
        go_enter Try.func13, Try.ntmps13
        go_wp2_with fail
        go_ret
        exact ⟨rfl, rfl⟩
      | true =>
        go_enter Try.func13, Try.ntmps13
        go_wp2_with fail
        refine Hco.out.mono ?_
        rintro e w' ⟨rfl, rfl⟩
        go_wp2_with fail
        go_ret
        exact ⟨by simp, rfl⟩
    · have hcl : cloB n rl dl x = false := by unfold cloB; simp [h2]
      rw [hcl]
      clear hcl hrs hds hrl hco
      go_enter Try.func13, Try.ntmps13
      go_wp2_with fail
      go_ret
      exact ⟨rfl, rfl⟩
  · have hcl : cloB n rl dl x = false := by unfold cloB; simp [h1]
    rw [hcl]
    clear hcl hrs hds hrl hco
    go_enter Try.func13, Try.ntmps13
    go_wp2_with fail
    go_ret
    exact ⟨rfl, rfl⟩

theorem containsFunc_any {w : World} {v : Value} {n : Nat} {zs : List Int} (p : Int → Bool) (g : Nat) (lb : Array Value) (eg : ∀ args w, (callFunc g args).run Try.prog w = .ok (.enter g args) w) (hp : PredAt Try.prog g lb (Value.int .i64) p w) (h : SlV w 1 v n (intsC zs)) (hn : n < 1000000) :
    Calls Try.prog 12 #[v, .func (.func g) #[] lb] w fun e w' => e = .returned (.bool (zs.any p)) ∧ ∃ q, w' = w.drewN q := by
  have hl := slV_len h
  obtain ⟨A, c, rfl, hs⟩ := h
  by_cases h0 : n = 0
  · subst h0
    obtain rfl := List.eq_nil_of_length_eq_zero hl
    refine (Try.slices_ContainsFunc_empty (α := Int) A c _ w).mono ?_
    rintro e w' ⟨rfl, rfl⟩
    exact ⟨rfl, 0, rfl⟩
  · obtain ⟨b, off, rfl, -, hc⟩ := slV_cells ⟨A, c, rfl, hs⟩ h0
    have := Try.slices_ContainsFunc (Value.int .i64) p g lb eg b off n c zs w hp (by omega) (by omega) (fun j hj => by rw [hc j hj]; simp [hj, getElem!_pos])
    rwa [List.take_of_length_le (by omega)] at this
end Go.Proofs.Ytfdlhlabkcmikaa
