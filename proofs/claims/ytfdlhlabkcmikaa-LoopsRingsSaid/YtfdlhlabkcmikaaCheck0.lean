/- code.Check returns what the plain definition says; any program of fewer than a million instructions. -/
import Derived.Test.YtfdlhlabkcmikaaCode
namespace Go.Proofs.Ytfdlhlabkcmikaa
open Go.RowKit

theorem drop_cons {α : Type} {l : List α} {k : Nat} {x : α} (h : l[k]? = some x) : l.drop k = x :: l.drop (k + 1) := by
  obtain ⟨hlt, he⟩ := List.getElem?_eq_some_iff.1 h
  rw [List.drop_eq_getElem_cons hlt, he]

/-- A program in memory. -/
def Prg (w : World) (a : Option Addr) (cap : Nat) (p : List Ins) : Prop := SlA w 5 a p.length cap (p.flatMap Ins.cells)

theorem Prg.at {w : World} {a : Option Addr} {cap : Nat} {p : List Ins} (h : Prg w a cap p) {i : Nat} {x : Ins} (hx : p[i]? = some x) : ∃ b off, a = some ⟨b, off, none⟩ ∧ b < w.heap.size ∧
    w.cell? ⟨b, off + i * 5, none⟩ = some (.int .u8 x.op) ∧ w.cell? ⟨b, off + i * 5 + 1, none⟩ = some (.int .u8 x.a) ∧ w.cell? ⟨b, off + i * 5 + 2, none⟩ = some (.int .u8 x.b) ∧
    w.cell? ⟨b, off + i * 5 + 3, none⟩ = some (.int .u8 x.c) ∧ w.cell? ⟨b, off + i * 5 + 4, none⟩ = some (.int .i64 x.n) := by
  have hlt := (List.getElem?_eq_some_iff.1 hx).1
  obtain ⟨b, off, ha, hb, hc⟩ := SlA.elem h Ins.cells_len hx (by decide) (by omega)
  exact ⟨b, off, ha, hb, hc 0 _ rfl, hc 1 _ rfl, hc 2 _ rfl, hc 3 _ rfl, hc 4 _ rfl⟩

theorem checkFrom_bad {len : Int} {x : Ins} {l : List Ins} {k : Int} (h : oneE x ≠ 0) : checkFrom len (x :: l) k = some (k, oneE x) := by rw [checkFrom, if_pos h]
theorem checkFrom_to {len : Int} {x : Ins} {l : List Ins} {k : Int} (h : oneE x = 0) (ht : targetB x = true) (hl : len ≤ target x) : checkFrom len (x :: l) k = some (k, 142) := by
  rw [checkFrom, if_neg (by simp [h]), if_pos ⟨ht, hl⟩]
theorem checkFrom_next {len : Int} {x : Ins} {l : List Ins} {k : Int} (h : oneE x = 0) (ht : ¬ (targetB x = true ∧ len ≤ target x)) : checkFrom len (x :: l) k = checkFrom len l (k + 1) := by
  rw [checkFrom, if_neg (by simp [h]), if_neg ht]

set_option maxHeartbeats 1000000 in
theorem check_any (a : Option Addr) (cap : Nat) (p : List Ins) (w : World) (hp : Prg w a cap p) (hok : ∀ x ∈ p, x.Ok) (hlen : p.length < 1000000) :
    Calls Try.prog 49 #[.slice a p.length cap] w fun e w' => e = .returned (.tuple #[.int .i64 (checkP p).1, .int .i64 (checkP p).2]) ∧ Below w.heap.size w w' := by
  by_cases h0 : p.length = 0
  · have e0 : ((p.length : Int) == 0) = true := by simp [h0]
    go_enter Try.func49, Try.ntmps49
    go_wp2_with fail
    go_ret2
    exact ⟨by simp [checkP, h0], Below.refl _ _⟩
  · have e0 : ((p.length : Int) == 0) = false := beq_eq_false_iff_ne.2 (by omega)
    by_cases h256 : 256 < p.length
    · go_enter Try.func49, Try.ntmps49
      go_wp2_with fail
      go_ret2
      exact ⟨by simp [checkP, h0, h256], Below.refl _ _⟩
    · go_enter Try.func49, Try.ntmps49
      go_wp2_with fail
      go_loopw [20] (fun t wr => ∃ k : Nat, k ≤ p.length ∧ t = .int .i64 k ∧ Below w.heap.size w wr ∧ checkFrom p.length p 0 = checkFrom p.length (p.drop k) k) (fun t _ => p.length - (intOf t).toNat)
      case atStart => exact ⟨0, by omega, rfl, Below.refl _ _, rfl⟩
      case round =>
        obtain ⟨k, hk, rfl, hb, hch⟩ := hrel
        have hsz := hb.size
        by_cases hlt : k < p.length
        · obtain ⟨x, hx⟩ : ∃ x, p[k]? = some x := ⟨p[k], List.getElem?_eq_getElem hlt⟩
          have hxo : x.Ok := hok x (List.mem_of_getElem? hx)
          obtain ⟨b, off, rfl, hbl, q0, q1, q2, q3, q4⟩ := Prg.at (hp.keep hb (Nat.le_refl _)) hx
          rw [drop_cons hx] at hch
          have ho := fun w => one_any x w hxo
          have ht := fun w => target_any x w hxo
          unfold Ins.val at ho ht
          have Hch := Lib.hid hch
          have Hx := Lib.hid hx
          clear hch hx hp
          by_cases h1 : oneE x = 0
          · have e1 : (oneE x != 0) = false := by simpa using h1
            have H1 := Lib.hid h1
            clear h1
            by_cases h2 : targetB x = true ∧ (p.length : Int) ≤ target x
            · have H2 := Lib.hid h2
              have t1 : targetB x = true := h2.1
              have t2 : (p.length : Int) ≤ target x := h2.2
              clear h2
              go_wp2_with (first | (go_at_call 41; refine (ho _).mono ?_; rintro e w1 ⟨rfl, hb1⟩; obtain ⟨hc1, hf1⟩ := bcell hb1; have hs1 : wr.heap.size < w1.heap.size := (by have := hb1.size; simp at this; omega); simp at hc1 hf1) | (go_at_call 26; refine (ht _).mono ?_; rintro e w2 ⟨rfl, hb2⟩))
              go_ret2
              have e : checkP p = ((k : Int), 142) := by
                unfold checkP
                rw [if_neg h0, if_neg h256, Hch.out, checkFrom_to H1.out H2.out.1 H2.out.2]
              exact ⟨by rw [e]; rfl, ((hb.alloc (by omega) _).trans (hb1.mono (by simp; omega))).trans (hb2.mono (by omega))⟩
            · have H2 := Lib.hid h2
              have hr : ∀ w3, Below w.heap.size w w3 → Below w.heap.size w w3 ∧ checkFrom p.length p 0 = checkFrom p.length (p.drop (k + 1)) ((k + 1 : Nat) : Int) := fun w3 h3 => ⟨h3, by rw [Hch.out, checkFrom_next H1.out H2.out]; rfl⟩
              have Hr := Lib.hid hr
              clear hr
              cases t1 : targetB x
              · clear h2
                go_wp2_with (first | (go_at_call 41; refine (ho _).mono ?_; rintro e w1 ⟨rfl, hb1⟩; obtain ⟨hc1, hf1⟩ := bcell hb1; have hs1 : wr.heap.size < w1.heap.size := (by have := hb1.size; simp at this; omega); simp at hc1 hf1) | (go_at_call 26; refine (ht _).mono ?_; rintro e w2 ⟨rfl, hb2⟩))
                go_roundw
                case rel => exact ⟨k + 1, by omega, by go_num, Hr.out _ (((hb.alloc (by omega) _).trans (hb1.mono (by simp; omega))).trans (hb2.mono (by omega)))⟩
                case measure => simp [intOf]; omega
              · have t2 : target x < (p.length : Int) := Int.not_le.1 (fun h => h2 ⟨t1, h⟩)
                clear h2
                go_wp2_with (first | (go_at_call 41; refine (ho _).mono ?_; rintro e w1 ⟨rfl, hb1⟩; obtain ⟨hc1, hf1⟩ := bcell hb1; have hs1 : wr.heap.size < w1.heap.size := (by have := hb1.size; simp at this; omega); simp at hc1 hf1) | (go_at_call 26; refine (ht _).mono ?_; rintro e w2 ⟨rfl, hb2⟩))
                go_roundw
                case rel => exact ⟨k + 1, by omega, by go_num, Hr.out _ (((hb.alloc (by omega) _).trans (hb1.mono (by simp; omega))).trans (hb2.mono (by omega)))⟩
                case measure => simp [intOf]; omega
          · have e1 : (oneE x != 0) = true := by simpa using h1
            have H1 := Lib.hid h1
            clear h1
            go_wp2_with (first | (go_at_call 41; refine (ho _).mono ?_; rintro e w1 ⟨rfl, hb1⟩; obtain ⟨hc1, hf1⟩ := bcell hb1; have hs1 : wr.heap.size < w1.heap.size := (by have := hb1.size; simp at this; omega); simp at hc1 hf1) | (go_at_call 26; refine (ht _).mono ?_; rintro e w2 ⟨rfl, hb2⟩))
            go_ret2
            have e : checkP p = ((k : Int), oneE x) := by
              unfold checkP
              rw [if_neg h0, if_neg h256, Hch.out, checkFrom_bad H1.out]
            exact ⟨by rw [e]; rfl, (hb.alloc (by omega) _).trans (hb1.mono (by simp; omega))⟩
        · obtain ⟨x, hx⟩ : ∃ x, p[p.length - 1]? = some x := ⟨p[p.length - 1], List.getElem?_eq_getElem (by omega)⟩
          have hxo : x.Ok := hok x (List.mem_of_getElem? hx)
          obtain ⟨b, off, rfl, hbl, q0, q1, q2, q3, q4⟩ := Prg.at (hp.keep hb (Nat.le_refl _)) hx
          have hg := fun w => goes_any x w hxo
          unfold Ins.val at hg
          have hnil : p.drop k = [] := List.drop_eq_nil_of_le (by omega)
          rw [hnil] at hch
          have e : checkP p = if goesB x then ((p.length : Int) - 1, 143) else (-1, 0) := by
            unfold checkP
            rw [if_neg h0, if_neg h256, hch, checkFrom, List.getLast?_eq_getElem?, hx]
          have E := Lib.hid e
          have ed : ((p.length : Int) - 1).toNat = p.length - 1 := by omega
          clear hch hnil hx hp e
          cases hgo : goesB x
          · have Hgo := Lib.hid hgo
            go_wp2_with (go_at_call 55; refine (hg _).mono ?_; rintro e w1 ⟨rfl, hb1⟩)
            go_ret2
            exact ⟨by rw [E.out, Hgo.out]; rfl, hb.trans (hb1.mono hsz)⟩
          · have Hgo := Lib.hid hgo
            go_wp2_with (go_at_call 55; refine (hg _).mono ?_; rintro e w1 ⟨rfl, hb1⟩)
            go_ret2
            exact ⟨by rw [E.out, Hgo.out]; rfl, hb.trans (hb1.mono hsz)⟩
end Go.Proofs.Ytfdlhlabkcmikaa
