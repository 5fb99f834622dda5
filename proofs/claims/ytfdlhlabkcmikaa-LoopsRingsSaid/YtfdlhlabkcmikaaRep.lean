/- slices.Repeat at a slice of one int; fewer than a million elements. -/
import Derived.Test.YtfdlhlabkcmikaaFlow
import Derived.Test.YtfdlhlabkcmikaaSeg
import Derived.Test.YtfdlhlabkcmikaaShelf
import Derived.Laws.CopyOwn
import Derived.PlainAid
namespace Go.Proofs.Ytfdlhlabkcmikaa
open Go.RowKit Go.Shelf

theorem splice_rep (v z : Value) (k m N : Nat) (hm : m = min k (N - k)) (hk : k ≤ N) : splice (List.replicate k v ++ List.replicate (N - k) z) k (List.replicate m v) = List.replicate (k + m) v ++ List.replicate (N - (k + m)) z := by
  subst hm
  unfold splice
  rw [List.take_left' (by simp), List.drop_append]
  simp only [List.drop_replicate, List.length_replicate]
  rw [show k - (k + min k (N - k)) = 0 by omega, List.replicate_zero, List.nil_append, ← List.append_assoc, List.replicate_append_replicate]
  congr 2
  omega

theorem made_row {w w' : World} {n : Nat} {e : TypeId} {z : Value} (hz : z.cells = #[z]) (h : w'.ownsRow w.heap.size e 1 (.slice (some ⟨w.heap.size, 0, none⟩) n n) n (madeCells z.cells (n * 1)).toList) (hg : w.grownBy w' none) (G : Nat) (hG : w.heap.size = G) :
    Hid (w'.heap[G]? = some (.cells (List.replicate n z).toArray e (0, 0))) ∧ Below G w w' := by
  subst hG
  rcases h.2 with ⟨h, _⟩ | ⟨g, cap, cur, hv, hb, hh, hn, hc, hcs, ht⟩
  · cases h
  · cases hv
    refine ⟨?_, ⟨hg.os, hg.tape, hg.output, hg.size, fun k hk => hg.block k hk (by simp)⟩⟩
    show _ = _
    rw [hh]
    congr 2
    apply Array.toList_inj.1
    rw [hz] at ht
    rw [← List.take_of_length_le (l := cur.toList) (i := n * 1) (by simp [hcs]), ht, Nat.mul_one, toList_madeCells_one]

theorem src_one {w w2 : World} {G b off : Nat} {u : Value} (hb : Below G w w2) (hb : b < w.heap.size) (hc : w.cell? ⟨b, off, none⟩ = some u) (hG : w.heap.size = G) : ∀ j v, [u][j]? = some v → w2.cell? ((⟨b, off, none⟩ : Addr).add j) = some v := by
  intro j v hv
  subst hG
  cases j with
  | zero => simp at hv; subst hv; rw [Addr.add_lit]; exact (hb.cell (p := ⟨b, off, none⟩) ‹_›).trans hc
  | succ j => simp at hv
theorem rep_first {w : World} {G n : Nat} {u z : Value} {e : TypeId} (h : Hid (w.heap[G]? = some (.cells (splice (List.replicate n z) 0 [u]).toArray e (0, 0)))) (hn : 0 < n) :
    Hid (w.heap[G]? = some (.cells (List.replicate 1 u ++ List.replicate (n - 1) z).toArray e (0, 0))) := by
  have e : splice (List.replicate n z) 0 [u] = List.replicate 1 u ++ List.replicate (n - 1) z := by simp [splice]
  rw [e] at h
  exact h

theorem src_rep {w : World} {G m k n : Nat} {u z : Value} {e : TypeId} (hm : m = min k (n - k)) (h : w.heap[G]? = some (.cells (List.replicate k u ++ List.replicate (n - k) z).toArray e (0, 0))) :
    ∀ j v, (List.replicate m u)[j]? = some v → w.cell? ((⟨G, 0, none⟩ : Addr).add j) = some v := by
  intro j v hv
  rw [Addr.add_lit, List.getElem?_replicate] at *
  split at hv
  · rename_i hj
    cases hv
    simp only [World.cell?, h, Option.isSome_none]
    have : j < k := by omega
    simp [List.getElem?_append, List.getElem?_replicate, this]
  · cases hv

set_option maxRecDepth 8000 in
set_option maxHeartbeats 1000000 in
theorem repeat_int (b off cap n : Nat) (v : Int) (w : World) (hb : Hid (b < w.heap.size ∧ w.cell? ⟨b, off, none⟩ = some (.int .i64 v))) (hn : n < 1000000) (hn0 : 0 < n) :
    Calls Try.prog 48 #[.slice (some ⟨b, off, none⟩) 1 cap, .int .i64 n] w fun e w' => ∃ g, e = .returned (.slice (some ⟨g, 0, none⟩) n n) ∧
      w'.ownsRow w.heap.size 3 1 (.slice (some ⟨g, 0, none⟩) n n) n (List.replicate n (.int .i64 v)) ∧ Below w.heap.size w w' := by
  have hmul : ∀ w, Calls Try.prog 62 #[.int .u64 1, .int .u64 n] w fun e w' => e = .returned (.tuple #[.int .u64 0, .int .u64 n]) ∧ w' = w := by
    intro w
    have h := Try.bits_Mul 1 n (by decide) (by omega) w
    rw [show (1 * n / 18446744073709551616 : Nat) = 0 by omega, show (1 * n % 18446744073709551616 : Nat) = n by omega] at h
    exact h
  have w1 : IntKind.u64.wrap (n : Int) = n := IntWalk.u64_in _ ⟨by omega, by omega⟩
  have hlt : ¬ (n : Int) < 0 := by omega
  have hgt : ¬ (n : Int) > 9223372036854775807 := by omega
  have q1 : Try.prog.underlying 26 = some (.slice 3) := Try.underlying26
  obtain ⟨i, q2, q3, q4, q5⟩ := info_parts (show (Try.prog.info? 3).map (fun i => (i.zero, i.size, i.bytes)) = some (some (.int .i64 0), 1, 8) by kernel_rfl)
  have hsz : (Try.prog.info? 3).map (·.size) = some 1 := by rw [q2]; simp [q4]
  have hby : i.bytes * n ≤ 281474976710656 := by rw [q5]; omega
  have hml : n ≤ maxLen := by unfold maxLen; omega
  have HS := Lib.hid hsz
  clear hsz
  have Hmin := Lib.hid (show [(Value.int .i64 v)].length = Nat.min 1 n from (Nat.min_eq_left (show 1 ≤ n from hn0)).symm)
  have Hfit := Lib.hid (show 0 + [(Value.int .i64 v)].length ≤ (List.replicate n (Value.int .i64 0)).length by simp; omega)
  have H1 := Lib.hid (show ∀ u ∈ [(Value.int .i64 v)], u.oneCell' = true by simp [Value.oneCell'])
  obtain ⟨G, hG⟩ : ∃ G, Hid (w.heap.size = G) := ⟨_, rfl⟩
  go_enter Try.func48, Try.ntmps48
  go_wp2_with (first
    | (go_at_call 62; refine (hmul _).mono ?_; rintro e w1 ⟨rfl, rfl⟩)
    | (at_make; refine wpList_make_full _ rfl _ _ 26 rfl w1.heap.size 3 i (.int .i64 0) 1 q1 q2 q3 q4 .i64 .i64 _ _ n rfl rfl rfl rfl hby hml (Nat.le_refl _) ?_; intro w2 hown2 hgrow2; obtain ⟨hrow, hbel⟩ := made_row rfl hown2 hgrow2 G hG.out; have hG' := hG.out; simp only [hG']; clear hG')
    | (refine wpList_copy_splice rfl (.tmp 31) (.tmp 32) 26 26 rfl 3 q1 HS.out _ _ _ _ _ _ rfl rfl G 0 (List.replicate n (.int .i64 0)) 3 hrow.out [.int .i64 v] Hmin.out (fun _ => ⟨rfl, _, rfl, src_one hbel hb.out.1 hb.out.2 hG.out⟩) Hfit.out H1.out G w1 hbel (Nat.le_refl _) ?_; intro w3 hrow3 hbel3))
  have hrow4 := rep_first hrow3 hn0
  clear hrow3 hrow
  have hml' : n ≤ maxLen := hml
  have Hml := Lib.hid hml'
  clear hml hml' hby Hmin Hfit H1 hown2 hgrow2 hmul
  go_loopw [8] (fun m wr => ∃ k : Nat, 1 ≤ k ∧ k ≤ n ∧ m = .int .i64 k ∧ Hid (wr.heap[G]? = some (.cells (List.replicate k (Value.int .i64 v) ++ List.replicate (n - k) (Value.int .i64 0)).toArray 3 (0, 0))) ∧ Below G w1 wr)
    (fun m _ => n - (intOf m).toNat)
  case atStart => exact ⟨1, Nat.le_refl _, hn0, rfl, hrow4, hbel3⟩
  case round =>
    obtain ⟨k, hk1, hkn, rfl, hrowk, hbelk⟩ := hrel
    by_cases hlt : k < n
    · obtain ⟨m, hm⟩ : ∃ m, m = min k (n - k) := ⟨_, rfl⟩
      have hrow5 : ∀ wq : World, Hid (wq.heap[G]? = some (.cells (splice (List.replicate k (Value.int .i64 v) ++ List.replicate (n - k) (Value.int .i64 0)) k (List.replicate m (Value.int .i64 v))).toArray 3 (0, 0))) →
          Hid (wq.heap[G]? = some (.cells (List.replicate (k + m) (Value.int .i64 v) ++ List.replicate (n - (k + m)) (Value.int .i64 0)).toArray 3 (0, 0))) := by
        intro wq h
        rw [splice_rep _ _ _ _ _ hm hkn] at h
        exact h
      have Hmin := Lib.hid (show (List.replicate m (Value.int .i64 v)).length = Nat.min k (n - k) by rw [List.length_replicate]; exact hm)
      have Hfit := Lib.hid (show k + (List.replicate m (Value.int .i64 v)).length ≤ (List.replicate k (Value.int .i64 v) ++ List.replicate (n - k) (Value.int .i64 0)).length by simp; omega)
      have H1 := Lib.hid (show ∀ u ∈ List.replicate m (Value.int .i64 v), u.oneCell' = true by intro u hu; rw [(List.mem_replicate.1 hu).2]; rfl)
      have hm0 : 0 < m := by omega
      have hmk : k + m ≤ n := by omega
      have Hm := Lib.hid hm
      clear hm
      have hne : ¬ n = k := by omega
      go_wp2_with fail
      go_region_law (refine step_copy_splice rfl (.tmp 41) (.tmp 44) 26 26 rfl 3 q1 HS.out (some ⟨G, k, none⟩) (some ⟨G, 0, none⟩) (n - k) (n - k) k n (by simp [Act.eval, Act.put]) (by simp [Act.eval, Act.put]) G k (List.replicate k (Value.int .i64 v) ++ List.replicate (n - k) (Value.int .i64 0)) 3 hrowk.out (List.replicate m (Value.int .i64 v)) Hmin.out (fun _ => ⟨rfl, _, rfl, src_rep Hm.out hrowk.out⟩) Hfit.out H1.out G w1 hbelk.drew (Nat.le_refl _) ?_; intro w4 hrow4 hbel4)
      have hk4 := hrow5 _ hrow4
      have hw : IntKind.i64.wrap ((k : Int) + m) = ((k + m : Nat) : Int) := by rw [IntWalk.i64_in _ ⟨by omega, by omega⟩]; omega
      simp [go_sem]
      rw [hw]
      go_wp2_with fail
      go_roundw
      case rel => exact ⟨k + m, by omega, hmk, by go_num, hk4, hbel4⟩
      case measure => (simp [intOf]; omega)
    · obtain rfl : k = n := by omega
      go_wp2_with fail
      go_ret
      refine ⟨G, rfl, ?_, hG.out ▸ hbelk⟩
      have h := hrowk.out
      rw [Nat.sub_self, List.replicate_zero, List.append_nil] at h
      exact ⟨by simp, .inr ⟨G, k, _, rfl, Nat.le_of_eq hG.out, h, Nat.le_refl _, Hml.out, by simp, by simp⟩⟩
end Go.Proofs.Ytfdlhlabkcmikaa
