/- fermatalaw20.awake returns true. -/
import Derived.Test.YtfdlhlabkcmikaaAwake0
namespace Go.Proofs.Ytfdlhlabkcmikaa
open Go.RowKit Go.Shelf

theorem belowN {B : Nat} {a w : World} (h : Below B a w) (n : Nat) : Below B a (w.drewN n) := h.trans ⟨rfl, rfl, rfl, Nat.le_refl _, fun _ _ => rfl⟩

theorem prg_new (w : World) (p : List Ins) (cs : Array Value) (t : TypeId) (hcs : cs.toList = p.flatMap Ins.cells) (hl : p.length ≤ 1000) : Prg (w.alloc (.cells cs t)) (some ⟨w.heap.size, 0, none⟩) p.length p := by
  refine ⟨flat_len Ins.cells 5 (fun x => x.cells_len) p, Nat.le_refl _, by unfold maxLen; omega, .inr ⟨w.heap.size, 0, rfl, by simp, fun j u hu => ?_⟩⟩
  rw [Nat.zero_add]
  have := news_new (w := w) (cs := cs) (e := t) j u (by rw [hcs]; exact hu)
  rwa [Addr.add_lit, Nat.zero_add] at this

theorem Prg.keeps' {w w' : World} {a : Option Addr} {cap : Nat} {p : List Ins} (h : Prg w a cap p) (hk : Keeps (fun b => b < w.heap.size) w w') : Prg w' a cap p := SlA.keeps h hk (fun _ _ _ hb => hb)

theorem equal_int {w : World} {va vb : Value} {n m : Nat} {xs ys : List Int} (ha : SlV w 1 va n (intsC xs)) (hb : SlV w 1 vb m (intsC ys)) (hn : n < 1000000) (hm : m < 1000000) (h0 : n ≠ 0) (h1 : m ≠ 0) :
    Calls Try.prog 24 #[va, vb] w fun e w' => e = .returned (.bool (xs == ys)) ∧ ∃ q, w' = w.drewN q := by
  have hl := slV_len ha
  have hl2 := slV_len hb
  obtain ⟨A, c, rfl, hs⟩ := ha
  obtain ⟨B, d, rfl, hs2⟩ := hb
  obtain ⟨b, off, rfl, -, hc⟩ := slV_cells ⟨A, c, rfl, hs⟩ h0
  obtain ⟨b2, off2, rfl, -, hc2⟩ := slV_cells ⟨B, d, rfl, hs2⟩ h1
  have := Try.slices_Equal_int b off n c b2 off2 m d xs ys w (by omega) (by omega) (by omega) (by omega) hc hc2
  rwa [List.take_of_length_le (by omega), List.take_of_length_le (by omega)] at this

set_option maxRecDepth 8000 in
set_option maxHeartbeats 4000000 in
theorem awake_true (w : World) : Calls Try.prog 5 #[] w fun e w' => e = .returned (.bool true) ∧ Below w.heap.size w w' := by
  go_enter Try.func5, Try.ntmps5
  go_wp2_with fail
  have hp := prg_new w p1 #[.int .u8 10, .int .u8 0, .int .u8 0, .int .u8 0, .int .i64 3, .int .u8 3, .int .u8 1, .int .u8 0, .int .u8 0, .int .i64 1, .int .u8 9, .int .u8 0, .int .u8 0, .int .u8 0, .int .i64 0, .int .u8 1, .int .u8 0, .int .u8 0, .int .u8 0, .int .i64 0] 45 rfl (by decide)
  obtain ⟨W1, hW1⟩ : ∃ W1, w.alloc (.cells #[.int .u8 10, .int .u8 0, .int .u8 0, .int .u8 0, .int .i64 3, .int .u8 3, .int .u8 1, .int .u8 0, .int .u8 0, .int .i64 1, .int .u8 9, .int .u8 0, .int .u8 0, .int .u8 0, .int .i64 0, .int .u8 1, .int .u8 0, .int .u8 0, .int .u8 0, .int .i64 0] 45) = W1 := ⟨_, rfl⟩
  have hb1 : Below w.heap.size w W1 := hW1 ▸ (Below.refl _ _).alloc (Nat.le_refl _) _
  rw [hW1] at hp ⊢
  have Hp := Lib.hid hp
  clear hW1 hp
  have hc : Calls Try.prog 8 #[.slice (some ⟨w.heap.size, 0, none⟩) 4 4] W1 _ := Rings_any (some ⟨w.heap.size, 0, none⟩) 4 p1 W1 Hp.out p1_ok p1_c
  refine hc.mono ?_
  clear hc
  rintro e w2 ⟨v, rvs, out, rfl, h1, h2, h3, h4, hb2⟩
  rw [p1_r] at h3
  obtain rfl : out = [[0, 1, 2]] := List.perm_singleton.1 h3
  obtain ⟨g, cap, rfl, -, -⟩ := h1.form (by decide)
  have hrl := h2.len
  obtain ⟨r, rfl⟩ : ∃ r, rvs = [r] := List.length_eq_one_iff.1 hrl
  have cr : w2.cell? ⟨g, 0, none⟩ = some r := by
    obtain ⟨a', c', e', hs⟩ := slV_of_own h1
    cases e'
    obtain ⟨b', o', e2, -, hc2⟩ := hs.one (i := 0) (u := r) rfl
    cases e2
    simpa using hc2
  have hrow := slV_of_own (h2.own 0 r [0, 1, 2] rfl rfl)
  have gl := World.block_lt_of_cell? _ _ cr
  have Hp2 := Lib.hid (Hp.out.keeps' (Keeps.of_below hb2))
  have Hcr := Lib.hid cr
  have Hrow := Lib.hid hrow
  clear h1 h2 h3 h4 hrl cr hrow
  go_wp2_with fail
  have hc : Calls Try.prog 21 #[.slice (some ⟨w.heap.size, 0, none⟩) 4 4] w2 _ := Shortest_any (some ⟨w.heap.size, 0, none⟩) 4 p1 w2 Hp2.out p1_ok p1_c
  rw [p1_s, show shortE p1 = 0 by unfold shortE; rw [p1_s]; rfl] at hc
  refine hc.mono ?_
  clear hc
  rintro e w3 ⟨rfl, hb3⟩
  have Hp3 := Lib.hid (Hp2.out.keeps' (Keeps.of_below hb3))
  go_wp2_with fail
  have hc : Calls Try.prog 22 #[.slice (some ⟨w.heap.size, 0, none⟩) 4 4] w3 _ := Longest_no (some ⟨w.heap.size, 0, none⟩) 4 p1 w3 Hp3.out p1_ok p1_c (by rw [p1_r]; simp)
  refine hc.mono ?_
  clear hc
  rintro e w4 ⟨rfl, hb4⟩
  have Hp4 := Lib.hid (Hp3.out.keeps' (Keeps.of_below hb4))
  go_wp2_with fail
  have hc : Calls Try.prog 23 #[.slice (some ⟨w.heap.size, 0, none⟩) 4 4, .int .i64 100] w4 _ := Enough_no (some ⟨w.heap.size, 0, none⟩) 4 p1 100 w4 Hp4.out p1_ok p1_c (by rw [p1_r]; simp)
  refine hc.mono ?_
  clear hc
  rintro e w5 ⟨rfl, hb5⟩
  have s1 := hb1.size
  have s2 := hb2.size
  have s3 := hb3.size
  have s4 := hb4.size
  have s5 := hb5.size
  have kk : Keeps (fun b => b < w2.heap.size) w2 w5 := ((Keeps.of_below hb3).trans ((Keeps.of_below hb4).mono fun b _ h => by omega)).trans ((Keeps.of_below hb5).mono fun b _ h => by omega)
  have hbA : Below w.heap.size w w5 := hb1.trans ((hb2.mono s1).trans ((hb3.mono (by omega)).trans ((hb4.mono (by omega)).trans (hb5.mono (by omega)))))
  have cg := kk.cell Hcr.out gl
  have hrow5 := SlV.keeps Hrow.out kk (fun b off m cap e hb => hb)
  have hq := equal_int (n := 3) (m := 3) (xs := [0, 1, 2]) (ys := [0, 1, 2]) (hrow5.alloc (.cells #[.int .i64 0, .int .i64 1, .int .i64 2] 3))
    (show SlV (w5.alloc (.cells #[.int .i64 0, .int .i64 1, .int .i64 2] 3)) 1 (.slice (some ⟨w5.heap.size, 0, none⟩) 3 3) 3 (intsC [0, 1, 2]) from ⟨_, _, rfl, rfl, Nat.le_refl _, by simp [maxLen], .inr ⟨w5.heap.size, 0, rfl, by simp, fun j u hu => by
      rw [Nat.zero_add]
      have := news_new (w := w5) (cs := #[.int .i64 0, .int .i64 1, .int .i64 2]) (e := 3) j u hu
      rwa [Addr.add_lit, Nat.zero_add] at this⟩⟩) (by decide) (by decide) (by decide) (by decide)
  rw [show (([0, 1, 2] : List Int) == [0, 1, 2]) = true from rfl] at hq
  have Hq := Lib.hid hq
  have HbA := Lib.hid hbA
  clear hq hrow5 kk hbA hb1 hb2 hb3 hb4 hb5 Hp Hp2 Hp3 Hp4 Hrow Hcr
  go_wp2_with fail
  refine Hq.out.mono ?_
  clear Hq
  rintro e w6 ⟨rfl, q6, rfl⟩
  go_wp2_with fail
  obtain ⟨W6, hW6⟩ : ∃ W6, (w5.alloc (.cells #[.int .i64 0, .int .i64 1, .int .i64 2] 3)).drewN q6 = W6 := ⟨_, rfl⟩
  have hs6 : w5.heap.size + 1 = W6.heap.size := by rw [← hW6]; simp
  have hb6 : Below w5.heap.size w5 W6 := hW6 ▸ belowN ((Below.refl _ _).alloc (Nat.le_refl _) _) q6
  have hp := prg_new W6 p2 #[.int .u8 10, .int .u8 0, .int .u8 0, .int .u8 0, .int .i64 2, .int .u8 3, .int .u8 1, .int .u8 0, .int .u8 0, .int .i64 1, .int .u8 10, .int .u8 1, .int .u8 0, .int .u8 0, .int .i64 4, .int .u8 3, .int .u8 1, .int .u8 0, .int .u8 0, .int .i64 2, .int .u8 1, .int .u8 0, .int .u8 0, .int .u8 0, .int .i64 0] 45 rfl (by decide)
  rw [hW6, hs6]
  obtain ⟨W7, hW7⟩ : ∃ W7, W6.alloc (.cells #[.int .u8 10, .int .u8 0, .int .u8 0, .int .u8 0, .int .i64 2, .int .u8 3, .int .u8 1, .int .u8 0, .int .u8 0, .int .i64 1, .int .u8 10, .int .u8 1, .int .u8 0, .int .u8 0, .int .i64 4, .int .u8 3, .int .u8 1, .int .u8 0, .int .u8 0, .int .i64 2, .int .u8 1, .int .u8 0, .int .u8 0, .int .u8 0, .int .i64 0] 45) = W7 := ⟨_, rfl⟩
  have hb7 : Below W6.heap.size W6 W7 := hW7 ▸ (Below.refl _ _).alloc (Nat.le_refl _) _
  rw [hW7] at hp ⊢
  have Hp := Lib.hid hp
  obtain ⟨B, hB⟩ : ∃ B, W6.heap.size = B := ⟨_, rfl⟩
  rw [hB] at Hp ⊢
  have HbB := Lib.hid (HbA.out.trans ((hb6.mono (by omega)).trans (hb7.mono (by omega))))
  clear hW6 hs6 hb6 hp hW7 hb7 hB HbA
  have hc : Calls Try.prog 7 #[.slice (some ⟨B, 0, none⟩) 5 5] W7 _ := Order_yes (some ⟨B, 0, none⟩) 5 p2 W7 Hp.out p2_ok p2_c p2_r (by rw [p2_o]; decide)
  refine hc.mono ?_
  clear hc
  rintro e w8 ⟨v, rfl, hv, hb8⟩
  rw [p2_o] at hv
  have hvs := slV_of_own hv
  have hvl : ∀ b, v.ownBlock = some b → b < w8.heap.size := fun b hb => (hv.lt b hb).2
  have Hv := Lib.hid hvs
  have Hp8 := Lib.hid (Hp.out.keeps' (Keeps.of_below hb8))
  clear hv hvs hvl
  go_wp2_with fail
  have hc : Calls Try.prog 22 #[.slice (some ⟨B, 0, none⟩) 5 5] w8 _ := Longest_yes (some ⟨B, 0, none⟩) 5 p2 w8 Hp8.out p2_ok p2_c p2_r
  rw [p2_l] at hc
  refine hc.mono ?_
  clear hc
  rintro e w9 ⟨rfl, hb9⟩
  have Hp9 := Lib.hid (Hp8.out.keeps' (Keeps.of_below hb9))
  go_wp2_with fail
  have hc : Calls Try.prog 21 #[.slice (some ⟨B, 0, none⟩) 5 5] w9 _ := Shortest_any (some ⟨B, 0, none⟩) 5 p2 w9 Hp9.out p2_ok p2_c
  rw [p2_s, show shortE p2 = 0 by unfold shortE; rw [p2_s]; rfl] at hc
  refine hc.mono ?_
  clear hc
  rintro e w10 ⟨rfl, hb10⟩
  have Hp10 := Lib.hid (Hp9.out.keeps' (Keeps.of_below hb10))
  go_wp2_with fail
  have hc : Calls Try.prog 25 #[.slice (some ⟨B, 0, none⟩) 5 5] w10 _ := Count_yes (some ⟨B, 0, none⟩) 5 p2 w10 Hp10.out p2_ok p2_c p2_r
  rw [p2_n] at hc
  refine hc.mono ?_
  clear hc
  rintro e w11 ⟨rfl, hb11⟩
  have Hp11 := Lib.hid (Hp10.out.keeps' (Keeps.of_below hb11))
  go_wp2_with fail
  have hc : Calls Try.prog 23 #[.slice (some ⟨B, 0, none⟩) 5 5, .int .i64 5] w11 _ := Enough_yes (some ⟨B, 0, none⟩) 5 p2 5 w11 Hp11.out p2_ok p2_c p2_r
  rw [p2_l, show decide ((5 : Int) ≤ 5) = true from rfl] at hc
  refine hc.mono ?_
  clear hc
  rintro e w12 ⟨rfl, hb12⟩
  have Hp12 := Lib.hid (Hp11.out.keeps' (Keeps.of_below hb12))
  go_wp2_with fail
  have hc : Calls Try.prog 23 #[.slice (some ⟨B, 0, none⟩) 5 5, .int .i64 4] w12 _ := Enough_yes (some ⟨B, 0, none⟩) 5 p2 4 w12 Hp12.out p2_ok p2_c p2_r
  rw [p2_l, show decide ((5 : Int) ≤ 4) = false from rfl] at hc
  refine hc.mono ?_
  clear hc
  rintro e w13 ⟨rfl, hb13⟩
  have t8 := hb8.size
  have t9 := hb9.size
  have t10 := hb10.size
  have t11 := hb11.size
  have t12 := hb12.size
  have t13 := hb13.size
  have hbC : Below w8.heap.size w8 w13 := hb9.trans ((hb10.mono t9).trans ((hb11.mono (by omega)).trans ((hb12.mono (by omega)).trans (hb13.mono (by omega)))))
  have HbC := Lib.hid hbC
  have Hb8 := Lib.hid hb8
  clear hb8 hb9 hb10 hb11 hb12 hb13 hbC Hp Hp8 Hp9 Hp10 Hp11 Hp12
  go_wp2_with fail
  have hp := prg_new w13 p3 #[.int .u8 9, .int .u8 0, .int .u8 0, .int .u8 0, .int .i64 0, .int .u8 1, .int .u8 0, .int .u8 0, .int .u8 0, .int .i64 0] 45 rfl (by decide)
  obtain ⟨W14, hW14⟩ : ∃ W14, w13.alloc (.cells #[.int .u8 9, .int .u8 0, .int .u8 0, .int .u8 0, .int .i64 0, .int .u8 1, .int .u8 0, .int .u8 0, .int .u8 0, .int .i64 0] 45) = W14 := ⟨_, rfl⟩
  have hb14 : Below w13.heap.size w13 W14 := hW14 ▸ (Below.refl _ _).alloc (Nat.le_refl _) _
  rw [hW14] at hp ⊢
  have hc : Calls Try.prog 21 #[.slice (some ⟨w13.heap.size, 0, none⟩) 2 2] W14 _ := Shortest_any (some ⟨w13.heap.size, 0, none⟩) 2 p3 W14 hp p3_ok p3_c
  rw [p3_s, show shortE p3 = 6 by unfold shortE; rw [p3_s]; rfl] at hc
  clear hW14 hp
  refine hc.mono ?_
  clear hc
  rintro e w15 ⟨rfl, hb15⟩
  have t14 := hb14.size
  have t15 := hb15.size
  have hbD : Below w8.heap.size w8 w15 := HbC.out.trans ((hb14.mono (by omega)).trans (hb15.mono (by omega)))
  have hv5 := SlV.keeps Hv.out (Keeps.of_below hbD) (fun b off m cap e hb => hb)
  have hq := equal_int (n := 5) (m := 5) (xs := [0, 1, 2, 3, 4]) (ys := [0, 1, 2, 3, 4]) (hv5.alloc (.cells #[.int .i64 0, .int .i64 1, .int .i64 2, .int .i64 3, .int .i64 4] 3))
    (show SlV (w15.alloc (.cells #[.int .i64 0, .int .i64 1, .int .i64 2, .int .i64 3, .int .i64 4] 3)) 1 (.slice (some ⟨w15.heap.size, 0, none⟩) 5 5) 5 (intsC [0, 1, 2, 3, 4]) from ⟨_, _, rfl, rfl, Nat.le_refl _, by simp [maxLen], .inr ⟨w15.heap.size, 0, rfl, by simp, fun j u hu => by
      rw [Nat.zero_add]
      have := news_new (w := w15) (cs := #[.int .i64 0, .int .i64 1, .int .i64 2, .int .i64 3, .int .i64 4]) (e := 3) j u hu
      rwa [Addr.add_lit, Nat.zero_add] at this⟩⟩) (by decide) (by decide) (by decide) (by decide)
  rw [show (([0, 1, 2, 3, 4] : List Int) == [0, 1, 2, 3, 4]) = true from rfl] at hq
  have Hq := Lib.hid hq
  have HbD := Lib.hid hbD
  clear hq hv5 hbD hb14 hb15
  go_wp2_with fail
  refine Hq.out.mono ?_
  clear Hq
  rintro e w16 ⟨rfl, q16, rfl⟩
  go_wp2_with fail
  go_ret
  have u1 := HbB.out.size
  refine ⟨rfl, HbB.out.trans ((Hb8.out.mono u1).trans ((HbD.out.mono (by omega)).trans ?_))⟩
  exact belowN ((Below.refl _ _).alloc (by omega) _) q16
end Go.Proofs.Ytfdlhlabkcmikaa
