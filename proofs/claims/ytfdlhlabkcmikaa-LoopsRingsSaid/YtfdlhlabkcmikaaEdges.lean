/- Contracts of package flow; programs of fewer than a million instructions. -/
import Derived.Test.YtfdlhlabkcmikaaCheck0
import Derived.Test.YtfdlhlabkcmikaaIter
namespace Go.Proofs.Ytfdlhlabkcmikaa
open Go.RowKit Go.Shelf
attribute [local go_sem] Oper.semAt_some

theorem right_any (a : Option Addr) (cap : Nat) (p : List Ins) (w : World) (hp : Prg w a cap p) (hok : ∀ x ∈ p, x.Ok) (hlen : p.length < 1000000) :
    Calls Try.prog 31 #[.slice a p.length cap] w fun e w' => e = .returned (.int .i64 (ferr (checkP p).2)) ∧ Below w.heap.size w w' := by
  have hc := check_any a cap p w hp hok hlen
  generalize checkP p = cp at hc ⊢
  obtain ⟨c1, c2⟩ := cp
  simp only at hc ⊢
  by_cases h : c2 = 0
  · have h1 : (c2 != 0) = false := by simpa using h
    have H := Lib.hid h
    clear h
    go_enter Try.func31, Try.ntmps31
    go_wp2_with (go_at_call 49; refine hc.mono ?_; rintro e w1 ⟨rfl, hb1⟩)
    go_ret
    exact ⟨ret_int (by rw [ferr, if_pos H.out]), hb1⟩
  · have h1 : (c2 != 0) = true := by simpa using h
    have H := Lib.hid h
    clear h
    go_enter Try.func31, Try.ntmps31
    go_wp2_with (go_at_call 49; refine hc.mono ?_; rintro e w1 ⟨rfl, hb1⟩)
    go_ret
    exact ⟨ret_int (by rw [ferr, if_neg H.out]), hb1⟩

set_option maxHeartbeats 1000000 in
/-- The iterator of flow.edges. -/
theorem edges_iter (B1 B2 : Nat) (a : Option Addr) (cap : Nat) (p : List Ins) (i : Nat) (x : Ins) (w : World) (h1 : w.cell? ⟨B1, 0, none⟩ = some (.slice a p.length cap)) (h2 : w.cell? ⟨B2, 0, none⟩ = some (.int .i64 i))
    (hp : Prg w a cap p) (hx : p[i]? = some x) (hxo : x.Ok) (hlen : p.length < 1000000) :
    Iter Try.prog 54 #[.pointer (some ⟨B1, 0, none⟩), .pointer (some ⟨B2, 0, none⟩)] intR (fun _ _ => True) (fun b => b = B2) (fun _ => False) w (edgesX x i) := by
  intro l J Jx W hW hJ hJx hY h0
  have g1 := hW.cell h1 trivial
  have g2 := hW.cell h2 trivial
  have hlt := (List.getElem?_eq_some_iff.1 hx).1
  obtain ⟨b, off, rfl, hbl, q0, q1, q2, q3, q4⟩ := Prg.at (hp.keeps hW (fun _ _ _ _ => trivial)) hx
  have hgo := fun w => goes_any x w hxo
  have htg := fun w => target_any x w hxo
  unfold Ins.val at hgo htg
  refine callsIn_of_wp Try.func54 rfl trivial ?_
  simp only [Try.ntmps54, List.size_toArray, List.length_cons, List.length_nil, Nat.reduceAdd, Nat.reduceSub, Array.replicate_succ, Array.replicate_zero, List.push_toArray, List.append_toArray, List.nil_append, List.cons_append]
  have k1 := World.block_lt_of_cell? _ _ g1
  have k2 := World.block_lt_of_cell? _ _ g2
  simp at k1 k2
  cases t1 : targetB x
  · cases hB : goesB x
    · have hX : edgesX x i = [] := by simp [edgesX, t1, hB]
      have HX := Lib.hid hX
      clear hX
      gi_wp2_with fail
      refine (callsIn_wide.2 (htg _)).mono ?_
      rintro e w1 ⟨rfl, hb1⟩
      obtain ⟨hc1, hf1⟩ := bcell hb1
      have hs1 := hb1.size
      have hl1 := Nat.lt_of_lt_of_le hbl hs1
      have kl2 := Nat.lt_of_lt_of_le k2 hs1
      have kl1 := Nat.lt_of_lt_of_le k1 hs1
      gi_wp2_with fail
      refine (callsIn_wide.2 (hgo _)).mono ?_
      rintro e w2 ⟨rfl, hb2⟩
      have j2 := (hb2.cell (p := ⟨B2, 0, none⟩) kl2).trans ((hc1 _ 0 k2).trans g2)
      have J2 := hJ _ _ _ _ h0 ((Keeps.all _ hb1).trans (Keeps.all _ hb2))
      clear hc1 hf1
      gi_wp2_with fail
      first | (refine bodyPost_end (results_none rfl _ _ _) rfl ?_) | (refine bodyPost_ret (results_none rfl _ _ _) rfl ?_)
      first | exact ⟨⟨_, rfl⟩, .inl ⟨_, (by rw [HX.out]; exact J2), trivial⟩⟩ | exact ⟨⟨_, rfl⟩, .inl ⟨_, (by rw [HX.out]; exact J2)⟩⟩
    · have hX : edgesX x i = [(i : Int) + 1] := by simp [edgesX, t1, hB]
      have HX := Lib.hid hX
      clear hX
      gi_wp2_with fail
      refine (callsIn_wide.2 (htg _)).mono ?_
      rintro e w1 ⟨rfl, hb1⟩
      obtain ⟨hc1, hf1⟩ := bcell hb1
      have hs1 := hb1.size
      have hl1 := Nat.lt_of_lt_of_le hbl hs1
      have kl2 := Nat.lt_of_lt_of_le k2 hs1
      have kl1 := Nat.lt_of_lt_of_le k1 hs1
      gi_wp2_with fail
      refine (callsIn_wide.2 (hgo _)).mono ?_
      rintro e w2 ⟨rfl, hb2⟩
      have j2 := (hb2.cell (p := ⟨B2, 0, none⟩) kl2).trans ((hc1 _ 0 k2).trans g2)
      have J2 := hJ _ _ _ _ h0 ((Keeps.all _ hb1).trans (Keeps.all _ hb2))
      clear hc1 hf1
      obtain ⟨fn0, tmps0, assign0, body0, hy0, hR0⟩ := hY [] ((i : Int) + 1) [] _ #[.int .i64 ((i : Int) + 1)] w2 (by rw [HX.out]; rfl) J2 rfl
      gi_wp2_with fail
      refine hR0.mono ?_
      rintro e V0 (⟨rfl, K0, hk0⟩ | ⟨rfl, K0, hk0⟩)
      rotate_left
      · gi_wp2_with fail
        first | (refine bodyPost_end (results_none rfl _ _ _) rfl ?_) | (refine bodyPost_ret (results_none rfl _ _ _) rfl ?_)
        exact ⟨⟨_, rfl⟩, .inr ⟨_, _, (by rw [HX.out]; exact ⟨[], rfl⟩), K0, trivial⟩⟩
      try have c0 := hk0.cell j2 (.inl rfl)
      gi_wp2_with fail
      first | (refine bodyPost_end (results_none rfl _ _ _) rfl ?_) | (refine bodyPost_ret (results_none rfl _ _ _) rfl ?_)
      first | exact ⟨⟨_, rfl⟩, .inl ⟨_, (by rw [HX.out]; exact K0), trivial⟩⟩ | exact ⟨⟨_, rfl⟩, .inl ⟨_, (by rw [HX.out]; exact K0)⟩⟩
  · have ht0 : 0 ≤ target x := target_nonneg t1
    have ht9 : target x < 256 := target_lt t1
    by_cases hA : target x ≤ i
    · cases hB : goesB x
      · have hX : edgesX x i = [target x] := by simp [edgesX, t1, hA, hB]
        have HX := Lib.hid hX
        clear hX
        gi_wp2_with fail
        refine (callsIn_wide.2 (htg _)).mono ?_
        rintro e w1 ⟨rfl, hb1⟩
        obtain ⟨hc1, hf1⟩ := bcell hb1
        have hs1 := hb1.size
        have hl1 := Nat.lt_of_lt_of_le hbl hs1
        have kl2 := Nat.lt_of_lt_of_le k2 hs1
        have kl1 := Nat.lt_of_lt_of_le k1 hs1
        gi_wp2_with fail
        refine (callsIn_wide.2 (hgo _)).mono ?_
        rintro e w2 ⟨rfl, hb2⟩
        have j2 := (hb2.cell (p := ⟨B2, 0, none⟩) kl2).trans ((hc1 _ 0 k2).trans g2)
        have J2 := hJ _ _ _ _ h0 ((Keeps.all _ hb1).trans (Keeps.all _ hb2))
        clear hc1 hf1
        obtain ⟨fn0, tmps0, assign0, body0, hy0, hR0⟩ := hY [] (target x) [] _ #[.int .i64 (target x)] w2 (by rw [HX.out]; rfl) J2 rfl
        gi_wp2_with fail
        refine hR0.mono ?_
        rintro e V0 (⟨rfl, K0, hk0⟩ | ⟨rfl, K0, hk0⟩)
        rotate_left
        · gi_wp2_with fail
          first | (refine bodyPost_end (results_none rfl _ _ _) rfl ?_) | (refine bodyPost_ret (results_none rfl _ _ _) rfl ?_)
          exact ⟨⟨_, rfl⟩, .inr ⟨_, _, (by rw [HX.out]; exact ⟨[], rfl⟩), K0, trivial⟩⟩
        try have c0 := hk0.cell j2 (.inl rfl)
        gi_wp2_with fail
        first | (refine bodyPost_end (results_none rfl _ _ _) rfl ?_) | (refine bodyPost_ret (results_none rfl _ _ _) rfl ?_)
        first | exact ⟨⟨_, rfl⟩, .inl ⟨_, (by rw [HX.out]; exact K0), trivial⟩⟩ | exact ⟨⟨_, rfl⟩, .inl ⟨_, (by rw [HX.out]; exact K0)⟩⟩
      · have hX : edgesX x i = [target x, (i : Int) + 1] := by simp [edgesX, t1, hA, hB]; try omega
        have HX := Lib.hid hX
        clear hX
        gi_wp2_with fail
        refine (callsIn_wide.2 (htg _)).mono ?_
        rintro e w1 ⟨rfl, hb1⟩
        obtain ⟨hc1, hf1⟩ := bcell hb1
        have hs1 := hb1.size
        have hl1 := Nat.lt_of_lt_of_le hbl hs1
        have kl2 := Nat.lt_of_lt_of_le k2 hs1
        have kl1 := Nat.lt_of_lt_of_le k1 hs1
        gi_wp2_with fail
        refine (callsIn_wide.2 (hgo _)).mono ?_
        rintro e w2 ⟨rfl, hb2⟩
        have j2 := (hb2.cell (p := ⟨B2, 0, none⟩) kl2).trans ((hc1 _ 0 k2).trans g2)
        have J2 := hJ _ _ _ _ h0 ((Keeps.all _ hb1).trans (Keeps.all _ hb2))
        clear hc1 hf1
        obtain ⟨fn0, tmps0, assign0, body0, hy0, hR0⟩ := hY [] (target x) [(i : Int) + 1] _ #[.int .i64 (target x)] w2 (by rw [HX.out]; rfl) J2 rfl
        gi_wp2_with fail
        refine hR0.mono ?_
        rintro e V0 (⟨rfl, K0, hk0⟩ | ⟨rfl, K0, hk0⟩)
        rotate_left
        · gi_wp2_with fail
          first | (refine bodyPost_end (results_none rfl _ _ _) rfl ?_) | (refine bodyPost_ret (results_none rfl _ _ _) rfl ?_)
          exact ⟨⟨_, rfl⟩, .inr ⟨_, _, (by rw [HX.out]; exact ⟨[(i : Int) + 1], rfl⟩), K0, trivial⟩⟩
        try have c0 := hk0.cell j2 (.inl rfl)
        obtain ⟨fn1, tmps1, assign1, body1, hy1, hR1⟩ := hY [target x] ((i : Int) + 1) [] _ #[.int .i64 ((i : Int) + 1)] V0 (by rw [HX.out]; rfl) K0 rfl
        gi_wp2_with fail
        refine hR1.mono ?_
        rintro e V1 (⟨rfl, K1, hk1⟩ | ⟨rfl, K1, hk1⟩)
        rotate_left
        · gi_wp2_with fail
          first | (refine bodyPost_end (results_none rfl _ _ _) rfl ?_) | (refine bodyPost_ret (results_none rfl _ _ _) rfl ?_)
          exact ⟨⟨_, rfl⟩, .inr ⟨_, _, (by rw [HX.out]; exact ⟨[], rfl⟩), K1, trivial⟩⟩
        try have c1 := hk1.cell c0 (.inl rfl)
        gi_wp2_with fail
        first | (refine bodyPost_end (results_none rfl _ _ _) rfl ?_) | (refine bodyPost_ret (results_none rfl _ _ _) rfl ?_)
        first | exact ⟨⟨_, rfl⟩, .inl ⟨_, (by rw [HX.out]; exact K1), trivial⟩⟩ | exact ⟨⟨_, rfl⟩, .inl ⟨_, (by rw [HX.out]; exact K1)⟩⟩
    · cases hB : goesB x
      · by_cases hC : (i : Int) + 1 < target x
        · have hX : edgesX x i = [target x] := by simp [edgesX, t1, hA, hB]; try omega
          have HX := Lib.hid hX
          clear hX
          gi_wp2_with fail
          refine (callsIn_wide.2 (htg _)).mono ?_
          rintro e w1 ⟨rfl, hb1⟩
          obtain ⟨hc1, hf1⟩ := bcell hb1
          have hs1 := hb1.size
          have hl1 := Nat.lt_of_lt_of_le hbl hs1
          have kl2 := Nat.lt_of_lt_of_le k2 hs1
          have kl1 := Nat.lt_of_lt_of_le k1 hs1
          gi_wp2_with fail
          refine (callsIn_wide.2 (hgo _)).mono ?_
          rintro e w2 ⟨rfl, hb2⟩
          have j2 := (hb2.cell (p := ⟨B2, 0, none⟩) kl2).trans ((hc1 _ 0 k2).trans g2)
          have J2 := hJ _ _ _ _ h0 ((Keeps.all _ hb1).trans (Keeps.all _ hb2))
          clear hc1 hf1
          obtain ⟨fn0, tmps0, assign0, body0, hy0, hR0⟩ := hY [] (target x) [] _ #[.int .i64 (target x)] w2 (by rw [HX.out]; rfl) J2 rfl
          gi_wp2_with fail
          refine hR0.mono ?_
          rintro e V0 (⟨rfl, K0, hk0⟩ | ⟨rfl, K0, hk0⟩)
          rotate_left
          · gi_wp2_with fail
            first | (refine bodyPost_end (results_none rfl _ _ _) rfl ?_) | (refine bodyPost_ret (results_none rfl _ _ _) rfl ?_)
            exact ⟨⟨_, rfl⟩, .inr ⟨_, _, (by rw [HX.out]; exact ⟨[], rfl⟩), K0, trivial⟩⟩
          try have c0 := hk0.cell j2 (.inl rfl)
          gi_wp2_with fail
          first | (refine bodyPost_end (results_none rfl _ _ _) rfl ?_) | (refine bodyPost_ret (results_none rfl _ _ _) rfl ?_)
          first | exact ⟨⟨_, rfl⟩, .inl ⟨_, (by rw [HX.out]; exact K0), trivial⟩⟩ | exact ⟨⟨_, rfl⟩, .inl ⟨_, (by rw [HX.out]; exact K0)⟩⟩
        · have hX : edgesX x i = [target x] := by simp [edgesX, t1, hA, hB]; try omega
          have HX := Lib.hid hX
          clear hX
          gi_wp2_with fail
          refine (callsIn_wide.2 (htg _)).mono ?_
          rintro e w1 ⟨rfl, hb1⟩
          obtain ⟨hc1, hf1⟩ := bcell hb1
          have hs1 := hb1.size
          have hl1 := Nat.lt_of_lt_of_le hbl hs1
          have kl2 := Nat.lt_of_lt_of_le k2 hs1
          have kl1 := Nat.lt_of_lt_of_le k1 hs1
          gi_wp2_with fail
          refine (callsIn_wide.2 (hgo _)).mono ?_
          rintro e w2 ⟨rfl, hb2⟩
          have j2 := (hb2.cell (p := ⟨B2, 0, none⟩) kl2).trans ((hc1 _ 0 k2).trans g2)
          have J2 := hJ _ _ _ _ h0 ((Keeps.all _ hb1).trans (Keeps.all _ hb2))
          clear hc1 hf1
          obtain ⟨fn0, tmps0, assign0, body0, hy0, hR0⟩ := hY [] (target x) [] _ #[.int .i64 (target x)] w2 (by rw [HX.out]; rfl) J2 rfl
          gi_wp2_with fail
          refine hR0.mono ?_
          rintro e V0 (⟨rfl, K0, hk0⟩ | ⟨rfl, K0, hk0⟩)
          rotate_left
          · gi_wp2_with fail
            first | (refine bodyPost_end (results_none rfl _ _ _) rfl ?_) | (refine bodyPost_ret (results_none rfl _ _ _) rfl ?_)
            exact ⟨⟨_, rfl⟩, .inr ⟨_, _, (by rw [HX.out]; exact ⟨[], rfl⟩), K0, trivial⟩⟩
          try have c0 := hk0.cell j2 (.inl rfl)
          gi_wp2_with fail
          first | (refine bodyPost_end (results_none rfl _ _ _) rfl ?_) | (refine bodyPost_ret (results_none rfl _ _ _) rfl ?_)
          first | exact ⟨⟨_, rfl⟩, .inl ⟨_, (by rw [HX.out]; exact K0), trivial⟩⟩ | exact ⟨⟨_, rfl⟩, .inl ⟨_, (by rw [HX.out]; exact K0)⟩⟩
      · by_cases hC : (i : Int) + 1 < target x
        · have hX : edgesX x i = [(i : Int) + 1, target x] := by simp [edgesX, t1, hA, hB, hC]; try omega
          have HX := Lib.hid hX
          clear hX
          gi_wp2_with fail
          refine (callsIn_wide.2 (htg _)).mono ?_
          rintro e w1 ⟨rfl, hb1⟩
          obtain ⟨hc1, hf1⟩ := bcell hb1
          have hs1 := hb1.size
          have hl1 := Nat.lt_of_lt_of_le hbl hs1
          have kl2 := Nat.lt_of_lt_of_le k2 hs1
          have kl1 := Nat.lt_of_lt_of_le k1 hs1
          gi_wp2_with fail
          refine (callsIn_wide.2 (hgo _)).mono ?_
          rintro e w2 ⟨rfl, hb2⟩
          have j2 := (hb2.cell (p := ⟨B2, 0, none⟩) kl2).trans ((hc1 _ 0 k2).trans g2)
          have J2 := hJ _ _ _ _ h0 ((Keeps.all _ hb1).trans (Keeps.all _ hb2))
          clear hc1 hf1
          obtain ⟨fn0, tmps0, assign0, body0, hy0, hR0⟩ := hY [] ((i : Int) + 1) [target x] _ #[.int .i64 ((i : Int) + 1)] w2 (by rw [HX.out]; rfl) J2 rfl
          gi_wp2_with fail
          refine hR0.mono ?_
          rintro e V0 (⟨rfl, K0, hk0⟩ | ⟨rfl, K0, hk0⟩)
          rotate_left
          · gi_wp2_with fail
            first | (refine bodyPost_end (results_none rfl _ _ _) rfl ?_) | (refine bodyPost_ret (results_none rfl _ _ _) rfl ?_)
            exact ⟨⟨_, rfl⟩, .inr ⟨_, _, (by rw [HX.out]; exact ⟨[target x], rfl⟩), K0, trivial⟩⟩
          try have c0 := hk0.cell j2 (.inl rfl)
          obtain ⟨fn1, tmps1, assign1, body1, hy1, hR1⟩ := hY [(i : Int) + 1] (target x) [] _ #[.int .i64 (target x)] V0 (by rw [HX.out]; rfl) K0 rfl
          gi_wp2_with fail
          refine hR1.mono ?_
          rintro e V1 (⟨rfl, K1, hk1⟩ | ⟨rfl, K1, hk1⟩)
          rotate_left
          · gi_wp2_with fail
            first | (refine bodyPost_end (results_none rfl _ _ _) rfl ?_) | (refine bodyPost_ret (results_none rfl _ _ _) rfl ?_)
            exact ⟨⟨_, rfl⟩, .inr ⟨_, _, (by rw [HX.out]; exact ⟨[], rfl⟩), K1, trivial⟩⟩
          try have c1 := hk1.cell c0 (.inl rfl)
          gi_wp2_with fail
          first | (refine bodyPost_end (results_none rfl _ _ _) rfl ?_) | (refine bodyPost_ret (results_none rfl _ _ _) rfl ?_)
          first | exact ⟨⟨_, rfl⟩, .inl ⟨_, (by rw [HX.out]; exact K1), trivial⟩⟩ | exact ⟨⟨_, rfl⟩, .inl ⟨_, (by rw [HX.out]; exact K1)⟩⟩
        · have hX : edgesX x i = [(i : Int) + 1] := by simp [edgesX, t1, hA, hB, hC]
          have HX := Lib.hid hX
          clear hX
          gi_wp2_with fail
          refine (callsIn_wide.2 (htg _)).mono ?_
          rintro e w1 ⟨rfl, hb1⟩
          obtain ⟨hc1, hf1⟩ := bcell hb1
          have hs1 := hb1.size
          have hl1 := Nat.lt_of_lt_of_le hbl hs1
          have kl2 := Nat.lt_of_lt_of_le k2 hs1
          have kl1 := Nat.lt_of_lt_of_le k1 hs1
          gi_wp2_with fail
          refine (callsIn_wide.2 (hgo _)).mono ?_
          rintro e w2 ⟨rfl, hb2⟩
          have j2 := (hb2.cell (p := ⟨B2, 0, none⟩) kl2).trans ((hc1 _ 0 k2).trans g2)
          have J2 := hJ _ _ _ _ h0 ((Keeps.all _ hb1).trans (Keeps.all _ hb2))
          clear hc1 hf1
          obtain ⟨fn0, tmps0, assign0, body0, hy0, hR0⟩ := hY [] ((i : Int) + 1) [] _ #[.int .i64 ((i : Int) + 1)] w2 (by rw [HX.out]; rfl) J2 rfl
          gi_wp2_with fail
          refine hR0.mono ?_
          rintro e V0 (⟨rfl, K0, hk0⟩ | ⟨rfl, K0, hk0⟩)
          rotate_left
          · gi_wp2_with fail
            first | (refine bodyPost_end (results_none rfl _ _ _) rfl ?_) | (refine bodyPost_ret (results_none rfl _ _ _) rfl ?_)
            exact ⟨⟨_, rfl⟩, .inr ⟨_, _, (by rw [HX.out]; exact ⟨[], rfl⟩), K0, trivial⟩⟩
          try have c0 := hk0.cell j2 (.inl rfl)
          gi_wp2_with fail
          first | (refine bodyPost_end (results_none rfl _ _ _) rfl ?_) | (refine bodyPost_ret (results_none rfl _ _ _) rfl ?_)
          first | exact ⟨⟨_, rfl⟩, .inl ⟨_, (by rw [HX.out]; exact K0), trivial⟩⟩ | exact ⟨⟨_, rfl⟩, .inl ⟨_, (by rw [HX.out]; exact K0)⟩⟩
end Go.Proofs.Ytfdlhlabkcmikaa
