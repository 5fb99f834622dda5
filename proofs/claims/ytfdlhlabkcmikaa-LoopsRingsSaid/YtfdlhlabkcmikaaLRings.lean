/- fermatalaw20.LoopsRings returns true. -/
import Derived.Test.YtfdlhlabkcmikaaLR1
import Derived.Deep.RegionHeld3
namespace Go.Proofs.Ytfdlhlabkcmikaa
open Go.RowKit Go.Shelf Go.Lib

theorem eg_clW : ∀ args w, (callFunc 17 args).run Try.prog w = .ok (.enter 17 args) w := enters_of Try.func17 (by kernel_rfl) rfl
theorem eg_clL : ∀ args w, (callFunc 19 args).run Try.prog w = .ok (.enter 19 args) w := enters_of Try.func19 (by kernel_rfl) rfl

set_option maxRecDepth 100000 in
set_option maxHeartbeats 4000000 in
theorem loopsRings_true (a : Option Addr) (cap : Nat) (l : List Ins) (w : World) (hp : Prg w a cap l) (hok : ∀ x ∈ l, x.Ok) (hcap : l.length ≤ maxLen) :
    Calls Try.prog 4 #[.slice a l.length cap] w fun e w' => e = .returned (.bool true) ∧ Below w.heap.size w w' := by
  have haw := awake_true w
  have hst := fun w1 (hb : Below w.heap.size w w1) => made_any a cap l w1 (hp.keeps' (Keeps.of_below hb)) hok hcap
  have Hst := Lib.hid hst
  have q1 : Try.prog.underlying 26 = some (.slice 3) := Try.underlying26
  obtain ⟨i, q2, q3, q4, q5⟩ := info_parts (show (Try.prog.info? 3).map (fun i => (i.zero, i.size, i.bytes)) = some (some (.int .i64 0), 1, 8) by kernel_rfl)
  clear hp hok hcap hst
  go_enter Try.func4, Try.ntmps4
  go_wp2_with fail
  refine haw.mono ?_
  rintro e w1 ⟨rfl, hb1⟩
  clear haw
  go_wp2_with fail
  refine (Hst.out w1 hb1).mono ?_
  clear Hst
  rintro e w2 ⟨v2, p0, rfl, hown, hl40, hgood, hb2⟩
  obtain ⟨hok, hright⟩ := made_check hgood hl40
  obtain ⟨p, hpe⟩ : ∃ p, p0 ++ [halt] = p := ⟨_, rfl⟩
  have hpl : p0.length + 1 = p.length := by rw [← hpe]; simp
  rw [hpe] at hok hright hown
  rw [hpl] at hown
  have hl41 : p.length ≤ 41 := by omega
  have h0p : 0 < p.length := by omega
  clear hgood hl40 hpe hpl
  have hbA := hb1.trans (hb2.mono hb1.size)
  obtain ⟨g, c, rfl, -, -⟩ := hown.form h0p
  have hprg : Prg w2 (some ⟨g, 0, none⟩) c p := by
    obtain ⟨a', c', e', hs⟩ := slV_of_own hown
    cases e'
    exact hs
  have hR := right_of hright
  have HR := Lib.hid hR
  have Hok := Lib.hid (And.intro hok hright)
  have HbA := Lib.hid hbA
  have hsA := hbA.size
  clear hown hb1 hb2 hbA hok hright hR
  go_wp2_with fail
  have hprg3 := hprg.keeps' (Keeps.alloc (fun b => b < w2.heap.size) w2 (.cells #[.slice (some ⟨g, 0, none⟩) p.length c] 24))
  have hbox3 := Boxed.new w2 24 (.slice (some ⟨g, 0, none⟩) p.length c)
  obtain ⟨W3, hW3⟩ : ∃ W3, w2.alloc (.cells #[.slice (some ⟨g, 0, none⟩) p.length c] 24) = W3 := ⟨_, rfl⟩
  have hs3 : W3.heap.size = w2.heap.size + 1 := by rw [← hW3]; simp
  have hb3 : Below w2.heap.size w2 W3 := hW3 ▸ (Below.refl _ _).alloc (Nat.le_refl _) _
  rw [hW3] at hprg3 hbox3 ⊢
  obtain ⟨Bp, hBp⟩ : ∃ Bp, w2.heap.size = Bp := ⟨_, rfl⟩
  have HbB := Lib.hid (HbA.out.trans (hb3.mono hsA))
  rw [hBp] at hbox3 ⊢
  clear hprg hW3 hb3 hBp HbA hs3 hsA
  have cb3 := hbox3.cell
  go_wp2_with fail
  refine (Rings_any (some ⟨g, 0, none⟩) c p W3 hprg3 Hok.out.1 Hok.out.2).mono ?_
  rintro e w5 ⟨v5, rvs, out, rfl, h1, h2, h3, h4, hb5⟩
  have hprg5 := hprg3.keeps' (Keeps.of_below hb5)
  have hbox5 := box_keeps hbox3 (Keeps.of_below hb5) hbox3.lt
  have cb5 := hbox5.cell
  have hrv5 : RowsV w5 v5 rvs out := ⟨slV_of_own h1, h2.len, fun k v r hv hr => by
    have := slV_of_own (h2.own k v r hv hr)
    rwa [intsC_flat] at this⟩
  have HbC := Lib.hid (HbB.out.trans (hb5.mono HbB.out.size))
  obtain ⟨C, hC, hCv⟩ := sccs_of HR.out
  have hRL := rl_of hC hCv h3 h4
  have Hpeel := Lib.hid (peel_all HR.out hC hCv h3 hRL)
  have HRL := Lib.hid hRL
  have hol : out.length ≤ 256 := by
    have h7 := (ringsRaw_ok HR.out (nextX_bound HR.out)).on
    have h8 := (ringsRaw_ok HR.out (nextX_bound HR.out)).nz
    have h9 : out.length = (ringsRaw p).length := h3.length_eq
    unfold ringsRaw at h9
    omega
  have Hprg5 := Lib.hid hprg5
  have Hbox5 := Lib.hid hbox5
  have Hrv5 := Lib.hid hrv5
  clear h1 h2 h3 h4 hb5 cb3 hprg3 hbox3 HbB hC hCv hRL hprg5 hbox5 hrv5
  go_wp2_with fail
  refine (reached_any (some ⟨g, 0, none⟩) c p w5 Hprg5.out Hok.out.1 Hok.out.2).mono ?_
  rintro e w6 ⟨rv, rfl, hrv, hrl, hb6⟩
  have hk6 := Keeps.of_below hb6
  obtain ⟨A6, c6, rfl⟩ : ∃ A c, rv = .slice A p.length c := seg_form (seg_of_own hrv)
  have h6 : LR w6 Bp p g c (.slice A6 p.length c6) v5 rvs out := ⟨box_keeps Hbox5.out hk6 Hbox5.out.lt, Hprg5.out.keeps' hk6, slV_of_own hrv, Hrv5.out.keeps hk6⟩
  have HbE := Lib.hid (HbC.out.trans (hb6.mono HbC.out.size))
  have hws6 := HbE.out.size
  have cb6 := h6.boxp.cell
  obtain ⟨Ao, co, rfl⟩ : ∃ A c, v5 = .slice A out.length c := by
    obtain ⟨A, c, e, -⟩ := h6.rows.row
    exact ⟨A, c, e⟩
  have H6 := Lib.hid h6
  have hpl : p.length < 1000000 := by omega
  have hby : i.bytes * p.length ≤ 281474976710656 := by rw [q5]; omega
  have hml : p.length ≤ maxLen := by unfold maxLen; omega
  obtain ⟨G, hG⟩ : ∃ G, Hid (w6.heap.size = G) := ⟨_, rfl⟩
  clear cb5 Hprg5 Hbox5 Hrv5 HbC hk6 hb6 hrv hrl h6
  go_wp2_with (at_make; refine wpList_make_full _ rfl _ _ 26 rfl w6.heap.size 3 i (.int .i64 0) 1 q1 q2 q3 q4 .i64 .i64 _ _ p.length rfl rfl rfl rfl hby hml (Nat.le_refl _) ?_; intro w7 hown7 hgrow7; obtain ⟨hrow, hbel⟩ := made_row rfl hown7 hgrow7 G hG.out)
  have hGe := hG.out
  subst hGe
  have hbl7 := (Array.getElem?_eq_some_iff.1 hrow.out).1
  have h7 : LN w6 (w7.alloc (.cells #[.slice (some ⟨w6.heap.size, 0, none⟩) p.length p.length] 26)) w7.heap.size p.length (marks [] p.length) :=
    ⟨by rw [marks_nil, show intsC (List.replicate p.length 0) = List.replicate p.length (.int .i64 0) from by simp [intsC]]; exact Blk.alloc hrow.out _, Boxed.new w7 _ _, hbl7, (Keeps.of_below hbel).trans (Keeps.alloc _ _ _)⟩
  obtain ⟨Bn, hBn⟩ : ∃ Bn, w7.heap.size = Bn := ⟨_, rfl⟩
  obtain ⟨W7, hW7⟩ : ∃ W7, w7.alloc (.cells #[.slice (some ⟨w6.heap.size, 0, none⟩) p.length p.length] 26) = W7 := ⟨_, rfl⟩
  rw [hBn, hW7] at h7
  rw [hBn, hW7]
  have H7 := Lib.hid h7
  have hN0 : marks [] p.length = marks (out.take 0) p.length := by rw [List.take_zero]
  rw [hN0] at H7
  clear hown7 hgrow7 hrow hbel hG hbl7 h7 hBn hW7 hN0 q1 q2 q3 q4 q5 hby cb6
  go_loopw [9, 57] (fun v t wr => ∃ (k : Nat) (z : Int), k ≤ out.length ∧ t = .int .i64 k ∧ v = .int .i64 z ∧ Hid (∀ r, out[k]? = some r → z < headI r) ∧ Hid (LN w6 wr Bn p.length (marks (out.take k) p.length))) (fun _ t _ => out.length - (intOf t).toNat)
  case atStart => exact ⟨0, -1, Nat.zero_le _, rfl, rfl, Lib.hid (fun r hr => by
    have hr' := List.mem_of_getElem? hr
    have := (HRL.out.bd r hr' _ (head_mem (HRL.out.ne r hr'))).1
    omega), H7⟩
  case round =>
    obtain ⟨k, z, hkl, rfl, rfl, hz, hN⟩ := hrel
    have hk0 := hN.out.keeps
    by_cases hlt : k < out.length
    · obtain ⟨r, hr⟩ : ∃ r, out[k]? = some r := ⟨_, List.getElem?_eq_getElem hlt⟩
      have hrm := List.mem_of_getElem? hr
      obtain ⟨b1, o1, c1, A, cr, e1, hb1, hc1', hrs6⟩ := H6.out.rows.at hr
      cases e1
      have hc1 := hk0.cell hc1' hb1
      have hrs := SlV.keeps hrs6 hk0 (fun _ _ _ _ _ hb => hb)
      have Hrs6 := Lib.hid hrs6
      have hne := HRL.out.ne r hrm
      have hrl : r.length ≤ p.length := nodup_len p.length r (HRL.out.each r hrm) (fun v hv => ⟨(HRL.out.bd r hrm v hv).1, (HRL.out.bd r hrm v hv).2.1⟩)
      have hr0 : 0 < r.length := List.length_pos_iff.2 hne
      have hhd : r[0]? = some (headI r) := by cases r with | nil => exact absurd rfl hne | cons x r => rfl
      have hzr := hz.out r hr
      have hle : (headI r ≤ z) = False := eq_false (by omega)
      have hle' : decide (headI r ≤ z) = false := by simpa using hzr
      obtain ⟨b2, o2, c2, e2, hb2, hc2⟩ := slV_get hrs (intsC_get hhd)
      cases e2
      rw [Nat.add_zero] at hc2
      have hso := sorted_any hrs (by omega) (HRL.out.sorted r hrm)
      have hn0 : ((r.length : Int) == 0) = false := by simp; exact hne
      have hp0 : (0 : Int) < r.length := by omega
      have Hrs := Lib.hid hrs
      have Hso := Lib.hid hso
      have Hr := Lib.hid hr
      have Hk0 := Lib.hid hk0
      clear hrs hso hr hk0 hrs6 hc1' hne hhd hrm
      go_wp2_with fail
      refine Hso.out.mono ?_
      rintro e w8 ⟨rfl, q, rfl⟩
      have hN8 := hN.out.keep (Keeps.drewN (fun b => b < wr.heap.size) wr q)
      rw [← marks_empty, show ([] : List Int) = r.take 0 from rfl] at hN8
      have HN8 := Lib.hid hN8
      have hc2' : (wr.drewN q).cell? ⟨b2, o2, none⟩ = some (.int .i64 (headI r)) := hc2
      obtain ⟨X, hX⟩ : ∃ X, wr.drewN q = X := ⟨_, rfl⟩
      rw [hX] at HN8 hc2' ⊢
      clear hN8 hX Hso hN hc1 hc2 hb1 hb2 Hrs Hk0 wr
      go_wp2_with fail
      clear hc2'
      go_loopw [82] (fun t W => ∃ m : Nat, m ≤ r.length ∧ t = .int .i64 m ∧ Hid (LN w6 W Bn p.length (marks (out.take k ++ [r.take m]) p.length))) (fun t _ => r.length - (intOf t).toNat)
      case atStart => exact ⟨0, Nat.zero_le _, rfl, HN8⟩
      case round =>
        obtain ⟨m, hml2, rfl, hM⟩ := hrel
        by_cases hlt2 : m < r.length
        · obtain ⟨y, hy⟩ : ∃ y, r[m]? = some y := ⟨_, List.getElem?_eq_getElem hlt2⟩
          have hrm := List.mem_of_getElem? Hr.out
          have hym := List.mem_of_getElem? hy
          obtain ⟨y0, y1, y2⟩ := HRL.out.bd r hrm y hym
          obtain ⟨j, rfl⟩ : ∃ j : Nat, y = j := ⟨y.toNat, by omega⟩
          rw [Int.toNat_natCast] at y2
          have hjl : j < p.length := by omega
          have hno : ∀ r' ∈ out.take k, (j : Int) ∉ r' := fun r' hr' hj => by
            obtain ⟨k', hk'⟩ := List.getElem?_of_mem hr'
            have hkl' := (List.getElem?_eq_some_iff.1 hk').1
            rw [List.length_take] at hkl'
            rw [List.getElem?_take, if_pos (by omega)] at hk'
            have := apart_all HRL.out.apart hk' Hr.out hj hym
            omega
          have hnB : (j : Int) ∉ r.take m := fun hj => by
            obtain ⟨m', hm'⟩ := List.getElem?_of_mem hj
            have hml' := (List.getElem?_eq_some_iff.1 hm').1
            rw [List.length_take] at hml'
            rw [List.getElem?_take, if_pos (by omega)] at hm'
            have hnd := HRL.out.each r hrm
            have := (List.getElem?_inj (by omega) hnd).1 (hm'.trans hy.symm)
            omega
          have hz0 := marks_zero (B := r.take m) hno hnB hjl
          have hset := marks_set (B := r.take m) hno hjl
          have htk : r.take m ++ [(j : Int)] = r.take (m + 1) := by rw [List.take_add_one, hy]; rfl
          have hkl3 : ((out.take k).length : Int) = k := by rw [List.length_take]; omega
          rw [htk, hkl3] at hset
          have hnew := hM.out.set j ((k : Int) + 1)
          rw [← hset] at hnew
          have hk0 := hM.out.keeps
          have h6 := H6.out.keep hk0
          have cp := h6.boxp.cell
          have cn := hM.out.box.cell
          have cz := hM.out.row.cell (intsC_get hz0)
          have fz := hM.out.row.frozen j
          have hrs := SlV.keeps Hrs6.out hk0 (fun _ _ _ _ _ hb => hb)
          obtain ⟨b4, o4, c4, e4, hb4, hc4⟩ := slV_get hrs (intsC_get hy)
          cases e4
          have hrj : (reachedX p)[j]? = some true := by
            cases e : (reachedX p)[j]? with
            | none => rw [e] at y2; cases y2
            | some b => rw [e] at y2; exact congrArg some y2
          obtain ⟨b5, o5, c5, e5, hb5, hc5⟩ := slV_get h6.rea (boolsC_get hrj)
          cases e5
          have hjn : (j : Int) < p.length := by omega
          have hjn' : decide ((p.length : Int) ≤ (j : Int)) = false := decide_eq_false (by omega)
          have hwk : IntKind.i64.wrap ((k : Int) + 1) = (k : Int) + 1 := IntWalk.i64_in _ ⟨by omega, by omega⟩
          have Hnew := Lib.hid hnew
          clear hnew hset hnB hno htk hkl3 hz0 hrs h6 hk0 y0 y1 y2 hrj hym hrm hM hy hb4
          go_wp2_with fail
          go_roundw
          case rel => exact ⟨m + 1, by omega, by go_num, Hnew⟩
          case measure => simp [intOf]; omega
        · obtain rfl : m = r.length := by omega
          have hM2 := hM.out
          rw [List.take_length, show out.take k ++ [r] = out.take (k + 1) from by rw [List.take_add_one, Hr.out]; rfl] at hM2
          have HM2 := Lib.hid hM2
          clear hM hM2
          go_wp2_with fail
          go_roundw
          case rel =>
            refine ⟨k + 1, headI r, by omega, by go_num, rfl, Lib.hid (fun r' hr' => ?_), HM2⟩
            have h1 := List.pairwise_iff_getElem.1 HRL.out.lt k (k + 1) hlt ((List.getElem?_eq_some_iff.1 hr').1) (by omega)
            obtain ⟨_, e1⟩ := List.getElem?_eq_some_iff.1 Hr.out
            obtain ⟨_, e2⟩ := List.getElem?_eq_some_iff.1 hr'
            rw [e1, e2] at h1
            exact h1
          case measure => simp [intOf]; omega
    · obtain rfl : k = out.length := by omega
      have hN1 := hN.out
      rw [List.take_length] at hN1
      have HN1 := Lib.hid hN1
      obtain ⟨W1, hW1⟩ : ∃ W1, wr = W1 := ⟨_, rfl⟩
      rw [hW1] at HN1 ⊢
      clear hN hN1 hz hW1 hkl hk0 wr
      go_wp2_with fail
      go_loopw [117] (fun t wr => ∃ k : Nat, k ≤ out.length ∧ t = .int .i64 k ∧ Hid (Below W1.heap.size W1 wr)) (fun t _ => out.length - (intOf t).toNat)
      case atStart => exact ⟨0, Nat.zero_le _, rfl, Lib.hid (Below.refl _ _)⟩
      case round =>
        obtain ⟨k, hkl, rfl, hbX⟩ := hrel
        by_cases hlt : k < out.length
        · obtain ⟨r, hr⟩ : ∃ r, out[k]? = some r := ⟨_, List.getElem?_eq_getElem hlt⟩
          have hrm := List.mem_of_getElem? hr
          have hk1 : Keeps (fun b => b < w6.heap.size) w6 W1 := HN1.out.keeps
          have hk0 := hk1.trans ((Keeps.of_below hbX.out).mono fun b _ hb => by have := hk1.size; omega)
          obtain ⟨b1, o1, c1, A, cr, e1, hb1, hc1', hrs6⟩ := H6.out.rows.at hr
          cases e1
          have hc1 := hk0.cell hc1' hb1
          have hrl : r.length ≤ p.length := nodup_len p.length r (HRL.out.each r hrm) (fun v hv => ⟨(HRL.out.bd r hrm v hv).1, (HRL.out.bd r hrm v hv).2.1⟩)
          have Hrs6 := Lib.hid hrs6
          have Hrm := Lib.hid hrm
          have Hk1 := Lib.hid hk1
          have hkn : (k : Int) < out.length := by omega
          clear hrs6 hc1' hb1 hr hrm hk0 hk1
          go_wp2_with fail
          clear hc1
          obtain ⟨X, hX⟩ : ∃ X, wr = X := ⟨_, rfl⟩
          rw [hX] at hbX ⊢
          clear hX wr
          go_loopw [123] (fun t wr => ∃ m : Nat, m ≤ r.length ∧ t = .int .i64 m ∧ Hid (Below W1.heap.size W1 wr)) (fun t _ => r.length - (intOf t).toNat)
          case atStart => exact ⟨0, Nat.zero_le _, rfl, hbX⟩
          case round =>
            obtain ⟨m, hml2, rfl, hbW⟩ := hrel
            by_cases hlt2 : m < r.length
            · obtain ⟨y, hy⟩ : ∃ y, r[m]? = some y := ⟨_, List.getElem?_eq_getElem hlt2⟩
              have hym := List.mem_of_getElem? hy
              obtain ⟨y0, y1, y2⟩ := HRL.out.bd r Hrm.out y hym
              obtain ⟨j, rfl⟩ : ∃ j : Nat, y = j := ⟨y.toNat, by omega⟩
              have hjl : j < p.length := by omega
              have hk0 := Hk1.out.trans ((Keeps.of_below hbW.out).mono fun b _ hb => by have := Hk1.out.size; omega)
              have hrs := SlV.keeps Hrs6.out hk0 (fun _ _ _ _ _ hb => hb)
              obtain ⟨b4, o4, c4, e4, hb4, hc4⟩ := slV_get hrs (intsC_get hy)
              cases e4
              have h6 := H6.out.keep hk0
              have hN := HN1.out.keep (Keeps.of_below hbW.out)
              have H6r := Lib.hid h6
              have HNr := Lib.hid hN
              have Hym := Lib.hid hym
              have hmn : (m : Int) < r.length := by omega
              clear hk0 hrs hb4 h6 hN hy hym y0 y1 y2
              go_upto_region 30 with (fail)
              have ka := Keeps.alloc (fun b => b < wr.heap.size) wr (.cells #[.int .i64 j] 3)
              have h6a := H6r.out.keep ka
              have hNa := HNr.out.keep ka
              have hbi := Boxed.new wr 3 (.int .i64 (j : Int))
              have hba : Below W1.heap.size W1 (wr.alloc (.cells #[.int .i64 j] 3)) := hbW.out.trans (((Below.refl _ _).alloc (Nat.le_refl _) _ : Below wr.heap.size wr _).mono hbW.out.size)
              obtain ⟨Wa, hWa⟩ : ∃ Wa, wr.alloc (.cells #[.int .i64 j] 3) = Wa := ⟨_, rfl⟩
              obtain ⟨Bi, hBi⟩ : ∃ Bi, wr.heap.size = Bi := ⟨_, rfl⟩
              rw [hBi] at hbi
              rw [hWa] at h6a hNa hbi hba
              rw [hWa, hBi]
              clear ka hWa hBi hc4 H6r HNr
              have cp1 := h6a.boxp.cell
              have ci1 := hbi.cell
              have hx := List.getElem?_eq_getElem hjl
              obtain ⟨x, hx⟩ : ∃ x, p[j]? = some x := ⟨_, hx⟩
              have hne := next_any (some ⟨g, 0, none⟩) c p j x Wa h6a.prg Hok.out.1 Hok.out.2 hx hpl
              have H6a := Lib.hid h6a
              have HNa := Lib.hid hNa
              have Hbi := Lib.hid hbi
              have Hba := Lib.hid hba
              have Hx := Lib.hid hx
              clear h6a hNa hbi hba hx
              go_wp2_with fail
              refine hne.mono ?_
              clear hne
              rintro e wb ⟨nv, rfl, hnv, hbb⟩
              have kb := Keeps.of_below hbb
              have h6b := H6a.out.keep kb
              have hNb := HNa.out.keep kb
              have hbib := box_keeps Hbi.out kb Hbi.out.lt
              have hbab := Hba.out.trans (hbb.mono Hba.out.size)
              have cp2 := h6b.boxp.cell
              have ci2 := hbib.cell
              have hbe := Before_any (some ⟨g, 0, none⟩) c p j wb h6b.prg Hok.out.1 Hok.out.2 hjl
              have hnvb : SlV wb 1 nv (edgesX x j).length (intsC (edgesX x j)) := by
                have h7 : SlV wb 1 nv (edgesX x j).length ((edgesX x j).flatMap cellsI) := slV_of_own hnv
                rwa [intsC_flat] at h7
              have Hnv := Lib.hid hnvb
              have H6b := Lib.hid h6b
              have HNb := Lib.hid hNb
              have Hbib := Lib.hid hbib
              have Hbab := Lib.hid hbab
              clear hnv hnvb kb h6b hNb hbib hbab hbb cp1 ci1 H6a HNa Hbi Hba
              go_wp2_with fail
              refine hbe.mono ?_
              clear hbe
              rintro e wc ⟨bv, bl, rfl, hbl, hbo, hbc⟩
              have kc := Keeps.of_below hbc
              have h6c := H6b.out.keep kc
              have hNc := HNb.out.keep kc
              have hbic := box_keeps Hbib.out kc Hbib.out.lt
              have hbac := Hbab.out.trans (hbc.mono Hbab.out.size)
              have hnvc := SlV.keeps Hnv.out kc (fun _ _ _ _ _ hb => hb)
              have hbvc : SlV wc 1 bv bl.length (intsC bl) := by
                have h7 := slV_of_own hbo
                rwa [intsC_flat] at h7
              have hpred : ∀ q, PredAt Try.prog 17 #[.pointer (some ⟨Bp, 0, none⟩), .pointer (some ⟨Bn, 0, none⟩), .pointer (some ⟨Bi, 0, none⟩)] (Value.int .i64) (clW p.length (marks out p.length) j) (wc.drewN q) := by
                intro q W x hW
                have hkW := (Keeps.drewN (fun b => b < wc.heap.size) wc q).trans (Keeps.of_below hW)
                have h6W := h6c.keep hkW
                have hNW := hNc.keep hkW
                exact clW_any h6W.boxp.cell hNW.box.cell (box_keeps hbic hkW hbic.lt).cell (hNW.slv (marks_len _ _) hml) hjl x
              have hex : (edgesX x j).length < 1000000 := by have := edgesX_len x j; omega
              have hbm : bl.length < 1000000 := by have := beforeX_len hbl; omega
              have hcf1 := containsFunc_any _ _ _ eg_clW (hpred 0) hnvc hex
              have hcf2 := fun q => containsFunc_any _ _ _ eg_clW (hpred q) (SlV.keeps hbvc (Keeps.drewN (fun b => b < wc.heap.size) wc q) (fun _ _ _ _ _ hb => hb)) hbm
              rw [ring_next HRL.out Hrm.out Hym.out Hx.out] at hcf1
              rw [ring_before HR.out HRL.out Hrm.out Hym.out hbl] at hcf2
              have Hbac := Lib.hid hbac
              clear hpred kc h6c hNc hbic hbac hnvc hbvc hbl hbo hbc cp2 ci2 Hnv H6b HNb Hbib Hbab hex hbm
              go_wp2_with fail
              refine hcf1.mono ?_
              rintro e wd ⟨rfl, q, rfl⟩
              go_wp2_with fail
              refine (hcf2 _).mono ?_
              rintro e we ⟨rfl, q', rfl⟩
              go_wp2_with fail
              go_roundw
              case rel => exact ⟨m + 1, by omega, by go_num, Lib.hid (belowN Hbac.out (q + q'))⟩
              case measure => simp [intOf]; omega
            · obtain rfl : m = r.length := by omega
              go_wp2_with fail
              go_roundw
              case rel => exact ⟨k + 1, by omega, by go_num, hbW⟩
              case measure => simp [intOf]; omega
        · obtain rfl : k = out.length := by omega
          have hk0 := HN1.out.keeps.trans ((Keeps.of_below hbX.out).mono fun b _ hb => by have := HN1.out.keeps.size; omega)
          have h6 := H6.out.keep hk0
          have hN := HN1.out.keep (Keeps.of_below hbX.out)
          have hcl := clone_bool h6.rea (by omega) hpl
          have HbX := Lib.hid (HbE.out.trans ((hk0.below hws6 (fun b hb => by omega)).mono (Nat.le_refl _)))
          have H6r := Lib.hid h6
          have HNr := Lib.hid hN
          clear hk0 h6 hN hbX H6 HN1 HbE H7
          go_wp2_with fail
          refine hcl.mono ?_
          clear hcl
          rintro e wl ⟨lv, rfl, hlo, hlb⟩
          obtain ⟨W2, hW2⟩ : ∃ W2, wr = W2 := ⟨_, rfl⟩
          rw [hW2] at H6r HNr hlo hlb HbX
          obtain ⟨L, cl, rfl, -, -⟩ := hlo.form h0p
          have h0 : LL W2 (wl.alloc (.cells #[.slice (some ⟨L, 0, none⟩) p.length cl] 33)) wl.heap.size p.length (.slice (some ⟨L, 0, none⟩) p.length cl) (peels p.length (marks out p.length) (beforeX p) (reachedX p) 0) :=
            ⟨own_keeps hlo (Keeps.alloc (fun b => b < wl.heap.size) _ _) (fun b hb => (hlo.lt b hb).2), Boxed.new wl _ _, hlb.size, (Keeps.of_below hlb).trans (Keeps.alloc _ _ _)⟩
          have H0 := Lib.hid h0
          obtain ⟨Bl, hBl⟩ : ∃ Bl, wl.heap.size = Bl := ⟨_, rfl⟩
          have cp0 := (H6r.out.keep ((Keeps.of_below hlb).trans (Keeps.alloc (fun b => b < W2.heap.size) wl (.cells #[.slice (some ⟨L, 0, none⟩) p.length cl] 33)))).boxp.cell
          go_upto_region 38 with (fail)
          rw [hBl] at H0
          obtain ⟨W3', hW3⟩ : ∃ W3', wl.alloc (.cells #[.slice (some ⟨L, 0, none⟩) p.length cl] 33) = W3' := ⟨_, rfl⟩
          rw [hW3] at H0 cp0 ⊢
          clear hlo hlb h0 hBl hW3 hW2 wl wr
          go_wp2_with fail
          clear cp0
          go_loopw [162] (fun t wr => ∃ T : Nat, T ≤ p.length ∧ t = .int .i64 T ∧ Hid (LL W2 wr Bl p.length (.slice (some ⟨L, 0, none⟩) p.length cl) (peels p.length (marks out p.length) (beforeX p) (reachedX p) T))) (fun t _ => p.length - (intOf t).toNat)
          case atStart => exact ⟨0, Nat.zero_le _, rfl, H0⟩
          case round =>
            obtain ⟨T, hTl, rfl, hL⟩ := hrel
            have hkL := hL.out.keeps
            have h6 := H6r.out.keep hkL
            by_cases hltT : T < p.length
            · have cp := h6.boxp.cell
              have hTn : (T : Int) < p.length := by omega
              clear h6 hkL
              go_wp2_with fail
              clear cp
              obtain ⟨X, hX⟩ : ∃ X, wr = X := ⟨_, rfl⟩
              rw [hX] at hL ⊢
              clear hX wr
              go_loopw [166] (fun t wr => ∃ k : Nat, k ≤ p.length ∧ t = .int .i64 k ∧ Hid (LL W2 wr Bl p.length (.slice (some ⟨L, 0, none⟩) p.length cl) (peelK p.length (marks out p.length) (beforeX p) (peels p.length (marks out p.length) (beforeX p) (reachedX p) T) k))) (fun t _ => p.length - (intOf t).toNat)
              case atStart => exact ⟨0, Nat.zero_le _, rfl, hL⟩
              case round =>
                obtain ⟨k, hkl, rfl, hK⟩ := hrel
                by_cases hltk : k < p.length
                · have hkn : (k : Int) < p.length := by omega
                  have Hk := Lib.hid (And.intro hkl hltk)
                  have ka := Keeps.alloc (fun b => b < wr.heap.size) wr (.cells #[.int .i64 k] 3)
                  have hKa := hK.out.keep ka
                  have hbi := Boxed.new wr 3 (.int .i64 (k : Int))
                  clear ka hkl
                  go_upto_region 43 with (fail)
                  obtain ⟨Wa, hWa⟩ : ∃ Wa, wr.alloc (.cells #[.int .i64 k] 3) = Wa := ⟨_, rfl⟩
                  obtain ⟨Bi, hBi⟩ : ∃ Bi, wr.heap.size = Bi := ⟨_, rfl⟩
                  rw [hBi] at hbi
                  rw [hWa] at hKa hbi
                  rw [hWa, hBi]
                  clear hWa hBi hK wr
                  have h6a := H6r.out.keep hKa.keeps
                  have cp1 := h6a.boxp.cell
                  have ci1 := hbi.cell
                  have hbe := Before_any (some ⟨g, 0, none⟩) c p k Wa h6a.prg Hok.out.1 Hok.out.2 hltk
                  have HKa := Lib.hid hKa
                  have Hbi := Lib.hid hbi
                  clear h6a hKa hbi
                  go_wp2_with fail
                  refine hbe.mono ?_
                  clear hbe
                  rintro e wc ⟨bv, bl, rfl, hbl, hbo, hbc⟩
                  have hKc := HKa.out.keep (Keeps.of_below hbc)
                  have hbic := box_keeps Hbi.out (Keeps.of_below hbc) Hbi.out.lt
                  have hbvc : SlV wc 1 bv bl.length (intsC bl) := by
                    have h7 := slV_of_own hbo
                    rwa [intsC_flat] at h7
                  obtain ⟨left, hleft⟩ : ∃ left, peelK p.length (marks out p.length) (beforeX p) (peels p.length (marks out p.length) (beforeX p) (reachedX p) T) k = left := ⟨_, rfl⟩
                  rw [hleft] at hKc
                  have hll : left.length = p.length := by rw [← hleft, peelK_len, peels_len, reachedX_len HR.out]
                  obtain ⟨b0, hb0⟩ : ∃ b0, left[k]? = some b0 := ⟨_, List.getElem?_eq_getElem (by omega)⟩
                  have hpk : peelK p.length (marks out p.length) (beforeX p) (peels p.length (marks out p.length) (beforeX p) (reachedX p) T) (k + 1) = left.set k (b0 && bl.any (clL p.length left (marks out p.length) k)) := by
                    rw [peelK_succ, hleft]
                    unfold peel1
                    rw [hb0, hbl]
                    rfl
                  have hpred : PredAt Try.prog 19 #[.pointer (some ⟨Bp, 0, none⟩), .pointer (some ⟨Bl, 0, none⟩), .pointer (some ⟨Bn, 0, none⟩), .pointer (some ⟨Bi, 0, none⟩)] (Value.int .i64) (clL p.length left (marks out p.length) k) wc.drew := by
                    intro W x hW
                    have hkW : Keeps (fun b => b < wc.heap.size) wc W := ((Keeps.refl _ wc).drew).trans (Keeps.of_below hW)
                    have hKW := hKc.keep hkW
                    have h6W := H6r.out.keep hKW.keeps
                    have hNW := HNr.out.keep hKW.keeps
                    exact clL_any h6W.boxp.cell hKW.box.cell hNW.box.cell (box_keeps hbic hkW hbic.lt).cell (slV_of_own hKW.own) (hNW.slv (marks_len _ _) hml) hltk x
                  have hbm : bl.length < 1000000 := by have := beforeX_len hbl; omega
                  have hcf := containsFunc_any _ _ _ eg_clL hpred (SlV.keeps hbvc ((Keeps.refl (fun b => b < wc.heap.size) wc).drew) (fun _ _ _ _ _ hb => hb)) hbm
                  have hce : wc.cell? ⟨L, k, none⟩ = some (.bool b0) := by
                    obtain ⟨a', c', e', hs⟩ := slV_of_own hKc.own
                    cases e'
                    obtain ⟨b', o', e2, -, h⟩ := hs.one (boolsC_get hb0)
                    cases e2
                    rwa [Nat.zero_add] at h
                  have hfz : wc.frozen? ⟨L, k, none⟩ = false := by
                    rcases hKc.own.2 with ⟨h0, _⟩ | ⟨g', c', cur, hv, hb, hh, -⟩
                    · cases h0
                    · cases hv
                      simp [World.frozen?, hh]
                  have HS := Lib.hid (And.intro hKc.box.cell (And.intro hbic.cell hce))
                  have Hcf := Lib.hid hcf
                  have HKc := Lib.hid hKc
                  have Hpk := Lib.hid hpk
                  clear hKc hbic hbvc hleft hll hb0 hpk hpred hbm hcf hce hbl hbo hbc cp1 ci1 HKa Hbi
                  go_wp2_with fail
                  have hS : false = false → (wc.drew.cell? ⟨Bl, 0, none⟩ = some (.slice (some ⟨L, 0, none⟩) p.length cl) ∧ wc.drew.cell? ⟨Bi, 0, none⟩ = some (.int .i64 k) ∧ wc.drew.cell? ⟨L, k, none⟩ = some (.bool b0)) := fun _ => HS.out
                  have hSq : ∀ q, false = false → ((wc.drew.drewN q).cell? ⟨Bl, 0, none⟩ = some (.slice (some ⟨L, 0, none⟩) p.length cl) ∧ (wc.drew.drewN q).cell? ⟨Bi, 0, none⟩ = some (.int .i64 k) ∧ (wc.drew.drewN q).cell? ⟨L, k, none⟩ = some (.bool b0)) := fun q _ => HS.out
                  cases b0 with
                  | false =>
                    refine held_plain (m := 12) (S := fun b w' => b = false → (w'.cell? ⟨Bl, 0, none⟩ = some (.slice (some ⟨L, 0, none⟩) p.length cl) ∧ w'.cell? ⟨Bi, 0, none⟩ = some (.int .i64 k) ∧ w'.cell? ⟨L, k, none⟩ = some (.bool false))) (by kernel_rfl) ?_
                    refine held_take (i := 0) (oi := _) (v := ?av0) (some 177) rfl rfl (by kernel_rfl) rfl (fun _ _ _ h => h) hS ?ay0 ?ar0
                    case ay0 => (rintro w' s1; obtain ⟨s1, s2, s3⟩ := s1 rfl; go_simp; with_reducible rfl)
                    simp only [Act.put, List.setIfInBounds_toArray, List.set_cons_zero, List.set_cons_succ]
                    refine held_take (i := 1) (oi := _) (v := ?av1) (some 178) rfl rfl (by kernel_rfl) rfl (fun _ _ _ h => h) hS ?ay1 ?ar1
                    case ay1 => (rintro w' s1; obtain ⟨s1, s2, s3⟩ := s1 rfl; go_simp; with_reducible rfl)
                    simp only [Act.put, List.setIfInBounds_toArray, List.set_cons_zero, List.set_cons_succ]
                    refine held_take (i := 2) (oi := _) (v := ?av2) (some 179) rfl rfl (by kernel_rfl) rfl (fun _ _ _ h => h) hS ?ay2 ?ar2
                    case ay2 => (rintro w' s1; obtain ⟨s1, s2, s3⟩ := s1 rfl; go_simp; with_reducible rfl)
                    simp only [Act.put, List.setIfInBounds_toArray, List.set_cons_zero, List.set_cons_succ]
                    refine held_take (i := 3) (oi := _) (v := ?av3) (some 180) rfl rfl (by kernel_rfl) rfl (fun _ _ _ h => h) hS ?ay3 ?ar3
                    case ay3 => (rintro w' s1; obtain ⟨s1, s2, s3⟩ := s1 rfl; go_simp; with_reducible rfl)
                    simp only [Act.put, List.setIfInBounds_toArray, List.set_cons_zero, List.set_cons_succ]
                    refine held_take (i := 4) (oi := _) (v := ?av4) (some 181) rfl rfl (by kernel_rfl) rfl (fun _ _ _ h => h) hS ?ay4 ?ar4
                    case ay4 => (rintro w' s1; obtain ⟨s1, s2, s3⟩ := s1 rfl; go_simp; with_reducible rfl)
                    simp only [Act.put, List.setIfInBounds_toArray, List.set_cons_zero, List.set_cons_succ]
                    refine held_take (i := 5) (oi := _) (v := ?av5) (some 182) rfl rfl (by kernel_rfl) rfl (fun _ _ _ h => h) hS ?ay5 ?ar5
                    case ay5 => (rintro w' s1; obtain ⟨s1, s2, s3⟩ := s1 rfl; go_simp; with_reducible rfl)
                    simp only [Act.put, List.setIfInBounds_toArray, List.set_cons_zero, List.set_cons_succ]
                    refine held_take (i := 6) (oi := _) (v := ?av6) (some 183) rfl rfl (by kernel_rfl) rfl (fun _ _ _ h => h) hS ?ay6 ?ar6
                    case ay6 => (rintro w' s1; obtain ⟨s1, s2, s3⟩ := s1 rfl; go_simp; with_reducible rfl)
                    simp only [Act.put, List.setIfInBounds_toArray, List.set_cons_zero, List.set_cons_succ]
                    refine held_skip (i := 7) (oi := _) (some 184) rfl rfl (by kernel_rfl) (by rfl) (fun _ _ _ h => h) hS ?_
                    simp only [Act.put, List.setIfInBounds_toArray, List.set_cons_zero, List.set_cons_succ]
                    refine held_skip (i := 8) (oi := _) (some 185) rfl rfl (by kernel_rfl) (by rfl) (fun _ _ _ h => h) hS ?_
                    simp only [Act.put, List.setIfInBounds_toArray, List.set_cons_zero, List.set_cons_succ]
                    refine held_skip (i := 9) (oi := _) (some 186) rfl rfl (by kernel_rfl) (by rfl) (fun _ _ _ h => h) hS ?_
                    simp only [Act.put, List.setIfInBounds_toArray, List.set_cons_zero, List.set_cons_succ]
                    refine held_take (i := 10) (oi := _) (v := ?av10) (some 187) rfl rfl (by kernel_rfl) rfl (fun _ _ _ h => h) hS ?ay10 ?ar10
                    case ay10 => (rintro w' s1; obtain ⟨s1, s2, s3⟩ := s1 rfl; go_simp; with_reducible rfl)
                    simp only [Act.put, List.setIfInBounds_toArray, List.set_cons_zero, List.set_cons_succ]
                    refine held_take (i := 11) (oi := _) (v := ?av11) (some 188) rfl rfl (by kernel_rfl) rfl (fun _ _ _ h => h) hS ?ay11 ?ar11
                    case ay11 => (rintro w' s1; obtain ⟨s1, s2, s3⟩ := s1 rfl; go_simp; with_reducible rfl)
                    simp only [Act.put, List.setIfInBounds_toArray, List.set_cons_zero, List.set_cons_succ]
                    have hnew : LL W2 (wc.drew.setCell ⟨L, k, none⟩ (.bool false)) Bl p.length (.slice (some ⟨L, 0, none⟩) p.length cl) (peelK p.length (marks out p.length) (beforeX p) (peels p.length (marks out p.length) (beforeX p) (reachedX p) T) (k + 1)) := by
                      rw [Hpk.out]
                      have h1 := (HKc.out.keep (W' := wc.drew) ((Keeps.refl _ wc).drew)).set k false
                      simpa using h1
                    have hf : (wc.drew).frozen? ⟨L, k, none⟩ = false := hfz
                    refine held_step (i := 12) (oi := _) rfl (by kernel_rfl) rfl (wp_skip (w' := wc.drew.setCell ⟨L, k, none⟩ (.bool false)) rfl ?uz ⟨fun h => absurd h (by decide), held_done (by kernel_rfl) ?_⟩)
                    case uz =>
                      obtain ⟨s1, s2, s3⟩ := hS rfl
                      have s4 : wc.cell? ⟨L, k, none⟩ = some _ := s3
                      clear s1 s2 s3 hf
                      go_simp
                    have Hnew := Lib.hid hnew
                    obtain ⟨X9, hX9⟩ : ∃ X9, wc.drew.setCell ⟨L, k, none⟩ (.bool false) = X9 := ⟨_, rfl⟩
                    rw [hX9] at Hnew ⊢
                    clear hnew hf hX9 hS hSq
                    go_wp2_with fail
                    go_roundw
                    case rel => exact ⟨k + 1, by omega, by go_num, Hnew⟩
                    case measure => simp [intOf]; omega
                  | true =>
                    refine held_plain (m := 12) (S := fun b w' => b = false → (w'.cell? ⟨Bl, 0, none⟩ = some (.slice (some ⟨L, 0, none⟩) p.length cl) ∧ w'.cell? ⟨Bi, 0, none⟩ = some (.int .i64 k) ∧ w'.cell? ⟨L, k, none⟩ = some (.bool true))) (by kernel_rfl) ?_
                    refine held_take (i := 0) (oi := _) (v := ?bv0) (some 177) rfl rfl (by kernel_rfl) rfl (fun _ _ _ h => h) hS ?by0 ?br0
                    case by0 => (rintro w' s1; obtain ⟨s1, s2, s3⟩ := s1 rfl; go_simp; with_reducible rfl)
                    simp only [Act.put, List.setIfInBounds_toArray, List.set_cons_zero, List.set_cons_succ]
                    refine held_take (i := 1) (oi := _) (v := ?bv1) (some 178) rfl rfl (by kernel_rfl) rfl (fun _ _ _ h => h) hS ?by1 ?br1
                    case by1 => (rintro w' s1; obtain ⟨s1, s2, s3⟩ := s1 rfl; go_simp; with_reducible rfl)
                    simp only [Act.put, List.setIfInBounds_toArray, List.set_cons_zero, List.set_cons_succ]
                    refine held_take (i := 2) (oi := _) (v := ?bv2) (some 179) rfl rfl (by kernel_rfl) rfl (fun _ _ _ h => h) hS ?by2 ?br2
                    case by2 => (rintro w' s1; obtain ⟨s1, s2, s3⟩ := s1 rfl; go_simp; with_reducible rfl)
                    simp only [Act.put, List.setIfInBounds_toArray, List.set_cons_zero, List.set_cons_succ]
                    refine held_take (i := 3) (oi := _) (v := ?bv3) (some 180) rfl rfl (by kernel_rfl) rfl (fun _ _ _ h => h) hS ?by3 ?br3
                    case by3 => (rintro w' s1; obtain ⟨s1, s2, s3⟩ := s1 rfl; go_simp; with_reducible rfl)
                    simp only [Act.put, List.setIfInBounds_toArray, List.set_cons_zero, List.set_cons_succ]
                    refine held_take (i := 4) (oi := _) (v := ?bv4) (some 181) rfl rfl (by kernel_rfl) rfl (fun _ _ _ h => h) hS ?by4 ?br4
                    case by4 => (rintro w' s1; obtain ⟨s1, s2, s3⟩ := s1 rfl; go_simp; with_reducible rfl)
                    simp only [Act.put, List.setIfInBounds_toArray, List.set_cons_zero, List.set_cons_succ]
                    refine held_take (i := 5) (oi := _) (v := ?bv5) (some 182) rfl rfl (by kernel_rfl) rfl (fun _ _ _ h => h) hS ?by5 ?br5
                    case by5 => (rintro w' s1; obtain ⟨s1, s2, s3⟩ := s1 rfl; go_simp; with_reducible rfl)
                    simp only [Act.put, List.setIfInBounds_toArray, List.set_cons_zero, List.set_cons_succ]
                    refine held_take (i := 6) (oi := _) (v := ?bv6) (some 183) rfl rfl (by kernel_rfl) rfl (fun _ _ _ h => h) hS ?by6 ?br6
                    case by6 => (rintro w' s1; obtain ⟨s1, s2, s3⟩ := s1 rfl; go_simp; with_reducible rfl)
                    simp only [Act.put, List.setIfInBounds_toArray, List.set_cons_zero, List.set_cons_succ]
                    refine held_take_g (i := 7) (oi := _) (v := ?bv7) (some 184) rfl rfl (by kernel_rfl) (by rfl) (fun _ _ _ h => h) hS ?by7 ?br7
                    case by7 => (rintro w' s1; obtain ⟨s1, s2, s3⟩ := s1 rfl; go_simp; with_reducible rfl)
                    simp only [Act.put, List.setIfInBounds_toArray, List.set_cons_zero, List.set_cons_succ]
                    refine held_take_g (i := 8) (oi := _) (v := ?bv8) (some 185) rfl rfl (by kernel_rfl) (by rfl) (fun _ _ _ h => h) hS ?by8 ?br8
                    case by8 => (rintro w' s1; obtain ⟨s1, s2, s3⟩ := s1 rfl; go_simp; with_reducible rfl)
                    simp only [Act.put, List.setIfInBounds_toArray, List.set_cons_zero, List.set_cons_succ]
                    refine held_step_g (i := 9) (oi := _) rfl (by kernel_rfl) (by rfl) (wp_enter (f := 12) (args := #[bv, .func (.func 19) #[] #[.pointer (some ⟨Bp, 0, none⟩), .pointer (some ⟨Bl, 0, none⟩), .pointer (some ⟨Bn, 0, none⟩), .pointer (some ⟨Bi, 0, none⟩)]]) (some 186) rfl ?be9 ?bc9)
                    case be9 => (obtain ⟨s1, s2, s3⟩ := hS rfl; go_simp)
                    refine Hcf.out.mono ?_
                    rintro e we ⟨rfl, q, rfl⟩
                    refine ⟨_, rfl, hSq q, ?_⟩
                    have hS := hSq q
                    simp only [Act.put, List.setIfInBounds_toArray, List.set_cons_zero, List.set_cons_succ]
                    refine held_take (i := 10) (oi := _) (v := ?bv10) (some 187) rfl rfl (by kernel_rfl) rfl (fun _ _ _ h => h) hS ?by10 ?br10
                    case by10 => (rintro w' s1; obtain ⟨s1, s2, s3⟩ := s1 rfl; go_simp; with_reducible rfl)
                    simp only [Act.put, List.setIfInBounds_toArray, List.set_cons_zero, List.set_cons_succ]
                    refine held_take (i := 11) (oi := _) (v := ?bv11) (some 188) rfl rfl (by kernel_rfl) rfl (fun _ _ _ h => h) hS ?by11 ?br11
                    case by11 => (rintro w' s1; obtain ⟨s1, s2, s3⟩ := s1 rfl; go_simp; with_reducible rfl)
                    simp only [Act.put, List.setIfInBounds_toArray, List.set_cons_zero, List.set_cons_succ]
                    have hnew : LL W2 ((wc.drew.drewN q).setCell ⟨L, k, none⟩ (.bool (bl.any (clL p.length left (marks out p.length) k)))) Bl p.length (.slice (some ⟨L, 0, none⟩) p.length cl) (peelK p.length (marks out p.length) (beforeX p) (peels p.length (marks out p.length) (beforeX p) (reachedX p) T) (k + 1)) := by
                      rw [Hpk.out]
                      have h1 := (HKc.out.keep (W' := (wc.drew.drewN q)) (((Keeps.refl _ wc).drew).trans (Keeps.drewN _ _ q))).set k (bl.any (clL p.length left (marks out p.length) k))
                      simpa using h1
                    have hf : ((wc.drew.drewN q)).frozen? ⟨L, k, none⟩ = false := hfz
                    refine held_step (i := 12) (oi := _) rfl (by kernel_rfl) rfl (wp_skip (w' := (wc.drew.drewN q).setCell ⟨L, k, none⟩ (.bool (bl.any (clL p.length left (marks out p.length) k)))) rfl ?tz ⟨fun h => absurd h (by decide), held_done (by kernel_rfl) ?_⟩)
                    case tz =>
                      obtain ⟨s1, s2, s3⟩ := hS rfl
                      have s4 : wc.cell? ⟨L, k, none⟩ = some _ := s3
                      clear s1 s2 s3 hf
                      go_simp
                    have Hnew := Lib.hid hnew
                    obtain ⟨X9, hX9⟩ : ∃ X9, (wc.drew.drewN q).setCell ⟨L, k, none⟩ (.bool (bl.any (clL p.length left (marks out p.length) k))) = X9 := ⟨_, rfl⟩
                    rw [hX9] at Hnew ⊢
                    clear hnew hf hX9 hS hSq
                    go_wp2_with fail
                    go_roundw
                    case rel => exact ⟨k + 1, by omega, by go_num, Hnew⟩
                    case measure => simp [intOf]; omega
                · obtain rfl : k = p.length := by omega
                  go_wp2_with fail
                  go_roundw
                  case rel => exact ⟨T + 1, by omega, by go_num, hK⟩
                  case measure => simp [intOf]; omega
            · obtain rfl : T = p.length := by omega
              have cb := hL.out.box.cell
              have hco := contains_bool true (slV_of_own hL.out.own) (by omega) hpl
              have hany : ((peels p.length (marks out p.length) (beforeX p) (reachedX p) p.length).any fun y => true == y) = false := by
                rw [List.any_eq_false]
                intro y hy
                rw [Hpeel.out y hy]
                decide
              rw [hany] at hco
              have Hbel := Lib.hid (HbX.out.trans ((hkL.below (Nat.le_refl _) (fun b hb => hb)).mono HbX.out.size))
              clear hany hkL h6
              go_wp2_with fail
              refine hco.mono ?_
              rintro e wz ⟨rfl, rfl⟩
              go_wp2_with fail
              go_ret
              exact ⟨rfl, Hbel.out⟩
end Go.Proofs.Ytfdlhlabkcmikaa
