/- fermatalaw20.LoopsOrder returns true. -/
import Derived.Test.YtfdlhlabkcmikaaClo
namespace Go.Proofs.Ytfdlhlabkcmikaa
open Go.RowKit Go.Shelf Go.Lib

/-- What lies in memory behind the first calls of LoopsOrder. -/
structure LO0 (W : World) (Bp Br : Nat) (p : List Ins) (g c n : Nat) (ov rv : Value) : Prop where
  boxp : Boxed W Bp 24 (.slice (some ⟨g, 0, none⟩) p.length c)
  boxr : Boxed W Br 33 rv
  prg : Prg W (some ⟨g, 0, none⟩) c p
  ord : SlV W 1 ov n (intsC (orderX p))
  rea : SlV W 1 rv p.length (boolsC (reachedX p))

theorem LO0.keep {W W' : World} {Bp Br : Nat} {p : List Ins} {g c n : Nat} {ov rv : Value} (h : LO0 W Bp Br p g c n ov rv) (hk : Keeps (fun b => b < W.heap.size) W W') : LO0 W' Bp Br p g c n ov rv :=
  ⟨box_keeps h.boxp hk h.boxp.lt, box_keeps h.boxr hk h.boxr.lt, h.prg.keeps' hk, SlV.keeps h.ord hk (fun _ _ _ _ _ hb => hb), SlV.keeps h.rea hk (fun _ _ _ _ _ hb => hb)⟩

/-- The list of those that are done. -/
structure LOD (W0 W : World) (dl : List Int) (dv : Value) : Prop where
  box : Boxed W W0.heap.size 26 dv
  own : W.ownsRow (W0.heap.size + 1) 3 1 dv dl.length (intsC dl)
  keeps : Keeps (fun b => b < W0.heap.size) W0 W
theorem LOD.keep {W0 W W' : World} {dl : List Int} {dv : Value} (h : LOD W0 W dl dv) (hk : Keeps (fun b => b < W.heap.size) W W') : LOD W0 W' dl dv :=
  ⟨box_keeps h.box hk h.box.lt, own_keeps h.own hk (fun b hb => (h.own.lt b hb).2), h.keeps.trans (hk.mono fun b _ hb => by have := h.box.lt; omega)⟩

theorem eg_clo : ∀ args w, (callFunc 13 args).run Try.prog w = .ok (.enter 13 args) w := enters_of Try.func13 (by kernel_rfl) rfl

theorem lod_step {W0 W w1 : World} {dv : Value} {t g cap : Nat} {y : Int} {tmp : Obj} {os : List Int} (h : LOD W0 W (os.take t) dv) (ht : (os.take t).length = t) (hy : os[t]? = some y)
    (hs : w1.ownsRow (W0.heap.size + 1) 3 1 (.slice (some ⟨g, 0, none⟩) (t + 1) cap) (t + 1) (intsC (os.take t) ++ [.int .i64 y])) (hg : (W.alloc tmp).grownBy w1 dv.ownBlock) (hat : dv.ownBlock = some g ∨ g = W.heap.size + 1) :
    LOD W0 (w1.setCell ⟨W0.heap.size, 0, none⟩ (.slice (some ⟨g, 0, none⟩) (t + 1) cap)) (os.take (t + 1)) (.slice (some ⟨g, 0, none⟩) (t + 1) cap) ∧ Boxed w1 W0.heap.size 26 dv := by
  have hlt := h.box.lt
  have hdl := fun b (hb : dv.ownBlock = some b) => (h.own.lt b hb).1
  have k1 : ∀ q : Nat → Prop, (∀ b, dv.ownBlock = some b → ¬ q b) → Keeps q W w1 := fun q hq => (Keeps.alloc q W tmp).trans (Keeps.grown hg hq)
  have hb1 : Boxed w1 W0.heap.size 26 dv := box_keeps h.box (k1 (fun b => dv.ownBlock ≠ some b) (fun b hb hn => hn hb)) (fun e => by have := hdl _ e; omega)
  have hg0 : g ≠ W0.heap.size := by
    rcases hat with e | e
    · have := hdl g e; omega
    · omega
  refine ⟨⟨hb1.set _, ?_, ?_⟩, hb1⟩
  · have hl : (os.take (t + 1)).length = t + 1 := by rw [List.take_add_one, hy]; simp [ht]
    have := own_keeps hs (Keeps.setCell (p := fun b => b ≠ W0.heap.size) w1 ⟨W0.heap.size, 0, none⟩ (.slice (some ⟨g, 0, none⟩) (t + 1) cap) (fun h => h rfl)) (fun b hb => by cases hb; exact hg0)
    rw [hl, List.take_add_one, hy]
    simpa [intsC] using this
  · exact h.keeps.trans ((k1 (fun b => b < W0.heap.size) (fun b hb => by have := hdl b hb; omega)).trans (Keeps.setCell _ _ _ (Nat.lt_irrefl _)))

set_option maxRecDepth 100000 in
set_option maxHeartbeats 4000000 in
theorem loopsOrder_true (a : Option Addr) (cap : Nat) (l : List Ins) (w : World) (hp : Prg w a cap l) (hok : ∀ x ∈ l, x.Ok) (hcap : l.length ≤ maxLen) :
    Calls Try.prog 3 #[.slice a l.length cap] w fun e w' => e = .returned (.bool true) ∧ Below w.heap.size w w' := by
  have haw := awake_true w
  have hst := fun w1 (hb : Below w.heap.size w w1) => straight_any a cap l w1 (hp.keeps' (Keeps.of_below hb)) hok hcap
  have Hst := Lib.hid hst
  clear hp hok hcap hst
  go_enter Try.func3, Try.ntmps3
  go_wp2_with fail
  refine haw.mono ?_
  rintro e w1 ⟨rfl, hb1⟩
  clear haw
  go_wp2_with fail
  refine (Hst.out w1 hb1).mono ?_
  clear Hst
  rintro e w2 ⟨g, c, p, rfl, hown, hl41, hs, hb2⟩
  have hR := right_of hs.right
  have hbA := hb1.trans (hb2.mono hb1.size)
  have hprg : Prg w2 (some ⟨g, 0, none⟩) c p := by
    obtain ⟨a', c', e', hs⟩ := slV_of_own hown
    cases e'
    exact hs
  have hol : (orderX p).length ≤ 256 := orderGo_len 256 _
  have Hs := Lib.hid hs
  have hok := hs.ok
  have hright := hs.right
  have hrings := strt_rings hs
  have Hok := Lib.hid (And.intro hok (And.intro hright hrings))
  have HbA := Lib.hid hbA
  have hsA := hbA.size
  clear hown hb1 hb2 hbA hs hok hright hrings
  go_wp2_with fail
  have hprg3 := hprg.keeps' (Keeps.alloc (fun b => b < w2.heap.size) w2 (.cells #[.slice (some ⟨g, 0, none⟩) p.length c] 24))
  have hbox3 := Boxed.new w2 24 (.slice (some ⟨g, 0, none⟩) p.length c)
  obtain ⟨W3, hW3⟩ : ∃ W3, w2.alloc (.cells #[.slice (some ⟨g, 0, none⟩) p.length c] 24) = W3 := ⟨_, rfl⟩
  have hs3 : W3.heap.size = w2.heap.size + 1 := by rw [← hW3]; simp
  have hb3 : Below w2.heap.size w2 W3 := hW3 ▸ (Below.refl _ _).alloc (Nat.le_refl _) _
  rw [hW3] at hprg3 hbox3 ⊢
  obtain ⟨Bp, hBp⟩ : ∃ Bp, w2.heap.size = Bp := ⟨_, rfl⟩
  have HbB := Lib.hid (HbA.out.trans (hb3.mono hsA))
  rw [hBp] at hbox3 ⊢
  clear hprg hW3 hb3 hBp HbA hs3 hsA
  refine (Order_yes (some ⟨g, 0, none⟩) c p W3 hprg3 Hok.out.1 Hok.out.2.1 Hok.out.2.2 (by omega)).mono ?_
  rintro e w4 ⟨ov, rfl, hov, hb4⟩
  have hov4 := slV_of_own hov
  have hprg4 := hprg3.keeps' (Keeps.of_below hb4)
  have hbox4 := box_keeps hbox3 (Keeps.of_below hb4) hbox3.lt
  have cb4 := hbox4.cell
  have HbC := Lib.hid (HbB.out.trans (hb4.mono HbB.out.size))
  have Hov := Lib.hid hov4
  have Hprg := Lib.hid hprg4
  have Hbox := Lib.hid hbox4
  clear hov hov4 hprg3 hprg4 hbox3 hbox4 hb4 HbB
  go_wp2_with fail
  refine (Rings_any (some ⟨g, 0, none⟩) c p w4 Hprg.out Hok.out.1 Hok.out.2.1).mono ?_
  rintro e w5 ⟨v5, rvs, out, rfl, h1, h2, h3, h4, hb5⟩
  rw [Hok.out.2.2] at h3
  obtain rfl : out = [] := List.eq_nil_of_length_eq_zero h3.length_eq
  have hA : ∃ A c, v5 = .slice A 0 c := seg_form (seg_of_own h1)
  obtain ⟨A5, c5, rfl⟩ := hA
  have hk5 := Keeps.of_below hb5
  have Hov5 := Lib.hid (SlV.keeps Hov.out hk5 (fun _ _ _ _ _ hb => hb))
  have Hprg5 := Lib.hid (Hprg.out.keeps' hk5)
  have hbox5 := box_keeps Hbox.out hk5 Hbox.out.lt
  have cb5 := hbox5.cell
  have Hbox5 := Lib.hid hbox5
  have HbD := Lib.hid (HbC.out.trans (hb5.mono HbC.out.size))
  clear h1 h2 h3 h4 cb4 hk5 hb5 hbox5 HbC Hov Hprg Hbox
  go_wp2_with fail
  refine (reached_any (some ⟨g, 0, none⟩) c p w5 Hprg5.out Hok.out.1 Hok.out.2.1).mono ?_
  rintro e w6 ⟨rv, rfl, hrv, hrl, hb6⟩
  have hk6 := Keeps.of_below hb6
  have hA : ∃ A c, rv = .slice A p.length c := seg_form (seg_of_own hrv)
  obtain ⟨A6, c6, rfl⟩ := hA
  have hov6 := SlV.keeps Hov5.out hk6 (fun _ _ _ _ _ hb => hb)
  have hprg6 := Hprg5.out.keeps' hk6
  have hbox6 := box_keeps Hbox5.out hk6 Hbox5.out.lt
  have hrv6 := slV_of_own hrv
  have HbE := Lib.hid (HbD.out.trans (hb6.mono HbD.out.size))
  have k7 := Keeps.alloc (fun b => b < w6.heap.size) w6 (.cells #[.slice A6 p.length c6] 33)
  have h7 : LO0 (w6.alloc (.cells #[.slice A6 p.length c6] 33)) Bp w6.heap.size p g c (orderX p).length ov (.slice A6 p.length c6) :=
    ⟨box_keeps hbox6 k7 hbox6.lt, Boxed.new w6 _ _, hprg6.keeps' k7, SlV.keeps hov6 k7 (fun _ _ _ _ _ hb => hb), SlV.keeps hrv6 k7 (fun _ _ _ _ _ hb => hb)⟩
  have cb6 := hbox6.cell
  have lb6 := hbox6.lt
  have H7 := Lib.hid h7
  clear hov6 hprg6 hrv6 hrv hk6 hb6 cb5 hbox6 k7 h7 hrl Hov5 Hprg5 Hbox5 HbD
  obtain ⟨Ao, co, rfl⟩ : ∃ A c, ov = .slice A (orderX p).length c := by
    obtain ⟨A, c, e, -⟩ := H7.out.ord
    exact ⟨A, c, e⟩
  go_wp2_with fail
  obtain ⟨Br, hBr⟩ : ∃ Br, w6.heap.size = Br := ⟨_, rfl⟩
  obtain ⟨W0, hW0⟩ : ∃ W0, w6.alloc (.cells #[.slice A6 p.length c6] 33) = W0 := ⟨_, rfl⟩
  have hs0 : W0.heap.size = Br + 1 := by rw [← hW0, ← hBr]; simp
  have hb0 : Below w6.heap.size w6 W0 := hW0 ▸ (Below.refl _ _).alloc (Nat.le_refl _) _
  have h0 := H7.out
  rw [hW0, hBr] at h0
  have HbF := Lib.hid (HbE.out.trans (hb0.mono HbE.out.size))
  have hws0 : w.heap.size ≤ W0.heap.size := HbF.out.size
  have hd0 : LOD W0 (W0.alloc (.cells #[.slice none 0 0] 26)) [] (.slice none 0 0) := ⟨Boxed.new W0 _ _, World.ownsRow_nil _ _ _ _, Keeps.alloc _ _ _⟩
  have H0 := Lib.hid h0
  have Hs0 := Lib.hid hs0
  have Hd0 := Lib.hid hd0
  rw [hW0, hBr, ← Hs0.out]
  clear hBr hW0 hb0 h0 hs0 hd0 H7 HbE cb6 lb6
  have hpl : p.length < 1000000 := by omega
  go_loopw [59] (fun t wr => ∃ (k : Nat) (dv : Value), k ≤ (orderX p).length ∧ t = .int .i64 k ∧ Hid (LOD W0 wr ((orderX p).take k) dv)) (fun t _ => (orderX p).length - (intOf t).toNat)
  case atStart => exact ⟨0, _, Nat.zero_le _, rfl, Hd0⟩
  case round =>
    obtain ⟨t, dv, htl, rfl, hD⟩ := hrel
    have hk0 := hD.out.keeps
    by_cases hlt : t < (orderX p).length
    · obtain ⟨y, hy⟩ : ∃ y, (orderX p)[t]? = some y := ⟨_, List.getElem?_eq_getElem hlt⟩
      have hym := orderGo_mem 256 _ y (List.mem_of_getElem? hy)
      obtain ⟨i, rfl⟩ : ∃ i : Nat, y = i := ⟨y.toNat, by omega⟩
      obtain ⟨b1, o1, c1, e1, hb1, hc1⟩ := slV_get H0.out.ord (intsC_get hy)
      cases e1
      have co := hk0.cell hc1 hb1
      have cp := (box_keeps H0.out.boxp hk0 H0.out.boxp.lt).cell
      have Hy := Lib.hid hy
      clear hc1 hy hym
      go_wp2_with fail
      obtain ⟨X, hX⟩ : ∃ X : World, wr = X := ⟨_, rfl⟩
      rw [hX] at hD hk0 ⊢
      have Hk0 := Lib.hid hk0
      clear co cp hX hk0
      go_loopw [65] (fun t wr => ∃ k : Nat, k ≤ p.length ∧ t = .int .i64 k ∧ Hid (Below X.heap.size X wr)) (fun t _ => p.length - (intOf t).toNat)
      case atStart => exact ⟨0, Nat.zero_le _, rfl, Lib.hid (Below.refl _ _)⟩
      case round =>
        obtain ⟨k, hkl, rfl, hbX⟩ := hrel
        have hkk := Hk0.out.trans ((Keeps.of_below hbX.out).mono fun b _ hb => by have := Hk0.out.size; omega)
        have hkX : Keeps (fun b => b < X.heap.size) X wr := Keeps.of_below hbX.out
        by_cases hlt2 : k < p.length
        · have hin : (k : Int) < p.length := by omega
          have h0 := H0.out
          have cp := (box_keeps h0.boxp hkk h0.boxp.lt).cell
          have hpr := SlA.keeps h0.prg hkk (fun _ _ _ hb => hb)
          have hbef := Before_any (some ⟨g, 0, none⟩) c p k wr hpr Hok.out.1 Hok.out.2.1 hlt2
          have Hkk := Lib.hid hkk
          have HkX := Lib.hid hkX
          clear h0 hpr hkk hkX
          go_wp2_with fail
          refine hbef.mono ?_
          clear hbef
          rintro e w8 ⟨bv, bl, rfl, hbl, hbo, hb8⟩
          have hk8 := Keeps.of_below hb8
          have hkk8 := Hkk.out.trans (hk8.mono fun b _ hb => by have := Hkk.out.size; omega)
          have hbX8 := hbX.out.trans (hb8.mono hbX.out.size)
          have hkX8 : Keeps (fun b => b < X.heap.size) X w8 := Keeps.of_below hbX8
          have h0 := H0.out
          have cp8 := (box_keeps h0.boxp hkk8 h0.boxp.lt).cell
          have cr8 := (box_keeps h0.boxr hkk8 h0.boxr.lt).cell
          have cd8 := (box_keeps hD.out.box hkX8 hD.out.box.lt).cell
          have hrs8 := SlV.keeps h0.rea hkk8 (fun _ _ _ _ _ hb => hb)
          have hds8 := slV_of_own (own_keeps hD.out.own hkX8 (fun b hb => (hD.out.own.lt b hb).2))
          have hbs8 := slV_of_own hbo
          rw [intsC_flat] at hbs8
          have hdm : ((orderX p).take t).length < 1000000 := by have := List.length_take_le t (orderX p); omega
          have hbm : bl.length < 1000000 := by have := beforeX_len hbl; omega
          obtain ⟨r, hrk⟩ : ∃ r, (reachedX p)[k]? = some r := ⟨_, List.getElem?_eq_getElem (by rw [reachedX_len (right_of Hok.out.2.1)]; exact hlt2)⟩
          obtain ⟨b2, o2, c2, e2, -, hc2⟩ := slV_get hrs8 (boolsC_get hrk)
          cases e2
          have hco := contains_any (k : Int) hds8 hdm
          have hpred : PredAt Try.prog 13 #[.pointer (some ⟨Bp, 0, none⟩), .pointer (some ⟨Br, 0, none⟩), .pointer (some ⟨W0.heap.size, 0, none⟩)] (Value.int .i64) (cloB p.length (reachedX p) ((orderX p).take t)) w8 := by
            intro W x hW
            have hkW := Keeps.of_below hW
            have hl8 := World.block_lt_of_cell? _ _ cp8
            have hl9 := World.block_lt_of_cell? _ _ cr8
            have hl10 := World.block_lt_of_cell? _ _ cd8
            refine (clo_any (hkW.cell cp8 hl8) (hkW.cell cr8 hl9) (hkW.cell cd8 hl10) (SlV.keeps hrs8 hkW (fun _ _ _ _ _ hb => hb)) (SlV.keeps hds8 hkW (fun _ _ _ _ _ hb => hb)) hdm x).mono ?_
            rintro e w' ⟨rfl, rfl⟩
            exact ⟨rfl, 0, rfl⟩
          have hcf := containsFunc_any _ _ _ eg_clo hpred hbs8 hbm
          have hlaw := order_law Hs.out Hy.out hbl
          have hcan : canB p.length (reachedX p) ((orderX p).take t) bl k = (r && (!((orderX p).take t).contains (k : Int) && !bl.any (cloB p.length (reachedX p) ((orderX p).take t)))) := by unfold canB; rw [hrk]; rfl
          rw [hcan] at hlaw
          clear hcan
          generalize ((orderX p).take t).contains (k : Int) = cc at hco hlaw
          generalize bl.any (cloB p.length (reachedX p) ((orderX p).take t)) = ca at hcf hlaw
          have HbX8 := Lib.hid hbX8
          have Hlaw := Lib.hid hlaw
          have Hco := Lib.hid hco
          have Hcf := Lib.hid hcf
          clear cp h0 hlaw hrk hpred hbs8 hds8 hrs8 hbo hbl hco hcf hbX8 hkX8 hkk8 hk8 hb8 cp8
          cases r with
          | false =>
            by_cases hki : k = i
            · have := Hlaw.out; rw [hki] at this; simp at this
            · have hkb : ((k : Int) == (i : Int)) = false := by simpa using fun h => hki (by omega)
              go_wp2_with fail
              go_roundw
              case rel => exact ⟨k + 1, by omega, by go_num, HbX8⟩
              case measure => simp [intOf]; omega
          | true =>
            cases cc with
            | true =>
              by_cases hki : k = i
              · have := Hlaw.out; rw [hki] at this; simp at this
              · have hkb : ((k : Int) == (i : Int)) = false := by simpa using fun h => hki (by omega)
                go_wp2_with fail
                refine Hco.out.mono ?_
                rintro e w9 ⟨rfl, rfl⟩
                go_wp2_with fail
                go_roundw
                case rel => exact ⟨k + 1, by omega, by go_num, HbX8⟩
                case measure => simp [intOf]; omega
            | false =>
              cases ca with
              | true =>
                by_cases hki : k = i
                · have := Hlaw.out; rw [hki] at this; simp at this
                · have hkb : ((k : Int) == (i : Int)) = false := by simpa using fun h => hki (by omega)
                  go_wp2_with fail
                  refine Hco.out.mono ?_
                  rintro e w9 ⟨rfl, rfl⟩
                  go_wp2_with fail
                  refine Hcf.out.mono ?_
                  rintro e w10 ⟨rfl, q, rfl⟩
                  go_wp2_with fail
                  go_roundw
                  case rel => exact ⟨k + 1, by omega, by go_num, Lib.hid (belowN HbX8.out q)⟩
                  case measure => simp [intOf]; omega
              | false =>
                have hki : ¬ (k : Int) < i := by have := Hlaw.out; simp at this; omega
                by_cases hke : k = i
                · have hkb : ((k : Int) == (i : Int)) = true := by simp [hke]
                  clear hke
                  go_wp2_with fail
                  refine Hco.out.mono ?_
                  rintro e w9 ⟨rfl, rfl⟩
                  go_wp2_with fail
                  refine Hcf.out.mono ?_
                  rintro e w10 ⟨rfl, q, rfl⟩
                  go_wp2_with fail
                  go_roundw
                  case rel => exact ⟨k + 1, by omega, by go_num, Lib.hid (belowN HbX8.out q)⟩
                  case measure => simp [intOf]; omega
                · have hkb : ((k : Int) == (i : Int)) = false := by simpa using fun h => hke (by omega)
                  clear hke
                  go_wp2_with fail
                  refine Hco.out.mono ?_
                  rintro e w9 ⟨rfl, rfl⟩
                  go_wp2_with fail
                  refine Hcf.out.mono ?_
                  rintro e w10 ⟨rfl, q, rfl⟩
                  go_wp2_with fail
                  go_roundw
                  case rel => exact ⟨k + 1, by omega, by go_num, Lib.hid (belowN HbX8.out q)⟩
                  case measure => simp [intOf]; omega
        · obtain rfl : k = p.length := by omega
          have hD2 := hD.out.keep hkX
          have cd := hD2.box.cell
          have htk : ((orderX p).take t).length = t := by simp; omega
          have hown := hD2.own
          rw [htk] at hown
          have hsz : W0.heap.size + 1 ≤ wr.heap.size := hD2.box.lt
          have htn : t < 1000000 := by omega
          have Hown := Lib.hid hown
          have HD2 := Lib.hid hD2
          have Htk := Lib.hid htk
          clear hown hD2 htk hkk hkX
          go_wp2_with (at_builtin; refine wpList_app1 rfl _ _ 26 rfl elT_int (W0.heap.size + 1) dv t _ rfl Hown.out #[.int .i64 i] rfl rfl (by simp [Value.oneCell']) htn hsz ?_; intro g9 cp9 w9 hown9 hg9 hat9 hlt9; have hd9 : LOD W0 (w9.setCell ⟨W0.heap.size, 0, none⟩ (.slice (some ⟨g9, 0, none⟩) (t + 1) cp9)) ((orderX p).take (t + 1)) (.slice (some ⟨g9, 0, none⟩) (t + 1) cp9) ∧ Boxed w9 W0.heap.size 26 dv := lod_step HD2.out Htk.out Hy.out hown9 hg9 hat9; have c9 := hd9.2.cell; have f9 := hd9.2.frozen; have Hd9 := Lib.hid hd9.1; clear hown9 hg9 hat9 hd9)
          go_roundw
          case rel => exact ⟨t + 1, _, by omega, by go_num, Hd9⟩
          case measure => simp [intOf]; omega
    · obtain rfl : t = (orderX p).length := by omega
      have cr := (box_keeps H0.out.boxr hk0 H0.out.boxr.lt).cell
      have hrs := SlV.keeps H0.out.rea hk0 (fun _ _ _ _ _ hb => hb)
      have Hrs := Lib.hid hrs
      have Hk0 := Lib.hid hk0
      clear hrs hk0
      go_wp2_with fail
      clear cr
      go_loop [17, 115] (fun n t => ∃ k cn : Nat, k ≤ p.length ∧ t = .int .i64 k ∧ n = .int .i64 cn ∧ cn ≤ k ∧ Hid (((reachedX p).take k).countP id = cn)) (fun _ t => p.length - (intOf t).toNat)
      case atStart => exact ⟨0, 0, Nat.zero_le _, rfl, rfl, Nat.le_refl _, Lib.hid rfl⟩
      case round =>
        obtain ⟨k, cn, hkl, rfl, rfl, hck, hcnt⟩ := hrel
        by_cases hlt2 : k < p.length
        · have hin : (k : Int) < p.length := by omega
          obtain ⟨r, hrk⟩ : ∃ r, (reachedX p)[k]? = some r := ⟨_, List.getElem?_eq_getElem (by rw [reachedX_len (right_of Hok.out.2.1)]; exact hlt2)⟩
          obtain ⟨b2, o2, c2, e2, -, hc2⟩ := slV_get Hrs.out (boolsC_get hrk)
          cases e2
          have hnext : ((reachedX p).take (k + 1)).countP id = cn + if r = true then 1 else 0 := by
            rw [List.take_add_one, hrk, List.countP_append, hcnt.out]
            cases r <;> simp
          have Hnext := Lib.hid hnext
          clear hnext hrk
          cases r with
          | false =>
            go_wp2_with fail
            go_round
            case rel => exact ⟨k + 1, cn, by omega, by go_num, rfl, by omega, Lib.hid Hnext.out⟩
            case measure => simp [intOf]; omega
          | true =>
            go_wp2_with fail
            go_round
            case rel => exact ⟨k + 1, cn + 1, by omega, by go_num, by go_num, by omega, Lib.hid Hnext.out⟩
            case measure => simp [intOf]; omega
        · obtain rfl : k = p.length := by omega
          have hcc : (orderX p).length = cn := by
            have h := hcnt.out
            rw [List.take_of_length_le (Nat.le_of_eq (reachedX_len (right_of Hok.out.2.1)))] at h
            rw [order_count Hs.out, h]
          have hbq : (((orderX p).length : Int) == (cn : Int)) = true := by simp; omega
          have Hbq := Lib.hid hbq
          clear hcc hbq
          go_wp2_with fail
          go_ret
          refine ⟨ret_bool Hbq.out, HbF.out.trans (Hk0.out.below hws0 (fun b hb => by omega))⟩
end Go.Proofs.Ytfdlhlabkcmikaa
