/- loops.rings. -/
import Derived.Test.YtfdlhlabkcmikaaVisit
import Derived.Laws.EntriesVeiled
namespace Go.Proofs.Ytfdlhlabkcmikaa
open Go.RowKit Go.Shelf Go.Lib Go.Sort

theorem cmp_any {w : World} {A B : Option Addr} {na nb ca cb : Nat} {la lb : List Int} {x y : Int} (ha : SlV w 1 (.slice A na ca) na (intsC la)) (hb : SlV w 1 (.slice B nb cb) nb (intsC lb)) (hx : la[0]? = some x) (hy : lb[0]? = some y)
    (hx0 : 0 ≤ x ∧ x < 1000000) (hy0 : 0 ≤ y ∧ y < 1000000) (hn : na < 1000000) (hm : nb < 1000000) :
    Calls Try.prog 47 #[.slice A na ca, .slice B nb cb] w fun e w' => e = .returned (.int .i64 (x - y)) ∧ ∃ q, w' = w.drewN q := by
  have hla := slV_len ha
  have hlb := slV_len hb
  have h1 := (List.getElem?_eq_some_iff.1 hx).1
  have h2 := (List.getElem?_eq_some_iff.1 hy).1
  obtain ⟨a', c', e', hs⟩ := ha
  cases e'
  obtain ⟨b', o', rfl, -, hc⟩ := hs.one (intsC_get hx)
  obtain ⟨a2, c2, e2, hs2⟩ := hb
  cases e2
  obtain ⟨b2, o2, rfl, -, hc2⟩ := hs2.one (intsC_get hy)
  simp only [Nat.add_zero] at hc hc2
  obtain ⟨x0, x1⟩ := hx0
  obtain ⟨y0, y1⟩ := hy0
  have p1 : (0 : Int) < na := by omega
  have p2 : (0 : Int) < nb := by omega
  clear hs hs2 hla hlb hx hy h1 h2
  go_enter Try.func47, Try.ntmps47
  go_wp2_with fail
  go_quiet (fail)
  go_wp2_with fail
  go_ret
  exact ⟨rfl, nq, rfl⟩

theorem allocs_keep (p : Nat → Prop) : ∀ (os : List Obj) (w : World), Keeps p w (os.foldl World.alloc w) := by
  intro os
  induction os with
  | nil => exact fun w => Keeps.refl _ _
  | cons o os ih => intro w; exact (Keeps.alloc p w o).trans (ih _)
theorem allocs_get : ∀ (os : List Obj) (w : World) (i : Nat) (o : Obj), os[i]? = some o → (os.foldl World.alloc w).heap[w.heap.size + i]? = some o := by
  intro os
  induction os with
  | nil => intro w i o h; simp at h
  | cons a os ih =>
    intro w i o h
    cases i with
    | zero =>
      simp at h; subst h
      exact (allocs_keep (fun _ => True) os (w.alloc a)).heap (World.alloc_heap_new w a) trivial
    | succ i =>
      have := ih (w.alloc a) i o (by simpa using h)
      rw [World.size_alloc] at this
      rwa [show w.heap.size + (i + 1) = w.heap.size + 1 + i by omega]

theorem zeros71 : Try.zeroCells71 = (intsC (List.replicate 256 0)).toArray := by kernel_rfl
theorem zeros79 : Try.zeroCells79 = (boolsC (List.replicate 256 false)).toArray := by kernel_rfl

/-- What visit's eight variables hold at the start. -/
noncomputable def startObjs (B Gb : Nat) : List Obj :=
  [.cells #[.pointer (some ⟨Gb, 0, none⟩)] 53, .cells Try.zeroCells71 71, .cells Try.zeroCells71 71, .cells Try.zeroCells79 79, .cells #[.slice none 0 0] 26, .cells #[.slice none 0 0] 30, .cells #[.int .i64 0] 3,
   .cells #[.func (.func 43) #[] #[.pointer (some ⟨B + 6, 0, none⟩), .pointer (some ⟨B + 1, 0, none⟩), .pointer (some ⟨B + 2, 0, none⟩), .pointer (some ⟨B + 4, 0, none⟩), .pointer (some ⟨B + 3, 0, none⟩), .pointer (some ⟨B, 0, none⟩), .pointer (some ⟨B + 7, 0, none⟩), .pointer (some ⟨B + 5, 0, none⟩)]] 80]

theorem tm_start (w : World) (Gb : Nat) : TM w ((startObjs w.heap.size Gb).foldl World.alloc w) Gb TS.start (.slice none 0 0) (.slice none 0 0) [] := by
  have g := allocs_get (startObjs w.heap.size Gb) w
  refine ⟨g 0 _ rfl, ?_, ?_, ?_, g 4 _ rfl, Seg.nil _ _ _, g 5 _ rfl, World.ownsRow_nil _ _ _ _, ⟨rfl, fun k v l hv => by simp at hv⟩, g 6 _ rfl, g 7 _ rfl, allocs_keep _ _ _, (fun b hb => by cases hb), (fun b hb => by cases hb)⟩
  · exact (g 1 _ rfl).trans (by rw [zeros71]; rfl)
  · exact (g 2 _ rfl).trans (by rw [zeros71]; rfl)
  · exact (g 3 _ rfl).trans (by rw [zeros79]; rfl)

/-- The rings, as visit finds them. -/
def ringsRaw (p : List Ins) : List (List Int) := (visit (nextX p) 256 0 TS.start).out
def headI (l : List Int) : Int := l.headD 0

theorem ringsRaw_ok {p : List Ins} (hR : Right p) (hnx : ∀ (i : Nat) (r : List Int), (nextX p)[i]? = some r → ∀ k ∈ r, 0 ≤ k ∧ k < (p.length : Int)) : TI p.length (visit (nextX p) 256 0 TS.start) := by
  obtain ⟨h1, h2⟩ := TI.start p.length
  have h0 : TS.start.index[0]?.getD 0 = 0 := by
    show (List.replicate 256 (0 : Int))[0]?.getD 0 = 0
    rw [List.getElem?_replicate, if_pos (by decide)]; rfl
  exact (visit_ok hR.le hnx 256 0 TS.start h1 hR.pos h0 (by omega)).1

set_option maxRecDepth 8000 in
set_option maxHeartbeats 1000000 in
theorem rings_any {w : World} {base Gb R : Nat} {pv rv : Value} {vs : List Value} {p : List Ins} (hG : GraphM w base Gb R pv rv vs p p.length) (hR : Right p) (hnx : ∀ (i : Nat) (r : List Int), (nextX p)[i]? = some r → ∀ k ∈ r, 0 ≤ k ∧ k < (p.length : Int)) :
    Calls Try.prog 29 #[.pointer (some ⟨Gb, 0, none⟩)] w fun e w' => ∃ v rvs out, e = .returned v ∧ w'.ownsRow w.heap.size 26 1 v out.length rvs ∧ RowsR w' w.heap.size 3 1 cellsI rvs out ∧
      out.Perm (ringsRaw p) ∧ out.Pairwise (fun a b => headI a ≤ headI b) ∧ Below w.heap.size w w' := by
  obtain ⟨h1, h2⟩ := TI.start p.length
  have h0 : TS.start.index[0]?.getD 0 = 0 := by
    show (List.replicate 256 (0 : Int))[0]?.getD 0 = 0
    rw [List.getElem?_replicate, if_pos (by decide)]; rfl
  have hI := ringsRaw_ok hR hnx
  have hv := visit_any hG hR hnx 256 0 TS.start _ _ _ _ (tm_start w Gb) h1 hR.pos h0 (by omega)
  unfold vArgs at hv
  have hraw : (visit (nextX p) 256 0 TS.start).out = ringsRaw p := rfl
  generalize visit (nextX p) 256 0 TS.start = S at hv hI hraw
  have Hraw := Lib.hid hraw
  have HI := Lib.hid hI
  clear hI h0 h2 h1 hraw
  go_enter Try.func29, Try.ntmps29
  go_wp2_with fail
  refine hv.mono ?_
  rintro e w1 ⟨rfl, sv, ov, rvs, hM⟩
  have co := hM.obox.cell
  have HM := Lib.hid hM
  clear hM hv
  have hs1 := HM.out.keeps.size
  by_cases hn : S.out = []
  · have hrv := HM.out.orow
    rw [hn] at hrv
    have hA : ∃ A c, ov = .slice A 0 c := seg_form (seg_of_own hrv)
    obtain ⟨A, c, rfl⟩ := hA
    have Hrv := Lib.hid hrv
    have Hn := Lib.hid hn
    clear hrv hn
    go_wp2_with (go_at_call 46; refine (Try.slices_SortFunc_none (α := Nat) A c _ _).mono ?_; rintro e w2 ⟨rfl, rfl⟩)
    go_ret
    have hr := HM.out.rings
    rw [Hn.out] at hr
    refine ⟨_, rvs, [], rfl, own_base Hrv.out (by omega), ⟨hr.len, fun k v l hv hl => by simp at hl⟩, ?_, List.Pairwise.nil, HM.out.keeps.below (Nat.le_refl _) (fun _ h => h)⟩
    rw [← Hraw.out, Hn.out]
  · obtain ⟨m, hm⟩ : ∃ m, S.out.length = m + 1 := ⟨S.out.length - 1, by have := List.length_pos_iff.2 hn; omega⟩
    have hM := HM.out
    have hrl := hM.rings.len
    rcases hM.orow.2 with ⟨-, h0⟩ | ⟨g, cap, cur, rfl, hb, hh, q1, q2, q3, q4⟩
    · omega
    have hsn : S.out.length ≤ 256 := by have h1 := HI.out.on; have h2 := HI.out.nz; omega
    obtain ⟨enc, henc⟩ : ∃ enc : Fin (m + 1) → Value, enc = fun i => rvs.getD i.val (.slice none 0 0) := ⟨_, rfl⟩
    obtain ⟨cf, hcf⟩ : ∃ cf : Fin (m + 1) → Fin (m + 1) → Int, cf = fun i j => headI (S.out.getD i.val []) - headI (S.out.getD j.val []) := ⟨_, rfl⟩
    have hat : ∀ i : Fin (m + 1), rvs[i.val]? = some (enc i) ∧ S.out[i.val]? = some (S.out.getD i.val []) := fun i => by
      have h1 : i.val < rvs.length := by rw [hrl, hm]; exact i.isLt
      have h2 : i.val < S.out.length := by rw [hm]; exact i.isLt
      subst henc
      simp [h1, h2]
    have hrow : ∀ i : Fin (m + 1), w1.ownsRow (w.heap.size + 8) 3 1 (enc i) (S.out.getD i.val []).length ((S.out.getD i.val []).flatMap cellsI) := fun i => hM.rings.own i.val _ _ (hat i).1 (hat i).2
    have hlist : ∀ i : Fin (m + 1), S.out.getD i.val [] ≠ [] ∧ (S.out.getD i.val []).length ≤ 256 ∧ ∀ k ∈ S.out.getD i.val [], 0 ≤ k ∧ k < p.length := fun i => HI.out.ov _ (List.mem_of_getElem? (hat i).2)
    have hhead : ∀ i : Fin (m + 1), (S.out.getD i.val [])[0]? = some (headI (S.out.getD i.val [])) ∧ 0 ≤ headI (S.out.getD i.val []) ∧ headI (S.out.getD i.val []) < 1000000 := fun i => by
      obtain ⟨a1, a2, a3⟩ := hlist i
      have hle := hR.le
      cases e : S.out.getD i.val [] with
      | nil => exact absurd e a1
      | cons x l =>
        have := a3 x (by rw [e]; simp)
        exact ⟨rfl, by show 0 ≤ x; omega, by show x < 1000000; omega⟩
    have hone : OneCell enc := fun i => by
      rcases (hrow i).2 with ⟨e, -⟩ | ⟨g', c', cur', e, -⟩ <;> rw [e] <;> rfl
    have hmap : (List.finRange (m + 1)).map enc = rvs := by
      apply List.ext_getElem (by simp; omega)
      intro i h1 h2
      have h3 : i < m + 1 := by simpa using h1
      have := (hat ⟨i, h3⟩).1
      rw [List.getElem?_eq_getElem h2] at this
      simpa using this.symm
    have hmapo : (List.finRange (m + 1)).map (fun i : Fin (m + 1) => S.out.getD i.val []) = S.out := by
      apply List.ext_getElem (by simp; omega)
      intro i h1 h2
      simp [h2]
    have hlf : (List.finRange (m + 1)).length = m + 1 := List.length_finRange
    have hO : SWO (ltOf cf) := by
      subst hcf
      refine ⟨fun x => ?_, fun x y z h1 h2 => ?_, fun x y z h1 h2 => ?_⟩
      · simp [ltOf]
      · simp only [ltOf, decide_eq_true_eq] at h1 h2 ⊢; omega
      · simp only [ltOf, decide_eq_false_iff_not] at h1 h2 ⊢; omega
    have hcmp : CmpLays1 Try.prog 47 #[] enc cf g 0 (List.finRange (m + 1)).toArray.size w1 := by
      refine CmpReads.lays ?_
      intro mm os dk hdk x y
      have hk : Keeps (fun b => b ≠ g) w1 (sortWorld enc w1 g 0 mm dk os) := Keeps.grown (grownBy_put dk) (fun b hb e => by cases hb; exact e rfl)
      have hne : ∀ i : Fin (m + 1), ∀ b, (enc i).ownBlock = some b → b ≠ g := fun i b hb e => hM.ap2 g rfl (enc i) (List.mem_of_getElem? (hat i).1) (e ▸ hb)
      have rx := slV_of_own (own_keeps (hrow x) hk (hne x))
      have ry := slV_of_own (own_keeps (hrow y) hk (hne y))
      rw [intsC_flat] at rx ry
      obtain ⟨ax, cx, ex⟩ : ∃ A c, enc x = .slice A (S.out.getD x.val []).length c := seg_form (seg_of_own (hrow x))
      obtain ⟨ay, cy, ey⟩ : ∃ A c, enc y = .slice A (S.out.getD y.val []).length c := seg_form (seg_of_own (hrow y))
      obtain ⟨x1, x2, x3⟩ := hhead x
      obtain ⟨y1, y2, y3⟩ := hhead y
      have lx := (hlist x).2.1
      have ly := (hlist y).2.1
      have := cmp_any (ex ▸ rx) (ey ▸ ry) x1 y1 ⟨x2, x3⟩ ⟨y2, y3⟩ (by omega) (by omega)
      rw [← ex, ← ey] at this
      rw [hcf]
      exact this
    have hH : Holds enc w1 g 0 (List.finRange (m + 1)).toArray := holds_own hh (by rw [hmap, hlf, ← hm, ← Nat.mul_one S.out.length]; exact q4)
    have hgl := (Array.getElem?_eq_some_iff.1 hh).1
    have hS := Try.slices_SortFunc enc hone cf hO 47 #[] g 0 cap (List.finRange (m + 1)).toArray w1 (enters_of Try.func47 (by kernel_rfl) rfl) hcmp hH hgl (by simp; omega)
    have hsz : (List.finRange (m + 1)).toArray.size = S.out.length := by simp [hm]
    rw [hsz] at hS
    have HS := Lib.hid hS
    have HX := Lib.hid (And.intro hm (And.intro hcf (And.intro hmap (And.intro hmapo (And.intro hlf (And.intro hat (And.intro hrl (And.intro hh q4))))))))
    have HM := Lib.hid hM
    have HY := Lib.hid (And.intro hrow (And.intro hlist hhead))
    clear hS hm hcf hmap hmapo hlf hat hrl hh q4 hM hrow hlist hhead hone hO hcmp hH hsz henc hn
    go_wp2_with fail
    refine HS.out.mono ?_
    rintro e w2 ⟨rfl, d', nn, os, hperm, hsort, rfl⟩
    have hk2 : w1.grownBy (sortWorld enc w1 g 0 nn d' os) (some g) := grownBy_put d'
    have hown2 : ∀ (hsz : d'.toList.length = S.out.length), (sortWorld enc w1 g 0 nn d' os).ownsRow (w.heap.size + 8) 26 1 (.slice (some ⟨g, 0, none⟩) S.out.length cap) S.out.length (d'.toList.map enc) := fun hsz => by
      have := own_put (enc := enc) (n := nn) (os := os) (ss := List.finRange (m + 1)) (ts := d'.toList) (base := w.heap.size + 8) (g := g) (cap := cap) (e := 26) (cur := cur) (w := w1) (by rw [hsz, List.length_finRange]; exact HX.out.1) hb HX.out.2.2.2.2.2.2.2.1 (by rw [List.length_finRange, ← HX.out.1]; exact q1) q2 q3
      rw [List.length_finRange, Array.toArray_toList] at this
      rw [HX.out.1]
      exact this
    obtain ⟨W2, hW2⟩ : ∃ W2, sortWorld enc w1 g 0 nn d' os = W2 := ⟨_, rfl⟩
    rw [hW2] at hk2 hown2 ⊢
    have hgB : g ≠ w.heap.size + 5 := by omega
    have co2 := (box_keeps HM.out.obox (Keeps.grown (p := fun b => b ≠ g) hk2 (fun b hb e => by cases hb; exact e rfl)) (Ne.symm hgB)).cell
    have Hk2 := Lib.hid hk2
    have Hown2 := Lib.hid hown2
    have HP := Lib.hid (And.intro hperm hsort)
    clear hk2 hown2 hperm hsort hW2 co
    go_wp2_with fail
    go_ret
    obtain ⟨hm, hcf, hmap, hmapo, hlf, hat, hrl, hh, q4⟩ := HX.out
    obtain ⟨⟨p1, -, p3⟩, hsort⟩ := HP.out
    have hsz : d'.size = S.out.length := by rw [p1]; simp [hm]
    have e1 : d'.extract 0 S.out.length = d' := by rw [← hsz]; simp
    have e2 : (List.finRange (m + 1)).toArray.extract 0 S.out.length = (List.finRange (m + 1)).toArray := by rw [hm]; simp; exact List.take_of_length_le (by simp)
    rw [e1, e2] at p3
    have hk : Keeps (fun b => b ≠ g) w1 W2 := Keeps.grown Hk2.out (fun b hb e => by cases hb; exact e rfl)
    have hlen' : (d'.toList.map fun i : Fin (m + 1) => S.out.getD i.val []).length = S.out.length := by simp [hsz]
    refine ⟨_, d'.toList.map enc, d'.toList.map fun i : Fin (m + 1) => S.out.getD i.val [], rfl, ?_, ⟨by simp, fun k v l hv hl => ?_⟩, ?_, ?_, ?_⟩
    · rw [hlen']
      exact own_base (Hown2.out (by simpa using hsz)) (by omega)
    · rw [List.getElem?_map] at hv hl
      cases e : d'.toList[k]? with
      | none => rw [e] at hv; cases hv
      | some i =>
        rw [e] at hv hl
        cases hv; cases hl
        exact own_base (own_keeps (HY.out.1 i) hk (fun b hb e => HM.out.ap2 g rfl (enc i) (List.mem_of_getElem? (hat i).1) (e ▸ hb))) (by omega)
    · rw [← Hraw.out, ← hmapo]
      have := p3.map (fun i : Fin (m + 1) => S.out.getD i.val [])
      simpa using this
    · rw [List.pairwise_map, List.pairwise_iff_getElem]
      intro i j hi hj hij
      have := hsort i j (Nat.zero_le _) hij (by rw [← hsz]; simpa using hj)
      rw [hcf] at this
      have g1 : i < d'.size := by simpa using hi
      have g2 : j < d'.size := by simpa using hj
      simp only [ltOf, decide_eq_false_iff_not, getElem!_pos d' i g1, getElem!_pos d' j g2] at this
      simp only [Array.getElem_toList]
      omega
    · refine (HM.out.keeps.below (Nat.le_refl _) (fun _ h => h)).trans ?_
      exact (hk.below (B := w.heap.size) hs1 (fun b hb' => by omega))
end Go.Proofs.Ytfdlhlabkcmikaa
