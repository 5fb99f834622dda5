/- A claim's argument that is a slice of small instructions; no condition. -/
import Derived.Test.YtfdlhlabkcmikaaRows
import Derived.Test.YtfdlhlabkcmikaaStr
import Derived.ProofKit
import Derived.OpenShut
import Derived.Deep.Slices
import Derived.Deep.Fields
import Derived.ChangeSame
namespace Go.Proofs.Ytfdlhlabkcmikaa
open Go.ChangeShapes Go.WideShapes Go.ChangeAt Go.RowKit Go.Deep

section
variable {H : Type} {enc : TypeId × Value → H} {P : Program} {w : World} {base : Nat} {spare : Nat → Bool} {held : Bool}
/-- A slice of structs whose fields have one cell each: every field's cell, and its reading. -/
theorem open_fields {t e : TypeId} {fs : Array Field} {fuel : Nat} {cs : List Value} {x : DataW H × List MemPlace} (ht : P.underlying t = some (.slice e)) (he : P.underlying e = some (.struct fs))
    (hone : oneCellFields P fs = true) (hC : P.cellsOf e = fs.size) (h : DataW.trod enc P w base spare held fuel t cs = some x) :
    cs = [.slice none 0 0] ∨
    ∃ (a : Addr) (len cap m : Nat), cs = [.slice (some a) len cap] ∧ len ≤ cap ∧ cap ≤ maxLen ∧ m = (if spare a.block then cap else len) ∧
      ∀ i, i < m → ∀ (j : Nat) (f : Field), fs[j]? = some f → ∃ (v : Value) (y : DataW H × List MemPlace) (n : Nat), w.cell? (a.add (i * fs.size + j)) = some v ∧ DataW.trod enc P w base spare held n f.type [v] = some y := by
  rcases open_slice ht h with ⟨h0, -⟩ | ⟨a, len, cap, m, n, D, Pl, hcs, -, hl, hm, hmm, -, hi⟩
  · exact .inl h0
  · refine .inr ⟨a, len, cap, m, hcs, hl, hm, hmm, fun i him j f hj => ?_⟩
    obtain ⟨cs', hc, ht'⟩ := hi i him
    rw [hC] at hc
    obtain ⟨ys, n', -, -, hlen, hyl, hf⟩ := DataW.trod_struct he ht'
    obtain ⟨_, hcl, hat⟩ := World.cells?_some hc
    obtain ⟨ho, hk⟩ := hone_of hone j f hj
    have hjl : j < fs.size := (Array.getElem?_eq_some_iff.1 hj).1
    have hcell := hat j hjl
    have hv : cs'[j]? = some (cs'[j]'(by omega)) := List.getElem?_eq_getElem (by omega)
    have h1 := hf j f hj
    rw [ho, hk] at h1
    have hone' : (cs'.drop j).take 1 = [cs'[j]'(by omega)] := by
      rw [List.drop_eq_getElem_cons (by omega)]
      rfl
    rw [hone'] at h1
    have hys : ys[j]? = some (ys[j]'(by omega)) := List.getElem?_eq_getElem (by omega)
    refine ⟨_, _, n', ?_, h1.trans hys⟩
    rw [← Go.Deep.add_add, hcell, hv]
end

set_option maxRecDepth 100000 in
theorem lit_u8 {n : Int} (h : (Lit.int .u8 n).wf = true) : 0 ≤ n ∧ n < 256 := by
  simp [Lit.wf, IntKind.min, IntKind.max, IntKind.signed, IntKind.bits] at h
  omega
set_option maxRecDepth 100000 in
theorem lit_i64 {n : Int} (h : (Lit.int .i64 n).wf = true) : -9223372036854775808 ≤ n ∧ n ≤ 9223372036854775807 := by
  simp [Lit.wf, IntKind.min, IntKind.max, IntKind.signed, IntKind.bits] at h
  omega

section
variable {H : Type} {enc : TypeId × Value → H} {P : Program}
theorem post_of_below {f : Func} {s : ChangeSpec} {apart fresh handsOn again : Bool} {W W' : World} {args : Array Value} {v : Value} {ds gs : List (DataW H)} {before pa pv : List MemPlace}
    (hW : DataW.Whole enc P f.params.toList s.vars apart W args.toList ds gs before)
    (hres : ∀ (b : Nat) (sp : Nat → Bool) (hd : Bool), DataW.TrodAll enc P W' b sp hd f.resultTypes.toList (v.resultList f.resultTypes.size) (s.fn H (ds ++ gs)).results [])
    (hargs : ∀ sp : Nat → Bool, (∀ p ∈ before, sp p.block = true) → DataW.TrodAll enc P W' 0 sp true f.params.toList args.toList (s.fn H (ds ++ gs)).args pa)
    (hvars : ∀ sp : Nat → Bool, (∀ p ∈ before, sp p.block = true) → DataW.TrodVars enc P W' sp s.vars (s.fn H (ds ++ gs)).vars pv)
    (hps : before = pa ++ pv) (hb : Below W.heap.size W W')
    (hok : ∀ (j : Nat) (t : TypeId) (r : Value), f.resultTypes[j]? = some t → (v.resultList f.resultTypes.size)[j]? = some r → Value.okWide P W' .any 0 t r) :
    s.post enc P f apart fresh handsOn again W args v W' := by
  have hlt : ∀ p ∈ before, p.block < W.heap.size := fun p hp => hW.lt p hp
  have hold : ∀ p ∈ before, (fun b => decide (b < W.heap.size)) p.block = true := fun p hp => by simpa using hlt p hp
  refine ⟨ds, gs, before, [], pa, pv, hW, hres _ _ _, hargs _ hold, hvars _ hold, World.keptBut_mono (fun p hp => ⟨hp, ?_⟩) (hb.frame (· ∈ before)), fun _ => ?_⟩
  · rw [hps, List.mem_append] at hp
    exact Or.inr hp
  · obtain ⟨_, _, _, _, _, hz, hn⟩ := hW
    refine ⟨hok, _, _, ([] ++ pa) ++ pv, ⟨[] ++ pa, pv, trodAll_append (hargs _ (fun _ _ => rfl)) (hres _ _ _), hvars _ (fun _ _ => rfl), rfl, ?_, ?_⟩, ?_⟩
    · intro b off hp
      have hin : MemPlace.cell b off ∈ before := by rw [hps]; simpa using hp
      rw [hb.frozen (hlt _ hin)]
      exact hz b off hin
    · intro ha
      have := hn ha
      rw [hps] at this
      simpa using this
    · intro p hp _
      rw [hps]
      simpa using hp
end

set_option maxRecDepth 100000 in
/-- An argument that is a slice of small instructions. -/
theorem open_small {H : Type} {enc : TypeId × Value → H} {W : World} {base : Nat} {v : Value} {d : DataW H} {ps : List MemPlace} (hv : Value.okWide Try.prog W .any base 22 v) (h : DataW.Trod enc Try.prog W 0 (fun _ => true) true 22 v d ps) :
    ∃ (a : Option Addr) (cap : Nat) (l : List Ins), v = .slice a l.length cap ∧ Prg W a cap l ∧ (∀ x ∈ l, x.Ok) ∧ l.length ≤ maxLen := by
  obtain ⟨a0, len0, cap0, rfl⟩ := okWide_slice Try.underlying22 hv
  obtain ⟨fuel, hf⟩ := h
  rcases open_fields (fs := #[_, _, _, _, _]) Try.underlying22 Try.underlying63 (by kernel_rfl) (by kernel_rfl) hf with h0 | ⟨a, len, cap, m, hcs, hl, hm, hmm, hi⟩
  · cases h0
    exact ⟨none, 0, [], rfl, ⟨rfl, Nat.le_refl _, Nat.zero_le _, .inl ⟨rfl, rfl⟩⟩, (fun _ h => by cases h), Nat.zero_le _⟩
  · cases hcs
    simp only [if_true] at hmm
    subst hmm
    have hhas : W.has Try.prog .any base a 63 m := by
      have h1 := hv
      unfold Value.okWide at h1
      rw [Try.underlying22] at h1
      simp only [Cell.okWide, Cell.ok, Try.underlying22] at h1
      exact h1.2.2
    obtain ⟨-, hsp, row, cells, hsh, -⟩ := hhas
    obtain ⟨b, off, sp⟩ := a
    simp only at hsp
    subst hsp
    have hb : b < W.heap.size := by
      unfold World.shape? at hsh
      cases e : W.heap[b]? with
      | none => rw [e] at hsh; cases hsh
      | some o => exact (Array.getElem?_eq_some_iff.1 e).1
    have hadd : ∀ k, (⟨b, off, none⟩ : Addr).add k = ⟨b, off + k, none⟩ := fun k => Addr.add_lit _ _ _
    have each : ∀ i, i < m → ∃ x : Ins, x.Ok ∧ ∀ (k : Nat) (u : Value), x.cells[k]? = some u → W.cell? ⟨b, off + (i * 5 + k), none⟩ = some u := by
      intro i him
      have hi' := hi i him
      obtain ⟨v0, y0, n0, c0, t0⟩ := hi' 0 _ rfl
      obtain ⟨v1, y1, n1, c1, t1⟩ := hi' 1 _ rfl
      obtain ⟨v2, y2, n2, c2, t2⟩ := hi' 2 _ rfl
      obtain ⟨v3, y3, n3, c3, t3⟩ := hi' 3 _ rfl
      obtain ⟨v4, y4, n4, c4, t4⟩ := hi' 4 _ rfl
      obtain ⟨z0, e0, -, w0⟩ := DataW.trod_int Try.underlying5 t0
      obtain ⟨z1, e1, -, w1⟩ := DataW.trod_int Try.underlying5 t1
      obtain ⟨z2, e2, -, w2⟩ := DataW.trod_int Try.underlying5 t2
      obtain ⟨z3, e3, -, w3⟩ := DataW.trod_int Try.underlying5 t3
      obtain ⟨z4, e4, -, w4⟩ := DataW.trod_int Try.underlying2 t4
      cases e0; cases e1; cases e2; cases e3; cases e4
      rw [hadd] at c0 c1 c2 c3 c4
      have u0 := lit_u8 w0
      have u1 := lit_u8 w1
      have u2 := lit_u8 w2
      have u3 := lit_u8 w3
      have u4 := lit_i64 w4
      refine ⟨⟨z0, z1, z2, z3, z4⟩, ⟨u0.1, u0.2, u1.1, u1.2, u2.1, u2.2, u3.1, u3.2, u4.1, u4.2⟩, fun k u hu => ?_⟩
      match k, hu with
      | 0, hu => cases hu; exact c0
      | 1, hu => cases hu; exact c1
      | 2, hu => cases hu; exact c2
      | 3, hu => cases hu; exact c3
      | 4, hu => cases hu; exact c4
      | k + 5, hu => simp [Ins.cells] at hu
    obtain ⟨X, hX⟩ : ∃ X : Nat → Ins, ∀ i, i < m → (X i).Ok ∧ ∀ (k : Nat) (u : Value), (X i).cells[k]? = some u → W.cell? ⟨b, off + (i * 5 + k), none⟩ = some u :=
      ⟨fun i => if h : i < m then Classical.choose (each i h) else halt, fun i h => by simp only [dif_pos h]; exact Classical.choose_spec (each i h)⟩
    have hlen : ((List.range len0).map X).length = len0 := by simp
    refine ⟨some ⟨b, off, none⟩, m, (List.range len0).map X, by rw [hlen], ⟨?_, by rw [hlen]; exact hl, hm, .inr ⟨b, off, rfl, hb, fun j u hu => ?_⟩⟩, fun x hx => ?_, by rw [hlen]; omega⟩
    · exact flat_len Ins.cells 5 (fun x => x.cells_len) _
    · have hj : j < ((List.range len0).map X).length * 5 := by
        rw [← flat_len Ins.cells 5 (fun x => x.cells_len) ((List.range len0).map X)]
        exact (List.getElem?_eq_some_iff.1 hu).1
      rw [hlen] at hj
      have hq : j / 5 < len0 := by omega
      have hg : ((List.range len0).map X)[j / 5]? = some (X (j / 5)) := by simp [hq]
      have h5 := flat_get Ins.cells 5 (fun x => x.cells_len) _ _ _ hg (j % 5) (Nat.mod_lt _ (by decide))
      rw [show j / 5 * 5 + j % 5 = j by omega] at h5
      rw [h5] at hu
      have := (hX (j / 5) (by omega)).2 (j % 5) u hu
      rwa [show j / 5 * 5 + j % 5 = j by omega] at this
    · obtain ⟨i, hi', rfl⟩ := List.mem_map.1 hx
      exact (hX i (by have := List.mem_range.1 hi'; omega)).1

theorem ownKnobs : ownKnob Try.prog.godebug = none := by kernel_rfl
theorem laidOuts : laidOutB Try.prog = true := by kernel_rfl

end Go.Proofs.Ytfdlhlabkcmikaa
