import Derived.Test.YtlgoenimjmiapaaGreatT01
import Derived.ProofKit
import Derived.OpenShut
import Derived.ChangeOld
import Derived.ChangeSame
import Derived.Deep.Slices
import Derived.Deep.Fields
import Derived.Lib.SmallJoins
import Derived.SizedLaws
import Derived.Test.YtlgoenimjmiapaaGreatT36
set_option linter.unusedSimpArgs false
set_option linter.unusedVariables false
set_option linter.unusedSectionVars false
/-! What comes in, opened, with the form's own reach: a message. -/
set_option linter.unusedVariables false
namespace Go.Proofs.YtlgoenimjmiapaaGreat
open Go.ChangeShapes Go.WideShapes Go.ChangeAt Go.RowKit Go.Deep Go.Joins

/-- No part of a datum is wider than the reach. -/
def Sized {H : Type} (P : Program) (t : TypeId) (d : DataW H) : Prop := ∀ n ∈ d.weights P t, n ≤ reachBytes

section
variable {H : Type} {enc : TypeId × Value → H} {P : Program} {w : World} {base : Nat} {spare : Nat → Bool} {held : Bool}

theorem sized_of {ts : List TypeId} {ds : List (DataW H)} (h : (DataW.weightsEach P ts ds).all (· ≤ reachBytes) = true) {j : Nat} {t : TypeId} {d : DataW H} (ht : ts[j]? = some t) (hd : ds[j]? = some d) : Sized P t d := fun n hn => by
  have := List.all_eq_true.1 h n (DataW.weights_mem_each ht hd n hn)
  simpa using this
theorem weightsAll_mem {e : TypeId} : ∀ {l : List (DataW H)} {d : DataW H}, d ∈ l → ∀ n ∈ d.weights P e, n ∈ DataW.weightsAll P e l
  | d' :: r, d, hd, n, hn => by
    simp only [DataW.weightsAll, List.mem_append]
    rcases List.mem_cons.1 hd with rfl | h
    · exact Or.inl hn
    · exact Or.inr (weightsAll_mem h n hn)
theorem Sized.slice {t e : TypeId} {elems sp : List (DataW H)} (h : Sized P t (.slice elems sp)) (ht : P.underlying t = some (.slice e)) : (elems.length + sp.length) * P.bytesOf e ≤ reachBytes ∧ ∀ d ∈ elems, Sized P e d := by
  refine ⟨h _ (by simp [DataW.weights, ht]), fun d hd n hn => h n ?_⟩
  simp only [DataW.weights, ht, List.mem_cons, List.mem_append]
  exact Or.inr (Or.inl (weightsAll_mem hd n hn))
theorem Sized.agg {t : TypeId} {fs : Array Field} {parts : List (DataW H)} (h : Sized P t (.agg parts)) (ht : P.underlying t = some (.struct fs)) {j : Nat} {f : Field} {d : DataW H} (hj : fs[j]? = some f) (hd : parts[j]? = some d) : Sized P f.type d := fun n hn => h n (by
  simp only [DataW.weights, ht]
  exact DataW.weights_mem_each (j := j) (by simp [List.getElem?_map, hj]) hd n hn)

/-- A slice of structs of one-cell fields. -/
theorem open_structs_sized {t e : TypeId} {fs : Array Field} {fuel : Nat} {cs : List Value} {x : DataW H × List MemPlace} (ht : P.underlying t = some (.slice e)) (he : P.underlying e = some (.struct fs))
    (hone : oneCellFields P fs = true) (hC : P.cellsOf e = fs.size) (h : DataW.trod enc P w base spare held fuel t cs = some x) (hs : Sized P t x.1) :
    ∃ (A : Option Addr) (n c : Nat), cs = [.slice A n c] ∧ n ≤ c ∧ c ≤ maxLen ∧ n * P.bytesOf e ≤ reachBytes ∧ ∀ i, i < n → ∃ a, A = some a ∧
      ∀ (j : Nat) (f : Field), fs[j]? = some f → ∃ (v : Value) (y : DataW H × List MemPlace) (m : Nat), w.cell? (a.add (i * fs.size + j)) = some v ∧ DataW.trod enc P w base spare held m f.type [v] = some y ∧ Sized P f.type y.1 := by
  rcases open_slice ht h with ⟨rfl, _⟩ | ⟨a, len, cap, m, n, D, Pl, hcs, hb, hl, hm, hmm, hx, hi⟩
  · exact ⟨none, 0, 0, rfl, Nat.le_refl _, Nat.zero_le _, by simp, fun i hi => by omega⟩
  · rw [hx] at hs
    obtain ⟨hs1, hs2⟩ := hs.slice ht
    refine ⟨some a, len, cap, hcs, hl, hm, ?_, fun i him => ⟨a, rfl, ?_⟩⟩
    · simp only [List.length_map, List.length_range] at hs1
      exact Nat.le_trans (Nat.mul_le_mul_right _ (by omega)) hs1
    obtain ⟨cs', hc, ht'⟩ := hi i (by rw [hmm]; split <;> omega)
    rw [hC] at hc
    obtain ⟨ys, n', hn', hy, hlen, hyl, hf⟩ := DataW.trod_struct he ht'
    obtain ⟨_, hcl, hat⟩ := World.cells?_some hc
    simp only [Prod.mk.injEq] at hy
    have hsD : Sized P e (D i) := hs2 _ (List.mem_map.2 ⟨i, List.mem_range.2 him, rfl⟩)
    rw [hy.1] at hsD
    intro j f hj
    obtain ⟨ho, hk⟩ := hone_of hone j f hj
    have hjl : j < fs.size := (Array.getElem?_eq_some_iff.1 hj).1
    have hcell := hat j hjl
    have hv : cs'[j]? = some (cs'[j]'(by omega)) := List.getElem?_eq_getElem (by omega)
    have h1 := hf j f hj
    rw [ho, hk] at h1
    have hone' : (cs'.drop j).take 1 = [cs'[j]'(by omega)] := by
      rw [List.drop_eq_getElem_cons (by omega)]
      rfl
    rw [hone'] at h1
    have hys : ys[j]? = some (ys[j]'(by omega)) := List.getElem?_eq_getElem (by omega)
    refine ⟨_, _, _, ?_, h1.trans hys, hsD.agg he hj (by rw [List.getElem?_map, hys]; rfl)⟩
    rw [← Go.Deep.add_add, hcell, hv]

/-- A struct of eight one-cell fields. -/
theorem open_agg8_sized {r : Reach} {b0 : Nat} {t : TypeId} {f0 f1 f2 f3 f4 f5 f6 f7 : Field} {v : Value} {d : DataW H} {p : List MemPlace} (hs : P.underlying t = some (.struct #[f0, f1, f2, f3, f4, f5, f6, f7])) (hone : oneCellFields P #[f0, f1, f2, f3, f4, f5, f6, f7] = true) (hC : P.cellsOf t = 8)
    (hv : Value.okWide P w r b0 t v) (h : DataW.Trod enc P w base spare held t v d p) (hz : Sized P t d) :
    ∃ (v0 v1 v2 v3 v4 v5 v6 v7 : Value) (y0 y1 y2 y3 y4 y5 y6 y7 : DataW H × List MemPlace) (n : Nat), v = .agg #[v0, v1, v2, v3, v4, v5, v6, v7] ∧
      DataW.trod enc P w base spare held n f0.type [v0] = some y0 ∧ DataW.trod enc P w base spare held n f1.type [v1] = some y1 ∧ DataW.trod enc P w base spare held n f2.type [v2] = some y2 ∧ DataW.trod enc P w base spare held n f3.type [v3] = some y3 ∧
      DataW.trod enc P w base spare held n f4.type [v4] = some y4 ∧ DataW.trod enc P w base spare held n f5.type [v5] = some y5 ∧ DataW.trod enc P w base spare held n f6.type [v6] = some y6 ∧ DataW.trod enc P w base spare held n f7.type [v7] = some y7 ∧ Sized P f7.type y7.1 := by
  obtain ⟨cs, rfl, hsz⟩ := okWide_struct hs hv
  obtain ⟨l⟩ := cs
  match l, hsz.trans hC with
  | [c0, c1, c2, c3, c4, c5, c6, c7], _ =>
    obtain ⟨fuel, hf⟩ := h
    obtain ⟨xs, n, _, hx, _, hlen, hg⟩ := DataW.trod_struct hs hf
    obtain ⟨o0, k0⟩ := hone_of hone 0 f0 rfl
    obtain ⟨o1, k1⟩ := hone_of hone 1 f1 rfl
    obtain ⟨o2, k2⟩ := hone_of hone 2 f2 rfl
    obtain ⟨o3, k3⟩ := hone_of hone 3 f3 rfl
    obtain ⟨o4, k4⟩ := hone_of hone 4 f4 rfl
    obtain ⟨o5, k5⟩ := hone_of hone 5 f5 rfl
    obtain ⟨o6, k6⟩ := hone_of hone 6 f6 rfl
    obtain ⟨o7, k7⟩ := hone_of hone 7 f7 rfl
    match xs, hlen with
    | [y0, y1, y2, y3, y4, y5, y6, y7], _ =>
      simp only [Prod.mk.injEq] at hx
      rw [hx.1] at hz
      exact ⟨c0, c1, c2, c3, c4, c5, c6, c7, y0, y1, y2, y3, y4, y5, y6, y7, n, rfl, by simpa [Value.cells, o0, k0] using hg 0 f0 rfl, by simpa [Value.cells, o1, k1] using hg 1 f1 rfl, by simpa [Value.cells, o2, k2] using hg 2 f2 rfl, by simpa [Value.cells, o3, k3] using hg 3 f3 rfl, by simpa [Value.cells, o4, k4] using hg 4 f4 rfl, by simpa [Value.cells, o5, k5] using hg 5 f5 rfl, by simpa [Value.cells, o6, k6] using hg 6 f6 rfl, by simpa [Value.cells, o7, k7] using hg 7 f7 rfl, hz.agg hs (j := 7) rfl rfl⟩

theorem str_of (S : ByteArray) : str S.data.toList = S := rfl
/-- The document's entries, opened. -/
theorem ents_of {fuel : Nat} {v : Value} {x : DataW H × List MemPlace}
    (h : DataW.trod enc Tryz.prog w base spare held fuel 26 [v] = some x) (hs : Sized Tryz.prog 26 x.1) : ∃ l : List Ent, RRow (fun _ => False) w v l.length 2 (encL l) ∧ Fits l ∧ l.length * 24 ≤ 140737488351232 := by
  obtain ⟨A, n, c, hv, h1, h2, hz, h3⟩ := open_structs_sized Tryz.underlying26 Tryz.underlying23 (by kernel_rfl) (by kernel_rfl) h hs
  injection hv with hv
  subst hv
  have key : ∀ i, ∃ y : Ent, i < n → y.data.length ≤ maxLen ∧ ∃ b o, A = some ⟨b, o, none⟩ ∧ w.cell? ⟨b, o + i * 2, none⟩ = some (.int .i64 y.ep) ∧ w.cell? ⟨b, o + i * 2 + 1, none⟩ = some (.string (str y.data)) := by
    intro i
    by_cases hi : i < n
    · obtain ⟨a, hA, hf⟩ := h3 i hi
      obtain ⟨v0, y0, m0, c0, t0, s0⟩ := hf 0 _ rfl
      obtain ⟨v1, y1, m1, c1, t1, s1⟩ := hf 1 _ rfl
      obtain ⟨k0, e0, _, b0⟩ := DataW.trod_int Tryz.underlying3 t0
      obtain ⟨k1, e1, _, b1⟩ := DataW.trod_string Tryz.underlying9 t1
      injection e0 with e0
      injection e1 with e1
      subst e0 e1
      have c0' : w.cell? (a.add (i * 2)) = some (.int .i64 k0) := c0
      have c1' : w.cell? (a.add (i * 2 + 1)) = some (.string k1) := c1
      have hsp : a.spot = none := by
        obtain ⟨a', hA', hf'⟩ := h3 0 (by omega)
        rw [hA] at hA'
        injection hA' with hA'
        subst hA'
        obtain ⟨v0, y0, m0, c0, t0, s0⟩ := hf' 0 _ rfl
        have c0 : w.cell? a = some v0 := by have := c0; simpa [Addr.add] using this
        unfold World.cell? at c0
        cases hsp : a.spot with
        | none => rfl
        | some z =>
          exfalso
          rw [hsp] at c0
          revert c0
          split <;> simp
      obtain ⟨b, o, s⟩ := a
      simp only at hsp
      subst hsp
      have ad : ∀ k, (⟨b, o, none⟩ : Addr).add k = ⟨b, o + k, none⟩ := fun k => by
        unfold Addr.add
        split
        · next e => rw [e]; rfl
        · rfl
      rw [ad] at c0' c1'
      exact ⟨⟨k0, k1.data.toList⟩, fun _ => ⟨b1, b, o, hA, c0', c1'⟩⟩
    · exact ⟨⟨0, []⟩, fun h => absurd h hi⟩
  have key2 := fun i => (key i).choose_spec
  have hgl : ∀ i, i < n → ((List.range n).map fun i => (key i).choose)[i]? = some (key i).choose := fun i hi => by
    rw [List.getElem?_map, List.getElem?_range hi]
    rfl
  refine ⟨(List.range n).map fun i => (key i).choose, ⟨encL_length _, A, c, by simp, by simpa using h1, h2, fun j u hu => ?_⟩, fun y hy => ?_, ?_⟩
  · have hj := (List.getElem?_eq_some_iff.1 hu).1
    rw [encL_length] at hj
    simp only [List.length_map, List.length_range] at hj
    have hi : j / 2 < n := by omega
    obtain ⟨_, b, o, hA, c0, c1⟩ := key2 (j / 2) hi
    obtain ⟨e0, e1⟩ := encL_at (hgl (j / 2) hi)
    refine ⟨b, o, hA, id, ?_⟩
    by_cases hp : j % 2 = 0
    · have q0 := (congrArg (fun k => (encL ((List.range n).map fun i => (key i).choose))[k]?) (show j / 2 * 2 = j by omega)).symm.trans e0
      rw [show o + j / 2 * 2 = o + j by omega] at c0
      exact c0.trans (q0.symm.trans hu)
    · have q1 := (congrArg (fun k => (encL ((List.range n).map fun i => (key i).choose))[k]?) (show j / 2 * 2 + 1 = j by omega)).symm.trans e1
      rw [show o + j / 2 * 2 + 1 = o + j by omega] at c1
      exact c1.trans (q1.symm.trans hu)
  · obtain ⟨i, hi, rfl⟩ := List.mem_map.1 hy
    exact (key2 i (List.mem_range.1 hi)).1
  · rw [show Tryz.prog.bytesOf 23 = 24 from by kernel_rfl] at hz
    simp only [List.length_map, List.length_range]
    unfold reachBytes at hz
    omega
end
end Go.Proofs.YtlgoenimjmiapaaGreat

/-! What comes in, opened: bytes, a note. -/
set_option linter.unusedVariables false
set_option linter.unusedSimpArgs false
namespace Go.Proofs.YtlgoenimjmiapaaGreat
open Go.ChangeShapes Go.WideShapes Go.ChangeAt Go.RowKit Go.Deep Go.Joins

section
variable {H : Type} {enc : TypeId × Value → H} {P : Program} {w : World} {base : Nat} {spare : Nat → Bool} {held : Bool}
theorem wf_u8 {n : Int} (h : (Lit.int .u8 n).wf = true) : 0 ≤ n ∧ n ≤ 255 := by
  simpa [Lit.wf, IntKind.min, IntKind.max, IntKind.signed, IntKind.bits] using h

theorem bytes_of {L : List Int} (h : ∀ n ∈ L, (Lit.int .u8 n).wf = true) : L.map (Value.int .u8) = bytes (L.map fun n => UInt8.ofNat n.toNat) := by
  unfold bytes
  rw [List.map_map]
  refine List.map_congr_left fun n hn => ?_
  have := wf_u8 (h n hn)
  simp only [Function.comp_apply]
  rw [UInt8.toNat_ofNat']
  congr 1
  omega
theorem open_numbers_sized {t e : TypeId} {k : IntKind} {fuel : Nat} {v : Value} {x : DataW H × List MemPlace} (ht : P.underlying t = some (.slice e)) (he : P.underlying e = some (.int k)) (hc : P.cellsOf e = 1)
    (h : DataW.trod enc P w base spare held fuel t [v] = some x) (hs : Sized P t x.1) : ∃ L : List Int, Row Zone.no w v (L.map (Value.int k)) ∧ (∀ n ∈ L, (Lit.int k n).wf = true) ∧ L.length * P.bytesOf e ≤ reachBytes := by
  rcases open_ints ht he hc h with ⟨hv, _⟩ | ⟨a, l, c, zs, hv, _, hl, hm, hz, hx, hcell, hwz⟩
  · injection hv with hv
    subst hv
    exact ⟨[], ⟨none, 0, rfl, Nat.zero_le _, Nat.zero_le _, by simp⟩, by simp, by simp⟩
  · injection hv with hv
    subst hv
    have hle : l ≤ zs.length := by rw [hz]; split <;> omega
    refine ⟨zs.take l, ⟨some a, c, by simp; omega, by simp; omega, hm, fun j u hu => ⟨a, rfl, id, ?_⟩⟩, fun n hn => hwz n (List.mem_of_mem_take hn), ?_⟩
    · rw [List.getElem?_map, List.getElem?_take] at hu
      by_cases hj : j < l
      · rw [if_pos hj, List.getElem?_eq_getElem (by omega)] at hu
        rw [hcell j (by omega), ← hu, List.getD_eq_getElem?_getD, List.getElem?_eq_getElem (by omega)]
        rfl
      · rw [if_neg hj] at hu; cases hu
    · rw [hx] at hs
      have h1 := (hs.slice ht).1
      simp only [lits, List.length_map] at h1
      refine Nat.le_trans (Nat.mul_le_mul_right _ ?_) h1
      rw [List.length_take]
      omega

theorem open_bytes_sized {t e : TypeId} {fuel : Nat} {v : Value} {x : DataW H × List MemPlace} (ht : P.underlying t = some (.slice e)) (he : P.underlying e = some (.int .u8)) (hc : P.cellsOf e = 1) (hb : P.bytesOf e = 1)
    (h : DataW.trod enc P w base spare held fuel t [v] = some x) (hs : Sized P t x.1) : ∃ L : List UInt8, Row Zone.no w v (bytes L) ∧ L.length ≤ 140737488351232 := by
  obtain ⟨L, h1, h2, h3⟩ := open_numbers_sized ht he hc h hs
  rw [hb, Nat.mul_one] at h3
  exact ⟨_, by rw [← bytes_of h2]; exact h1, by rw [List.length_map]; exact h3⟩

theorem open_note {r : Reach} {b0 : Nat} {t : TypeId} {f0 f1 f2 f3 g0 g1 : Field} {v : Value} {d : DataW H} {p : List MemPlace} (hs : P.underlying t = some (.struct #[f0, f1, f2, f3])) (he : P.underlying f3.type = some (.struct #[g0, g1])) (hC : P.cellsOf t = 5)
    (o0 : f0.offset = 0 ∧ P.cellsOf f0.type = 1) (o1 : f1.offset = 1 ∧ P.cellsOf f1.type = 1) (o2 : f2.offset = 2 ∧ P.cellsOf f2.type = 1) (o3 : f3.offset = 3 ∧ P.cellsOf f3.type = 2) (q0 : g0.offset = 0 ∧ P.cellsOf g0.type = 1) (q1 : g1.offset = 1 ∧ P.cellsOf g1.type = 1)
    (hv : Value.okWide P w r b0 t v) (h : DataW.Trod enc P w base spare held t v d p) :
    ∃ (v0 v1 v2 v3 v4 : Value) (y0 y1 y2 y3 y4 : DataW H × List MemPlace) (n m : Nat), v = .agg #[v0, v1, v2, v3, v4] ∧
      DataW.trod enc P w base spare held n f0.type [v0] = some y0 ∧ DataW.trod enc P w base spare held n f1.type [v1] = some y1 ∧ DataW.trod enc P w base spare held n f2.type [v2] = some y2 ∧ DataW.trod enc P w base spare held m g0.type [v3] = some y3 ∧ DataW.trod enc P w base spare held m g1.type [v4] = some y4 := by
  obtain ⟨cs, rfl, hsz⟩ := okWide_struct hs hv
  obtain ⟨l⟩ := cs
  match l, hsz.trans hC with
  | [c0, c1, c2, c3, c4], _ =>
    obtain ⟨fuel, hf⟩ := h
    obtain ⟨xs, n, _, hx, _, hlen, hg⟩ := DataW.trod_struct hs hf
    match xs, hlen with
    | [y0, y1, y2, y3], _ =>
      have t3 : DataW.trod enc P w base spare held n f3.type [c3, c4] = some y3 := by simpa [Value.cells, o3.1, o3.2] using hg 3 f3 rfl
      obtain ⟨zs, n2, _, hz, _, hlen2, hg2⟩ := DataW.trod_struct he t3
      match zs, hlen2 with
      | [z0, z1], _ =>
        exact ⟨c0, c1, c2, c3, c4, y0, y1, y2, z0, z1, n, n2, rfl, by simpa [Value.cells, o0.1, o0.2] using hg 0 f0 rfl, by simpa [Value.cells, o1.1, o1.2] using hg 1 f1 rfl, by simpa [Value.cells, o2.1, o2.2] using hg 2 f2 rfl,
          by simpa [Value.cells, q0.1, q0.2] using hg2 0 g0 rfl, by simpa [Value.cells, q1.1, q1.2] using hg2 1 g1 rfl⟩
set_option maxRecDepth 100000 in
theorem note_of {r : Reach} {b0 : Nat} {v : Value} {d : DataW H} {p : List MemPlace} (hv : Value.okWide Tryz.prog w r b0 25 v) (h : DataW.Trod enc Tryz.prog w base spare held 25 v d p) :
    ∃ (k ep n ee : Int) (S : List UInt8), v = .agg #[.int .i64 k, .int .i64 ep, .int .i64 n, .int .i64 ee, .string (str S)] ∧ S.length ≤ 9223372036854775807 := by
  obtain ⟨c0, c1, c2, c3, c4, y0, y1, y2, y3, y4, n, m, rfl, t0, t1, t2, s0, s1⟩ := open_note Tryz.underlying25 Tryz.underlying23 (by kernel_rfl) ⟨rfl, by kernel_rfl⟩ ⟨rfl, by kernel_rfl⟩ ⟨rfl, by kernel_rfl⟩ ⟨rfl, by kernel_rfl⟩ ⟨rfl, by kernel_rfl⟩ ⟨rfl, by kernel_rfl⟩ hv h
  obtain ⟨a0, e0, _, _⟩ := DataW.trod_int Tryz.underlying3 t0
  obtain ⟨a1, e1, _, _⟩ := DataW.trod_int Tryz.underlying3 t1
  obtain ⟨a2, e2, _, _⟩ := DataW.trod_int Tryz.underlying3 t2
  obtain ⟨a3, e3, _, _⟩ := DataW.trod_int Tryz.underlying3 s0
  obtain ⟨S, e4, _, hS⟩ := DataW.trod_string Tryz.underlying9 s1
  injection e0 with e0
  injection e1 with e1
  injection e2 with e2
  injection e3 with e3
  injection e4 with e4
  subst e0 e1 e2 e3 e4
  exact ⟨a0, a1, a2, a3, S.data.toList, rfl, hS⟩
end
end Go.Proofs.YtlgoenimjmiapaaGreat
