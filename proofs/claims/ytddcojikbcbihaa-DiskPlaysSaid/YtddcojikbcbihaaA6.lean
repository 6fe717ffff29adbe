import Derived.Test.YtddcojikbcbihaaA5
import Derived.SizedLaws
/-! What comes in, opened, with the form's own reach. -/
set_option linter.unusedVariables false
namespace Go.Proofs.Ytddcojikbcbihaa
open Go.ChangeShapes Go.WideShapes Go.ChangeAt Go.RowKit Go.Deep Go.Joins

/-- No part of a datum is wider than the reach. -/
def Sized {H : Type} (P : Program) (t : TypeId) (d : DataW H) : Prop := ∀ n ∈ d.weights P t, n ≤ reachBytes

section
variable {H : Type} {enc : TypeId × Value → H} {P : Program} {w : World} {base : Nat} {spare : Nat → Bool} {held : Bool}

theorem sized_of {ts : List TypeId} {ds : List (DataW H)} (h : (DataW.weightsEach P ts ds).all (· ≤ reachBytes) = true) {j : Nat} {t : TypeId} {d : DataW H} (ht : ts[j]? = some t) (hd : ds[j]? = some d) : Sized P t d := fun n hn => by
  have := List.all_eq_true.1 h n (DataW.weights_mem_each ht hd n hn)
  simpa using this

theorem weightsAll_mem {e : TypeId} : ∀ {l : List (DataW H)} {d : DataW H}, d ∈ l → ∀ n ∈ d.weights P e, n ∈ DataW.weightsAll P e l
  | d' :: r, d, hd, n, hn => by
    simp only [DataW.weightsAll, List.mem_append]
    rcases List.mem_cons.1 hd with rfl | h
    · exact Or.inl hn
    · exact Or.inr (weightsAll_mem h n hn)

theorem Sized.slice {t e : TypeId} {elems sp : List (DataW H)} (h : Sized P t (.slice elems sp)) (ht : P.underlying t = some (.slice e)) : (elems.length + sp.length) * P.bytesOf e ≤ reachBytes ∧ ∀ d ∈ elems, Sized P e d := by
  refine ⟨h _ (by simp [DataW.weights, ht]), fun d hd n hn => h n ?_⟩
  simp only [DataW.weights, ht, List.mem_cons, List.mem_append]
  exact Or.inr (Or.inl (weightsAll_mem hd n hn))
theorem Sized.agg {t : TypeId} {fs : Array Field} {parts : List (DataW H)} (h : Sized P t (.agg parts)) (ht : P.underlying t = some (.struct fs)) {j : Nat} {f : Field} {d : DataW H} (hj : fs[j]? = some f) (hd : parts[j]? = some d) : Sized P f.type d := fun n hn => h n (by
  simp only [DataW.weights, ht]
  exact DataW.weights_mem_each (j := j) (by simp [List.getElem?_map, hj]) hd n hn)

theorem open_numbers_sized {t e : TypeId} {k : IntKind} {fuel : Nat} {v : Value} {x : DataW H × List MemPlace} (ht : P.underlying t = some (.slice e)) (he : P.underlying e = some (.int k)) (hc : P.cellsOf e = 1)
    (h : DataW.trod enc P w base spare held fuel t [v] = some x) (hs : Sized P t x.1) : ∃ L : List Int, Row Zone.no w v (L.map (Value.int k)) ∧ (∀ n ∈ L, (Lit.int k n).wf = true) ∧ L.length * P.bytesOf e ≤ reachBytes := by
  rcases open_ints ht he hc h with ⟨hv, _⟩ | ⟨a, l, c, zs, hv, _, hl, hm, hz, hx, hcell, hwz⟩
  · injection hv with hv
    subst hv
    exact ⟨[], ⟨none, 0, rfl, Nat.zero_le _, Nat.zero_le _, by simp⟩, by simp, by simp⟩
  · injection hv with hv
    subst hv
    have hle : l ≤ zs.length := by rw [hz]; split <;> omega
    refine ⟨zs.take l, ⟨some a, c, by simp; omega, by simp; omega, hm, fun j u hu => ⟨a, rfl, id, ?_⟩⟩, fun n hn => hwz n (List.mem_of_mem_take hn), ?_⟩
    · rw [List.getElem?_map, List.getElem?_take] at hu
      by_cases hj : j < l
      · rw [if_pos hj, List.getElem?_eq_getElem (by omega)] at hu
        rw [hcell j (by omega), ← hu, List.getD_eq_getElem?_getD, List.getElem?_eq_getElem (by omega)]
        rfl
      · rw [if_neg hj] at hu; cases hu
    · rw [hx] at hs
      have h1 := (hs.slice ht).1
      simp only [lits, List.length_map] at h1
      refine Nat.le_trans (Nat.mul_le_mul_right _ ?_) h1
      rw [List.length_take]
      omega

theorem open_bytes_sized {t e : TypeId} {fuel : Nat} {v : Value} {x : DataW H × List MemPlace} (ht : P.underlying t = some (.slice e)) (he : P.underlying e = some (.int .u8)) (hc : P.cellsOf e = 1) (hb : P.bytesOf e = 1)
    (h : DataW.trod enc P w base spare held fuel t [v] = some x) (hs : Sized P t x.1) : ∃ L : List UInt8, Row Zone.no w v (bytes L) ∧ L.length ≤ 140737488351232 := by
  obtain ⟨L, h1, h2, h3⟩ := open_numbers_sized ht he hc h hs
  rw [hb, Nat.mul_one] at h3
  exact ⟨_, by rw [← bytes_of h2]; exact h1, by rw [List.length_map]; exact h3⟩

theorem open_i64s_sized {t e : TypeId} {fuel : Nat} {v : Value} {x : DataW H × List MemPlace} (ht : P.underlying t = some (.slice e)) (he : P.underlying e = some (.int .i64)) (hc : P.cellsOf e = 1) (hb : P.bytesOf e = 8)
    (h : DataW.trod enc P w base spare held fuel t [v] = some x) (hs : Sized P t x.1) : ∃ L : List Int, Row Zone.no w v (L.map (Value.int .i64)) ∧ (∀ n ∈ L, -9223372036854775808 ≤ n ∧ n ≤ 9223372036854775807) ∧ L.length * 8 ≤ 140737488351232 := by
  obtain ⟨L, h1, h2, h3⟩ := open_numbers_sized ht he hc h hs
  rw [hb] at h3
  exact ⟨L, h1, fun n hn => int_bounds (h2 n hn), h3⟩

/-- A slice of structs of one-cell fields. -/
theorem open_structs_sized {t e : TypeId} {fs : Array Field} {fuel : Nat} {cs : List Value} {x : DataW H × List MemPlace} (ht : P.underlying t = some (.slice e)) (he : P.underlying e = some (.struct fs))
    (hone : oneCellFields P fs = true) (hC : P.cellsOf e = fs.size) (h : DataW.trod enc P w base spare held fuel t cs = some x) (hs : Sized P t x.1) :
    ∃ (A : Option Addr) (n c : Nat), cs = [.slice A n c] ∧ n ≤ c ∧ c ≤ maxLen ∧ n * P.bytesOf e ≤ reachBytes ∧ ∀ i, i < n → ∃ a, A = some a ∧
      ∀ (j : Nat) (f : Field), fs[j]? = some f → ∃ (v : Value) (y : DataW H × List MemPlace) (m : Nat), w.cell? (a.add (i * fs.size + j)) = some v ∧ DataW.trod enc P w base spare held m f.type [v] = some y ∧ Sized P f.type y.1 := by
  rcases open_slice ht h with ⟨rfl, _⟩ | ⟨a, len, cap, m, n, D, Pl, hcs, hb, hl, hm, hmm, hx, hi⟩
  · exact ⟨none, 0, 0, rfl, Nat.le_refl _, Nat.zero_le _, by simp, fun i hi => by omega⟩
  · rw [hx] at hs
    obtain ⟨hs1, hs2⟩ := hs.slice ht
    refine ⟨some a, len, cap, hcs, hl, hm, ?_, fun i him => ⟨a, rfl, ?_⟩⟩
    · simp only [List.length_map, List.length_range] at hs1
      exact Nat.le_trans (Nat.mul_le_mul_right _ (by omega)) hs1
    obtain ⟨cs', hc, ht'⟩ := hi i (by rw [hmm]; split <;> omega)
    rw [hC] at hc
    obtain ⟨ys, n', hn', hy, hlen, hyl, hf⟩ := DataW.trod_struct he ht'
    obtain ⟨_, hcl, hat⟩ := World.cells?_some hc
    simp only [Prod.mk.injEq] at hy
    have hsD : Sized P e (D i) := hs2 _ (List.mem_map.2 ⟨i, List.mem_range.2 him, rfl⟩)
    rw [hy.1] at hsD
    intro j f hj
    obtain ⟨ho, hk⟩ := hone_of hone j f hj
    have hjl : j < fs.size := (Array.getElem?_eq_some_iff.1 hj).1
    have hcell := hat j hjl
    have hv : cs'[j]? = some (cs'[j]'(by omega)) := List.getElem?_eq_getElem (by omega)
    have h1 := hf j f hj
    rw [ho, hk] at h1
    have hone' : (cs'.drop j).take 1 = [cs'[j]'(by omega)] := by
      rw [List.drop_eq_getElem_cons (by omega)]
      rfl
    rw [hone'] at h1
    have hys : ys[j]? = some (ys[j]'(by omega)) := List.getElem?_eq_getElem (by omega)
    refine ⟨_, _, _, ?_, h1.trans hys, hsD.agg he hj (by rw [List.getElem?_map, hys]; rfl)⟩
    rw [← Go.Deep.add_add, hcell, hv]
end
end Go.Proofs.Ytddcojikbcbihaa
