import Derived.Test.YtlgoenimjmiapaaT01
import Derived.ProofKit
import Derived.OpenShut
import Derived.ChangeOld
import Derived.ChangeSame
import Derived.Deep.Slices
import Derived.Deep.Fields
import Derived.Lib.SmallJoins
import Derived.SizedLaws
import Derived.Test.YtlgoenimjmiapaaT43
set_option linter.unusedSimpArgs false
set_option linter.unusedVariables false
set_option linter.unusedSectionVars false
/-! What comes in, opened, with the form's own reach: a message. -/
namespace Go.Proofs.Ytlgoenimjmiapaa
open Go.ChangeShapes Go.WideShapes Go.ChangeAt Go.RowKit Go.Deep Go.Joins

/-- No part of a datum is wider than the reach. -/
def Sized {H : Type} (P : Program) (t : TypeId) (d : DataW H) : Prop := ∀ n ∈ d.weights P t, n ≤ reachBytes

section
variable {H : Type} {enc : TypeId × Value → H} {P : Program} {w : World} {base : Nat} {spare : Nat → Bool} {held : Bool}

theorem sized_of {ts : List TypeId} {ds : List (DataW H)} (h : (DataW.weightsEach P ts ds).all (· ≤ reachBytes) = true) {j : Nat} {t : TypeId} {d : DataW H} (ht : ts[j]? = some t) (hd : ds[j]? = some d) : Sized P t d := fun n hn => by
  have := List.all_eq_true.1 h n (DataW.weights_mem_each ht hd n hn)
  simpa using this
theorem weightsAll_mem {e : TypeId} : ∀ {l : List (DataW H)} {d : DataW H}, d ∈ l → ∀ n ∈ d.weights P e, n ∈ DataW.weightsAll P e l
  | d' :: r, d, hd, n, hn => by
    simp only [DataW.weightsAll, List.mem_append]
    rcases List.mem_cons.1 hd with rfl | h
    · exact Or.inl hn
    · exact Or.inr (weightsAll_mem h n hn)
theorem Sized.slice {t e : TypeId} {elems sp : List (DataW H)} (h : Sized P t (.slice elems sp)) (ht : P.underlying t = some (.slice e)) : (elems.length + sp.length) * P.bytesOf e ≤ reachBytes ∧ ∀ d ∈ elems, Sized P e d := by
  refine ⟨h _ (by simp [DataW.weights, ht]), fun d hd n hn => h n ?_⟩
  simp only [DataW.weights, ht, List.mem_cons, List.mem_append]
  exact Or.inr (Or.inl (weightsAll_mem hd n hn))
theorem Sized.agg {t : TypeId} {fs : Array Field} {parts : List (DataW H)} (h : Sized P t (.agg parts)) (ht : P.underlying t = some (.struct fs)) {j : Nat} {f : Field} {d : DataW H} (hj : fs[j]? = some f) (hd : parts[j]? = some d) : Sized P f.type d := fun n hn => h n (by
  simp only [DataW.weights, ht]
  exact DataW.weights_mem_each (j := j) (by simp [List.getElem?_map, hj]) hd n hn)

/-- A slice of structs of one-cell fields. -/
theorem open_structs_sized {t e : TypeId} {fs : Array Field} {fuel : Nat} {cs : List Value} {x : DataW H × List MemPlace} (ht : P.underlying t = some (.slice e)) (he : P.underlying e = some (.struct fs))
    (hone : oneCellFields P fs = true) (hC : P.cellsOf e = fs.size) (h : DataW.trod enc P w base spare held fuel t cs = some x) (hs : Sized P t x.1) :
    ∃ (A : Option Addr) (n c : Nat), cs = [.slice A n c] ∧ n ≤ c ∧ c ≤ maxLen ∧ n * P.bytesOf e ≤ reachBytes ∧ ∀ i, i < n → ∃ a, A = some a ∧
      ∀ (j : Nat) (f : Field), fs[j]? = some f → ∃ (v : Value) (y : DataW H × List MemPlace) (m : Nat), w.cell? (a.add (i * fs.size + j)) = some v ∧ DataW.trod enc P w base spare held m f.type [v] = some y ∧ Sized P f.type y.1 := by
  rcases open_slice ht h with ⟨rfl, _⟩ | ⟨a, len, cap, m, n, D, Pl, hcs, hb, hl, hm, hmm, hx, hi⟩
  · exact ⟨none, 0, 0, rfl, Nat.le_refl _, Nat.zero_le _, by simp, fun i hi => by omega⟩
  · rw [hx] at hs
    obtain ⟨hs1, hs2⟩ := hs.slice ht
    refine ⟨some a, len, cap, hcs, hl, hm, ?_, fun i him => ⟨a, rfl, ?_⟩⟩
    · simp only [List.length_map, List.length_range] at hs1
      exact Nat.le_trans (Nat.mul_le_mul_right _ (by omega)) hs1
    obtain ⟨cs', hc, ht'⟩ := hi i (by rw [hmm]; split <;> omega)
    rw [hC] at hc
    obtain ⟨ys, n', hn', hy, hlen, hyl, hf⟩ := DataW.trod_struct he ht'
    obtain ⟨_, hcl, hat⟩ := World.cells?_some hc
    simp only [Prod.mk.injEq] at hy
    have hsD : Sized P e (D i) := hs2 _ (List.mem_map.2 ⟨i, List.mem_range.2 him, rfl⟩)
    rw [hy.1] at hsD
    intro j f hj
    obtain ⟨ho, hk⟩ := hone_of hone j f hj
    have hjl : j < fs.size := (Array.getElem?_eq_some_iff.1 hj).1
    have hcell := hat j hjl
    have hv : cs'[j]? = some (cs'[j]'(by omega)) := List.getElem?_eq_getElem (by omega)
    have h1 := hf j f hj
    rw [ho, hk] at h1
    have hone' : (cs'.drop j).take 1 = [cs'[j]'(by omega)] := by
      rw [List.drop_eq_getElem_cons (by omega)]
      rfl
    rw [hone'] at h1
    have hys : ys[j]? = some (ys[j]'(by omega)) := List.getElem?_eq_getElem (by omega)
    refine ⟨_, _, _, ?_, h1.trans hys, hsD.agg he hj (by rw [List.getElem?_map, hys]; rfl)⟩
    rw [← Go.Deep.add_add, hcell, hv]

end
end Go.Proofs.Ytlgoenimjmiapaa

/-! Deeds that come in, opened. -/
namespace Go.Proofs.Ytlgoenimjmiapaa
open Go.RowKit Go.Maps Go.ChangeShapes Go.WideShapes Go.ChangeAt

section
variable {H : Type} {enc : TypeId × Value → H} {w : World} {base : Nat} {spare : Nat → Bool} {held : Bool}
theorem spot_none {a : Addr} {v : Value} (h : w.cell? a = some v) : a.spot = none := by
  unfold World.cell? at h
  cases hsp : a.spot with
  | none => rfl
  | some z =>
    exfalso
    rw [hsp] at h
    revert h
    split <;> simp
theorem deeds_of {fuel : Nat} {v : Value} {x : DataW H × List MemPlace}
    (h : DataW.trod enc Try.prog w base spare held fuel 57 [v] = some x) (hs : Sized Try.prog 57 x.1) : ∃ ls, Deeds w v ls ∧ ls.length ≤ 140737488351232 := by
  obtain ⟨A, n, c, hv, h1, h2, hz, h3⟩ := open_structs_sized Try.underlying57 Try.underlying62 (by kernel_rfl) (by kernel_rfl) h hs
  injection hv with hv
  subst hv
  have key : ∀ i, ∃ a : Deed, i < n → a.Ok ∧ ∃ b o, A = some ⟨b, o, none⟩ ∧ w.cell? ⟨b, o + i * 5, none⟩ = some (.int .i64 a.kind) ∧ w.cell? ⟨b, o + i * 5 + 1, none⟩ = some (.int .i64 a.i) ∧ w.cell? ⟨b, o + i * 5 + 2, none⟩ = some (.int .i64 a.k) ∧ w.cell? ⟨b, o + i * 5 + 3, none⟩ = some (.int .i64 a.cut) ∧ w.cell? ⟨b, o + i * 5 + 4, none⟩ = some (.bool a.falls) := by
    intro i
    by_cases hi : i < n
    · obtain ⟨a, hA, hf⟩ := h3 i hi
      obtain ⟨v0, y0, m0, c0, t0, s0⟩ := hf 0 _ rfl
      obtain ⟨v1, y1, m1, c1, t1, s1⟩ := hf 1 _ rfl
      obtain ⟨v2, y2, m2, c2, t2, s2⟩ := hf 2 _ rfl
      obtain ⟨v3, y3, m3, c3, t3, s3⟩ := hf 3 _ rfl
      obtain ⟨v4, y4, m4, c4, t4, s4⟩ := hf 4 _ rfl
      obtain ⟨k0, e0, _, b0⟩ := DataW.trod_int Try.underlying3 t0
      obtain ⟨k1, e1, _, b1⟩ := DataW.trod_int Try.underlying3 t1
      obtain ⟨k2, e2, _, b2⟩ := DataW.trod_int Try.underlying3 t2
      obtain ⟨k3, e3, _, b3⟩ := DataW.trod_int Try.underlying3 t3
      obtain ⟨k4, e4, _⟩ := DataW.trod_bool Try.underlying4 t4
      injection e0 with e0
      injection e1 with e1
      injection e2 with e2
      injection e3 with e3
      injection e4 with e4
      subst e0 e1 e2 e3 e4
      have c0' : w.cell? (a.add (i * 5)) = some (.int .i64 k0) := c0
      have c1' : w.cell? (a.add (i * 5 + 1)) = some (.int .i64 k1) := c1
      have c2' : w.cell? (a.add (i * 5 + 2)) = some (.int .i64 k2) := c2
      have c3' : w.cell? (a.add (i * 5 + 3)) = some (.int .i64 k3) := c3
      have c4' : w.cell? (a.add (i * 5 + 4)) = some (.bool k4) := c4
      have hsp : a.spot = none := by
        obtain ⟨a', hA', hf'⟩ := h3 0 (by omega)
        rw [hA] at hA'
        injection hA' with hA'
        subst hA'
        obtain ⟨v0, y0, m0, c0, t0, s0⟩ := hf' 0 _ rfl
        have c0 : w.cell? a = some v0 := by have := c0; simpa [Addr.add] using this
        exact spot_none c0
      obtain ⟨b, o, s⟩ := a
      simp only at hsp
      subst hsp
      have ad : ∀ k, (⟨b, o, none⟩ : Addr).add k = ⟨b, o + k, none⟩ := fun k => by
        unfold Addr.add
        split
        · next e => rw [e]; rfl
        · rfl
      rw [ad] at c0' c1' c2' c3' c4'
      rw [← Nat.add_assoc] at c1' c2' c3' c4'
      have bb : -9223372036854775808 ≤ k3 ∧ k3 ≤ 9223372036854775807 := (by have h := b3; unfold Lit.wf at h; simp at h; exact h)
      exact ⟨⟨k0, k1, k2, k3, k4⟩, fun _ => ⟨bb, b, o, hA, c0', c1', c2', c3', c4'⟩⟩
    · exact ⟨⟨0, 0, 0, 0, false⟩, fun h => absurd h hi⟩
  have key2 := fun i => (key i).choose_spec
  refine ⟨(List.range n).map fun i => (key i).choose, ⟨A, c, by simp, fun i o ho => ?_⟩, ?_⟩
  · rw [List.getElem?_map] at ho
    by_cases hi : i < n
    · rw [List.getElem?_range hi] at ho
      injection ho with ho
      subst ho
      exact key2 i hi
    · rw [List.getElem?_eq_none (by simpa using hi)] at ho
      cases ho
  · rw [show Try.prog.bytesOf 62 = 40 from by kernel_rfl] at hz
    simp only [List.length_map, List.length_range]
    unfold reachBytes at hz
    omega
end
end Go.Proofs.Ytlgoenimjmiapaa
