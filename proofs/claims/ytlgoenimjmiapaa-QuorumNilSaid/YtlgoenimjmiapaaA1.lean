import Derived.Test.YtlgoenimjmiapaaA0
import Derived.Deep.RegionLaw
import Derived.Maps.OwnSet
/-! Appending: laws at the builtin, over any program. -/
namespace Go.Proofs.Ytlgoenimjmiapaa
open Go.RowKit

section
variable {P : Program}

/-- What append asks of the element type: one cell, its zero, its bytes. -/
structure Elem (P : Program) (t e : TypeId) (z : Value) (by_ : Nat) : Prop where
  under : P.underlying t = some (.slice e)
  info : ∃ i, P.info? e = some i ∧ i.zero = some z ∧ i.size = 1 ∧ i.bytes = by_
  one : z.cells.size = 1

theorem Elem.mk' {t e : TypeId} {z : Value} {by_ : Nat} (h1 : P.underlying t = some (.slice e)) (h2 : (P.info? e).map (fun i => (i.zero, i.size, i.bytes)) = some (some z, 1, by_)) (h3 : z.cells.size = 1) : Elem P t e z by_ := by
  refine ⟨h1, ?_, h3⟩
  cases hi : P.info? e with
  | none => rw [hi] at h2; cases h2
  | some i =>
    rw [hi] at h2
    simp only [Option.map_some, Option.some.injEq, Prod.mk.injEq] at h2
    exact ⟨i, rfl, h2.1, h2.2.1, h2.2.2⟩

theorem size_zeroCells1 {z : Value} (hz : z.cells.size = 1) (n : Nat) : (Builtin.zeroCells z.cells n).size = n := by rw [size_zeroCells, hz, Nat.mul_one]

theorem append_tight {t e : TypeId} {z : Value} {by_ : Nat} (E : Elem P t e z by_) (w : World) (ty : TypeId) (Z : Zone) (hhi : Z.Top w) (v s : Value) (xs ys : List Value)
    (hv : Row Z w v xs) (hs : Row Zone.no w s ys) (hcap : ∀ A c, v = .slice A xs.length c → c = xs.length)
    (hlen : xs.length + ys.length ≤ maxLen) (hb : (xs.length + ys.length) * by_ ≤ 140737488355328) :
    ∃ v' w', (Builtin.append_ #[t, t] ty #[v, s]).run P w = .ok v' w' ∧ Out Zone.no w w' ∧ Row Z w' v' (xs ++ ys) := by
  obtain ⟨hu, ⟨i, hi1, hz, hsz, hby⟩, hz1⟩ := E
  obtain ⟨A, c, rfl, hlc, hcm, hcx⟩ := hv
  obtain ⟨B, m, rfl, hlm, hmm, hcy⟩ := hs
  obtain rfl := hcap A c rfl
  by_cases h0 : ys = []
  · subst h0
    refine ⟨.slice A xs.length xs.length, w, ?_, Out.refl _ _, A, xs.length, by simp, by simp, hcm, by simpa using hcx⟩
    have hf : ∀ b m, (Builtin.firstCells 1 0 (.slice (some b) 0 m)).run P w = .ok #[] w := fun b m => run_firstCells_some (P := P) w 1 0 b 0 m [] (by simp) (by simp)
    cases B with
    | none => cases A <;> simp [Builtin.append_, run_underlying hu, sizeOf, typeInfo, hi1, Builtin.lenOf, Builtin.firstCells, storeCells]
    | some b => cases A <;> simp [Builtin.append_, run_underlying hu, sizeOf, typeInfo, hi1, hsz, Builtin.lenOf, hf, storeCells]
  · have hpos : 0 < ys.length := List.length_pos_iff.2 h0
    obtain ⟨b, rfl, _, _⟩ := hcy 0 ys[0] (by simp [hpos])
    have hcy' : ∀ j u, ys[j]? = some u → w.cell? (b.add j) = some u := fun j u hu => by
      obtain ⟨a, ha, _, hc⟩ := hcy j u hu
      cases ha; exact hc
    have hnew : ∀ (j : Nat) (u : Value), (xs ++ ys)[j]? = some u → ∀ (g : Nat) (rest : Array Value) (fr : Nat × Nat) (W : World), W.heap[g]? = some (.cells ((xs ++ ys).toArray ++ rest) e fr) → W.cell? ((⟨g, 0, none⟩ : Addr).add j) = some u := by
      intro j u hu g rest fr W hW
      have hj : j < (xs ++ ys).length := (List.getElem?_eq_some_iff.1 hu).1
      rw [show (⟨g, 0, none⟩ : Addr).add j = ⟨g, j, none⟩ from by unfold Addr.add; split <;> simp_all]
      rw [cell_of_row W g j _ _ _ hW, Array.getElem?_append_left (by simpa using hj)]
      simpa using hu
    have hcapm : grownCap w (xs.length + ys.length) xs.length e ≤ maxLen := grownCap_le_maxLen w _ _ e hlen
    have hcapg : xs.length + ys.length ≤ grownCap w (xs.length + ys.length) xs.length e := grownCap_ge w _ _ e
    have hmax : xs.length + ys.length ≤ 9223372036854775807 := by unfold maxLen at hlen; omega
    have hrow : ∀ k, Row Z (w.drew.alloc (.cells ((xs ++ ys).toArray ++ k) e)) (.slice (some ⟨w.heap.size, 0, none⟩) (xs.length + ys.length) (grownCap w (xs.length + ys.length) xs.length e)) (xs ++ ys) := by
      intro k
      refine ⟨some ⟨w.heap.size, 0, none⟩, _, by simp, by simpa using hcapg, hcapm, fun j u hu => ⟨_, rfl, hhi.fresh (Nat.le_refl _), hnew j u hu _ k (0, 0) _ (heap_alloc_new w.drew _)⟩⟩
    cases A with
    | none =>
      have hx0 : xs = [] := by
        cases xs with
        | nil => rfl
        | cons x r => obtain ⟨a, ha, _⟩ := hcx 0 x (by simp); cases ha
      subst hx0
      have hrun := run_append_nil (P := P) w t ty e i z hu hi1 hz b ys.length m ys (by simp [hsz]) hcy' hpos (by simp only [List.length_nil] at hmax; omega) (by simp [hby] at hb ⊢; omega)
      refine ⟨_, _, hrun, (Out.refl Zone.no w).drew.alloc _, ?_⟩
      have := hrow (Builtin.zeroCells z.cells (grownCap w ys.length 0 e - ys.length))
      simpa using this
    | some a =>
      have hcx' : ∀ j u, xs[j]? = some u → w.cell? (a.add j) = some u := fun j u hu => by
        obtain ⟨a', ha, _, hc⟩ := hcx j u hu
        cases ha; exact hc
      have hrun := run_append_grow (P := P) w t ty e i z hu hi1 hz a xs.length xs.length xs (by simp [hsz]) hcx' b ys.length m ys (by simp [hsz]) hcy' (by omega) (by omega) (by
        rw [hby]; exact growslice_fits (by omega) hb)
      refine ⟨_, _, hrun, (Out.refl Zone.no w).drew.alloc _, ?_⟩
      have := hrow (Builtin.zeroCells z.cells (grownCap w (xs.length + ys.length) xs.length e - (xs.length + ys.length)))
      simpa using this

theorem addr_add_add (a : Addr) (i j : Nat) : (a.add i).add j = a.add (i + j) := by
  unfold Addr.add
  by_cases hi : i = 0 <;> by_cases hj : j = 0 <;> simp [hi, hj, Nat.add_assoc]

/-- xs[k:h:m] of one-cell elements. -/
def cut3 (A : Option Addr) (l h m : Nat) : Value := .slice (if m = l then A else A.map (·.add l)) (h - l) (m - l)

theorem run_slice3 {t e : TypeId} {z : Value} {by_ : Nat} (E : Elem P t e z by_) (A : Option Addr) (n c l h m : Nat) (h1 : l ≤ h) (h2 : h ≤ m) (h3 : m ≤ c) (W : World) :
    (Instr.slice t (.slice A n c) (some (.int .i64 (l : Int))) (some (.int .i64 (h : Int))) (some (.int .i64 (m : Int)))).run P W = .ok (cut3 A l h m) W := by
  obtain ⟨hu, ⟨i, hi1, hz, hsz, hby⟩, hz1⟩ := E
  simp [Instr.slice, run_underlying hu, Instr.sliceBounds, Instr.sliceBound, sizeOf, typeInfo, hi1, hsz, cut3, h1, h2, h3, asIntOf]
theorem run_slice_hm {t e : TypeId} {z : Value} {by_ : Nat} (E : Elem P t e z by_) (A : Option Addr) (n c h m : Nat) (h2 : h ≤ m) (h3 : m ≤ c) (W : World) :
    (Instr.slice t (.slice A n c) none (some (.int .i64 (h : Int))) (some (.int .i64 (m : Int)))).run P W = .ok (cut3 A 0 h m) W := by
  obtain ⟨hu, ⟨i, hi1, hz, hsz, hby⟩, hz1⟩ := E
  simp [Instr.slice, run_underlying hu, Instr.sliceBounds, Instr.sliceBound, sizeOf, typeInfo, hi1, cut3, h2, h3, asIntOf]
theorem run_slice_l {t e : TypeId} {z : Value} {by_ : Nat} (E : Elem P t e z by_) (A : Option Addr) (n c l : Nat) (h1 : l ≤ n) (W : World) :
    (Instr.slice t (.slice A n c) (some (.int .i64 (l : Int))) none none).run P W = .ok (cut3 A l n c) W := by
  obtain ⟨hu, ⟨i, hi1, hz, hsz, hby⟩, hz1⟩ := E
  simp [Instr.slice, run_underlying hu, Instr.sliceBounds, Instr.sliceBound, sizeOf, typeInfo, hi1, hsz, cut3, h1, asIntOf]
theorem run_slice_h {t e : TypeId} {z : Value} {by_ : Nat} (E : Elem P t e z by_) (A : Option Addr) (n c h : Nat) (h1 : h ≤ c) (W : World) :
    (Instr.slice t (.slice A n c) none (some (.int .i64 (h : Int))) none).run P W = .ok (cut3 A 0 h c) W := by
  obtain ⟨hu, ⟨i, hi1, hz, hsz, hby⟩, hz1⟩ := E
  simp [Instr.slice, run_underlying hu, Instr.sliceBounds, Instr.sliceBound, sizeOf, typeInfo, hi1, cut3, h1, asIntOf]
theorem run_slice_lh {t e : TypeId} {z : Value} {by_ : Nat} (E : Elem P t e z by_) (A : Option Addr) (n c l h : Nat) (h1 : l ≤ h) (h2 : h ≤ c) (W : World) :
    (Instr.slice t (.slice A n c) (some (.int .i64 (l : Int))) (some (.int .i64 (h : Int))) none).run P W = .ok (cut3 A l h c) W := by
  obtain ⟨hu, ⟨i, hi1, hz, hsz, hby⟩, hz1⟩ := E
  simp [Instr.slice, run_underlying hu, Instr.sliceBounds, Instr.sliceBound, sizeOf, typeInfo, hi1, hsz, cut3, h1, h2, asIntOf]

theorem Row.cut3 {Z : Zone} {w : World} {A : Option Addr} {n c : Nat} {xs : List Value} (h : Row Z w (.slice A n c) xs) {l k m : Nat} (h1 : l ≤ k) (h2 : k ≤ n) (h3 : k ≤ m) (h4 : m ≤ c) :
    Row Z w (cut3 A l k m) ((xs.take k).drop l) := by
  obtain ⟨A', c', hv, g1, g2, g3⟩ := h
  injection hv with e1 e2 e3
  subst e1 e2 e3
  have hlen : ((xs.take k).drop l).length = k - l := by rw [List.length_drop, List.length_take]; omega
  refine ⟨if m = l then A else A.map (·.add l), m - l, by rw [hlen]; rfl, by rw [hlen]; omega, by omega, fun j u hu => ?_⟩
  have hj : j < ((xs.take k).drop l).length := (List.getElem?_eq_some_iff.1 hu).1
  rw [hlen] at hj
  have hu' : xs[l + j]? = some u := by
    rw [List.getElem?_drop, List.getElem?_take] at hu
    rw [if_pos (by omega)] at hu
    exact hu
  obtain ⟨a, ha, hb, hx⟩ := g3 _ u hu'
  refine ⟨a.add l, ?_, by rw [addr_add_block]; exact hb, by rw [addr_add_add]; exact hx⟩
  rw [if_neg (by omega), ha]; rfl

theorem Row.len {Z : Zone} {w : World} {A : Option Addr} {n c : Nat} {xs : List Value} (h : Row Z w (.slice A n c) xs) : xs.length = n ∧ n ≤ c := by
  obtain ⟨A', c', hv, g1, g2, g3⟩ := h
  injection hv with e1 e2 e3
  omega
theorem Row.from_ {Z : Zone} {w : World} {A : Option Addr} {n c : Nat} {xs : List Value} (h : Row Z w (.slice A n c) xs) {k : Nat} (hk : k ≤ n) :
    Row Z w (Ytlgoenimjmiapaa.cut3 A k n c) (xs.drop k) := by
  obtain ⟨h1, h2⟩ := h.len
  have := h.cut3 (k := n) hk (Nat.le_refl _) h2 (Nat.le_refl _)
  rwa [List.take_of_length_le (by omega)] at this

theorem Row.form {Z : Zone} {w : World} {v : Value} {L : List UInt8} (h : Row Z w v (bytes L)) : ∃ A c, v = .slice A L.length c ∧ L.length ≤ c ∧ c ≤ maxLen := by
  obtain ⟨A, c, hv, g1, g2, g3⟩ := h
  rw [length_bytes] at hv g1
  exact ⟨A, c, hv, g1, g2⟩
theorem Row.drop_ {Z : Zone} {w : World} {A : Option Addr} {c : Nat} {L : List UInt8} (h : Row Z w (.slice A L.length c) (bytes L)) {k : Nat} (hk : k ≤ L.length) :
    Row Z w (.slice (if c = k then A else Option.map (fun x => x.add k) A) (L.length - k) (c - k)) (bytes (L.drop k)) := by
  rw [bytes_drop]; exact h.from_ hk

theorem Row.drop_ne {Z : Zone} {w : World} {A : Option Addr} {c : Nat} {L : List UInt8} (h : Row Z w (.slice A L.length c) (bytes L)) {k : Nat} (hk : k ≤ L.length) (hc : ¬ c = k) :
    Row Z w (.slice (Option.map (fun x => x.add k) A) (L.length - k) (c - k)) (bytes (L.drop k)) := by
  have := h.drop_ hk
  rwa [if_neg hc] at this
theorem Row.drop_eq {Z : Zone} {w : World} {A : Option Addr} {c : Nat} {L : List UInt8} (h : Row Z w (.slice A L.length c) (bytes L)) (hk : c ≤ L.length) :
    Row Z w (.slice A (L.length - c) 0) (bytes (L.drop c)) := by
  have := h.drop_ hk
  rwa [if_pos rfl, Nat.sub_self] at this

theorem row_nil_drop {Z : Zone} {w : World} {A : Option Addr} {k : Nat} {L : List UInt8} (hk : L.length ≤ k) : Row Z w (.slice A 0 0) (bytes (L.drop k)) := by
  rw [List.drop_eq_nil_of_le hk]
  exact ⟨A, 0, rfl, Nat.zero_le _, Nat.zero_le _, by simp [bytes]⟩

theorem Row.tight {Z : Zone} {w : World} {A : Option Addr} {n c : Nat} {xs : List Value} (h : Row Z w (.slice A n c) xs) : Row Z w (.slice A n n) xs := by
  obtain ⟨A', c', hv, g1, g2, g3⟩ := h
  injection hv with e1 e2 e3
  subst e1 e2 e3
  exact ⟨A, _, rfl, Nat.le_refl _, Nat.le_trans g1 g2, g3⟩
theorem cap_bytes (L : List UInt8) (A : Option Addr) : ∀ A' c, Value.slice A L.length L.length = .slice A' (bytes L).length c → c = (bytes L).length := by
  intro A' c h
  injection h with _ h1 h
  rw [← h1]; exact h.symm

theorem Row.form0 {Z : Zone} {w : World} {v : Value} {xs : List Value} (h : Row Z w v xs) : ∃ A c, v = .slice A xs.length c ∧ xs.length ≤ c ∧ c ≤ maxLen := by
  obtain ⟨A, c, hv, g1, g2, g3⟩ := h
  exact ⟨A, c, hv, g1, g2⟩

theorem Row.head {Z : Zone} {w : World} {A : Option Addr} {n c : Nat} {xs : List Value} (h : Row Z w (.slice A n c) xs) {k : Nat} (hk : k ≤ n) : Row Z w (.slice A k k) (xs.take k) := by
  obtain ⟨A', c', hv, g1, g2, g3⟩ := h
  injection hv with e1 e2 e3
  subst e1 e2 e3
  have hl : (xs.take k).length = k := by rw [List.length_take]; omega
  refine ⟨A, k, by rw [hl], by omega, by omega, fun j u hu => ?_⟩
  have hj : j < (xs.take k).length := (List.getElem?_eq_some_iff.1 hu).1
  rw [List.getElem?_take, if_pos (by omega)] at hu
  exact g3 j u hu

/-- A builtin's step from its run: in a region that draws. -/
theorem step_builtin {ops : Array Oper} {o : Oper} {a : Act} {w w' : World} {v' : Value} {K : Act → World → Prop} {Q : Exit → Act → World → Prop} {E : Prop}
    (hg : o.guard = none) (s x : Operand) (t : TypeId) (hop : o.op = Op.call { callee := Callee.builtin Builtin.append, args := #[s, x], argTypes := #[t, t] })
    (hrun : (Builtin.append_ #[t, t] o.type #[a.eval s, a.eval x]).run P w = .ok v' w')
    (hK : K (a.put o.dst v') w') : if Region.wanted o (yielded ops a.tmps) = true then Oper.wp P o a w K Q else E := by
  have hw : Region.wanted o (yielded ops a.tmps) = true := by simp [Region.wanted, hg]
  rw [if_pos hw]
  unfold Oper.wp
  simp [execOp, hop, resolve, invoke, builtin, hrun, Result.andThen]
  exact hK

theorem wpList_builtin {ops : Array Oper} {rest : List Oper} {o : Oper} {a : Act} {w w' : World} {v' : Value} {Q : Exit → Act → World → Prop}
    (hg : o.guard = none) (s x : Operand) (t : TypeId) (hop : o.op = Op.call { callee := Callee.builtin Builtin.append, args := #[s, x], argTypes := #[t, t] })
    (hrun : (Builtin.append_ #[t, t] o.type #[a.eval s, a.eval x]).run P w = .ok v' w')
    (hK : wpList P ops Q rest (a.put o.dst v') w') : wpList P ops Q (o :: rest) a w := by
  refine wpList_plain hg fun K hk => ?_
  unfold Oper.wp
  simp [execOp, hop, resolve, invoke, builtin, hrun, Result.andThen]
  exact hk _ _ hK

/-- append onto a slice without room, in a region that draws. -/
theorem step_append_tight {ops : Array Oper} {o : Oper} {a : Act} {w : World} {K : Act → World → Prop} {Q : Exit → Act → World → Prop} {E : Prop}
    (hg : o.guard = none) (s x : Operand) (t : TypeId) (hop : o.op = Op.call { callee := Callee.builtin Builtin.append, args := #[s, x], argTypes := #[t, t] })
    {e : TypeId} {z : Value} {by_ : Nat} (El : Elem P t e z by_) (Z : Zone) (hhi : Z.Top w) (xs ys : List Value)
    (hv : Row Z w (a.eval s) xs) (hs : Row Zone.no w (a.eval x) ys) (hcap : ∀ A c, a.eval s = .slice A xs.length c → c = xs.length)
    (hlen : xs.length + ys.length ≤ maxLen) (hb : (xs.length + ys.length) * by_ ≤ 140737488355328)
    (hK : ∀ v' w', Out Zone.no w w' → Row Z w' v' (xs ++ ys) → K (a.put o.dst v') w') : if Region.wanted o (yielded ops a.tmps) = true then Oper.wp P o a w K Q else E := by
  obtain ⟨v', w', hrun, ho, hr⟩ := append_tight El w o.type Z hhi _ _ xs ys hv hs hcap hlen hb
  exact step_builtin hg s x t hop hrun (hK v' w' ho hr)

/-- .. in a region that does not. -/
theorem wpList_append_tight {ops : Array Oper} {rest : List Oper} {o : Oper} {a : Act} {w : World} {Q : Exit → Act → World → Prop}
    (hg : o.guard = none) (s x : Operand) (t : TypeId) (hop : o.op = Op.call { callee := Callee.builtin Builtin.append, args := #[s, x], argTypes := #[t, t] })
    {e : TypeId} {z : Value} {by_ : Nat} (El : Elem P t e z by_) (Z : Zone) (hhi : Z.Top w) (xs ys : List Value)
    (hv : Row Z w (a.eval s) xs) (hs : Row Zone.no w (a.eval x) ys) (hcap : ∀ A c, a.eval s = .slice A xs.length c → c = xs.length)
    (hlen : xs.length + ys.length ≤ maxLen) (hb : (xs.length + ys.length) * by_ ≤ 140737488355328)
    (hK : ∀ v' w', Out Zone.no w w' → Row Z w' v' (xs ++ ys) → wpList P ops Q rest (a.put o.dst v') w') : wpList P ops Q (o :: rest) a w := by
  obtain ⟨v', w', hrun, ho, hr⟩ := append_tight El w o.type Z hhi _ _ xs ys hv hs hcap hlen hb
  exact wpList_builtin hg s x t hop hrun (hK v' w' ho hr)
end
end Go.Proofs.Ytlgoenimjmiapaa
