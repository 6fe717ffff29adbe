import Derived.WalkKit
import Derived.Deep.Draws
import Derived.Lib.Hide
import Derived.Deep.RegionLaw
import Derived.Maps.OwnSet
import Derived.Laws.BytesString
import Derived.Laws.BytesArg
set_option linter.unusedSimpArgs false
set_option linter.unusedVariables false
set_option linter.unusedSectionVars false
/-! General words of this seat's proofs: frames and rows of cells. -/
namespace Go.Proofs.YtlgoenimjmiapaaGreat
open Go.RowKit

/-- Blocks: S, an object's own, that its calls may turn; T, those that no row of what it holds lies in. -/
structure Zone where
  S : Nat → Prop
  T : Nat → Prop
  sub : ∀ k, S k → T k
/-- No block at all. -/
def Zone.no : Zone := ⟨fun _ => False, fun _ => False, fun _ h => h⟩
/-- The blocks lo ≤ k < hi. -/
def Zone.of (lo hi : Nat) : Zone := ⟨fun k => lo ≤ k ∧ k < hi, fun k => lo ≤ k ∧ k < hi, fun _ h => h⟩
/-- All of them are there. -/
def Zone.Top (Z : Zone) (w : World) : Prop := ∀ k, Z.T k → k < w.heap.size
theorem Zone.Top.fresh {Z : Zone} {w : World} (h : Z.Top w) {k : Nat} (hk : w.heap.size ≤ k) : ¬ Z.T k := fun ht => by have := h k ht; omega
theorem Zone.Top.lt {Z : Zone} {w : World} (h : Z.Top w) {k : Nat} (hk : Z.S k) : k < w.heap.size := h k (Z.sub k hk)
theorem Zone.Top.mono {Z : Zone} {w w' : World} (h : Z.Top w) (hs : w.heap.size ≤ w'.heap.size) : Z.Top w' := fun k hk => Nat.lt_of_lt_of_le (h k hk) hs
theorem Zone.top_no (w : World) : Zone.no.Top w := fun _ h => h.elim

/-- Outside the zone's own blocks nothing that was there has turned. -/
structure Out (Z : Zone) (w w' : World) : Prop where
  os : w'.os = w.os
  tape : w'.tape = w.tape
  output : w'.output = w.output
  size : w.heap.size ≤ w'.heap.size
  block : ∀ k, k < w.heap.size → ¬ Z.S k → w'.heap[k]? = w.heap[k]?

section
variable {Z Z' : Zone} {a b w w' : World}
theorem Out.refl (Z : Zone) (w : World) : Out Z w w := ⟨rfl, rfl, rfl, Nat.le_refl _, fun _ _ _ => rfl⟩
theorem Out.trans {c : World} (h : Out Z a b) (k : Out Z b c) : Out Z a c :=
  ⟨k.os.trans h.os, k.tape.trans h.tape, k.output.trans h.output, Nat.le_trans h.size k.size, fun i hi ho => (k.block i (Nat.lt_of_lt_of_le hi h.size) ho).trans (h.block i hi ho)⟩
theorem Out.mono (h : Out Z w w') (hs : ∀ k, Z.S k → Z'.S k) : Out Z' w w' :=
  ⟨h.os, h.tape, h.output, h.size, fun k hk ho => h.block k hk (fun e => ho (hs k e))⟩
theorem Out.mono0 (h : Out Zone.no w w') : Out Z' w w' :=
  ⟨h.os, h.tape, h.output, h.size, fun k hk _ => h.block k hk id⟩
theorem Out.below (h : Below w.heap.size w w') : Out Z w w' := ⟨h.os, h.tape, h.output, h.size, fun k hk _ => h.block k hk⟩
theorem Out.drew (h : Out Z a w) : Out Z a w.drew := ⟨h.os, h.tape, h.output, h.size, h.block⟩
theorem Out.drewN (h : Out Z a w) (n : Nat) : Out Z a (w.drewN n) := ⟨h.os, h.tape, h.output, h.size, h.block⟩
theorem Out.undrewN {n : Nat} (h : Out Z (a.drewN n) w) : Out Z a w := ⟨h.os, h.tape, h.output, h.size, h.block⟩
theorem Out.undrew (h : Out Z a.drew w) : Out Z a w := ⟨h.os, h.tape, h.output, h.size, h.block⟩
theorem Out.alloc (h : Out Z a w) (o : Obj) : Out Z a (w.alloc o) :=
  ⟨h.os, h.tape, h.output, Nat.le_trans h.size (by simp), fun i hi ho => (Below.heap_alloc w o i (Nat.lt_of_lt_of_le hi h.size)).trans (h.block i hi ho)⟩
theorem Out.setCell (h : Out Z a w) {p : Addr} (hp : Z.S p.block ∨ a.heap.size ≤ p.block) (u : Value) : Out Z a (w.setCell p u) :=
  ⟨h.os, h.tape, h.output, by simpa [World.setCell] using h.size, fun i hi ho => (Below.heap_setCell w p u i (fun e => by
    subst e
    rcases hp with hp | hp
    · exact ho hp
    · omega)).trans (h.block i hi ho)⟩
theorem Out.grown {row : Option Nat} (h : Out Z a w) (hg : w.grownBy w' row) (hr : ∀ k, row = some k → Z.S k ∨ a.heap.size ≤ k) : Out Z a w' :=
  ⟨hg.os.trans h.os, hg.tape.trans h.tape, hg.output.trans h.output, Nat.le_trans h.size hg.size, fun k hk ho =>
    (hg.block k (Nat.lt_of_lt_of_le hk h.size) (fun e => by
      rcases hr k e.symm with hr | hr
      · exact ho hr
      · omega)).trans (h.block k hk ho)⟩
theorem Out.get (h : Out Z w w') {k : Nat} {x : Obj} (hx : w.heap[k]? = some x) (ho : ¬ Z.S k) : w'.heap[k]? = some x :=
  (h.block k (by
    rcases Nat.lt_or_ge k w.heap.size with hlt | hge
    · exact hlt
    · rw [Array.getElem?_eq_none hge] at hx; cases hx) ho).trans hx
theorem Out.cell (h : Out Z w w') {p : Addr} {v : Value} (hx : w.cell? p = some v) (ho : ¬ Z.S p.block) : w'.cell? p = some v := by
  have hlt : p.block < w.heap.size := by
    rcases Nat.lt_or_ge p.block w.heap.size with hlt | hge
    · exact hlt
    · simp [World.cell?, Array.getElem?_eq_none hge] at hx
  rw [← hx]
  exact World.cell?_of_block (w := w) (h.block p.block hlt ho)
end

theorem heap_lt {w : World} {k : Nat} {x : Obj} (hx : w.heap[k]? = some x) : k < w.heap.size := by
  rcases Nat.lt_or_ge k w.heap.size with hlt | hge
  · exact hlt
  · rw [Array.getElem?_eq_none hge] at hx; cases hx

theorem heap_set {w : World} {g : Nat} {t : TypeId} {cs : Array Value} (h : w.heap[g]? = some (.cells cs t (0, 0))) (i : Nat) (u : Value) :
    (w.setCell ⟨g, i, none⟩ u).heap[g]? = some (.cells (cs.setIfInBounds i u) t (0, 0)) := by
  simp [World.setCell, Array.getElem?_modify, h]
theorem heap_far {w : World} {g : Nat} {x : Obj} (h : w.heap[g]? = some x) {p : Addr} (hp : g ≠ p.block) (u : Value) :
    (w.setCell p u).heap[g]? = some x := (Below.heap_setCell w p u g hp).trans h
theorem heap_alloc' {w : World} {g : Nat} {x : Obj} (h : w.heap[g]? = some x) (o : Obj) : (w.alloc o).heap[g]? = some x :=
  (Below.heap_alloc w o g (heap_lt h)).trans h

theorem cells_all {w : World} {g : Nat} {t : TypeId} {cs : Array Value} (h : w.heap[g]? = some (.cells cs t (0, 0))) (i : Nat) : w.cell? ⟨g, i, none⟩ = cs[i]? := cell_of_row w g i cs t (0, 0) h
theorem frozen_all {w : World} {g : Nat} {t : TypeId} {cs : Array Value} (h : w.heap[g]? = some (.cells cs t (0, 0))) (i : Nat) : w.frozen? ⟨g, i, none⟩ = false := by
  simp [World.frozen?, h]

theorem only_setCell (w : World) (p : Addr) (u : Value) : w.grownBy (w.setCell p u) (some p.block) :=
  ⟨rfl, rfl, rfl, by simp [World.setCell], fun i _ hne => Below.heap_setCell w p u i (fun e => hne (by rw [e]))⟩

/-- A slice value that reads as the cells xs, none of them in a block that the zone bars. -/
def Row (Z : Zone) (w : World) (v : Value) (xs : List Value) : Prop :=
  ∃ A c, v = .slice A xs.length c ∧ xs.length ≤ c ∧ c ≤ maxLen ∧ ∀ j u, xs[j]? = some u → ∃ a, A = some a ∧ ¬ Z.T a.block ∧ w.cell? (a.add j) = some u

theorem addr_add_block (a : Addr) (n : Nat) : (a.add n).block = a.block := by unfold Addr.add; split <;> rfl

theorem Row.out {Z : Zone} {w w' : World} {v : Value} {xs : List Value} (h : Row Z w v xs) (ho : Out Z w w') : Row Z w' v xs := by
  obtain ⟨A, c, hv, h1, h2, hc⟩ := h
  refine ⟨A, c, hv, h1, h2, fun j u hu => ?_⟩
  obtain ⟨a, ha, hb, hx⟩ := hc j u hu
  exact ⟨a, ha, hb, ho.cell hx (by rw [addr_add_block]; exact fun e => hb (Z.sub _ e))⟩

/-- A row that lies outside what has turned. -/
theorem Row.far {Z Z' : Zone} {w w' : World} {v : Value} {xs : List Value} (h : Row Z w v xs) (ho : Out Z' w w') (hs : ∀ k, Z'.S k → Z.T k) : Row Z w' v xs := by
  obtain ⟨A, c, hv, h1, h2, hc⟩ := h
  refine ⟨A, c, hv, h1, h2, fun j u hu => ?_⟩
  obtain ⟨a, ha, hb, hx⟩ := hc j u hu
  exact ⟨a, ha, hb, ho.cell hx (by rw [addr_add_block]; exact fun e => hb (hs _ e))⟩

theorem Row.drewN {Z : Zone} {w : World} {v : Value} {xs : List Value} (h : Row Z w v xs) (n : Nat) : Row Z (w.drewN n) v xs := h
theorem Row.any {Z : Zone} {w : World} {v : Value} {xs : List Value} (h : Row Z w v xs) : Row Zone.no w v xs := by
  obtain ⟨A, c, hv, h1, h2, hc⟩ := h
  refine ⟨A, c, hv, h1, h2, fun j u hu => ?_⟩
  obtain ⟨a, ha, _, hx⟩ := hc j u hu
  exact ⟨a, ha, id, hx⟩

theorem cap_self {n : Nat} (a : Option Addr) : ∀ A c, Value.slice a n n = .slice A n c → c = n := by
  intro A c h
  injection h with _ _ h
  exact h.symm

theorem le_maxLen {n : Nat} (h : n ≤ 140737488355328) : n ≤ maxLen := by
  unfold maxLen
  omega

/-- Bytes as cells. -/
def bytes (L : List UInt8) : List Value := L.map fun b => .int .u8 b.toNat
theorem bytes_drop (L : List UInt8) (k : Nat) : bytes (L.drop k) = (bytes L).drop k := by simp [bytes, List.map_drop]
theorem bytes_take (L : List UInt8) (k : Nat) : bytes (L.take k) = (bytes L).take k := by simp [bytes, List.map_take]
theorem bytes_append (L M : List UInt8) : bytes (L ++ M) = bytes L ++ bytes M := by simp [bytes]
@[simp] theorem length_bytes (L : List UInt8) : (bytes L).length = L.length := by simp [bytes]

end Go.Proofs.YtlgoenimjmiapaaGreat

/-! Appending: laws at the builtin, over any program. -/
namespace Go.Proofs.YtlgoenimjmiapaaGreat
open Go.RowKit

section
variable {P : Program}

/-- What append asks of the element type: one cell, its zero, its bytes. -/
structure Elem (P : Program) (t e : TypeId) (z : Value) (by_ : Nat) : Prop where
  under : P.underlying t = some (.slice e)
  info : ∃ i, P.info? e = some i ∧ i.zero = some z ∧ i.size = 1 ∧ i.bytes = by_
  one : z.cells.size = 1

theorem Elem.mk' {t e : TypeId} {z : Value} {by_ : Nat} (h1 : P.underlying t = some (.slice e)) (h2 : (P.info? e).map (fun i => (i.zero, i.size, i.bytes)) = some (some z, 1, by_)) (h3 : z.cells.size = 1) : Elem P t e z by_ := by
  refine ⟨h1, ?_, h3⟩
  cases hi : P.info? e with
  | none => rw [hi] at h2; cases h2
  | some i =>
    rw [hi] at h2
    simp only [Option.map_some, Option.some.injEq, Prod.mk.injEq] at h2
    exact ⟨i, rfl, h2.1, h2.2.1, h2.2.2⟩

theorem size_zeroCells1 {z : Value} (hz : z.cells.size = 1) (n : Nat) : (Builtin.zeroCells z.cells n).size = n := by rw [size_zeroCells, hz, Nat.mul_one]

theorem append_tight {t e : TypeId} {z : Value} {by_ : Nat} (E : Elem P t e z by_) (w : World) (ty : TypeId) (Z : Zone) (hhi : Z.Top w) (v s : Value) (xs ys : List Value)
    (hv : Row Z w v xs) (hs : Row Zone.no w s ys) (hcap : ∀ A c, v = .slice A xs.length c → c = xs.length)
    (hlen : xs.length + ys.length ≤ maxLen) (hb : (xs.length + ys.length) * by_ ≤ 140737488355328) :
    ∃ v' w', (Builtin.append_ #[t, t] ty #[v, s]).run P w = .ok v' w' ∧ Out Zone.no w w' ∧ Row Z w' v' (xs ++ ys) := by
  obtain ⟨hu, ⟨i, hi1, hz, hsz, hby⟩, hz1⟩ := E
  obtain ⟨A, c, rfl, hlc, hcm, hcx⟩ := hv
  obtain ⟨B, m, rfl, hlm, hmm, hcy⟩ := hs
  obtain rfl := hcap A c rfl
  by_cases h0 : ys = []
  · subst h0
    refine ⟨.slice A xs.length xs.length, w, ?_, Out.refl _ _, A, xs.length, by simp, by simp, hcm, by simpa using hcx⟩
    have hf : ∀ b m, (Builtin.firstCells 1 0 (.slice (some b) 0 m)).run P w = .ok #[] w := fun b m => run_firstCells_some (P := P) w 1 0 b 0 m [] (by simp) (by simp)
    cases B with
    | none => cases A <;> simp [Builtin.append_, run_underlying hu, sizeOf, typeInfo, hi1, Builtin.lenOf, Builtin.firstCells, storeCells]
    | some b => cases A <;> simp [Builtin.append_, run_underlying hu, sizeOf, typeInfo, hi1, hsz, Builtin.lenOf, hf, storeCells]
  · have hpos : 0 < ys.length := List.length_pos_iff.2 h0
    obtain ⟨b, rfl, _, _⟩ := hcy 0 ys[0] (by simp [hpos])
    have hcy' : ∀ j u, ys[j]? = some u → w.cell? (b.add j) = some u := fun j u hu => by
      obtain ⟨a, ha, _, hc⟩ := hcy j u hu
      cases ha; exact hc
    have hnew : ∀ (j : Nat) (u : Value), (xs ++ ys)[j]? = some u → ∀ (g : Nat) (rest : Array Value) (fr : Nat × Nat) (W : World), W.heap[g]? = some (.cells ((xs ++ ys).toArray ++ rest) e fr) → W.cell? ((⟨g, 0, none⟩ : Addr).add j) = some u := by
      intro j u hu g rest fr W hW
      have hj : j < (xs ++ ys).length := (List.getElem?_eq_some_iff.1 hu).1
      rw [show (⟨g, 0, none⟩ : Addr).add j = ⟨g, j, none⟩ from by unfold Addr.add; split <;> simp_all]
      rw [cell_of_row W g j _ _ _ hW, Array.getElem?_append_left (by simpa using hj)]
      simpa using hu
    have hcapm : grownCap w (xs.length + ys.length) xs.length e ≤ maxLen := grownCap_le_maxLen w _ _ e hlen
    have hcapg : xs.length + ys.length ≤ grownCap w (xs.length + ys.length) xs.length e := grownCap_ge w _ _ e
    have hmax : xs.length + ys.length ≤ 9223372036854775807 := by unfold maxLen at hlen; omega
    have hrow : ∀ k, Row Z (w.drew.alloc (.cells ((xs ++ ys).toArray ++ k) e)) (.slice (some ⟨w.heap.size, 0, none⟩) (xs.length + ys.length) (grownCap w (xs.length + ys.length) xs.length e)) (xs ++ ys) := by
      intro k
      refine ⟨some ⟨w.heap.size, 0, none⟩, _, by simp, by simpa using hcapg, hcapm, fun j u hu => ⟨_, rfl, hhi.fresh (Nat.le_refl _), hnew j u hu _ k (0, 0) _ (heap_alloc_new w.drew _)⟩⟩
    cases A with
    | none =>
      have hx0 : xs = [] := by
        cases xs with
        | nil => rfl
        | cons x r => obtain ⟨a, ha, _⟩ := hcx 0 x (by simp); cases ha
      subst hx0
      have hrun := run_append_nil (P := P) w t ty e i z hu hi1 hz b ys.length m ys (by simp [hsz]) hcy' hpos (by simp only [List.length_nil] at hmax; omega) (by simp [hby] at hb ⊢; omega)
      refine ⟨_, _, hrun, (Out.refl Zone.no w).drew.alloc _, ?_⟩
      have := hrow (Builtin.zeroCells z.cells (grownCap w ys.length 0 e - ys.length))
      simpa using this
    | some a =>
      have hcx' : ∀ j u, xs[j]? = some u → w.cell? (a.add j) = some u := fun j u hu => by
        obtain ⟨a', ha, _, hc⟩ := hcx j u hu
        cases ha; exact hc
      have hrun := run_append_grow (P := P) w t ty e i z hu hi1 hz a xs.length xs.length xs (by simp [hsz]) hcx' b ys.length m ys (by simp [hsz]) hcy' (by omega) (by omega) (by
        rw [hby]; exact growslice_fits (by omega) hb)
      refine ⟨_, _, hrun, (Out.refl Zone.no w).drew.alloc _, ?_⟩
      have := hrow (Builtin.zeroCells z.cells (grownCap w (xs.length + ys.length) xs.length e - (xs.length + ys.length)))
      simpa using this

theorem addr_add_add (a : Addr) (i j : Nat) : (a.add i).add j = a.add (i + j) := by
  unfold Addr.add
  by_cases hi : i = 0 <;> by_cases hj : j = 0 <;> simp [hi, hj, Nat.add_assoc]

/-- xs[k:h:m] of one-cell elements. -/
def cut3 (A : Option Addr) (l h m : Nat) : Value := .slice (if m = l then A else A.map (·.add l)) (h - l) (m - l)

theorem run_slice3 {t e : TypeId} {z : Value} {by_ : Nat} (E : Elem P t e z by_) (A : Option Addr) (n c l h m : Nat) (h1 : l ≤ h) (h2 : h ≤ m) (h3 : m ≤ c) (W : World) :
    (Instr.slice t (.slice A n c) (some (.int .i64 (l : Int))) (some (.int .i64 (h : Int))) (some (.int .i64 (m : Int)))).run P W = .ok (cut3 A l h m) W := by
  obtain ⟨hu, ⟨i, hi1, hz, hsz, hby⟩, hz1⟩ := E
  simp [Instr.slice, run_underlying hu, Instr.sliceBounds, Instr.sliceBound, sizeOf, typeInfo, hi1, hsz, cut3, h1, h2, h3, asIntOf]
theorem run_slice_hm {t e : TypeId} {z : Value} {by_ : Nat} (E : Elem P t e z by_) (A : Option Addr) (n c h m : Nat) (h2 : h ≤ m) (h3 : m ≤ c) (W : World) :
    (Instr.slice t (.slice A n c) none (some (.int .i64 (h : Int))) (some (.int .i64 (m : Int)))).run P W = .ok (cut3 A 0 h m) W := by
  obtain ⟨hu, ⟨i, hi1, hz, hsz, hby⟩, hz1⟩ := E
  simp [Instr.slice, run_underlying hu, Instr.sliceBounds, Instr.sliceBound, sizeOf, typeInfo, hi1, cut3, h2, h3, asIntOf]
theorem run_slice_l {t e : TypeId} {z : Value} {by_ : Nat} (E : Elem P t e z by_) (A : Option Addr) (n c l : Nat) (h1 : l ≤ n) (W : World) :
    (Instr.slice t (.slice A n c) (some (.int .i64 (l : Int))) none none).run P W = .ok (cut3 A l n c) W := by
  obtain ⟨hu, ⟨i, hi1, hz, hsz, hby⟩, hz1⟩ := E
  simp [Instr.slice, run_underlying hu, Instr.sliceBounds, Instr.sliceBound, sizeOf, typeInfo, hi1, hsz, cut3, h1, asIntOf]
theorem run_slice_h {t e : TypeId} {z : Value} {by_ : Nat} (E : Elem P t e z by_) (A : Option Addr) (n c h : Nat) (h1 : h ≤ c) (W : World) :
    (Instr.slice t (.slice A n c) none (some (.int .i64 (h : Int))) none).run P W = .ok (cut3 A 0 h c) W := by
  obtain ⟨hu, ⟨i, hi1, hz, hsz, hby⟩, hz1⟩ := E
  simp [Instr.slice, run_underlying hu, Instr.sliceBounds, Instr.sliceBound, sizeOf, typeInfo, hi1, cut3, h1, asIntOf]
theorem run_slice_lh {t e : TypeId} {z : Value} {by_ : Nat} (E : Elem P t e z by_) (A : Option Addr) (n c l h : Nat) (h1 : l ≤ h) (h2 : h ≤ c) (W : World) :
    (Instr.slice t (.slice A n c) (some (.int .i64 (l : Int))) (some (.int .i64 (h : Int))) none).run P W = .ok (cut3 A l h c) W := by
  obtain ⟨hu, ⟨i, hi1, hz, hsz, hby⟩, hz1⟩ := E
  simp [Instr.slice, run_underlying hu, Instr.sliceBounds, Instr.sliceBound, sizeOf, typeInfo, hi1, hsz, cut3, h1, h2, asIntOf]

theorem Row.cut3 {Z : Zone} {w : World} {A : Option Addr} {n c : Nat} {xs : List Value} (h : Row Z w (.slice A n c) xs) {l k m : Nat} (h1 : l ≤ k) (h2 : k ≤ n) (h3 : k ≤ m) (h4 : m ≤ c) :
    Row Z w (cut3 A l k m) ((xs.take k).drop l) := by
  obtain ⟨A', c', hv, g1, g2, g3⟩ := h
  injection hv with e1 e2 e3
  subst e1 e2 e3
  have hlen : ((xs.take k).drop l).length = k - l := by rw [List.length_drop, List.length_take]; omega
  refine ⟨if m = l then A else A.map (·.add l), m - l, by rw [hlen]; rfl, by rw [hlen]; omega, by omega, fun j u hu => ?_⟩
  have hj : j < ((xs.take k).drop l).length := (List.getElem?_eq_some_iff.1 hu).1
  rw [hlen] at hj
  have hu' : xs[l + j]? = some u := by
    rw [List.getElem?_drop, List.getElem?_take] at hu
    rw [if_pos (by omega)] at hu
    exact hu
  obtain ⟨a, ha, hb, hx⟩ := g3 _ u hu'
  refine ⟨a.add l, ?_, by rw [addr_add_block]; exact hb, by rw [addr_add_add]; exact hx⟩
  rw [if_neg (by omega), ha]; rfl

theorem Row.len {Z : Zone} {w : World} {A : Option Addr} {n c : Nat} {xs : List Value} (h : Row Z w (.slice A n c) xs) : xs.length = n ∧ n ≤ c := by
  obtain ⟨A', c', hv, g1, g2, g3⟩ := h
  injection hv with e1 e2 e3
  omega
theorem Row.from_ {Z : Zone} {w : World} {A : Option Addr} {n c : Nat} {xs : List Value} (h : Row Z w (.slice A n c) xs) {k : Nat} (hk : k ≤ n) :
    Row Z w (YtlgoenimjmiapaaGreat.cut3 A k n c) (xs.drop k) := by
  obtain ⟨h1, h2⟩ := h.len
  have := h.cut3 (k := n) hk (Nat.le_refl _) h2 (Nat.le_refl _)
  rwa [List.take_of_length_le (by omega)] at this

theorem Row.form {Z : Zone} {w : World} {v : Value} {L : List UInt8} (h : Row Z w v (bytes L)) : ∃ A c, v = .slice A L.length c ∧ L.length ≤ c ∧ c ≤ maxLen := by
  obtain ⟨A, c, hv, g1, g2, g3⟩ := h
  rw [length_bytes] at hv g1
  exact ⟨A, c, hv, g1, g2⟩
theorem Row.drop_ {Z : Zone} {w : World} {A : Option Addr} {c : Nat} {L : List UInt8} (h : Row Z w (.slice A L.length c) (bytes L)) {k : Nat} (hk : k ≤ L.length) :
    Row Z w (.slice (if c = k then A else Option.map (fun x => x.add k) A) (L.length - k) (c - k)) (bytes (L.drop k)) := by
  rw [bytes_drop]; exact h.from_ hk

theorem Row.drop_ne {Z : Zone} {w : World} {A : Option Addr} {c : Nat} {L : List UInt8} (h : Row Z w (.slice A L.length c) (bytes L)) {k : Nat} (hk : k ≤ L.length) (hc : ¬ c = k) :
    Row Z w (.slice (Option.map (fun x => x.add k) A) (L.length - k) (c - k)) (bytes (L.drop k)) := by
  have := h.drop_ hk
  rwa [if_neg hc] at this
theorem Row.drop_eq {Z : Zone} {w : World} {A : Option Addr} {c : Nat} {L : List UInt8} (h : Row Z w (.slice A L.length c) (bytes L)) (hk : c ≤ L.length) :
    Row Z w (.slice A (L.length - c) 0) (bytes (L.drop c)) := by
  have := h.drop_ hk
  rwa [if_pos rfl, Nat.sub_self] at this

theorem row_nil_drop {Z : Zone} {w : World} {A : Option Addr} {k : Nat} {L : List UInt8} (hk : L.length ≤ k) : Row Z w (.slice A 0 0) (bytes (L.drop k)) := by
  rw [List.drop_eq_nil_of_le hk]
  exact ⟨A, 0, rfl, Nat.zero_le _, Nat.zero_le _, by simp [bytes]⟩

theorem Row.tight {Z : Zone} {w : World} {A : Option Addr} {n c : Nat} {xs : List Value} (h : Row Z w (.slice A n c) xs) : Row Z w (.slice A n n) xs := by
  obtain ⟨A', c', hv, g1, g2, g3⟩ := h
  injection hv with e1 e2 e3
  subst e1 e2 e3
  exact ⟨A, _, rfl, Nat.le_refl _, Nat.le_trans g1 g2, g3⟩
theorem cap_bytes (L : List UInt8) (A : Option Addr) : ∀ A' c, Value.slice A L.length L.length = .slice A' (bytes L).length c → c = (bytes L).length := by
  intro A' c h
  injection h with _ h1 h
  rw [← h1]; exact h.symm

theorem Row.form0 {Z : Zone} {w : World} {v : Value} {xs : List Value} (h : Row Z w v xs) : ∃ A c, v = .slice A xs.length c ∧ xs.length ≤ c ∧ c ≤ maxLen := by
  obtain ⟨A, c, hv, g1, g2, g3⟩ := h
  exact ⟨A, c, hv, g1, g2⟩

theorem Row.head {Z : Zone} {w : World} {A : Option Addr} {n c : Nat} {xs : List Value} (h : Row Z w (.slice A n c) xs) {k : Nat} (hk : k ≤ n) : Row Z w (.slice A k k) (xs.take k) := by
  obtain ⟨A', c', hv, g1, g2, g3⟩ := h
  injection hv with e1 e2 e3
  subst e1 e2 e3
  have hl : (xs.take k).length = k := by rw [List.length_take]; omega
  refine ⟨A, k, by rw [hl], by omega, by omega, fun j u hu => ?_⟩
  have hj : j < (xs.take k).length := (List.getElem?_eq_some_iff.1 hu).1
  rw [List.getElem?_take, if_pos (by omega)] at hu
  exact g3 j u hu

/-- A builtin's step from its run: in a region that draws. -/
theorem step_builtin {ops : Array Oper} {o : Oper} {a : Act} {w w' : World} {v' : Value} {K : Act → World → Prop} {Q : Exit → Act → World → Prop} {E : Prop}
    (hg : o.guard = none) (s x : Operand) (t : TypeId) (hop : o.op = Op.call { callee := Callee.builtin Builtin.append, args := #[s, x], argTypes := #[t, t] })
    (hrun : (Builtin.append_ #[t, t] o.type #[a.eval s, a.eval x]).run P w = .ok v' w')
    (hK : K (a.put o.dst v') w') : if Region.wanted o (yielded ops a.tmps) = true then Oper.wp P o a w K Q else E := by
  have hw : Region.wanted o (yielded ops a.tmps) = true := by simp [Region.wanted, hg]
  rw [if_pos hw]
  unfold Oper.wp
  simp [execOp, hop, resolve, invoke, builtin, hrun, Result.andThen]
  exact hK

theorem wpList_builtin {ops : Array Oper} {rest : List Oper} {o : Oper} {a : Act} {w w' : World} {v' : Value} {Q : Exit → Act → World → Prop}
    (hg : o.guard = none) (s x : Operand) (t : TypeId) (hop : o.op = Op.call { callee := Callee.builtin Builtin.append, args := #[s, x], argTypes := #[t, t] })
    (hrun : (Builtin.append_ #[t, t] o.type #[a.eval s, a.eval x]).run P w = .ok v' w')
    (hK : wpList P ops Q rest (a.put o.dst v') w') : wpList P ops Q (o :: rest) a w := by
  refine wpList_plain hg fun K hk => ?_
  unfold Oper.wp
  simp [execOp, hop, resolve, invoke, builtin, hrun, Result.andThen]
  exact hk _ _ hK

/-- append onto a slice without room, in a region that draws. -/
theorem step_append_tight {ops : Array Oper} {o : Oper} {a : Act} {w : World} {K : Act → World → Prop} {Q : Exit → Act → World → Prop} {E : Prop}
    (hg : o.guard = none) (s x : Operand) (t : TypeId) (hop : o.op = Op.call { callee := Callee.builtin Builtin.append, args := #[s, x], argTypes := #[t, t] })
    {e : TypeId} {z : Value} {by_ : Nat} (El : Elem P t e z by_) (Z : Zone) (hhi : Z.Top w) (xs ys : List Value)
    (hv : Row Z w (a.eval s) xs) (hs : Row Zone.no w (a.eval x) ys) (hcap : ∀ A c, a.eval s = .slice A xs.length c → c = xs.length)
    (hlen : xs.length + ys.length ≤ maxLen) (hb : (xs.length + ys.length) * by_ ≤ 140737488355328)
    (hK : ∀ v' w', Out Zone.no w w' → Row Z w' v' (xs ++ ys) → K (a.put o.dst v') w') : if Region.wanted o (yielded ops a.tmps) = true then Oper.wp P o a w K Q else E := by
  obtain ⟨v', w', hrun, ho, hr⟩ := append_tight El w o.type Z hhi _ _ xs ys hv hs hcap hlen hb
  exact step_builtin hg s x t hop hrun (hK v' w' ho hr)

/-- .. in a region that does not. -/
theorem wpList_append_tight {ops : Array Oper} {rest : List Oper} {o : Oper} {a : Act} {w : World} {Q : Exit → Act → World → Prop}
    (hg : o.guard = none) (s x : Operand) (t : TypeId) (hop : o.op = Op.call { callee := Callee.builtin Builtin.append, args := #[s, x], argTypes := #[t, t] })
    {e : TypeId} {z : Value} {by_ : Nat} (El : Elem P t e z by_) (Z : Zone) (hhi : Z.Top w) (xs ys : List Value)
    (hv : Row Z w (a.eval s) xs) (hs : Row Zone.no w (a.eval x) ys) (hcap : ∀ A c, a.eval s = .slice A xs.length c → c = xs.length)
    (hlen : xs.length + ys.length ≤ maxLen) (hb : (xs.length + ys.length) * by_ ≤ 140737488355328)
    (hK : ∀ v' w', Out Zone.no w w' → Row Z w' v' (xs ++ ys) → wpList P ops Q rest (a.put o.dst v') w') : wpList P ops Q (o :: rest) a w := by
  obtain ⟨v', w', hrun, ho, hr⟩ := append_tight El w o.type Z hhi _ _ xs ys hv hs hcap hlen hb
  exact wpList_builtin hg s x t hop hrun (hK v' w' ho hr)
end
end Go.Proofs.YtlgoenimjmiapaaGreat

/-! Bytes as strings. -/
set_option linter.unusedVariables false
namespace Go.Proofs.YtlgoenimjmiapaaGreat
open Go.RowKit

/-- The string of some bytes. -/
def str (L : List UInt8) : ByteArray := ⟨L.toArray⟩

theorem loop_eq (bs : ByteArray) : ∀ (n i : Nat) (r : List UInt8), bs.size - i = n → ByteArray.toList.loop bs i r = r.reverse ++ bs.data.toList.drop i := by
  have hl : bs.data.toList.length = bs.size := rfl
  intro n
  induction n with
  | zero =>
    intro i r h
    unfold ByteArray.toList.loop
    rw [if_neg (by omega), List.drop_of_length_le (by omega), List.append_nil]
  | succ n ih =>
    intro i r h
    unfold ByteArray.toList.loop
    rw [if_pos (by omega), ih (i + 1) _ (by omega)]
    have hi : i < bs.data.toList.length := by omega
    rw [List.drop_eq_getElem_cons hi, List.reverse_cons, List.append_assoc]
    have hg : bs.get! i = bs.data.toList[i] := by
      show bs.data[i]! = _
      rw [getElem!_pos bs.data i (by exact hi)]
      simp
    rw [hg]
    rfl
theorem str_toList (L : List UInt8) : (str L).toList = L := by
  unfold ByteArray.toList
  rw [loop_eq _ _ 0 [] rfl]
  simp [str]

/-- The zone's own blocks lie at n or behind. -/
def Zone.Past (Z : Zone) (n : Nat) : Prop := ∀ k, Z.S k → n ≤ k

theorem Out.fresh {Z : Zone} {w w1 w2 : World} (h : Out Zone.no w w1) (k : Out Z w1 w2) (hz : Z.Past w.heap.size) : Out Zone.no w w2 :=
  ⟨k.os.trans h.os, k.tape.trans h.tape, k.output.trans h.output, Nat.le_trans h.size k.size, fun i hi ho => (k.block i (Nat.lt_of_lt_of_le hi h.size) (fun e => by have := hz i e; omega)).trans (h.block i hi ho)⟩

theorem str_inj {L M : List UInt8} : str L = str M ↔ L = M := by
  unfold str
  constructor
  · intro h; injection h with h; simpa using h
  · rintro rfl; rfl

theorem run_string {P : Program} {src dst e : TypeId} (hs : P.underlying src = some (.slice e)) (he : P.underlying e = some (.int .u8)) (hd : P.underlying dst = some .string) {Z : Zone} {w : World} {v : Value} {L : List UInt8}
    (h : Row Z w v (bytes L)) : (convert src dst v).run P w = .ok (.string (str L)) w := by
  obtain ⟨A, c, rfl, h1, h2, h3⟩ := h
  cases A with
  | none =>
    have hL : L = [] := by
      cases L with
      | nil => rfl
      | cons x r => obtain ⟨a, ha, _⟩ := h3 0 (.int .u8 x.toNat) (by simp [bytes]); cases ha
    subst hL
    rw [run_convert_bytes_nil w src e hs he _ _ dst hd]
    rfl
  | some a =>
    have hl : (loadCells a (bytes L).length).run P w = .ok ((L.map fun b => (b.toNat : Int)).map (Value.int .u8)).toArray w := by
      have := run_loadCells_list (P := P) w a (bytes L) (fun j u hu => by
        obtain ⟨a', ha, _, hc⟩ := h3 j u hu
        cases ha
        exact hc)
      rw [this]
      simp [bytes]
    rw [run_convert_bytes_string w src dst e _ _ c hs he hd, run_bytesToString w _ _ c _ hl, foldl_push_bytes]
    congr 3
    simp [ByteArray.empty, ByteArray.emptyWithCapacity, List.map_map, Function.comp_def]
    rfl
end Go.Proofs.YtlgoenimjmiapaaGreat
