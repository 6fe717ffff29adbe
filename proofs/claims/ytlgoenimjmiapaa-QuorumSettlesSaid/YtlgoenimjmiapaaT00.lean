import Derived.WalkKit
import Derived.Deep.Draws
import Derived.Lib.Hide
import Derived.Deep.RegionLaw
import Derived.Maps.OwnSet
import Derived.Laws.BytesString
import Derived.Laws.BytesArg
set_option linter.unusedSimpArgs false
set_option linter.unusedVariables false
set_option linter.unusedSectionVars false
/-! General words of this seat's proofs: frames and rows of cells. -/
namespace Go.Proofs.Ytlgoenimjmiapaa
open Go.RowKit

/-- Blocks: S, an object's own, that its calls may turn; T, those that no row of what it holds lies in. -/
structure Zone where
  S : Nat → Prop
  T : Nat → Prop
  sub : ∀ k, S k → T k
/-- No block at all. -/
def Zone.no : Zone := ⟨fun _ => False, fun _ => False, fun _ h => h⟩
/-- The blocks lo ≤ k < hi. -/
def Zone.of (lo hi : Nat) : Zone := ⟨fun k => lo ≤ k ∧ k < hi, fun k => lo ≤ k ∧ k < hi, fun _ h => h⟩
/-- All of them are there. -/
def Zone.Top (Z : Zone) (w : World) : Prop := ∀ k, Z.T k → k < w.heap.size
theorem Zone.Top.fresh {Z : Zone} {w : World} (h : Z.Top w) {k : Nat} (hk : w.heap.size ≤ k) : ¬ Z.T k := fun ht => by have := h k ht; omega
theorem Zone.Top.lt {Z : Zone} {w : World} (h : Z.Top w) {k : Nat} (hk : Z.S k) : k < w.heap.size := h k (Z.sub k hk)
theorem Zone.Top.mono {Z : Zone} {w w' : World} (h : Z.Top w) (hs : w.heap.size ≤ w'.heap.size) : Z.Top w' := fun k hk => Nat.lt_of_lt_of_le (h k hk) hs
/-- Outside the zone's own blocks nothing that was there has turned. -/
structure Out (Z : Zone) (w w' : World) : Prop where
  os : w'.os = w.os
  tape : w'.tape = w.tape
  output : w'.output = w.output
  size : w.heap.size ≤ w'.heap.size
  block : ∀ k, k < w.heap.size → ¬ Z.S k → w'.heap[k]? = w.heap[k]?

section
variable {Z Z' : Zone} {a b w w' : World}
theorem Out.refl (Z : Zone) (w : World) : Out Z w w := ⟨rfl, rfl, rfl, Nat.le_refl _, fun _ _ _ => rfl⟩
theorem Out.trans {c : World} (h : Out Z a b) (k : Out Z b c) : Out Z a c :=
  ⟨k.os.trans h.os, k.tape.trans h.tape, k.output.trans h.output, Nat.le_trans h.size k.size, fun i hi ho => (k.block i (Nat.lt_of_lt_of_le hi h.size) ho).trans (h.block i hi ho)⟩
theorem Out.mono (h : Out Z w w') (hs : ∀ k, Z.S k → Z'.S k) : Out Z' w w' :=
  ⟨h.os, h.tape, h.output, h.size, fun k hk ho => h.block k hk (fun e => ho (hs k e))⟩
theorem Out.mono0 (h : Out Zone.no w w') : Out Z' w w' :=
  ⟨h.os, h.tape, h.output, h.size, fun k hk _ => h.block k hk id⟩
theorem Out.below (h : Below w.heap.size w w') : Out Z w w' := ⟨h.os, h.tape, h.output, h.size, fun k hk _ => h.block k hk⟩
theorem Out.drew (h : Out Z a w) : Out Z a w.drew := ⟨h.os, h.tape, h.output, h.size, h.block⟩
theorem Out.drewN (h : Out Z a w) (n : Nat) : Out Z a (w.drewN n) := ⟨h.os, h.tape, h.output, h.size, h.block⟩
theorem Out.alloc (h : Out Z a w) (o : Obj) : Out Z a (w.alloc o) :=
  ⟨h.os, h.tape, h.output, Nat.le_trans h.size (by simp), fun i hi ho => (Below.heap_alloc w o i (Nat.lt_of_lt_of_le hi h.size)).trans (h.block i hi ho)⟩
theorem Out.setCell (h : Out Z a w) {p : Addr} (hp : Z.S p.block ∨ a.heap.size ≤ p.block) (u : Value) : Out Z a (w.setCell p u) :=
  ⟨h.os, h.tape, h.output, by simpa [World.setCell] using h.size, fun i hi ho => (Below.heap_setCell w p u i (fun e => by
    subst e
    rcases hp with hp | hp
    · exact ho hp
    · omega)).trans (h.block i hi ho)⟩
theorem Out.grown {row : Option Nat} (h : Out Z a w) (hg : w.grownBy w' row) (hr : ∀ k, row = some k → Z.S k ∨ a.heap.size ≤ k) : Out Z a w' :=
  ⟨hg.os.trans h.os, hg.tape.trans h.tape, hg.output.trans h.output, Nat.le_trans h.size hg.size, fun k hk ho =>
    (hg.block k (Nat.lt_of_lt_of_le hk h.size) (fun e => by
      rcases hr k e.symm with hr | hr
      · exact ho hr
      · omega)).trans (h.block k hk ho)⟩
theorem Out.get (h : Out Z w w') {k : Nat} {x : Obj} (hx : w.heap[k]? = some x) (ho : ¬ Z.S k) : w'.heap[k]? = some x :=
  (h.block k (by
    rcases Nat.lt_or_ge k w.heap.size with hlt | hge
    · exact hlt
    · rw [Array.getElem?_eq_none hge] at hx; cases hx) ho).trans hx
theorem Out.cell (h : Out Z w w') {p : Addr} {v : Value} (hx : w.cell? p = some v) (ho : ¬ Z.S p.block) : w'.cell? p = some v := by
  have hlt : p.block < w.heap.size := by
    rcases Nat.lt_or_ge p.block w.heap.size with hlt | hge
    · exact hlt
    · simp [World.cell?, Array.getElem?_eq_none hge] at hx
  rw [← hx]
  exact World.cell?_of_block (w := w) (h.block p.block hlt ho)
end

theorem heap_lt {w : World} {k : Nat} {x : Obj} (hx : w.heap[k]? = some x) : k < w.heap.size := by
  rcases Nat.lt_or_ge k w.heap.size with hlt | hge
  · exact hlt
  · rw [Array.getElem?_eq_none hge] at hx; cases hx

theorem heap_set {w : World} {g : Nat} {t : TypeId} {cs : Array Value} (h : w.heap[g]? = some (.cells cs t (0, 0))) (i : Nat) (u : Value) :
    (w.setCell ⟨g, i, none⟩ u).heap[g]? = some (.cells (cs.setIfInBounds i u) t (0, 0)) := by
  simp [World.setCell, Array.getElem?_modify, h]
theorem cells_all {w : World} {g : Nat} {t : TypeId} {cs : Array Value} (h : w.heap[g]? = some (.cells cs t (0, 0))) (i : Nat) : w.cell? ⟨g, i, none⟩ = cs[i]? := cell_of_row w g i cs t (0, 0) h
theorem frozen_all {w : World} {g : Nat} {t : TypeId} {cs : Array Value} (h : w.heap[g]? = some (.cells cs t (0, 0))) (i : Nat) : w.frozen? ⟨g, i, none⟩ = false := by
  simp [World.frozen?, h]

theorem only_setCell (w : World) (p : Addr) (u : Value) : w.grownBy (w.setCell p u) (some p.block) :=
  ⟨rfl, rfl, rfl, by simp [World.setCell], fun i _ hne => Below.heap_setCell w p u i (fun e => hne (by rw [e]))⟩

/-- A slice value that reads as the cells xs, none of them in a block that the zone bars. -/
def Row (Z : Zone) (w : World) (v : Value) (xs : List Value) : Prop :=
  ∃ A c, v = .slice A xs.length c ∧ xs.length ≤ c ∧ c ≤ maxLen ∧ ∀ j u, xs[j]? = some u → ∃ a, A = some a ∧ ¬ Z.T a.block ∧ w.cell? (a.add j) = some u

theorem addr_add_block (a : Addr) (n : Nat) : (a.add n).block = a.block := by unfold Addr.add; split <;> rfl

theorem Row.out {Z : Zone} {w w' : World} {v : Value} {xs : List Value} (h : Row Z w v xs) (ho : Out Z w w') : Row Z w' v xs := by
  obtain ⟨A, c, hv, h1, h2, hc⟩ := h
  refine ⟨A, c, hv, h1, h2, fun j u hu => ?_⟩
  obtain ⟨a, ha, hb, hx⟩ := hc j u hu
  exact ⟨a, ha, hb, ho.cell hx (by rw [addr_add_block]; exact fun e => hb (Z.sub _ e))⟩

/-- A row that lies outside what has turned. -/
theorem Row.far {Z Z' : Zone} {w w' : World} {v : Value} {xs : List Value} (h : Row Z w v xs) (ho : Out Z' w w') (hs : ∀ k, Z'.S k → Z.T k) : Row Z w' v xs := by
  obtain ⟨A, c, hv, h1, h2, hc⟩ := h
  refine ⟨A, c, hv, h1, h2, fun j u hu => ?_⟩
  obtain ⟨a, ha, hb, hx⟩ := hc j u hu
  exact ⟨a, ha, hb, ho.cell hx (by rw [addr_add_block]; exact fun e => hb (hs _ e))⟩

theorem Row.drewN {Z : Zone} {w : World} {v : Value} {xs : List Value} (h : Row Z w v xs) (n : Nat) : Row Z (w.drewN n) v xs := h
theorem Row.any {Z : Zone} {w : World} {v : Value} {xs : List Value} (h : Row Z w v xs) : Row Zone.no w v xs := by
  obtain ⟨A, c, hv, h1, h2, hc⟩ := h
  refine ⟨A, c, hv, h1, h2, fun j u hu => ?_⟩
  obtain ⟨a, ha, _, hx⟩ := hc j u hu
  exact ⟨a, ha, id, hx⟩

theorem le_maxLen {n : Nat} (h : n ≤ 140737488355328) : n ≤ maxLen := by
  unfold maxLen
  omega

/-- Bytes as cells. -/
def bytes (L : List UInt8) : List Value := L.map fun b => .int .u8 b.toNat
@[simp] theorem length_bytes (L : List UInt8) : (bytes L).length = L.length := by simp [bytes]

end Go.Proofs.Ytlgoenimjmiapaa

/-! Appending: laws at the builtin, over any program. -/
namespace Go.Proofs.Ytlgoenimjmiapaa
open Go.RowKit

section
variable {P : Program}

/-- What append asks of the element type: one cell, its zero, its bytes. -/
structure Elem (P : Program) (t e : TypeId) (z : Value) (by_ : Nat) : Prop where
  under : P.underlying t = some (.slice e)
  info : ∃ i, P.info? e = some i ∧ i.zero = some z ∧ i.size = 1 ∧ i.bytes = by_
  one : z.cells.size = 1

theorem Elem.mk' {t e : TypeId} {z : Value} {by_ : Nat} (h1 : P.underlying t = some (.slice e)) (h2 : (P.info? e).map (fun i => (i.zero, i.size, i.bytes)) = some (some z, 1, by_)) (h3 : z.cells.size = 1) : Elem P t e z by_ := by
  refine ⟨h1, ?_, h3⟩
  cases hi : P.info? e with
  | none => rw [hi] at h2; cases h2
  | some i =>
    rw [hi] at h2
    simp only [Option.map_some, Option.some.injEq, Prod.mk.injEq] at h2
    exact ⟨i, rfl, h2.1, h2.2.1, h2.2.2⟩

theorem addr_add_add (a : Addr) (i j : Nat) : (a.add i).add j = a.add (i + j) := by
  unfold Addr.add
  by_cases hi : i = 0 <;> by_cases hj : j = 0 <;> simp [hi, hj, Nat.add_assoc]

/-- xs[k:h:m] of one-cell elements. -/
def cut3 (A : Option Addr) (l h m : Nat) : Value := .slice (if m = l then A else A.map (·.add l)) (h - l) (m - l)

theorem Row.cut3 {Z : Zone} {w : World} {A : Option Addr} {n c : Nat} {xs : List Value} (h : Row Z w (.slice A n c) xs) {l k m : Nat} (h1 : l ≤ k) (h2 : k ≤ n) (h3 : k ≤ m) (h4 : m ≤ c) :
    Row Z w (cut3 A l k m) ((xs.take k).drop l) := by
  obtain ⟨A', c', hv, g1, g2, g3⟩ := h
  injection hv with e1 e2 e3
  subst e1 e2 e3
  have hlen : ((xs.take k).drop l).length = k - l := by rw [List.length_drop, List.length_take]; omega
  refine ⟨if m = l then A else A.map (·.add l), m - l, by rw [hlen]; rfl, by rw [hlen]; omega, by omega, fun j u hu => ?_⟩
  have hj : j < ((xs.take k).drop l).length := (List.getElem?_eq_some_iff.1 hu).1
  rw [hlen] at hj
  have hu' : xs[l + j]? = some u := by
    rw [List.getElem?_drop, List.getElem?_take] at hu
    rw [if_pos (by omega)] at hu
    exact hu
  obtain ⟨a, ha, hb, hx⟩ := g3 _ u hu'
  refine ⟨a.add l, ?_, by rw [addr_add_block]; exact hb, by rw [addr_add_add]; exact hx⟩
  rw [if_neg (by omega), ha]; rfl

theorem Row.len {Z : Zone} {w : World} {A : Option Addr} {n c : Nat} {xs : List Value} (h : Row Z w (.slice A n c) xs) : xs.length = n ∧ n ≤ c := by
  obtain ⟨A', c', hv, g1, g2, g3⟩ := h
  injection hv with e1 e2 e3
  omega
theorem Row.form {Z : Zone} {w : World} {v : Value} {L : List UInt8} (h : Row Z w v (bytes L)) : ∃ A c, v = .slice A L.length c ∧ L.length ≤ c ∧ c ≤ maxLen := by
  obtain ⟨A, c, hv, g1, g2, g3⟩ := h
  rw [length_bytes] at hv g1
  exact ⟨A, c, hv, g1, g2⟩
theorem Row.head {Z : Zone} {w : World} {A : Option Addr} {n c : Nat} {xs : List Value} (h : Row Z w (.slice A n c) xs) {k : Nat} (hk : k ≤ n) : Row Z w (.slice A k k) (xs.take k) := by
  obtain ⟨A', c', hv, g1, g2, g3⟩ := h
  injection hv with e1 e2 e3
  subst e1 e2 e3
  have hl : (xs.take k).length = k := by rw [List.length_take]; omega
  refine ⟨A, k, by rw [hl], by omega, by omega, fun j u hu => ?_⟩
  have hj : j < (xs.take k).length := (List.getElem?_eq_some_iff.1 hu).1
  rw [List.getElem?_take, if_pos (by omega)] at hu
  exact g3 j u hu

/-- A builtin's step from its run: in a region that draws. -/
theorem step_builtin {ops : Array Oper} {o : Oper} {a : Act} {w w' : World} {v' : Value} {K : Act → World → Prop} {Q : Exit → Act → World → Prop} {E : Prop}
    (hg : o.guard = none) (s x : Operand) (t : TypeId) (hop : o.op = Op.call { callee := Callee.builtin Builtin.append, args := #[s, x], argTypes := #[t, t] })
    (hrun : (Builtin.append_ #[t, t] o.type #[a.eval s, a.eval x]).run P w = .ok v' w')
    (hK : K (a.put o.dst v') w') : if Region.wanted o (yielded ops a.tmps) = true then Oper.wp P o a w K Q else E := by
  have hw : Region.wanted o (yielded ops a.tmps) = true := by simp [Region.wanted, hg]
  rw [if_pos hw]
  unfold Oper.wp
  simp [execOp, hop, resolve, invoke, builtin, hrun, Result.andThen]
  exact hK

theorem wpList_builtin {ops : Array Oper} {rest : List Oper} {o : Oper} {a : Act} {w w' : World} {v' : Value} {Q : Exit → Act → World → Prop}
    (hg : o.guard = none) (s x : Operand) (t : TypeId) (hop : o.op = Op.call { callee := Callee.builtin Builtin.append, args := #[s, x], argTypes := #[t, t] })
    (hrun : (Builtin.append_ #[t, t] o.type #[a.eval s, a.eval x]).run P w = .ok v' w')
    (hK : wpList P ops Q rest (a.put o.dst v') w') : wpList P ops Q (o :: rest) a w := by
  refine wpList_plain hg fun K hk => ?_
  unfold Oper.wp
  simp [execOp, hop, resolve, invoke, builtin, hrun, Result.andThen]
  exact hk _ _ hK

end
end Go.Proofs.Ytlgoenimjmiapaa

/-! Bytes as strings. -/
namespace Go.Proofs.Ytlgoenimjmiapaa
open Go.RowKit

/-- The string of some bytes. -/
def str (L : List UInt8) : ByteArray := ⟨L.toArray⟩

theorem loop_eq (bs : ByteArray) : ∀ (n i : Nat) (r : List UInt8), bs.size - i = n → ByteArray.toList.loop bs i r = r.reverse ++ bs.data.toList.drop i := by
  have hl : bs.data.toList.length = bs.size := rfl
  intro n
  induction n with
  | zero =>
    intro i r h
    unfold ByteArray.toList.loop
    rw [if_neg (by omega), List.drop_of_length_le (by omega), List.append_nil]
  | succ n ih =>
    intro i r h
    unfold ByteArray.toList.loop
    rw [if_pos (by omega), ih (i + 1) _ (by omega)]
    have hi : i < bs.data.toList.length := by omega
    rw [List.drop_eq_getElem_cons hi, List.reverse_cons, List.append_assoc]
    have hg : bs.get! i = bs.data.toList[i] := by
      show bs.data[i]! = _
      rw [getElem!_pos bs.data i (by exact hi)]
      simp
    rw [hg]
    rfl
theorem str_toList (L : List UInt8) : (str L).toList = L := by
  unfold ByteArray.toList
  rw [loop_eq _ _ 0 [] rfl]
  simp [str]

/-- The zone's own blocks lie at n or behind. -/
def Zone.Past (Z : Zone) (n : Nat) : Prop := ∀ k, Z.S k → n ≤ k

theorem Out.fresh {Z : Zone} {w w1 w2 : World} (h : Out Zone.no w w1) (k : Out Z w1 w2) (hz : Z.Past w.heap.size) : Out Zone.no w w2 :=
  ⟨k.os.trans h.os, k.tape.trans h.tape, k.output.trans h.output, Nat.le_trans h.size k.size, fun i hi ho => (k.block i (Nat.lt_of_lt_of_le hi h.size) (fun e => by have := hz i e; omega)).trans (h.block i hi ho)⟩

theorem run_string {P : Program} {src dst e : TypeId} (hs : P.underlying src = some (.slice e)) (he : P.underlying e = some (.int .u8)) (hd : P.underlying dst = some .string) {Z : Zone} {w : World} {v : Value} {L : List UInt8}
    (h : Row Z w v (bytes L)) : (convert src dst v).run P w = .ok (.string (str L)) w := by
  obtain ⟨A, c, rfl, h1, h2, h3⟩ := h
  cases A with
  | none =>
    have hL : L = [] := by
      cases L with
      | nil => rfl
      | cons x r => obtain ⟨a, ha, _⟩ := h3 0 (.int .u8 x.toNat) (by simp [bytes]); cases ha
    subst hL
    rw [run_convert_bytes_nil w src e hs he _ _ dst hd]
    rfl
  | some a =>
    have hl : (loadCells a (bytes L).length).run P w = .ok ((L.map fun b => (b.toNat : Int)).map (Value.int .u8)).toArray w := by
      have := run_loadCells_list (P := P) w a (bytes L) (fun j u hu => by
        obtain ⟨a', ha, _, hc⟩ := h3 j u hu
        cases ha
        exact hc)
      rw [this]
      simp [bytes]
    rw [run_convert_bytes_string w src dst e _ _ c hs he hd, run_bytesToString w _ _ c _ hl, foldl_push_bytes]
    congr 3
    simp [ByteArray.empty, ByteArray.emptyWithCapacity, List.map_map, Function.comp_def]
    rfl
end Go.Proofs.Ytlgoenimjmiapaa
