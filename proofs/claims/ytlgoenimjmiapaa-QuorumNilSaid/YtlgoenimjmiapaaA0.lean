import Derived.WalkKit
import Derived.Deep.Draws
import Derived.Lib.Hide
/-! General words of this seat's proofs: frames and rows of cells. -/
namespace Go.Proofs.Ytlgoenimjmiapaa
open Go.RowKit

/-- Blocks: S, an object's own, that its calls may turn; T, those that no row of what it holds lies in. -/
structure Zone where
  S : Nat → Prop
  T : Nat → Prop
  sub : ∀ k, S k → T k
/-- No block at all. -/
def Zone.no : Zone := ⟨fun _ => False, fun _ => False, fun _ h => h⟩
/-- The blocks lo ≤ k < hi. -/
def Zone.of (lo hi : Nat) : Zone := ⟨fun k => lo ≤ k ∧ k < hi, fun k => lo ≤ k ∧ k < hi, fun _ h => h⟩
/-- All of them are there. -/
def Zone.Top (Z : Zone) (w : World) : Prop := ∀ k, Z.T k → k < w.heap.size
theorem Zone.Top.fresh {Z : Zone} {w : World} (h : Z.Top w) {k : Nat} (hk : w.heap.size ≤ k) : ¬ Z.T k := fun ht => by have := h k ht; omega
theorem Zone.Top.lt {Z : Zone} {w : World} (h : Z.Top w) {k : Nat} (hk : Z.S k) : k < w.heap.size := h k (Z.sub k hk)
theorem Zone.Top.mono {Z : Zone} {w w' : World} (h : Z.Top w) (hs : w.heap.size ≤ w'.heap.size) : Z.Top w' := fun k hk => Nat.lt_of_lt_of_le (h k hk) hs
theorem Zone.top_no (w : World) : Zone.no.Top w := fun _ h => h.elim

/-- Outside the zone's own blocks nothing that was there has turned. -/
structure Out (Z : Zone) (w w' : World) : Prop where
  os : w'.os = w.os
  tape : w'.tape = w.tape
  output : w'.output = w.output
  size : w.heap.size ≤ w'.heap.size
  block : ∀ k, k < w.heap.size → ¬ Z.S k → w'.heap[k]? = w.heap[k]?

section
variable {Z Z' : Zone} {a b w w' : World}
theorem Out.refl (Z : Zone) (w : World) : Out Z w w := ⟨rfl, rfl, rfl, Nat.le_refl _, fun _ _ _ => rfl⟩
theorem Out.trans {c : World} (h : Out Z a b) (k : Out Z b c) : Out Z a c :=
  ⟨k.os.trans h.os, k.tape.trans h.tape, k.output.trans h.output, Nat.le_trans h.size k.size, fun i hi ho => (k.block i (Nat.lt_of_lt_of_le hi h.size) ho).trans (h.block i hi ho)⟩
theorem Out.mono (h : Out Z w w') (hs : ∀ k, Z.S k → Z'.S k) : Out Z' w w' :=
  ⟨h.os, h.tape, h.output, h.size, fun k hk ho => h.block k hk (fun e => ho (hs k e))⟩
theorem Out.mono0 (h : Out Zone.no w w') : Out Z' w w' :=
  ⟨h.os, h.tape, h.output, h.size, fun k hk _ => h.block k hk id⟩
theorem Out.below (h : Below w.heap.size w w') : Out Z w w' := ⟨h.os, h.tape, h.output, h.size, fun k hk _ => h.block k hk⟩
theorem Out.drew (h : Out Z a w) : Out Z a w.drew := ⟨h.os, h.tape, h.output, h.size, h.block⟩
theorem Out.drewN (h : Out Z a w) (n : Nat) : Out Z a (w.drewN n) := ⟨h.os, h.tape, h.output, h.size, h.block⟩
theorem Out.undrewN {n : Nat} (h : Out Z (a.drewN n) w) : Out Z a w := ⟨h.os, h.tape, h.output, h.size, h.block⟩
theorem Out.undrew (h : Out Z a.drew w) : Out Z a w := ⟨h.os, h.tape, h.output, h.size, h.block⟩
theorem Out.alloc (h : Out Z a w) (o : Obj) : Out Z a (w.alloc o) :=
  ⟨h.os, h.tape, h.output, Nat.le_trans h.size (by simp), fun i hi ho => (Below.heap_alloc w o i (Nat.lt_of_lt_of_le hi h.size)).trans (h.block i hi ho)⟩
theorem Out.setCell (h : Out Z a w) {p : Addr} (hp : Z.S p.block ∨ a.heap.size ≤ p.block) (u : Value) : Out Z a (w.setCell p u) :=
  ⟨h.os, h.tape, h.output, by simpa [World.setCell] using h.size, fun i hi ho => (Below.heap_setCell w p u i (fun e => by
    subst e
    rcases hp with hp | hp
    · exact ho hp
    · omega)).trans (h.block i hi ho)⟩
theorem Out.grown {row : Option Nat} (h : Out Z a w) (hg : w.grownBy w' row) (hr : ∀ k, row = some k → Z.S k ∨ a.heap.size ≤ k) : Out Z a w' :=
  ⟨hg.os.trans h.os, hg.tape.trans h.tape, hg.output.trans h.output, Nat.le_trans h.size hg.size, fun k hk ho =>
    (hg.block k (Nat.lt_of_lt_of_le hk h.size) (fun e => by
      rcases hr k e.symm with hr | hr
      · exact ho hr
      · omega)).trans (h.block k hk ho)⟩
theorem Out.get (h : Out Z w w') {k : Nat} {x : Obj} (hx : w.heap[k]? = some x) (ho : ¬ Z.S k) : w'.heap[k]? = some x :=
  (h.block k (by
    rcases Nat.lt_or_ge k w.heap.size with hlt | hge
    · exact hlt
    · rw [Array.getElem?_eq_none hge] at hx; cases hx) ho).trans hx
theorem Out.cell (h : Out Z w w') {p : Addr} {v : Value} (hx : w.cell? p = some v) (ho : ¬ Z.S p.block) : w'.cell? p = some v := by
  have hlt : p.block < w.heap.size := by
    rcases Nat.lt_or_ge p.block w.heap.size with hlt | hge
    · exact hlt
    · simp [World.cell?, Array.getElem?_eq_none hge] at hx
  rw [← hx]
  exact World.cell?_of_block (w := w) (h.block p.block hlt ho)
end

theorem heap_lt {w : World} {k : Nat} {x : Obj} (hx : w.heap[k]? = some x) : k < w.heap.size := by
  rcases Nat.lt_or_ge k w.heap.size with hlt | hge
  · exact hlt
  · rw [Array.getElem?_eq_none hge] at hx; cases hx

theorem heap_set {w : World} {g : Nat} {t : TypeId} {cs : Array Value} (h : w.heap[g]? = some (.cells cs t (0, 0))) (i : Nat) (u : Value) :
    (w.setCell ⟨g, i, none⟩ u).heap[g]? = some (.cells (cs.setIfInBounds i u) t (0, 0)) := by
  simp [World.setCell, Array.getElem?_modify, h]
theorem heap_far {w : World} {g : Nat} {x : Obj} (h : w.heap[g]? = some x) {p : Addr} (hp : g ≠ p.block) (u : Value) :
    (w.setCell p u).heap[g]? = some x := (Below.heap_setCell w p u g hp).trans h
theorem heap_alloc' {w : World} {g : Nat} {x : Obj} (h : w.heap[g]? = some x) (o : Obj) : (w.alloc o).heap[g]? = some x :=
  (Below.heap_alloc w o g (heap_lt h)).trans h

theorem cells_all {w : World} {g : Nat} {t : TypeId} {cs : Array Value} (h : w.heap[g]? = some (.cells cs t (0, 0))) (i : Nat) : w.cell? ⟨g, i, none⟩ = cs[i]? := cell_of_row w g i cs t (0, 0) h
theorem frozen_all {w : World} {g : Nat} {t : TypeId} {cs : Array Value} (h : w.heap[g]? = some (.cells cs t (0, 0))) (i : Nat) : w.frozen? ⟨g, i, none⟩ = false := by
  simp [World.frozen?, h]

theorem only_setCell (w : World) (p : Addr) (u : Value) : w.grownBy (w.setCell p u) (some p.block) :=
  ⟨rfl, rfl, rfl, by simp [World.setCell], fun i _ hne => Below.heap_setCell w p u i (fun e => hne (by rw [e]))⟩

/-- A slice value that reads as the cells xs, none of them in a block that the zone bars. -/
def Row (Z : Zone) (w : World) (v : Value) (xs : List Value) : Prop :=
  ∃ A c, v = .slice A xs.length c ∧ xs.length ≤ c ∧ c ≤ maxLen ∧ ∀ j u, xs[j]? = some u → ∃ a, A = some a ∧ ¬ Z.T a.block ∧ w.cell? (a.add j) = some u

theorem addr_add_block (a : Addr) (n : Nat) : (a.add n).block = a.block := by unfold Addr.add; split <;> rfl

theorem Row.out {Z : Zone} {w w' : World} {v : Value} {xs : List Value} (h : Row Z w v xs) (ho : Out Z w w') : Row Z w' v xs := by
  obtain ⟨A, c, hv, h1, h2, hc⟩ := h
  refine ⟨A, c, hv, h1, h2, fun j u hu => ?_⟩
  obtain ⟨a, ha, hb, hx⟩ := hc j u hu
  exact ⟨a, ha, hb, ho.cell hx (by rw [addr_add_block]; exact fun e => hb (Z.sub _ e))⟩

/-- A row that lies outside what has turned. -/
theorem Row.far {Z Z' : Zone} {w w' : World} {v : Value} {xs : List Value} (h : Row Z w v xs) (ho : Out Z' w w') (hs : ∀ k, Z'.S k → Z.T k) : Row Z w' v xs := by
  obtain ⟨A, c, hv, h1, h2, hc⟩ := h
  refine ⟨A, c, hv, h1, h2, fun j u hu => ?_⟩
  obtain ⟨a, ha, hb, hx⟩ := hc j u hu
  exact ⟨a, ha, hb, ho.cell hx (by rw [addr_add_block]; exact fun e => hb (hs _ e))⟩

theorem Row.drewN {Z : Zone} {w : World} {v : Value} {xs : List Value} (h : Row Z w v xs) (n : Nat) : Row Z (w.drewN n) v xs := h
theorem Row.any {Z : Zone} {w : World} {v : Value} {xs : List Value} (h : Row Z w v xs) : Row Zone.no w v xs := by
  obtain ⟨A, c, hv, h1, h2, hc⟩ := h
  refine ⟨A, c, hv, h1, h2, fun j u hu => ?_⟩
  obtain ⟨a, ha, _, hx⟩ := hc j u hu
  exact ⟨a, ha, id, hx⟩

theorem cap_self {n : Nat} (a : Option Addr) : ∀ A c, Value.slice a n n = .slice A n c → c = n := by
  intro A c h
  injection h with _ _ h
  exact h.symm

theorem le_maxLen {n : Nat} (h : n ≤ 140737488355328) : n ≤ maxLen := by
  unfold maxLen
  omega

/-- Bytes as cells. -/
def bytes (L : List UInt8) : List Value := L.map fun b => .int .u8 b.toNat
theorem bytes_drop (L : List UInt8) (k : Nat) : bytes (L.drop k) = (bytes L).drop k := by simp [bytes, List.map_drop]
theorem bytes_take (L : List UInt8) (k : Nat) : bytes (L.take k) = (bytes L).take k := by simp [bytes, List.map_take]
theorem bytes_append (L M : List UInt8) : bytes (L ++ M) = bytes L ++ bytes M := by simp [bytes]
@[simp] theorem length_bytes (L : List UInt8) : (bytes L).length = L.length := by simp [bytes]

end Go.Proofs.Ytlgoenimjmiapaa
