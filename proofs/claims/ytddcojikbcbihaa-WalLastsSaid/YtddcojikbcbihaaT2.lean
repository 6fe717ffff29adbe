import Derived.Test.YtddcojikbcbihaaT1
import Derived.Test.YtddcojikbcbihaaE0
import Derived.Test.YtddcojikbcbihaaW4
import Derived.Maps.AppendAt
/-! Slices of strings. -/
set_option linter.unusedVariables false
namespace Go.Proofs.Ytddcojikbcbihaa
open Go.RowKit

theorem elem70 : Elem Try.prog 70 9 (.string ⟨#[]⟩) 16 := Elem.mk' Try.underlying70 (by kernel_rfl) (by kernel_rfl)
/-- v is a row of values of type e (a cell each) that the call has made. -/
def VOwns (e : TypeId) (b : Nat) (w : World) (v : Value) (xs : List Value) : Prop := w.ownsRow b e 1 v xs.length xs
theorem vowns_nil (e : TypeId) (b : Nat) (w : World) : VOwns e b w (.slice none 0 0) [] := World.ownsRow_nil _ _ _ _
theorem VOwns.out {e : TypeId} {b : Nat} {w w' : World} {v : Value} {xs : List Value} (h : VOwns e b w v xs) (ho : Out Zone.no w w') : VOwns e b w' v xs := by
  obtain ⟨h1, h2⟩ := h
  refine ⟨h1, ?_⟩
  rcases h2 with h2 | ⟨g, cap, cur, hv, hg, hh, hr⟩
  · exact Or.inl h2
  · exact Or.inr ⟨g, cap, cur, hv, hg, ho.get hh id, hr⟩
theorem VOwns.outZ {e : TypeId} {b : Nat} {Z : Zone} {w w' : World} {v : Value} {xs : List Value} (h : VOwns e b w v xs) (ho : Out Z w w') (hb : ∀ g, v.ownBlock = some g → ¬ Z.S g) : VOwns e b w' v xs := by
  obtain ⟨h1, h2⟩ := h
  refine ⟨h1, ?_⟩
  rcases h2 with h2 | ⟨g, cap, cur, hv, hg, hh, hr⟩
  · exact Or.inl h2
  · exact Or.inr ⟨g, cap, cur, hv, hg, ho.get hh (hb g (by rw [hv]; rfl)), hr⟩
theorem VOwns.row {e : TypeId} {b : Nat} {w : World} {v : Value} {xs : List Value} (h : VOwns e b w v xs) : Row Zone.no w v xs := by
  obtain ⟨h1, h2⟩ := h
  rcases h2 with ⟨rfl, h2⟩ | ⟨g, cap, cur, rfl, hg, hh, hc1, hc2, hc3, hc4⟩
  · have : xs = [] := List.eq_nil_of_length_eq_zero h2
    subst this
    exact ⟨none, 0, rfl, Nat.zero_le _, Nat.zero_le _, by simp⟩
  · refine ⟨some ⟨g, 0, none⟩, cap, rfl, hc1, hc2, fun j u hu => ⟨_, rfl, id, ?_⟩⟩
    rw [addr0_add, cell_of_row w g j _ _ _ hh]
    rw [Nat.mul_one] at hc4
    rw [← hc4, List.getElem?_take] at hu
    split at hu
    · simpa using hu
    · cases hu
theorem VOwns.cells {e : TypeId} {b : Nat} {w : World} {A : Option Addr} {n c : Nat} {xs : List Value} (h : VOwns e b w (.slice A n c) xs) {j : Nat} {u : Value} (hu : xs[j]? = some u) : ∃ g, Value.slice A n c = .slice (some ⟨g, 0, none⟩) n c ∧ w.cell? ⟨g, j, none⟩ = some u := by
  obtain ⟨h1, h2⟩ := h
  rcases h2 with ⟨e, h2⟩ | ⟨g, cap, cur, e, hg, hh, hc1, hc2, hc3, hc4⟩
  · have : xs = [] := List.eq_nil_of_length_eq_zero h2
    subst this
    cases hu
  · injection e with e1 e2 e3
    subst e1
    refine ⟨g, rfl, ?_⟩
    rw [cell_of_row w g j _ _ _ hh]
    rw [Nat.mul_one] at hc4
    rw [← hc4, List.getElem?_take] at hu
    split at hu
    · simpa using hu
    · cases hu
theorem VOwns.form {e : TypeId} {b : Nat} {w : World} {v : Value} {xs : List Value} (h : VOwns e b w v xs) : ∃ A c, v = .slice A xs.length c := by
  obtain ⟨A, c, hv, _⟩ := h.row
  exact ⟨A, c, hv⟩

theorem vowns_append {t e : TypeId} {z : Value} {by_ : Nat} (E : Elem Try.prog t e z by_) {base : Nat} {w : World} {v s : Value} {xs ys : List Value} (h : VOwns e base w v xs) (hbase : base ≤ w.heap.size) (hs : Row Zone.no w s ys) (ho : ∀ u ∈ ys, u.oneCell' = true)
    (hl : xs.length + ys.length ≤ maxLen) (hl2 : (xs.length + ys.length) * by_ ≤ 140737488355328) :
    ∃ v' w', (Builtin.append_ #[t, t] t #[v, s]).run Try.prog w = .ok v' w' ∧ VOwns e base w' v' (xs ++ ys) ∧ w.grownBy w' v.ownBlock ∧ (v'.ownBlock = v.ownBlock ∨ v'.ownBlock = some w.heap.size) := by
  obtain ⟨hu, ⟨i, hi1, hz, hsz, hby⟩, hz1⟩ := E
  obtain ⟨A, c, rfl, h1, h2, h3⟩ := id hs
  cases A with
  | some B =>
    have hc : ∀ j u, ys[j]? = some u → w.cell? (B.add j) = some u := fun j u hu => by
      obtain ⟨a, ha, _, hc⟩ := h3 j u hu
      cases ha
      exact hc
    obtain ⟨v', w', hrun, ho, hg, _, hat⟩ := run_append_own_at (P := Try.prog) w base t t e i z 1 by_ hu hi1 hz hsz hby hz1 (by omega) v xs.length xs h B ys.length c ys (by simp) hc ho
      hl hl2 hbase
    refine ⟨v', w', hrun, ?_, hg, hat⟩
    unfold VOwns
    rw [List.length_append]
    exact ho
  | none =>
    have hM : ys = [] := by
      cases ys with
      | nil => rfl
      | cons x r => obtain ⟨a, ha, _⟩ := h3 0 x rfl; cases ha
    subst hM
    refine ⟨v, w, ?_, by rw [List.append_nil]; exact h, World.grownBy.refl _ _, Or.inl rfl⟩
    obtain ⟨_, h4⟩ := h
    rcases h4 with ⟨rfl, _⟩ | ⟨g, cap, cur, rfl, _, _, hc1, _⟩
    · simp [Builtin.append_, run_underlying hu, sizeOf, typeInfo, hi1, Builtin.lenOf, Builtin.firstCells, storeCells]
    · have := hc1
      simp [Builtin.append_, run_underlying hu, sizeOf, typeInfo, hi1, Builtin.lenOf, Builtin.firstCells, storeCells, hc1]

/-- Strings as values. -/
def strs (S : List (List UInt8)) : List Value := S.map fun L => .string (str L)
theorem strs_append (S T : List (List UInt8)) : strs (S ++ T) = strs S ++ strs T := by simp [strs]
theorem length_strs (S : List (List UInt8)) : (strs S).length = S.length := by simp [strs]
theorem strs_one (S : List (List UInt8)) : ∀ u ∈ strs S, u.oneCell' = true := by
  intro u hu
  obtain ⟨L, _, rfl⟩ := List.mem_map.1 hu
  rfl
theorem strs_take (S : List (List UInt8)) (n : Nat) : strs (S.take n) = (strs S).take n := by simp [strs, List.map_take]

/-- append(v, s): onto a slice of strings of the call's own, behind w0. -/
theorem sapp {base : Nat} {w0 w : World} {v s : Value} {S T : List (List UInt8)} (h : VOwns 9 base w v (strs S)) (how : Out Zone.no w0 w) (hb : base = w0.heap.size) (hs : Row Zone.no w s (strs T)) (hl : S.length + T.length ≤ 1000000) :
    ∃ v' w', (Builtin.append_ #[70, 70] 70 #[v, s]).run Try.prog w = .ok v' w' ∧ VOwns 9 base w' v' (strs (S ++ T)) ∧ w.grownBy w' v.ownBlock ∧ Out Zone.no w0 w' ∧ (v'.ownBlock = v.ownBlock ∨ v'.ownBlock = some w.heap.size) := by
  subst hb
  obtain ⟨v', w', h1, h2, h3, h4⟩ := vowns_append elem70 h how.size hs (strs_one T) (le_maxLen (by rw [length_strs, length_strs]; omega)) (by rw [length_strs, length_strs]; omega)
  exact ⟨v', w', h1, by rw [strs_append]; exact h2, h3, how.grown h3 (fun k hk => Or.inr (World.ownsRow.lt h k hk).1), h4⟩
theorem snew (w : World) (base : Nat) (hb : base ≤ w.heap.size) : VOwns 9 base (w.alloc (.cells #[] 9)) (.slice (some ⟨w.heap.size, 0, none⟩) 0 0) (strs []) :=
  ⟨by simp [strs], Or.inr ⟨_, _, _, rfl, hb, heap_alloc_new w _, Nat.le_refl _, Nat.zero_le _, by simp, by simp [strs]⟩⟩
theorem sone (w : World) (L : List UInt8) : Row Zone.no (w.alloc (.cells #[.string (str L)] 9)) (.slice (some ⟨w.heap.size, 0, none⟩) 1 1) (strs [L]) :=
  row_block (cs := [.string (str L)]) (heap_alloc_new w _) id (le_maxLen (by simp))
end Go.Proofs.Ytddcojikbcbihaa
