import Derived.Test.YtddcojikbcbihaaI2
/-! Bytes as a string at a world; entries as a row of the memory. -/
set_option linter.unusedVariables false
namespace Go.Proofs.Ytddcojikbcbihaa
open Go.RowKit

theorem string_of {Z : Zone} {w : World} {v : Value} {L : List UInt8} (h : Row Z w v (bytes L)) : (convert 22 9 v).run Try.prog w = .ok (.string (str L)) w :=
  run_string Try.underlying22 Try.underlying5 Try.underlying9 h

theorem cellsE_length (xs : List Ent) : (cellsE xs).length = 2 * xs.length := by
  induction xs with
  | nil => rfl
  | cons x r ih => show (x.cells ++ cellsE r).length = _; rw [List.length_append, ih]; simp [Ent.cells]; omega
theorem cellsE_at {xs : List Ent} {i : Nat} {x : Ent} (h : xs[i]? = some x) : (cellsE xs)[2 * i]? = some (.int .i64 x.at_) ∧ (cellsE xs)[2 * i + 1]? = some x.v := by
  induction xs generalizing i with
  | nil => cases h
  | cons y r ih =>
    have e : cellsE (y :: r) = .int .i64 y.at_ :: y.v :: cellsE r := rfl
    rw [e]
    cases i with
    | zero => injection h with h; subst h; exact ⟨rfl, rfl⟩
    | succ i =>
      have := ih (i := i) h
      rw [show 2 * (i + 1) = 2 * i + 1 + 1 by omega]
      exact this

/-- Entries, as a row of the memory: each with its bytes. -/
structure Ents (w : World) (v : Value) (xs : List Ent) : Prop where
  form : ∃ A c, v = .slice A xs.length c
  cell : ∀ i x, xs[i]? = some x → ∃ g c, v = .slice (some ⟨g, 0, none⟩) xs.length c ∧ w.cell? ⟨g, i * 2, none⟩ = some (.int .i64 x.at_) ∧ w.cell? ⟨g, i * 2 + 1, none⟩ = some x.v ∧ Row Zone.no w x.v (bytes x.X)
theorem Ents.drewN {w : World} {v : Value} {xs : List Ent} (h : Ents w v xs) (n : Nat) : Ents (w.drewN n) v xs := ⟨h.form, h.cell⟩
theorem Ents.out {w w' : World} {v : Value} {xs : List Ent} (h : Ents w v xs) (ho : Out Zone.no w w') : Ents w' v xs :=
  ⟨h.form, fun i x hx => by
    obtain ⟨A, c, hv, h1, h2, h3⟩ := h.cell i x hx
    exact ⟨A, c, hv, ho.cell h1 id, ho.cell h2 id, h3.out ho⟩⟩
theorem ents_of {b t : Nat} {w : World} {v : Value} {xs : List Ent} (h : w.ownsRow b t 2 v xs.length (cellsE xs)) (he : ∀ x ∈ xs, ∃ b, Owns b w x.v x.X) : Ents w v xs := by
  obtain ⟨h1, h2 | ⟨g, cap, cur, hv, hg, hh, hc1, hc2, hc3, hc4⟩⟩ := h
  · refine ⟨⟨none, 0, by rw [h2.1, h2.2]⟩, fun i x hx => ?_⟩
    have := (List.getElem?_eq_some_iff.1 hx).1
    omega
  · refine ⟨⟨some ⟨g, 0, none⟩, cap, hv⟩, fun i x hx => ?_⟩
    obtain ⟨hi, rfl⟩ := List.getElem?_eq_some_iff.1 hx
    obtain ⟨c1, c2⟩ := cellsE_at hx
    have hget : ∀ j u, (cellsE xs)[j]? = some u → w.cell? ⟨g, j, none⟩ = some u := fun j u hu => by
      rw [cell_of_row w g j _ _ _ hh]
      rw [← hc4, List.getElem?_take] at hu
      split at hu
      · simpa using hu
      · cases hu
    obtain ⟨b', hb'⟩ := he _ (List.getElem_mem hi)
    rw [Nat.mul_comm 2 i] at c1 c2
    exact ⟨g, cap, hv, hget _ _ c1, hget _ _ c2, hb'.row (fun _ _ h => h)⟩

end Go.Proofs.Ytddcojikbcbihaa
