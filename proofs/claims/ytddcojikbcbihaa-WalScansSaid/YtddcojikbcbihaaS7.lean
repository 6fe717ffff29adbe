import Derived.Test.YtddcojikbcbihaaS6
import Derived.Deep.QuietTactic
import Derived.BigQuiet
/-! The law's same. -/
set_option linter.unusedVariables false
namespace Go.Proofs.Ytddcojikbcbihaa
open Go.RowKit

theorem cellsE_length (xs : List Ent) : (cellsE xs).length = 2 * xs.length := by
  induction xs with
  | nil => rfl
  | cons x r ih => show (x.cells ++ cellsE r).length = _; rw [List.length_append, ih]; simp [Ent.cells]; omega
theorem cellsE_at {xs : List Ent} {i : Nat} {x : Ent} (h : xs[i]? = some x) : (cellsE xs)[2 * i]? = some (.int .i64 x.at_) ∧ (cellsE xs)[2 * i + 1]? = some x.v := by
  induction xs generalizing i with
  | nil => cases h
  | cons y r ih =>
    have e : cellsE (y :: r) = .int .i64 y.at_ :: y.v :: cellsE r := rfl
    rw [e]
    cases i with
    | zero => injection h with h; subst h; exact ⟨rfl, rfl⟩
    | succ i =>
      have := ih (i := i) h
      rw [show 2 * (i + 1) = 2 * i + 1 + 1 by omega]
      exact this

/-- Entries, as a row of the memory: each with its bytes. -/
structure Ents (w : World) (v : Value) (xs : List Ent) : Prop where
  form : ∃ A c, v = .slice A xs.length c
  cell : ∀ i x, xs[i]? = some x → ∃ g c, v = .slice (some ⟨g, 0, none⟩) xs.length c ∧ w.cell? ⟨g, i * 2, none⟩ = some (.int .i64 x.at_) ∧ w.cell? ⟨g, i * 2 + 1, none⟩ = some x.v ∧ Row Zone.no w x.v (bytes x.X)
theorem Ents.drewN {w : World} {v : Value} {xs : List Ent} (h : Ents w v xs) (n : Nat) : Ents (w.drewN n) v xs := ⟨h.form, h.cell⟩
theorem Ents.out {w w' : World} {v : Value} {xs : List Ent} (h : Ents w v xs) (ho : Out Zone.no w w') : Ents w' v xs :=
  ⟨h.form, fun i x hx => by
    obtain ⟨A, c, hv, h1, h2, h3⟩ := h.cell i x hx
    exact ⟨A, c, hv, ho.cell h1 id, ho.cell h2 id, h3.out ho⟩⟩
theorem ents_of {b t : Nat} {w : World} {v : Value} {xs : List Ent} (h : w.ownsRow b t 2 v xs.length (cellsE xs)) (he : ∀ x ∈ xs, ∃ b, Owns b w x.v x.X) : Ents w v xs := by
  obtain ⟨h1, h2 | ⟨g, cap, cur, hv, hg, hh, hc1, hc2, hc3, hc4⟩⟩ := h
  · refine ⟨⟨none, 0, by rw [h2.1, h2.2]⟩, fun i x hx => ?_⟩
    have := (List.getElem?_eq_some_iff.1 hx).1
    omega
  · refine ⟨⟨some ⟨g, 0, none⟩, cap, hv⟩, fun i x hx => ?_⟩
    obtain ⟨hi, rfl⟩ := List.getElem?_eq_some_iff.1 hx
    obtain ⟨c1, c2⟩ := cellsE_at hx
    have hget : ∀ j u, (cellsE xs)[j]? = some u → w.cell? ⟨g, j, none⟩ = some u := fun j u hu => by
      rw [cell_of_row w g j _ _ _ hh]
      rw [← hc4, List.getElem?_take] at hu
      split at hu
      · simpa using hu
      · cases hu
    obtain ⟨b', hb'⟩ := he _ (List.getElem_mem hi)
    rw [Nat.mul_comm 2 i] at c1 c2
    exact ⟨g, cap, hv, hget _ _ c1, hget _ _ c2, hb'.row (fun _ _ h => h)⟩

set_option maxRecDepth 100000 in
set_option maxHeartbeats 1000000 in
theorem same_is (w : World) (v1 v2 : Value) (xs ys : List Ent) (h1 : Ents w v1 xs) (h2 : Ents w v2 ys) (hk : xs.map Ent.key = ys.map Ent.key) (hl : xs.length ≤ 100000000) :
    Calls Try.prog 32 #[v1, v2] w fun e w' => e = .returned (.bool true) ∧ ∃ n, w' = w.drewN n := by
  obtain ⟨A1, c1, rfl⟩ := h1.form
  obtain ⟨A2, c2, rfl⟩ := h2.form
  have hlen : ys.length = xs.length := by have := congrArg List.length hk; simpa using this.symm
  rw [hlen] at h2 ⊢
  have H1 := Lib.hid h1
  have H2 := Lib.hid h2
  have HK := Lib.hid hk
  have HN := Lib.hid hlen
  clear h1 h2 hk hlen
  go_enter Try.func32, Try.ntmps32
  go_wp2_with fail
  go_loopw [5] (fun vi wr => ∃ (i n : Nat), vi = .int .i64 (i : Int) ∧ i ≤ xs.length ∧ wr = w.drewN n) (fun vi _ => xs.length - (intOf vi).toNat)
  case atStart => exact ⟨0, 0, rfl, by omega, rfl⟩
  case round =>
    obtain ⟨i, n, rfl, hi, rfl⟩ := hrel
    by_cases hlt : i < xs.length
    · obtain ⟨x, hx⟩ : ∃ x, xs[i]? = some x := ⟨_, List.getElem?_eq_getElem hlt⟩
      obtain ⟨y, hy⟩ : ∃ y, ys[i]? = some y := ⟨_, List.getElem?_eq_getElem (by have := HN.out; omega)⟩
      have hxy : x.key = y.key := by
        have e1 : (xs.map Ent.key)[i]? = some x.key := by simp [hx]
        have e2 : (ys.map Ent.key)[i]? = some y.key := by simp [hy]
        rw [HK.out, e2] at e1
        exact (Option.some.inj e1).symm
      obtain ⟨B1, d1, hv1, p1, p2, p3⟩ := H1.out.cell i x hx
      obtain ⟨B2, d2, hv2, q1, q2, q3⟩ := H2.out.cell i y hy
      obtain rfl : A1 = some ⟨B1, 0, none⟩ := by injection hv1
      obtain rfl : A2 = some ⟨B2, 0, none⟩ := by injection hv2
      clear hv1 hv2
      have ea : y.at_ = x.at_ := (congrArg Prod.fst hxy).symm
      have eb : y.X = x.X := (congrArg (fun p => p.2.1) hxy).symm
      rw [ea] at q1
      rw [eb] at q3
      clear hx hy hxy ea eb
      have S1 := fun n => string_of (p3.drewN n)
      have S2 := fun n => string_of (q3.drewN n)
      clear p3 q3
      go_wp2_with fail
      go_quiet (fail)
      all_goals
        go_wp2_with fail
        go_roundw
        case rel => exact ⟨i + 1, _, by go_num, by omega, rfl⟩
        case measure => simp [intOf]; omega
    · obtain rfl : i = xs.length := by omega
      go_wp2_with fail
      go_ret
      exact ⟨rfl, _, rfl⟩
end Go.Proofs.Ytddcojikbcbihaa
