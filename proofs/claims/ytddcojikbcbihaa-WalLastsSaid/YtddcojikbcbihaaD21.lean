import Derived.Test.YtddcojikbcbihaaD20
import Derived.Laws.AppendOwn
/-! A slice of the law's own that grows; operations that came in. -/
set_option linter.unusedVariables false
namespace Go.Proofs.Ytddcojikbcbihaa
open Go.RowKit

/-- v is a row of bytes that the law itself has made, in one of the blocks g. -/
def Owns (base : Nat) (w : World) (v : Value) (L : List UInt8) : Prop := w.ownsRow base 5 1 v L.length (bytes L)

theorem owns_nil (base : Nat) (w : World) : Owns base w (.slice none 0 0) [] := World.ownsRow_nil _ _ _ _

theorem Owns.out {base : Nat} {Z : Zone} {w w' : World} {v : Value} {L : List UInt8} (h : Owns base w v L) (ho : Out Z w w') (hb : ∀ g, v.ownBlock = some g → ¬ Z.S g) : Owns base w' v L := by
  obtain ⟨h1, h2⟩ := h
  refine ⟨h1, ?_⟩
  rcases h2 with h2 | ⟨g, cap, cur, hv, hg, hh, hr⟩
  · exact Or.inl h2
  · exact Or.inr ⟨g, cap, cur, hv, hg, ho.get hh (hb g (by rw [hv]; rfl)), hr⟩

theorem Owns.drewN {base : Nat} {w : World} {v : Value} {L : List UInt8} (h : Owns base w v L) (n : Nat) : Owns base (w.drewN n) v L := h

theorem Owns.row {base : Nat} {Z : Zone} {w : World} {v : Value} {L : List UInt8} (h : Owns base w v L) (hb : ∀ g, v.ownBlock = some g → ¬ Z.T g) : Row Z w v (bytes L) := by
  obtain ⟨h1, h2⟩ := h
  rcases h2 with ⟨rfl, h2⟩ | ⟨g, cap, cur, rfl, hg, hh, hc1, hc2, hc3, hc4⟩
  · have : L = [] := List.eq_nil_of_length_eq_zero h2
    subst this
    exact ⟨none, 0, rfl, Nat.zero_le _, Nat.zero_le _, by simp [bytes]⟩
  · refine ⟨some ⟨g, 0, none⟩, cap, by rw [length_bytes], by rw [length_bytes]; exact hc1, hc2, fun j u hu => ⟨_, rfl, hb g rfl, ?_⟩⟩
    rw [addr0_add, cell_of_row w g j _ _ _ hh]
    rw [Nat.mul_one] at hc4
    rw [← hc4, List.getElem?_take] at hu
    split at hu
    · simpa using hu
    · cases hu

/-- A source of bytes, for the kit's append. -/
theorem src_of_row {Z : Zone} {w : World} {B : Addr} {n c : Nat} {M : List UInt8} (h : Row Z w (.slice (some B) n c) (bytes M)) : n = M.length ∧ ∀ j u, (bytes M)[j]? = some u → w.cell? (B.add j) = some u := by
  obtain ⟨A, c', hv, h1, h2, h3⟩ := h
  injection hv with e1 e2 e3
  refine ⟨by rw [e2, length_bytes], fun j u hu => ?_⟩
  obtain ⟨a, ha, _, hc⟩ := h3 j u hu
  rw [← e1] at ha
  injection ha with ha
  rw [ha]
  exact hc

theorem Owns.append {base : Nat} {Z : Zone} {w : World} {v s : Value} {L M : List UInt8} (h : Owns base w v L) (hbase : base ≤ w.heap.size) (hs : Row Z w s (bytes M)) (hl : L.length + M.length ≤ 140737488355328) (ty : TypeId) :
    ∃ v' w', (Builtin.append_ #[22, 22] ty #[v, s]).run Try.prog w = .ok v' w' ∧ Owns base w' v' (L ++ M) ∧ w.grownBy w' v.ownBlock ∧ ∀ g, v'.ownBlock = some g → v.ownBlock = some g ∨ w.heap.size ≤ g := by
  obtain ⟨hu, ⟨i, hi1, hz, hsz, hby⟩, hz1⟩ := elem22
  obtain ⟨A, c, rfl, h1, h2, h3⟩ := id hs
  cases A with
  | some B =>
    obtain ⟨e1, hc⟩ := src_of_row hs
    obtain ⟨v', w', hrun, ho, hg, _⟩ := run_append_own (P := Try.prog) w base 22 ty 5 i (.int .u8 0) 1 1 hu hi1 hz hsz hby hz1 (by omega) v L.length (bytes L) h B M.length c (bytes M) (by simp) hc (bytes_one' _)
      (le_maxLen (by omega)) (by omega) hbase
    rw [e1]
    refine ⟨v', w', hrun, ?_, hg, ?_⟩
    · unfold Owns
      rw [List.length_append, bytes_append]
      exact ho
    · intro k hk
      rcases h.2 with ⟨rfl, h0⟩ | ⟨g, cap, cur, rfl, hbg, hgc, hnc, hcm, hcs, htake⟩
      · have hL : L = [] := List.eq_nil_of_length_eq_zero h0
        subst hL
        obtain ⟨v2, w2, hrun2, ho2, _, _⟩ := run_append_own (P := Try.prog) w w.heap.size 22 ty 5 i (.int .u8 0) 1 1 hu hi1 hz hsz hby hz1 (by omega) (.slice none 0 0) 0 [] (World.ownsRow_nil _ _ _ _) B M.length c (bytes M) (by simp) hc (bytes_one' _)
          (le_maxLen (by simp only [List.length_nil] at hl; omega)) (by simp only [List.length_nil] at hl; omega) (Nat.le_refl _)
        have e2 := hrun.symm.trans hrun2
        injection e2 with e2 _
        subst e2
        exact Or.inr (ho2.lt k hk).1
      · by_cases hroom : L.length + M.length ≤ cap
        · have hr := run_append_room (P := Try.prog) w 22 ty 5 i hu hi1 g L.length cap cur hgc B M.length c (bytes M) (by rw [hsz]; simp) hc (bytes_one' _) hroom (by rw [hsz, hcs]; simp; omega)
          have e2 := hrun.symm.trans hr
          injection e2 with e2 _
          subst e2
          exact Or.inl hk
        · have hr := run_append_grow (P := Try.prog) w 22 ty 5 i (.int .u8 0) hu hi1 hz ⟨g, 0, none⟩ L.length cap (bytes L) (by rw [hsz]; simp) (World.ownsRow.cells h (g := g) rfl) B M.length c (bytes M) (by rw [hsz]; simp) hc (by omega) (by omega) (growslice_fits (by omega) (by rw [hby]; omega))
          have e2 := hrun.symm.trans hr
          injection e2 with e2 _
          subst e2
          simp only [Value.ownBlock] at hk
          injection hk with hk
          exact Or.inr (by omega)
  | none =>
    have hM : M = [] := by
      cases M with
      | nil => rfl
      | cons x r => obtain ⟨a, ha, _⟩ := h3 0 (.int .u8 x.toNat) (by simp [bytes]); cases ha
    subst hM
    refine ⟨v, w, ?_, by rw [List.append_nil]; exact h, World.grownBy.refl _ _, fun g hg => Or.inl hg⟩
    obtain ⟨_, h4⟩ := h
    rcases h4 with ⟨rfl, _⟩ | ⟨g, cap, cur, rfl, _, _, hc1, _⟩
    · simp [Builtin.append_, run_underlying hu, sizeOf, typeInfo, hi1, Builtin.lenOf, Builtin.firstCells, storeCells, bytes]
    · have := hc1
      simp [Builtin.append_, run_underlying hu, sizeOf, typeInfo, hi1, Builtin.lenOf, Builtin.firstCells, storeCells, bytes, hc1]
end Go.Proofs.Ytddcojikbcbihaa
