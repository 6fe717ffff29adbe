import Derived.Test.YtlgoenimjmiapaaGreatT24
set_option linter.unusedSimpArgs false
set_option linter.unusedVariables false
set_option linter.unusedSectionVars false
/-! Lent and Stays. -/
set_option linter.unusedVariables false
set_option linter.unusedSimpArgs false
namespace Go.Proofs.YtlgoenimjmiapaaGreat
open Go.RowKit

/-- What is lent: the bytes, and two marks behind them. -/
def LentAt (b : Nat) (w : World) (v : Value) (L : List UInt8) : Prop := ∃ g c, v = .slice (some ⟨g, 0, none⟩) L.length c ∧ L.length + 2 ≤ c ∧ Owns b w (.slice (some ⟨g, 0, none⟩) (L.length + 2) c) (L ++ [55, 56])

theorem owns_pos {b : Nat} {w : World} {v : Value} {L : List UInt8} (h : Owns b w v L) (hl : 0 < L.length) : ∃ g c, v = .slice (some ⟨g, 0, none⟩) L.length c ∧ L.length ≤ c ∧ c ≤ maxLen ∧ b ≤ g ∧ g < w.heap.size := by
  obtain ⟨h1, h2 | ⟨g, cap, cur, hv, hg, hh, hc1, hc2, _⟩⟩ := h
  · omega
  · exact ⟨g, cap, hv, hc1, hc2, hg, heap_lt hh⟩

set_option maxRecDepth 100000 in
theorem lent_is (w : World) (v : Value) (L : List UInt8) (hr : Row Zone.no w v (bytes L)) (hl : L.length ≤ 140737488351232) :
    Calls Tryz.prog 4 #[v] w fun e w' => ∃ v', e = .returned v' ∧ LentAt w.heap.size w' v' L ∧ Out Zone.no w w' := by
  obtain ⟨A, c, rfl, hc1, hc2⟩ := hr.form
  obtain ⟨v1, w1, hrun, ho1, hout1⟩ := copy_run w _ L hr (by omega)
  have hb := heap_alloc_new w1 (.cells #[.int .u8 55, .int .u8 56] 5)
  have hrb : Row Zone.no (w1.alloc (.cells #[.int .u8 55, .int .u8 56] 5)) (.slice (some ⟨w1.heap.size, 0, none⟩) 2 2) (bytes [55, 56]) := row_block hb id (le_maxLen (by simp))
  obtain ⟨v2, w2, hrun2, ho2, hg2, hn2⟩ := (ho1.out ((Out.refl Zone.no w1).alloc (.cells #[.int .u8 55, .int .u8 56] 5)) (fun _ _ h => h)).append (Nat.le_trans hout1.size (by simp)) hrb (by simp; omega) 29
  have HRUN := Lib.hid hrun
  have HRUN2 := Lib.hid hrun2
  obtain ⟨g, c2, rfl, hgc, hgm, hg3, hg4⟩ := owns_pos ho2 (by simp)
  have HOUT : Hid (Out Zone.no w w2) := (hout1.alloc _).grown hg2 (fun k hk => Or.inr (World.ownsRow.lt ho1 k hk).1)
  have hl2 : (L ++ [55, 56]).length = L.length + 2 := by simp
  rw [hl2] at ho2 hgc HRUN2
  have hsl : ∀ W, (Instr.slice 29 (.slice (some ⟨g, 0, none⟩) (L.length + 2) c2) none (some (.int .i64 (L.length : Int))) none).run Tryz.prog W = .ok (.slice (some ⟨g, 0, none⟩) L.length c2) W := fun W => by
    have h := run_slice_h elemB (some ⟨g, 0, none⟩) (L.length + 2) c2 L.length (by omega) W
    unfold cut3 at h
    rw [if_neg (by omega)] at h
    exact h
  have HL : Hid (LentAt w.heap.size w2 (.slice (some ⟨g, 0, none⟩) L.length c2) L) := ⟨g, c2, rfl, hgc, ho2⟩
  clear hr ho1 hout1 hb hrb ho2 hg2 hn2 hgm hg3 hg4 hl2 hrun hrun2
  go_enter Tryz.func4, Tryz.ntmps4
  go_wp2_with (first
    | (at_builtin; refine wpList_builtin rfl _ _ _ rfl HRUN.out ?_)
    | (at_builtin; refine wpList_builtin rfl _ _ _ rfl HRUN2.out ?_)
    | fail)
  go_ret
  exact ⟨_, rfl, HL.out, HOUT.out⟩

set_option maxRecDepth 100000 in
theorem stays_is (w : World) (b : Nat) (v1 v2 : Value) (L : List UInt8) (h1 : LentAt b w v1 L) (h2 : Row Zone.no w v2 (bytes L)) (hl : L.length ≤ 140737488351232) :
    Calls Tryz.prog 11 #[v1, v2] w fun e w' => e = .returned (.bool true) ∧ ∃ n, w' = w.drewN n := by
  obtain ⟨g, c, rfl, hc, hown⟩ := h1
  obtain ⟨A, cl, rfl, hc1, hc2⟩ := h2.form
  have hr := hown.row (Z := Zone.no) (fun _ _ h => h)
  have hsl1 : ∀ W, (Instr.slice 29 (.slice (some ⟨g, 0, none⟩) L.length c) none (some (.int .i64 ((L.length : Int) + 2))) none).run Tryz.prog W = .ok (.slice (some ⟨g, 0, none⟩) (L.length + 2) c) W := fun W => by
    have h := run_slice_h elemB (some ⟨g, 0, none⟩) L.length c (L.length + 2) (by omega) W
    unfold cut3 at h
    rw [if_neg (by omega)] at h
    exact h
  have hsl2 : ∀ W, (Instr.slice 29 (.slice (some ⟨g, 0, none⟩) (L.length + 2) c) none (some (.int .i64 (L.length : Int))) none).run Tryz.prog W = .ok (.slice (some ⟨g, 0, none⟩) L.length c) W := fun W => by
    have h := run_slice_h elemB (some ⟨g, 0, none⟩) (L.length + 2) c L.length (by omega) W
    unfold cut3 at h
    rw [if_neg (by omega)] at h
    exact h
  have hr1 : Row Zone.no w (.slice (some ⟨g, 0, none⟩) L.length c) (bytes L) := by
    obtain ⟨A', c', hv, q1, q2, q3⟩ := hr
    injection hv with e1 e2 e3
    subst e3
    refine ⟨some ⟨g, 0, none⟩, c, by rw [length_bytes], by rw [length_bytes]; omega, q2, fun j u hu => ?_⟩
    rw [e1]
    refine q3 j u ?_
    rw [bytes_append, List.getElem?_append_left]
    · exact hu
    · exact (List.getElem?_eq_some_iff.1 hu).1
  have hb : ∀ i u, (L ++ [55, 56])[i]? = some u → w.drew.cell? ⟨g, i, none⟩ = some (.int .u8 u.toNat) := fun i u hu => by
    obtain ⟨a, ha, _, hx⟩ := Row.byte (n := L.length + 2) (c := c) hr hu
    cases ha
    rw [addr0_add] at hx
    exact hx
  have c1 : w.drew.cell? ⟨g, L.length, none⟩ = some (.int .u8 55) := hb L.length 55 (by simp)
  have c2 : w.drew.cell? ⟨g, L.length + 1, none⟩ = some (.int .u8 56) := hb (L.length + 1) 56 (by simp)
  have s1 := string_of (show Row Zone.no w.drew (.slice (some ⟨g, 0, none⟩) L.length c) (bytes L) from hr1)
  have s2 := string_of (show Row Zone.no w.drew (.slice A L.length cl) (bytes L) from h2)
  have i1 : (0 : Int) ≤ (L.length : Int) := by omega
  have i2 : (L.length : Int) < (L.length : Int) + 2 := by omega
  clear hr hr1 hb hown h2 hc2
  go_enter Tryz.func11, Tryz.ntmps11
  go_wp2_with fail
  go_region
  all_goals
    go_wp2_with fail
    go_ret
    exact ⟨rfl, _, rfl⟩
theorem LentAt.row {b : Nat} {w : World} {v : Value} {L : List UInt8} (h : LentAt b w v L) : Row Zone.no w v (bytes L) := by
  obtain ⟨g, c, rfl, hc, hown⟩ := h
  obtain ⟨A', c', hv, q1, q2, q3⟩ := hown.row (Z := Zone.no) (fun _ _ h => h)
  injection hv with e1 e2 e3
  subst e3
  refine ⟨some ⟨g, 0, none⟩, c, by rw [length_bytes], by rw [length_bytes]; omega, q2, fun j u hu => ?_⟩
  rw [e1]
  refine q3 j u ?_
  rw [bytes_append, List.getElem?_append_left]
  · exact hu
  · exact (List.getElem?_eq_some_iff.1 hu).1

theorem LentAt.out {b : Nat} {w w' : World} {v : Value} {L : List UInt8} (h : LentAt b w v L) (ho : Out Zone.no w w') : LentAt b w' v L := by
  obtain ⟨g, c, rfl, hc, hown⟩ := h
  exact ⟨g, c, rfl, hc, hown.out ho (fun _ _ h => h)⟩

theorem LentAt.drewN {b : Nat} {w : World} {v : Value} {L : List UInt8} (h : LentAt b w v L) (n : Nat) : LentAt b (w.drewN n) v L := h
end Go.Proofs.YtlgoenimjmiapaaGreat
