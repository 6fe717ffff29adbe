import Derived.Test.YtddcojikbcbihaaD6
/-! The program's disk: sured, Load, Write. -/
set_option linter.unusedVariables false
namespace Go.Proofs.Ytddcojikbcbihaa
open Go.RowKit

theorem wf_i64 {a : Int} (h1 : -9223372036854775808 ≤ a) (h2 : a ≤ 9223372036854775807) : (Lit.int .i64 a).wf = true := WalkArith.wf_i64 (by omega)

/-- A page of zeros, as a block. -/
def zeroBlk : Obj := .cells (madeCells #[.int .u8 0] 512) 5

theorem make_zero (W : World) : (Instr.makeSlice 22 (.int .i64 512) (.int .i64 512)).run Try.prog W = .ok (.slice (some ⟨W.heap.size, 0, none⟩) 512 512) (W.alloc zeroBlk) := by
  obtain ⟨hu, ⟨i, hi1, hz, hsz, hby⟩, hz1⟩ := elem22
  have h := run_make (P := Try.prog) W 22 5 i (.int .u8 0) hu hi1 hz .i64 .i64 512 512 (by omega) (by omega) (by rw [hby]; omega) (by omega)
  rw [hsz] at h
  exact h

theorem addr0_add (g j : Nat) : (⟨g, 0, none⟩ : Addr).add j = ⟨g, j, none⟩ := by unfold Addr.add; split <;> simp_all

theorem row_zero (Z : Zone) (w : World) (hh : Z.Top w) : Row Z (w.alloc zeroBlk) (.slice (some ⟨w.heap.size, 0, none⟩) 512 512) (bytes DS.zeros) := by
  have e : bytes DS.zeros = List.replicate 512 (.int .u8 0) := by unfold bytes DS.zeros; rw [List.map_replicate]; rfl
  refine ⟨some ⟨w.heap.size, 0, none⟩, 512, by rw [e, List.length_replicate], by rw [e, List.length_replicate]; omega, le_maxLen (by omega), fun j u hu => ⟨_, rfl, hh.fresh (Nat.le_refl _), ?_⟩⟩
  rw [addr0_add]
  rw [cell_of_row (w.alloc zeroBlk) w.heap.size j (madeCells #[.int .u8 0] 512) 5 (0, 0) (heap_alloc_new w _), ← hu, e]
  have h2 := toList_madeCells_one (.int .u8 0) 512
  rw [← h2]
  exact (Array.getElem?_toList).symm

section
variable {Z : Zone} {w : World} {d p o f : Nat} {lv : Value} {D : DS}

/-- A page as it is sure. -/
theorem sured_is (h : Disk0 Z w d p o f lv D) (q : Int) (h0 : 0 ≤ q) (h1 : q < 65536) : Calls Try.prog 54 #[.pointer (some ⟨d, 0, none⟩), .int .i64 q] w fun e w' => ∃ v, e = .returned v ∧ Row Z w' v (bytes ((D.old q).getD DS.zeros)) ∧ Out Zone.no w w' := by
  obtain ⟨V, hV, hF⟩ := h.old
  have hl := hV.look2 Try.underlying3 Try.underlying51 zero22 (wf_i64 (a := q) (by omega) (by omega))
  have c6 := cells_all h.sd 6
  have hFq := hF q
  have T := Lib.hid h.top
  cases hv : V q with
  | none =>
    rw [hv] at hFq
    simp only at hFq
    rw [hFq]
    rw [hv] at hl
    have hm := make_zero w
    clear h hV hF hv hFq
    go_enter Try.func54, Try.ntmps54
    go_wp2
    go_ret
    exact ⟨_, rfl, row_zero Z w T.out, (Out.refl Zone.no w).alloc _⟩
  | some v =>
    rw [hv] at hFq
    obtain ⟨L, hL, hr⟩ := hFq
    obtain ⟨A, c, rfl, hc, hm⟩ := hr.form
    rw [hL]
    rw [hv] at hl
    have HR := Lib.hid hr
    clear h hV hF hv hL hr
    go_enter Try.func54, Try.ntmps54
    go_wp2
    go_ret
    exact ⟨_, rfl, HR.out, Out.refl Zone.no w⟩

/-- What Load comes to. -/
def LoadOk (Z : Zone) (d : Nat) (D : DS) (x : List UInt8 × Int) (w : World) (e : Ending) (w' : World) : Prop :=
  ∃ v, e = .returned (.tuple #[v, .int .i64 x.2]) ∧ Row Z w' v (bytes x.1) ∧ DiskAt Z w' d D ∧ Out Z w w'

theorem load_is (h : DiskAt Z w d D) (q : Int) : Calls Try.prog 24 #[.pointer (some ⟨d, 0, none⟩), .int .i64 q] w (LoadOk Z d D (D.load q) w) := by
  obtain ⟨p, o, f, lv, h⟩ := h
  have HH := Lib.hid h
  have PG := Lib.hid (page_is h q)
  have M := Lib.hid (may_is h (D.page q))
  by_cases hm : D.may (D.page q) = 0
  · obtain ⟨hoff, hpg⟩ := may_zero hm
    have hq : 0 ≤ q ∧ q < 65536 := by
      have := h.ok.count
      unfold DS.page at hpg
      simp only [Bool.and_eq_true, decide_eq_true_eq] at hpg
      omega
    have hres : D.load q = (((D.fresh q).getD ((D.old q).getD DS.zeros)), 0) := by unfold DS.load; rw [hoff, hpg]; rfl
    rw [hres]
    rw [hm] at M
    obtain ⟨V, hV, hF⟩ := h.fresh
    have hl := hV.look2 Try.underlying3 Try.underlying51 zero22 (wf_i64 (a := q) (by omega) (by omega))
    have c7 := cells_all h.sd 7
    have hFq := hF q
    have T := Lib.hid h.top
    have SU := Lib.hid (sured_is h q hq.1 hq.2)
    cases hv : V q with
    | none =>
      rw [hv] at hFq
      simp only at hFq
      rw [hFq]
      rw [hv] at hl
      have hlen : (bytes ((D.old q).getD DS.zeros)).length ≤ 140737488355328 := by
        rw [length_bytes]
        cases ho : D.old q with
        | none => show (List.replicate 512 (0 : UInt8)).length ≤ _; rw [List.length_replicate]; omega
        | some s => have := (h.ok.old q s ho).2.2; simp only [Option.getD_some]; omega
      have HL := Lib.hid hlen
      clear h hV hF hv hFq hm hoff hpg hq hres hlen
      go_enter Try.func24, Try.ntmps24
      go_wp2_with fail
      refine PG.out.mono ?_
      rintro e w' ⟨rfl, rfl⟩
      go_wp2_with fail
      refine M.out.mono ?_
      rintro e w' ⟨rfl, rfl⟩
      go_wp2_with fail
      refine SU.out.mono ?_
      rintro e w' ⟨v, rfl, hr, ho⟩
      have HR := Lib.hid hr
      have HO := Lib.hid ho
      clear hr ho hl c7
      go_wp2_with fail
      refine (clone_any _ Z (Zone.Top.mono T.out HO.out.size) _ _ HR.out HL.out).mono ?_
      rintro e w' ⟨v', rfl, ho, hr⟩
      have HR2 := Lib.hid hr
      have HO2 := Lib.hid ho
      clear hr ho
      go_wp2_with fail
      go_ret2
      exact ⟨_, rfl, HR2.out, (HH.out.any (HO.out.trans HO2.out)).at_, (HO.out.trans HO2.out).mono0⟩
    | some v =>
      rw [hv] at hFq
      obtain ⟨L, hL, hr⟩ := hFq
      obtain ⟨A, c, rfl, hc, hm2⟩ := hr.form
      rw [hL]
      rw [hv] at hl
      have hlen : (bytes L).length ≤ 140737488355328 := by rw [length_bytes, (h.ok.fresh q L hL).2.2]; omega
      have HL := Lib.hid hlen
      have HR := Lib.hid hr
      clear h hV hF hv hL hm hoff hpg hq hres hlen hr hc hm2
      go_enter Try.func24, Try.ntmps24
      go_wp2_with fail
      refine PG.out.mono ?_
      rintro e w' ⟨rfl, rfl⟩
      go_wp2_with fail
      refine M.out.mono ?_
      rintro e w' ⟨rfl, rfl⟩
      go_wp2_with fail
      refine (clone_any _ Z T.out _ _ HR.out HL.out).mono ?_
      rintro e w' ⟨v', rfl, ho, hr⟩
      have HR2 := Lib.hid hr
      have HO2 := Lib.hid ho
      clear hr ho
      go_wp2_with fail
      go_ret2
      exact ⟨_, rfl, HR2.out, (HH.out.any HO2.out).at_, HO2.out.mono0⟩
  · have hres : ∃ x, D.load q = ([], x) ∧ D.may (D.page q) = x := by
      unfold DS.load DS.may at *
      cases h1 : D.off <;> rw [h1] at hm
      · cases h2 : D.page q <;> rw [h2] at hm
        · exact ⟨1, rfl, rfl⟩
        · exact absurd rfl hm
      · exact ⟨9, rfl, rfl⟩
    obtain ⟨x, h1, h2⟩ := hres
    have hx : (x == 0) = false := beq_eq_false_iff_ne.2 (h2 ▸ hm)
    have hx' : (x != 0) = true := bne_iff_ne.2 (h2 ▸ hm)
    rw [h1]
    rw [h2] at M
    clear h h1 h2 hm
    go_enter Try.func24, Try.ntmps24
    go_wp2_with (first | (go_at_call 52; refine PG.out.mono ?_; rintro e w' ⟨rfl, rfl⟩) | (go_at_call 43; refine M.out.mono ?_; rintro e w' ⟨rfl, rfl⟩))
    go_ret2
    exact ⟨_, rfl, row_nil _ _ _ _ (Nat.zero_le _), HH.out.at_, Out.refl _ _⟩
end
end Go.Proofs.Ytddcojikbcbihaa
