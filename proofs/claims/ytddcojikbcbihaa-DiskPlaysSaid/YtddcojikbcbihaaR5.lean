import Derived.Test.YtddcojikbcbihaaR4
/-! The document's disk: Load, New. -/
set_option linter.unusedVariables false
namespace Go.Proofs.Ytddcojikbcbihaa
open Go.RowKit

section
variable {Z : Zone} {w : World} {r o f : Nat} {lv : Value} {D : DS}

theorem rold_is (h : Ref0 Z w r o f lv D) (q : Int) (h0 : 0 ≤ q) (h1 : q < 65536) : Calls Try.prog 75 #[.pointer (some ⟨r, 0, none⟩), .int .i64 q] w fun e w' => e = .returned (.string (str ((D.old q).getD DS.zeros))) ∧ Out Zone.no w w' := by
  have hl := MapV.look2 Try.underlying3 Try.underlying93 zero9 h.old (wf_i64 (a := q) (by omega) (by omega))
  have c7 := cells_all h.sr 7
  have hm := make_zero w
  have hz := run_string (P := Try.prog) Try.underlying22 Try.underlying5 Try.underlying9 (row_zero Z w h.top)
  unfold strF at hl
  clear h
  generalize DS.zeros = zz at *
  cases hv : D.old q with
  | none =>
    rw [hv] at hl
    clear hv
    go_enter Try.func75, Try.ntmps75
    go_wp2
    go_ret
    exact ⟨rfl, (Out.refl Zone.no w).alloc _⟩
  | some L =>
    rw [hv] at hl
    clear hv
    go_enter Try.func75, Try.ntmps75
    go_wp2
    go_ret
    exact ⟨rfl, Out.refl Zone.no w⟩

/-- What Load comes to. -/
def RLoadOk (Z : Zone) (r : Nat) (D : DS) (x : List UInt8 × Int) (w : World) (e : Ending) (w' : World) : Prop :=
  ∃ v, e = .returned (.tuple #[v, .int .i64 x.2]) ∧ Row Z w' v (bytes x.1) ∧ RefAt Z w' r D ∧ Out Zone.no w w'

theorem rload_off (h : Ref0 Z w r o f lv D) (q : Int) (hoff : D.off = true) : Calls Try.prog 62 #[.pointer (some ⟨r, 0, none⟩), .int .i64 q] w (RLoadOk Z r D ([], 9) w) := by
  have c3 := cells_all h.sr 3
  rw [hoff] at c3
  have HH := Lib.hid h.at_
  clear h hoff
  go_enter Try.func62, Try.ntmps62
  go_wp2_with fail
  go_ret2
  exact ⟨_, rfl, row_nil _ _ _ _ (Nat.zero_le _), HH.out, Out.refl _ _⟩

theorem rload_arg (h : Ref0 Z w r o f lv D) (q : Int) (hoff : D.off = false) (hq : ¬ (0 ≤ q ∧ q < D.count)) : Calls Try.prog 62 #[.pointer (some ⟨r, 0, none⟩), .int .i64 q] w (RLoadOk Z r D ([], 1) w) := by
  have c1 := cells_all h.sr 1
  have c3 := cells_all h.sr 3
  rw [hoff] at c3
  have HH := Lib.hid h.at_
  clear h hoff
  by_cases h1 : q < 0
  · clear hq
    go_enter Try.func62, Try.ntmps62
    go_wp2_with fail
    go_ret2
    exact ⟨_, rfl, row_nil _ _ _ _ (Nat.zero_le _), HH.out, Out.refl _ _⟩
  · have h2 : (D.count : Int) ≤ q := by omega
    clear hq
    go_enter Try.func62, Try.ntmps62
    go_wp2_with fail
    go_ret2
    exact ⟨_, rfl, row_nil _ _ _ _ (Nat.zero_le _), HH.out, Out.refl _ _⟩

set_option maxRecDepth 100000 in
theorem rload_ok (h : Ref0 Z w r o f lv D) (q : Int) (hoff : D.off = false) (hq1 : 0 ≤ q) (hq2 : q < D.count) : Calls Try.prog 62 #[.pointer (some ⟨r, 0, none⟩), .int .i64 q] w (RLoadOk Z r D ((D.fresh q).getD ((D.old q).getD DS.zeros), 0) w) := by
  have c1 := cells_all h.sr 1
  have c3 := cells_all h.sr 3
  have c8 := cells_all h.sr 8
  have hk := h.ok.count
  rw [hoff] at c3
  have hl := MapV.look2 Try.underlying3 Try.underlying93 zero9 h.fresh (wf_i64 (a := q) (by omega) (by omega))
  have OL := Lib.hid (rold_is h q hq1 (by omega))
  have hln : ∀ L, (D.fresh q).getD ((D.old q).getD DS.zeros) = L → L.length = 512 := by
    intro L hL
    subst hL
    cases h1 : D.fresh q with
    | some s => exact (h.ok.fresh q s h1).2.2
    | none =>
      cases h2 : D.old q with
      | some s => exact (h.ok.old q s h2).2.2
      | none => exact List.length_replicate
  have HH := Lib.hid h
  unfold strF at hl
  generalize hzz : DS.zeros = zz at *
  clear h hoff hzz
  cases hv : D.fresh q with
  | none =>
    rw [hv] at hl hln
    simp only [Option.getD_none] at hln ⊢
    obtain ⟨M, hM⟩ : ∃ M, (D.old q).getD zz = M := ⟨_, rfl⟩
    rw [hM] at OL ⊢
    have hML := hln M hM
    clear hv hM hln
    go_enter Try.func62, Try.ntmps62
    go_wp2_with fail
    refine OL.out.mono ?_
    rintro e w1 ⟨rfl, ho⟩
    obtain ⟨A, c, w2, hrun, ho2, hr⟩ := str_bytes w1 M (le_maxLen (by omega))
    have HR := Lib.hid hr
    have HO := Lib.hid (ho.trans ho2)
    have HO1 := Lib.hid ho
    clear hr ho ho2 hl c1 c3 c8 OL hML
    go_wp2_with fail
    go_ret2
    exact ⟨_, rfl, HR.out Z (HH.out.top.mono HO1.out.size), (HH.out.any HO.out).at_, HO.out⟩
  | some L =>
    rw [hv] at hl hln
    simp only [Option.getD_some] at hln ⊢
    have hML := hln L rfl
    obtain ⟨A, c, w2, hrun, ho2, hr⟩ := str_bytes w L (le_maxLen (by omega))
    have HR := Lib.hid hr
    have HO := Lib.hid ho2
    clear hv hr ho2 OL hML hln
    go_enter Try.func62, Try.ntmps62
    go_wp2_with fail
    go_ret2
    exact ⟨_, rfl, HR.out Z HH.out.top, (HH.out.any HO.out).at_, HO.out⟩

theorem rload_is (h : RefAt Z w r D) (q : Int) : Calls Try.prog 62 #[.pointer (some ⟨r, 0, none⟩), .int .i64 q] w (RLoadOk Z r D (D.load q) w) := by
  obtain ⟨o, f, lv, h⟩ := h
  unfold DS.load
  cases hoff : D.off
  · rw [if_neg (by simp)]
    by_cases hq : 0 ≤ q ∧ q < D.count
    · rw [if_pos (by simp [DS.page, hq.1, hq.2])]; exact rload_ok h q hoff hq.1 hq.2
    · rw [if_neg (by simp only [DS.page, Bool.and_eq_true, decide_eq_true_eq]; omega)]; exact rload_arg h q hoff hq
  · rw [if_pos rfl]; exact rload_off h q hoff
end

/-- What New comes to where the numbers may be. -/
def RNewOk (most count : Int) (w : World) (e : Ending) (w' : World) : Prop :=
  ∃ r, e = .returned (.pointer (some ⟨r, 0, none⟩)) ∧ RefAt (Zone.of w.heap.size w'.heap.size) w' r (DS.new most count) ∧ Out Zone.no w w'

theorem rnew_ok (w : World) (most count : Int) (h1 : 1 ≤ most) (h2 : most ≤ 16777216) (h3 : 0 ≤ count) (h4 : count ≤ 65536) :
    Calls Try.prog 25 #[.int .i64 most, .int .i64 count] w (RNewOk most count w) := by
  have hmm := @run_makeMap Try.prog
  go_enter Try.func25, Try.ntmps25
  go_wp2_with fail
  go_ret
  have b1 := MapV.made Try.prog 3 w
  have o1 : Out Zone.no w (w.alloc (.map #[] 0)) := (Out.refl Zone.no w).alloc _
  generalize hw2 : w.alloc (.map #[] 0) = w2 at *
  have z2 : w2.heap.size = w.heap.size + 1 := by rw [← hw2]; simp
  have b2 := MapV.made Try.prog 3 w2
  have o2 : Out Zone.no w2 (w2.alloc (.map #[] 0)) := (Out.refl Zone.no w2).alloc _
  generalize hw3 : w2.alloc (.map #[] 0) = w3 at *
  have z3 : w3.heap.size = w2.heap.size + 1 := by rw [← hw3]; simp
  have a4 := heap_alloc_new w3 (.cells #[.int .i64 most, .int .i64 count, .int .i64 (-1), .bool false, .int .i64 0, .slice none 0 0, .int .i64 0, .map (some w.heap.size), .map (some (w.heap.size + 1))] 95)
  have o4 : Out Zone.no w3 (w3.alloc (.cells #[.int .i64 most, .int .i64 count, .int .i64 (-1), .bool false, .int .i64 0, .slice none 0 0, .int .i64 0, .map (some w.heap.size), .map (some (w.heap.size + 1))] 95)) := (Out.refl Zone.no w3).alloc _
  generalize hw4 : w3.alloc (.cells #[.int .i64 most, .int .i64 count, .int .i64 (-1), .bool false, .int .i64 0, .slice none 0 0, .int .i64 0, .map (some w.heap.size), .map (some (w.heap.size + 1))] 95) = w4 at *
  have z4 : w4.heap.size = w3.heap.size + 1 := by rw [← hw4]; simp
  have any : ∀ k : Nat, ¬ Zone.no.S k := fun k => id
  have es : strF (fun _ => none) = fun _ => none := rfl
  refine ⟨w.heap.size + 1 + 1, rfl, ⟨w.heap.size, w.heap.size + 1, .slice none 0 0, ?_⟩, (o1.trans o2).trans o4⟩
  rw [z2] at b2
  rw [z3, z2] at a4
  refine ⟨?_, row_nil _ _ _ _ (Nat.zero_le _), ?_, ?_, ⟨by omega, by omega⟩, ⟨by omega, by omega⟩, ⟨by omega, by omega⟩, fun k hk => hk.2, by omega, ?_⟩
  · have e1 : ((DS.new most count).most : Int) = most := by simp only [DS.new]; omega
    have e2 : ((DS.new most count).count : Int) = count := by simp only [DS.new]; omega
    rw [e1, e2]
    exact a4
  · exact (b1.out (o2.trans o4) (any _)).mono (by omega)
  · exact (b2.out o4 (any _)).mono (by omega)
  · refine ⟨by simp only [DS.new]; omega, by simp only [DS.new]; omega, Int.le_refl _, by simp only [DS.new]; omega, Nat.le_refl _, Nat.zero_le _, by simp only [DS.new]; omega, by simp only [DS.new]; omega, (fun k s hs => by cases hs), (fun k s hs => by cases hs)⟩

theorem rnew_bad (w : World) (most count : Int) (h : most < 1 ∨ 16777216 < most ∨ count < 0 ∨ 65536 < count) :
    Calls Try.prog 25 #[.int .i64 most, .int .i64 count] w fun e w' => e = .returned (.pointer none) ∧ w = w' := by
  by_cases h1 : most < 1
  · go_enter Try.func25, Try.ntmps25
    go_wp2_with fail
    go_ret
    exact ⟨rfl, rfl⟩
  · by_cases h2 : 16777216 < most
    · go_enter Try.func25, Try.ntmps25
      go_wp2_with fail
      go_ret
      exact ⟨rfl, rfl⟩
    · by_cases h3 : count < 0
      · go_enter Try.func25, Try.ntmps25
        go_wp2_with fail
        go_ret
        exact ⟨rfl, rfl⟩
      · have h4 : 65536 < count := by omega
        go_enter Try.func25, Try.ntmps25
        go_wp2_with fail
        go_ret
        exact ⟨rfl, rfl⟩
end Go.Proofs.Ytddcojikbcbihaa
