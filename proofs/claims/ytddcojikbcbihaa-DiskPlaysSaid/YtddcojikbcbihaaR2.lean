import Derived.Test.YtddcojikbcbihaaR1
import Derived.RegionTactic
import Derived.BigRegion
import Derived.Deep.RegionHeld3
/-! The document's disk: Cut. -/
set_option linter.unusedVariables false
namespace Go.Proofs.Ytddcojikbcbihaa
open Go.RowKit

section
variable {Z : Zone} {w : World} {r o f : Nat} {lv : Value} {D : DS}

/-- What a call comes to that answers an error alone. -/
def RDoes (Z : Zone) (r : Nat) (x : Int × DS) (w : World) (e : Ending) (w' : World) : Prop :=
  e = .returned (.int .i64 x.1) ∧ RefAt Z w' r x.2 ∧ Out Z w w'

theorem inn_false {D : DS} {at_ : Int} (h : D.inn at_ = false) : at_ < D.base ∨ D.base ≤ at_ ∧ D.fin < at_ := by
  unfold DS.inn at h
  simp only [Bool.and_eq_false_iff, decide_eq_false_iff_not] at h
  omega
theorem inn_true {D : DS} {at_ : Int} (h : D.inn at_ = true) : D.base ≤ at_ ∧ at_ ≤ D.fin := by
  unfold DS.inn at h
  simpa using h

theorem rcut_off (h : Ref0 Z w r o f lv D) (at_ : Int) (hoff : D.off = true) : Calls Try.prog 57 #[.pointer (some ⟨r, 0, none⟩), .int .i64 at_] w (RDoes Z r (9, D) w) := by
  have c3 := cells_all h.sr 3
  rw [hoff] at c3
  have HH := Lib.hid h.at_
  clear h hoff
  go_enter Try.func57, Try.ntmps57
  go_wp2_with fail
  go_ret
  exact ⟨rfl, HH.out, Out.refl _ _⟩

theorem rcut_arg (h : Ref0 Z w r o f lv D) (at_ : Int) (hoff : D.off = false) (hin : D.inn at_ = false) : Calls Try.prog 57 #[.pointer (some ⟨r, 0, none⟩), .int .i64 at_] w (RDoes Z r (1, D) w) := by
  have c3 := cells_all h.sr 3
  have c4 := cells_all h.sr 4
  rw [hoff] at c3
  have E := Lib.hid (rend_is h)
  have HH := Lib.hid h
  rcases inn_false hin with h1 | ⟨h1, h2⟩
  all_goals
    clear h hoff hin
    go_enter Try.func57, Try.ntmps57
    go_wp2_with (go_at_call 63; refine E.out.mono ?_; rintro e w' ⟨rfl, n, rfl⟩)
    go_ret
    first | exact ⟨rfl, HH.out.at_, Out.refl _ _⟩ | exact ⟨rfl, (HH.out.drewN _).at_, (Out.refl _ w).drewN _⟩

theorem rcut_dead (h : Ref0 Z w r o f lv D) (at_ : Int) (hoff : D.off = false) (hin : D.inn at_ = true) (hl : D.left = 0) : Calls Try.prog 57 #[.pointer (some ⟨r, 0, none⟩), .int .i64 at_] w (RDoes Z r (9, D.ticked) w) := by
  have c3 := cells_all h.sr 3
  have c4 := cells_all h.sr 4
  rw [hoff] at c3
  have E := Lib.hid (rend_is h)
  have HH := Lib.hid h
  have O := Lib.hid (fun n => roper_is (h.drewN n) hoff)
  rw [show decide (D.left ≠ 0) = false from by simp [hl]] at O
  obtain ⟨h1, h2⟩ := inn_true hin
  clear h hoff hin hl
  go_enter Try.func57, Try.ntmps57
  go_wp2_with (go_at_call 63; refine E.out.mono ?_; rintro e w' ⟨rfl, n, rfl⟩)
  refine (O.out _).mono ?_
  rintro e w1 ⟨rfl, hd1, ho1⟩
  have H1 := Lib.hid hd1.at_
  have HO1 := Lib.hid ho1.undrewN
  clear hd1 ho1 c3 c4 O
  go_wp2_with fail
  go_ret
  exact ⟨rfl, H1.out, HO1.out⟩

set_option maxRecDepth 100000 in
set_option maxHeartbeats 1000000 in
theorem rcut_ok (h : Ref0 Z w r o f lv D) (k : Nat) (hk : k ≤ D.log.length) (hoff : D.off = false) (hin : D.inn (D.base + k) = true) (hl : D.left ≠ 0) :
    Calls Try.prog 57 #[.pointer (some ⟨r, 0, none⟩), .int .i64 (D.base + k)] w (RDoes Z r (0, { D.ticked with log := D.log.take k, sure := min D.sure k }) w) := by
  obtain ⟨A, c, rfl, hc, _⟩ := h.log.form
  have c3 := cells_all h.sr 3
  have c4 := cells_all h.sr 4
  rw [hoff] at c3
  have E := Lib.hid (rend_is h)
  have O := Lib.hid (fun n => roper_is (h.drewN n) hoff)
  rw [show decide (D.left ≠ 0) = true from by simp [hl]] at O
  obtain ⟨h1, h2⟩ := inn_true hin
  have k4 := h.ok.log
  have k5 := h.ok.most
  have k6 := h.ok.base0
  have k7 := h.ok.base1
  have k8 := h.ok.sure
  have k9 : D.base + k ≤ 9223372036854775807 := by
    unfold DS.fin wrap64 at h2
    omega
  clear h hoff hin hl
  go_enter Try.func57, Try.ntmps57
  go_wp2_with (go_at_call 63; refine E.out.mono ?_; rintro e w' ⟨rfl, n, rfl⟩)
  refine (O.out _).mono ?_
  rintro e w1 ⟨rfl, hd1, ho1⟩
  have H1 := Lib.hid hd1
  have HO1 := Lib.hid ho1.undrewN
  have c4' := cells_all hd1.sr 4
  have c5' := cells_all hd1.sr 5
  have c6' := cells_all hd1.sr 6
  have f5 := frozen_all hd1.sr 5
  have f6 := frozen_all hd1.sr 6
  rw [DS.ticked_base] at c4'
  rw [DS.ticked_sure] at c6'
  clear hd1 ho1 c3 c4 O E h1 h2
  have e1 : D.base + (k : Int) - D.base = k := by omega
  have e2 : IntKind.i64.wrap (D.base + (k : Int) - D.base) = k := by rw [e1]; exact IntWalk.i64_in _ (by omega)
  have E2 := Lib.hid e2
  clear e2
  have F : Hid (∀ v : Int, v = ((min D.sure k : Nat) : Int) → ∀ n, RefAt Z (((w1.setCell ⟨r, 5, none⟩ (.slice A k c)).setCell ⟨r, 6, none⟩ (.int .i64 v)).drewN n) r { D.ticked with log := D.log.take k, sure := min D.sure k } ∧ Out Z w (((w1.setCell ⟨r, 5, none⟩ (.slice A k c)).setCell ⟨r, 6, none⟩ (.int .i64 v)).drewN n)) := by
    intro v hv n
    subst hv
    obtain ⟨h3, ho3⟩ := H1.out.store { D.ticked with log := D.log.take k, sure := min D.sure k } (.slice A k c)
      (w' := (w1.setCell ⟨r, 5, none⟩ (.slice A k c)).setCell ⟨r, 6, none⟩ (.int .i64 ((min D.sure k : Nat) : Int)))
      (by simpa using heap_set (heap_set H1.out.sr 5 (.slice A k c)) 6 (.int .i64 ((min D.sure k : Nat) : Int))) (grown_set2 _ _ _ _ _ _) rfl rfl
      (by
        have hr := H1.out.log
        rw [DS.ticked_log] at hr
        have := hr.cut3 (l := 0) (k := k) (m := c) (by omega) (by omega) (by omega) (Nat.le_refl _)
        rw [List.drop_zero, ← bytes_take] at this
        unfold cut3 at this
        by_cases hc0 : c = 0
        · rw [if_pos hc0] at this; exact this
        · rw [if_neg hc0] at this
          have e0 : A.map (·.add 0) = A := by cases A <;> simp [Addr.add]
          rw [e0] at this
          exact this)
      (H1.out.ok.cutOk k)
    exact ⟨(h3.drewN n).at_, (HO1.out.trans ho3).drewN n⟩
  have e2 := E2.out
  go_wp2_with fail
  go_region
  all_goals
    go_wp2_with fail
    go_region
    all_goals
      go_wp2_with fail
      go_ret
      exact ⟨rfl, F.out _ (by omega) 2⟩
end
end Go.Proofs.Ytddcojikbcbihaa
