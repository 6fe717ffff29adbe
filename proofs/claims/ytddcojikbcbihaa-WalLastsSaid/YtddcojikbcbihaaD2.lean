import Derived.Test.YtddcojikbcbihaaD1
/-! The program's disk: End, in, page, Read, Base, Down. -/
set_option linter.unusedVariables false
namespace Go.Proofs.Ytddcojikbcbihaa
open Go.RowKit

section
variable {Z : Zone} {w : World} {d p o f : Nat} {lv : Value} {D : DS}

theorem Disk0.drewN (h : Disk0 Z w d p o f lv D) (n : Nat) : Disk0 Z (w.drewN n) d p o f lv D := ⟨h.sd, h.sp, h.log, h.old, h.fresh, h.bd, h.bp, h.bo, h.bf, h.top, h.ne, h.ok⟩

theorem end_is (h : Disk0 Z w d p o f lv D) : Calls Try.prog 20 #[.pointer (some ⟨d, 0, none⟩)] w fun e w' => e = .returned (.int .i64 D.fin) ∧ ∃ n, w' = w.drewN n := by
  have N := Lib.hid (none_is h)
  have k1 := h.ok.base0
  have k2 := h.ok.base1
  have k3 := h.ok.log
  have k4 := h.ok.most
  have k5 := h.sd
  obtain ⟨A, c, rfl, _, _, _⟩ := h.log
  rw [length_bytes] at k5
  have c3 := cells_all k5 3
  have c5 := cells_all k5 5
  unfold DS.fin
  clear h k5
  generalize D.log.length = n at *
  generalize D.base = b at *
  have hn : n ≤ 16777216 := by omega
  clear k3 k4
  go_enter Try.func20, Try.ntmps20
  go_wp2_with (go_at_call 48; refine N.out.mono ?_; rintro e w' ⟨rfl, rfl⟩)
  go_quiet (fail)
  go_wp2_with fail
  go_ret
  exact ⟨rfl, _, rfl⟩

theorem in_is (h : Disk0 Z w d p o f lv D) (at_ : Int) : Calls Try.prog 46 #[.pointer (some ⟨d, 0, none⟩), .int .i64 at_] w fun e w' => e = .returned (.bool (D.inn at_)) ∧ ∃ n, w' = w.drewN n := by
  have N := Lib.hid (none_is h)
  have E := Lib.hid (end_is h)
  have c3 := cells_all h.sd 3
  unfold DS.inn
  clear h
  generalize D.fin = q at *
  generalize D.base = b at *
  by_cases h1 : b ≤ at_
  · have h1' : decide (b ≤ at_) = true := decide_eq_true h1
    go_enter Try.func46, Try.ntmps46
    go_wp2_with (first | (go_at_call 48; refine N.out.mono ?_; rintro e w' ⟨rfl, rfl⟩) | (go_at_call 20; refine E.out.mono ?_; rintro e w' ⟨rfl, n, rfl⟩))
    all_goals
      go_ret
      exact ⟨by simp [h1], _, rfl⟩
  · have h1' : decide (b ≤ at_) = false := decide_eq_false h1
    go_enter Try.func46, Try.ntmps46
    go_wp2_with (first | (go_at_call 48; refine N.out.mono ?_; rintro e w' ⟨rfl, rfl⟩) | (go_at_call 20; refine E.out.mono ?_; rintro e w' ⟨rfl, n, rfl⟩))
    all_goals
      go_ret
      exact ⟨by simp; omega, 0, rfl⟩

theorem page_is (h : Disk0 Z w d p o f lv D) (q : Int) : Calls Try.prog 52 #[.pointer (some ⟨d, 0, none⟩), .int .i64 q] w fun e w' => e = .returned (.bool (D.page q)) ∧ w = w' := by
  have N := Lib.hid (none_is h)
  have c2 := cells_all h.sd 2
  unfold DS.page
  clear h
  generalize D.count = k at *
  by_cases h1 : 0 ≤ q
  · have h1' : decide (0 ≤ q) = true := decide_eq_true h1
    go_enter Try.func52, Try.ntmps52
    go_wp2_with (go_at_call 48; refine N.out.mono ?_; rintro e w' ⟨rfl, rfl⟩)
    all_goals
      go_ret
      exact ⟨by simp [h1], rfl⟩
  · have h1' : decide (0 ≤ q) = false := decide_eq_false h1
    go_enter Try.func52, Try.ntmps52
    go_wp2_with (go_at_call 48; refine N.out.mono ?_; rintro e w' ⟨rfl, rfl⟩)
    all_goals
      go_ret
      exact ⟨by simp; omega, rfl⟩

theorem base_is (h : Disk0 Z w d p o f lv D) : Calls Try.prog 19 #[.pointer (some ⟨d, 0, none⟩)] w fun e w' => e = .returned (.int .i64 D.base) ∧ w = w' := by
  have N := Lib.hid (none_is h)
  have c3 := cells_all h.sd 3
  clear h
  go_enter Try.func19, Try.ntmps19
  go_wp2_with (go_at_call 48; refine N.out.mono ?_; rintro e w' ⟨rfl, rfl⟩)
  go_ret
  exact ⟨rfl, rfl⟩

theorem down_is (h : Disk0 Z w d p o f lv D) : Calls Try.prog 27 #[.pointer (some ⟨d, 0, none⟩)] w fun e w' => e = .returned (.bool D.off) ∧ w = w' := by
  have N := Lib.hid (none_is h)
  have c0 := cells_all h.sd 0
  have c1 := cells_all h.sp 1
  clear h
  go_enter Try.func27, Try.ntmps27
  go_wp2_with (go_at_call 48; refine N.out.mono ?_; rintro e w' ⟨rfl, rfl⟩)
  all_goals
    go_ret
    exact ⟨rfl, rfl⟩
end
end Go.Proofs.Ytddcojikbcbihaa
