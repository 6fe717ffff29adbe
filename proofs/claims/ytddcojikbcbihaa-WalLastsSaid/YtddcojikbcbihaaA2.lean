import Derived.Test.YtddcojikbcbihaaProg
import Derived.Test.YtddcojikbcbihaaA1
import Derived.KernelRfl
import Derived.WalkSpells
import Derived.Lib.SliceRun
import Derived.Deep.QuietTactic
import Derived.BigQuiet
/-! slices.Clone at []byte. -/
set_option linter.unusedVariables false
namespace Go.Proofs.Ytddcojikbcbihaa
open Go.RowKit

theorem elem22 : Elem Try.prog 22 5 (.int .u8 0) 1 := Elem.mk' Try.underlying22 (by kernel_rfl) (by kernel_rfl)

theorem row_nil (Z : Zone) (w : World) (A : Option Addr) (c : Nat) (hc : c ≤ maxLen) : Row Z w (.slice A 0 c) [] := ⟨A, c, rfl, Nat.zero_le _, hc, by simp⟩

theorem clone_any (w : World) (Z : Zone) (hhi : Z.Top w) (v : Value) (xs : List Value) (h : Row Z w v xs) (hl : xs.length ≤ 140737488355328) :
    Calls Try.prog 47 #[v] w fun e w' => ∃ v', e = .returned v' ∧ Out Zone.no w w' ∧ Row Z w' v' xs := by
  obtain ⟨A, c, rfl, h1, h2, h3⟩ := id h
  cases A with
  | none =>
    have hx : xs = [] := by
      cases xs with
      | nil => rfl
      | cons x r => obtain ⟨a, ha, _⟩ := h3 0 x (by simp); cases ha
    subst hx
    have e0 := Lib.run_eql_slice_nil (P := Try.prog) w 22 5 none 0 c 0 0 Try.underlying22
    clear h h1 h2 h3 hl hhi
    go_enter Try.func47, Try.ntmps47
    go_wp2_with fail
    go_ret
    exact ⟨_, rfl, Out.refl _ _, row_nil _ _ _ _ (Nat.zero_le _)⟩
  | some a =>
    have e0 := Lib.run_eql_slice_nil (P := Try.prog) w 22 5 (some a) xs.length c 0 0 Try.underlying22
    obtain ⟨v', w', hrun, ho, hr⟩ := append_tight elem22 (w.alloc (.cells #[] 5)) 22 Z (hhi.mono (by simp)) (.slice (some ⟨w.heap.size, 0, none⟩) 0 0) (.slice (some a) xs.length c) [] xs
      (row_nil _ _ _ _ (Nat.zero_le _)) (h.any.out ((Out.refl Zone.no w).alloc _)) (cap_self _) (le_maxLen (by rw [List.length_nil, Nat.zero_add]; exact hl)) (by rw [List.length_nil, Nat.zero_add, Nat.mul_one]; exact hl)
    have HR := Lib.hid hrun
    have HO := Lib.hid (((Out.refl Zone.no w).alloc _).trans ho)
    have HW := Lib.hid hr
    clear h h1 h2 h3 hl hhi hrun ho hr
    go_enter Try.func47, Try.ntmps47
    go_wp2_with (at_builtin; refine wpList_builtin rfl _ _ _ rfl HR.out ?_)
    go_ret
    exact ⟨_, rfl, HO.out, HW.out⟩
end Go.Proofs.Ytddcojikbcbihaa
