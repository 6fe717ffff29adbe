import Derived.Test.YtddcojikbcbihaaD10
/-! The program's disk: Retire, every way. -/
set_option linter.unusedVariables false
namespace Go.Proofs.Ytddcojikbcbihaa
open Go.RowKit

section
variable {Z : Zone} {w : World} {d p o f : Nat} {lv : Value} {D : DS}

theorem retire_is (h : DiskAt Z w d D) (at_ : Int) : Calls Try.prog 15 #[.pointer (some ⟨d, 0, none⟩), .int .i64 at_] w (Does Z d (D.retire at_) w) := by
  obtain ⟨p, o, f, lv, h⟩ := h
  by_cases hm : D.may (D.inn at_) = 0
  · obtain ⟨hoff, hin⟩ := may_zero hm
    obtain ⟨k1, k2, k3⟩ := h.ok.inn hin
    obtain ⟨k, rfl⟩ : ∃ k : Nat, at_ = D.base + k := ⟨(at_ - D.base).toNat, by omega⟩
    have hk : (D.base + (k : Int) - D.base).toNat = k := by omega
    unfold DS.retire
    rw [if_neg (by rw [hoff]; simp), if_pos hin, hk]
    by_cases hl : D.left = 0
    · rw [if_pos hl]
      have hop : D.oper = 9 := by unfold DS.oper; rw [if_pos hl]
      have I := Lib.hid (in_is h (D.base + k))
      have M : ∀ n, Hid _ := fun n => Lib.hid (may_is (h.drewN n) (D.inn (D.base + k)))
      rw [hm] at M
      have O := Lib.hid (fun n => operation_is (h.drewN n) hoff)
      rw [hop] at O
      have HH := Lib.hid h
      have c0 := cells_all h.sd 0
      clear h hm hop hl hoff hin k1 k2 k3 hk
      go_enter Try.func15, Try.ntmps15
      go_wp2_with fail
      refine I.out.mono ?_
      rintro e w' ⟨rfl, n, rfl⟩
      go_wp2_with fail
      refine (M _).out.mono ?_
      rintro e w' ⟨rfl, rfl⟩
      go_wp2_with fail
      refine (O.out _).mono ?_
      rintro e w1 ⟨rfl, hp1, hg1⟩
      obtain ⟨h1, ho1⟩ := (HH.out.drewN _).ticked hp1 hg1
      have H1 := Lib.hid h1.at_
      have HO1 := Lib.hid ho1.undrewN
      clear hp1 hg1 c0 ho1 M O HH h1 I
      go_wp2_with fail
      go_ret
      exact ⟨rfl, H1.out, HO1.out⟩
    · rw [if_neg hl]
      exact retire_ok h k (by omega) hm hl
  · have hres : ∃ x, D.retire at_ = (x, D) ∧ D.may (D.inn at_) = x := by
      unfold DS.retire DS.may at *
      cases h1 : D.off <;> rw [h1] at hm
      · cases h2 : D.inn at_ <;> rw [h2] at hm
        · exact ⟨1, rfl, rfl⟩
        · exact absurd rfl hm
      · exact ⟨9, rfl, rfl⟩
    obtain ⟨x, h1, h2⟩ := hres
    have hx : (x == 0) = false := beq_eq_false_iff_ne.2 (h2 ▸ hm)
    have hx' : (x != 0) = true := bne_iff_ne.2 (h2 ▸ hm)
    have I := Lib.hid (in_is h at_)
    have M : ∀ n, Hid _ := fun n => Lib.hid (may_is (h.drewN n) (D.inn at_))
    rw [h1]
    rw [h2] at M
    have HH := Lib.hid h
    clear h h1 h2 hm
    go_enter Try.func15, Try.ntmps15
    go_wp2_with (first | (go_at_call 46; refine I.out.mono ?_; rintro e w' ⟨rfl, n, rfl⟩) | (go_at_call 43; refine (M _).out.mono ?_; rintro e w' ⟨rfl, rfl⟩))
    go_ret
    exact ⟨rfl, (HH.out.drewN _).at_, (Out.refl _ w).drewN _⟩
end
end Go.Proofs.Ytddcojikbcbihaa
