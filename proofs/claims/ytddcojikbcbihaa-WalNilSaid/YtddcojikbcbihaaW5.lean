import Derived.Test.YtddcojikbcbihaaW4
/-! The law WalNil, walked. -/
set_option linter.unusedVariables false
namespace Go.Proofs.Ytddcojikbcbihaa
open Go.RowKit

set_option maxRecDepth 100000 in
set_option maxHeartbeats 2000000 in
theorem wnil_is (w : World) (A : Option Addr) (n c : Nat) :
    Calls Try.prog 9 #[.slice A n c] w fun e w' => e = .returned (.bool true) ∧ Out Zone.no w w' := by
  go_enter Try.func9, Try.ntmps9
  go_wp2_with fail
  go_loopw [3, 4, 5] (fun vd vw vi wr => ∃ i : Nat, i ≤ 2 ∧ vi = .int .i64 (i : Int) ∧ Hid (NoDisk wr vd) ∧ Hid (NoWal wr vw) ∧ Hid (Out Zone.no w wr)) (fun _ _ vi _ => 2 - (intOf vi).toNat)
  case atStart => exact ⟨0, by omega, rfl, Or.inl rfl, Or.inl rfl, Out.refl _ _⟩
  case round =>
    obtain ⟨i, hi, rfl, hnd, hnw, how⟩ := hrel
    by_cases hlt : i < 2
    · go_wp2_with fail
      refine (nd_open hnd.out).mono ?_
      rintro e w' ⟨rfl, rfl⟩
      go_wp2_with fail
      refine (nw_append hnw.out _).mono ?_
      rintro e w' ⟨rfl, rfl⟩
      go_wp2_with fail
      refine (nw_since hnw.out _).mono ?_
      rintro e w1 ⟨rfl, ho1⟩
      have N1 := Lib.hid (hnw.out.out ho1)
      have O1 := Lib.hid (how.out.trans ho1)
      clear ho1 hnw hnd how
      go_wp2_with (first
        | (go_at_call 36; refine (wnum_is _ _).mono ?_; rintro e w' ⟨rfl, rfl⟩)
        | (go_at_call 38; refine (nw_sync N1.out).mono ?_; rintro e w' ⟨rfl, rfl⟩)
        | fail)
      refine (nw_truncate N1.out _).mono ?_
      rintro e w2 ⟨rfl, ho2⟩
      have N2 := Lib.hid (N1.out.out ho2)
      have O2 := Lib.hid (O1.out.trans ho2)
      clear ho2 N1 O1
      go_wp2_with (first
        | (go_at_call 36; refine (wnum_is _ _).mono ?_; rintro e w' ⟨rfl, rfl⟩)
        | fail)
      refine (nw_retire N2.out _).mono ?_
      rintro e w3 ⟨rfl, ho3⟩
      have N3 := Lib.hid (N2.out.out ho3)
      have O3 := Lib.hid (O2.out.trans ho3)
      clear ho3 N2 O2
      go_wp2_with (first
        | (go_at_call 36; refine (wnum_is _ _).mono ?_; rintro e w' ⟨rfl, rfl⟩)
        | (go_at_call 42; refine (nw_sure N3.out).mono ?_; rintro e w' ⟨rfl, rfl⟩)
        | fail)
      go_roundw
      case rel => exact ⟨i + 1, by omega, by go_num, (nodisk_made _).out ((Out.refl _ _).alloc _), (by have h := nowal_made (w3.alloc (.cells #[.pointer none, .int .i64 0, .int .i64 0, .int .i64 0, .int .i64 0, .slice none 0 0, .map none, .map none] 53)); rw [World.size_alloc] at h; exact h), (O3.out.alloc _).alloc _⟩
      case measure => simp [intOf]; omega
    · go_wp2_with (go_at_call 28; refine (wknows_is _).mono ?_; rintro e w2 ⟨rfl, hok⟩; have HOK := Lib.hid hok; clear hok)
      go_ret
      exact ⟨rfl, how.out.trans HOK.out⟩
end Go.Proofs.Ytddcojikbcbihaa
