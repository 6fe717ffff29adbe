import Derived.Test.YtddcojikbcbihaaD30
/-! The law DiskNil, walked. -/
set_option linter.unusedVariables false
namespace Go.Proofs.Ytddcojikbcbihaa
open Go.RowKit

theorem NoDisk.out {w w' : World} {v : Value} (h : NoDisk w v) (ho : Out Zone.no w w') : NoDisk w' v := by
  rcases h with h | ⟨d, h1, h2⟩
  · exact Or.inl h
  · exact Or.inr ⟨d, h1, ho.get h2 id⟩
theorem nodisk_made (w : World) : NoDisk (w.alloc (.cells #[.pointer none, .int .i64 0, .int .i64 0, .int .i64 0, .int .i64 0, .slice none 0 0, .map none, .map none] 53)) (.pointer (some ⟨w.heap.size, 0, none⟩)) :=
  Or.inr ⟨_, rfl, heap_alloc_new w _⟩

set_option maxRecDepth 100000 in
set_option maxHeartbeats 2000000 in
theorem nil_is (w : World) (k q : Int) (hq : -9223372036854775808 ≤ q ∧ q ≤ 9223372036854775807) (A : Option Addr) (n c : Nat) (torn : Bool) (Af : Option Addr) (nf cf : Nat) :
    Calls Try.prog 6 #[.agg #[.int .i64 k, .int .i64 q, .slice A n c, .bool torn, .slice Af nf cf]] w fun e w' => e = .returned (.bool true) ∧ Out Zone.no w w' := by
  have H0 := Lib.hid ((Out.refl Zone.no w).alloc (.cells #[.int .i64 k, .int .i64 q, .slice A n c, .bool torn, .slice Af nf cf] 42))
  have HX := Lib.hid (heap_alloc_new w (.cells #[.int .i64 k, .int .i64 q, .slice A n c, .bool torn, .slice Af nf cf] 42))
  go_enter Try.func6, Try.ntmps6
  go_wp2_with fail
  obtain ⟨W, hW⟩ : ∃ W, w.alloc (.cells #[.int .i64 k, .int .i64 q, .slice A n c, .bool torn, .slice Af nf cf] 42) = W := ⟨_, rfl⟩
  rw [hW] at H0 HX ⊢
  obtain ⟨g, hg⟩ : ∃ g, w.heap.size = g := ⟨_, rfl⟩
  rw [hg] at HX ⊢
  clear hW hg
  go_loopw [3, 4] (fun vd vi wr => ∃ i : Nat, i ≤ 2 ∧ vi = .int .i64 (i : Int) ∧ Hid (NoDisk wr vd) ∧ Hid (Out Zone.no W wr)) (fun _ vi _ => 2 - (intOf vi).toNat)
  case atStart => exact ⟨0, by omega, rfl, Or.inl rfl, Out.refl _ _⟩
  case round =>
    obtain ⟨i, hi, rfl, hnd, how⟩ := hrel
    by_cases hlt : i < 2
    · have hx := how.out.get HX.out id
      have c1 := cells_all hx 1
      have c2 := cells_all hx 2
      have c3 := cells_all hx 3
      have c4 := cells_all hx 4
      clear hx
      rename_i vd _ _
      go_wp2_with (first
        | (go_at_call 17; refine (nd_crash hnd.out _ _ _).mono ?_; rintro e w' ⟨rfl, rfl⟩)
        | (go_at_call 13; refine (nd_append hnd.out _).mono ?_; rintro e w' ⟨rfl, rfl⟩)
        | (go_at_call 18; refine (nd_read hnd.out _).mono ?_; rintro e w' ⟨rfl, rfl⟩)
        | (go_at_call 24; refine (nd_load hnd.out _).mono ?_; rintro e w' ⟨rfl, rfl⟩)
        | (go_at_call 14; refine (nd_sync hnd.out).mono ?_; rintro e w' ⟨rfl, rfl⟩)
        | (go_at_call 16; refine (nd_cut hnd.out _).mono ?_; rintro e w' ⟨rfl, rfl⟩)
        | (go_at_call 15; refine (nd_retire hnd.out _).mono ?_; rintro e w' ⟨rfl, rfl⟩)
        | (go_at_call 22; refine (nd_write hnd.out _ _ _ _).mono ?_; rintro e w' ⟨rfl, rfl⟩)
        | (go_at_call 19; refine (nd_base hnd.out).mono ?_; rintro e w' ⟨rfl, rfl⟩)
        | (go_at_call 20; refine (nd_end hnd.out).mono ?_; rintro e w' ⟨rfl, rfl⟩)
        | (go_at_call 27; refine (nd_down hnd.out).mono ?_; rintro e w' ⟨rfl, rfl⟩)
        | (go_at_call 23; refine (nd_fuse hnd.out _).mono ?_; rintro e w' ⟨rfl, rfl⟩)
        | (go_at_call 11; refine (num_is _ _).mono ?_; rintro e w' ⟨rfl, rfl⟩))
      go_roundw
      case rel => exact ⟨i + 1, by omega, by go_num, nodisk_made _, how.out.alloc _⟩
      case measure => simp [intOf]; omega
    · go_wp2_with (go_at_call 12; refine (knows_is _).mono ?_; rintro e w2 ⟨rfl, hok⟩; have HOK := Lib.hid hok; clear hok)
      go_ret
      exact ⟨rfl, (H0.out.trans how.out).trans HOK.out⟩
end Go.Proofs.Ytddcojikbcbihaa
