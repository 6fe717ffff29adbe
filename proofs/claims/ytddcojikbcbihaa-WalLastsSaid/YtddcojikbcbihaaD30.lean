import Derived.Test.YtddcojikbcbihaaD15
/-! No disk, and one that nobody made. -/
set_option linter.unusedVariables false
namespace Go.Proofs.Ytddcojikbcbihaa
open Go.RowKit

/-- No disk: nil, or one that nobody made. -/
def NoDisk (w : World) (v : Value) : Prop :=
  v = .pointer none ∨ ∃ d, v = .pointer (some ⟨d, 0, none⟩) ∧ w.heap[d]? = some (.cells #[.pointer none, .int .i64 0, .int .i64 0, .int .i64 0, .int .i64 0, .slice none 0 0, .map none, .map none] 53 (0, 0))

theorem nd_none {w : World} {v : Value} (h : NoDisk w v) : Calls Try.prog 48 #[v] w fun e w' => e = .returned (.bool true) ∧ w = w' := by
  rcases h with rfl | ⟨d, rfl, h⟩
  · go_enter Try.func48, Try.ntmps48
    go_wp2
    go_ret
    exact ⟨rfl, rfl⟩
  · have c0 := cells_all h 0
    clear h
    go_enter Try.func48, Try.ntmps48
    go_wp2
    go_ret
    exact ⟨rfl, rfl⟩

theorem nd_may {w : World} {v : Value} (h : NoDisk w v) (fine : Bool) : Calls Try.prog 43 #[v, .bool fine] w fun e w' => e = .returned (.int .i64 1) ∧ w = w' := by
  have N := Lib.hid (nd_none h)
  clear h
  go_enter Try.func43, Try.ntmps43
  go_wp2_with (go_at_call 48; refine N.out.mono ?_; rintro e w' ⟨rfl, rfl⟩)
  go_ret
  exact ⟨rfl, rfl⟩

theorem nd_append {w : World} {v : Value} (h : NoDisk w v) (s : Value) : Calls Try.prog 13 #[v, s] w fun e w' => e = .returned (.tuple #[.int .i64 0, .int .i64 1]) ∧ w = w' := by
  have N := Lib.hid (nd_may h true)
  clear h
  go_enter Try.func13, Try.ntmps13
  go_wp2_with (go_at_call 43; refine N.out.mono ?_; rintro e w' ⟨rfl, rfl⟩)
  go_ret2
  exact ⟨rfl, rfl⟩

theorem nd_sync {w : World} {v : Value} (h : NoDisk w v) : Calls Try.prog 14 #[v] w fun e w' => e = .returned (.int .i64 1) ∧ w = w' := by
  have N := Lib.hid (nd_may h true)
  clear h
  go_enter Try.func14, Try.ntmps14
  go_wp2_with (go_at_call 43; refine N.out.mono ?_; rintro e w' ⟨rfl, rfl⟩)
  go_ret
  exact ⟨rfl, rfl⟩

theorem nd_in {w : World} {v : Value} (h : NoDisk w v) (at_ : Int) : Calls Try.prog 46 #[v, .int .i64 at_] w fun e w' => e = .returned (.bool false) ∧ w = w' := by
  have N := Lib.hid (nd_none h)
  clear h
  go_enter Try.func46, Try.ntmps46
  go_wp2_with (go_at_call 48; refine N.out.mono ?_; rintro e w' ⟨rfl, rfl⟩)
  go_ret
  exact ⟨rfl, rfl⟩

theorem nd_page {w : World} {v : Value} (h : NoDisk w v) (q : Int) : Calls Try.prog 52 #[v, .int .i64 q] w fun e w' => e = .returned (.bool false) ∧ w = w' := by
  have N := Lib.hid (nd_none h)
  clear h
  go_enter Try.func52, Try.ntmps52
  go_wp2_with (go_at_call 48; refine N.out.mono ?_; rintro e w' ⟨rfl, rfl⟩)
  go_ret
  exact ⟨rfl, rfl⟩

theorem nd_cut {w : World} {v : Value} (h : NoDisk w v) (at_ : Int) : Calls Try.prog 16 #[v, .int .i64 at_] w fun e w' => e = .returned (.int .i64 1) ∧ w = w' := by
  have N := Lib.hid (nd_may h false)
  have I := Lib.hid (nd_in h at_)
  clear h
  go_enter Try.func16, Try.ntmps16
  go_wp2_with (first | (go_at_call 43; refine N.out.mono ?_; rintro e w' ⟨rfl, rfl⟩) | (go_at_call 46; refine I.out.mono ?_; rintro e w' ⟨rfl, rfl⟩))
  go_ret
  exact ⟨rfl, rfl⟩

theorem nd_retire {w : World} {v : Value} (h : NoDisk w v) (at_ : Int) : Calls Try.prog 15 #[v, .int .i64 at_] w fun e w' => e = .returned (.int .i64 1) ∧ w = w' := by
  have N := Lib.hid (nd_may h false)
  have I := Lib.hid (nd_in h at_)
  clear h
  go_enter Try.func15, Try.ntmps15
  go_wp2_with (first | (go_at_call 43; refine N.out.mono ?_; rintro e w' ⟨rfl, rfl⟩) | (go_at_call 46; refine I.out.mono ?_; rintro e w' ⟨rfl, rfl⟩))
  go_ret
  exact ⟨rfl, rfl⟩

theorem nd_read {w : World} {v : Value} (h : NoDisk w v) (at_ : Int) : Calls Try.prog 18 #[v, .int .i64 at_] w fun e w' => e = .returned (.tuple #[.slice none 0 0, .int .i64 1]) ∧ w = w' := by
  have N := Lib.hid (nd_may h false)
  have I := Lib.hid (nd_in h at_)
  clear h
  go_enter Try.func18, Try.ntmps18
  go_wp2_with (first | (go_at_call 43; refine N.out.mono ?_; rintro e w' ⟨rfl, rfl⟩) | (go_at_call 46; refine I.out.mono ?_; rintro e w' ⟨rfl, rfl⟩))
  go_ret2
  exact ⟨rfl, rfl⟩

theorem nd_load {w : World} {v : Value} (h : NoDisk w v) (q : Int) : Calls Try.prog 24 #[v, .int .i64 q] w fun e w' => e = .returned (.tuple #[.slice none 0 0, .int .i64 1]) ∧ w = w' := by
  have N := Lib.hid (nd_may h false)
  have I := Lib.hid (nd_page h q)
  clear h
  go_enter Try.func24, Try.ntmps24
  go_wp2_with (first | (go_at_call 43; refine N.out.mono ?_; rintro e w' ⟨rfl, rfl⟩) | (go_at_call 52; refine I.out.mono ?_; rintro e w' ⟨rfl, rfl⟩))
  go_ret2
  exact ⟨rfl, rfl⟩

theorem nd_write {w : World} {v : Value} (h : NoDisk w v) (q : Int) (A : Option Addr) (n c : Nat) : Calls Try.prog 22 #[v, .int .i64 q, .slice A n c] w fun e w' => e = .returned (.int .i64 1) ∧ w = w' := by
  have N := Lib.hid (nd_may h false)
  have I := Lib.hid (nd_page h q)
  clear h
  go_enter Try.func22, Try.ntmps22
  go_wp2_with (first | (go_at_call 43; refine N.out.mono ?_; rintro e w' ⟨rfl, rfl⟩) | (go_at_call 52; refine I.out.mono ?_; rintro e w' ⟨rfl, rfl⟩))
  go_ret
  exact ⟨rfl, rfl⟩

theorem nd_base {w : World} {v : Value} (h : NoDisk w v) : Calls Try.prog 19 #[v] w fun e w' => e = .returned (.int .i64 0) ∧ w = w' := by
  have N := Lib.hid (nd_none h)
  clear h
  go_enter Try.func19, Try.ntmps19
  go_wp2_with (go_at_call 48; refine N.out.mono ?_; rintro e w' ⟨rfl, rfl⟩)
  go_ret
  exact ⟨rfl, rfl⟩

theorem nd_end {w : World} {v : Value} (h : NoDisk w v) : Calls Try.prog 20 #[v] w fun e w' => e = .returned (.int .i64 0) ∧ w = w' := by
  have N := Lib.hid (nd_none h)
  clear h
  go_enter Try.func20, Try.ntmps20
  go_wp2_with (go_at_call 48; refine N.out.mono ?_; rintro e w' ⟨rfl, rfl⟩)
  go_ret
  exact ⟨rfl, rfl⟩

theorem nd_down {w : World} {v : Value} (h : NoDisk w v) : Calls Try.prog 27 #[v] w fun e w' => e = .returned (.bool false) ∧ w = w' := by
  have N := Lib.hid (nd_none h)
  clear h
  go_enter Try.func27, Try.ntmps27
  go_wp2_with (go_at_call 48; refine N.out.mono ?_; rintro e w' ⟨rfl, rfl⟩)
  go_ret
  exact ⟨rfl, rfl⟩

theorem nd_crash {w : World} {v : Value} (h : NoDisk w v) (k : Int) (t : Bool) (fv : Value) : Calls Try.prog 17 #[v, .int .i64 k, .bool t, fv] w fun e w' => e = .returned (.tuple #[]) ∧ w = w' := by
  have N := Lib.hid (nd_none h)
  clear h
  go_enter Try.func17, Try.ntmps17
  go_wp2_with (go_at_call 48; refine N.out.mono ?_; rintro e w' ⟨rfl, rfl⟩)
  exact bodyPost_ret (v := .tuple #[]) (by simp [results, Try.results17, go_sem]) rfl ⟨rfl, rfl⟩

theorem nd_pfuse (w : World) (k : Int) : Calls Try.prog 53 #[.pointer none, .int .i64 k] w fun e w' => e = .returned (.tuple #[]) ∧ w = w' := by
  go_enter Try.func53, Try.ntmps53
  go_wp2
  go_end0
  exact ⟨rfl, rfl⟩

theorem nd_fuse {w : World} {v : Value} (h : NoDisk w v) (k : Int) : Calls Try.prog 23 #[v, .int .i64 k] w fun e w' => e = .returned (.tuple #[]) ∧ w = w' := by
  rcases h with rfl | ⟨d, rfl, h⟩
  · go_enter Try.func23, Try.ntmps23
    go_wp2
    go_end0
    exact ⟨rfl, rfl⟩
  · have c0 := cells_all h 0
    clear h
    go_enter Try.func23, Try.ntmps23
    go_wp2_with (go_at_call 53; refine (nd_pfuse _ _).mono ?_; rintro e w' ⟨rfl, rfl⟩)
    go_end0
    exact ⟨rfl, rfl⟩
end Go.Proofs.Ytddcojikbcbihaa
