import Derived.Test.YtddcojikbcbihaaD31
/-! No wal, and one that nobody made. -/
set_option linter.unusedVariables false
namespace Go.Proofs.Ytddcojikbcbihaa
open Go.RowKit

/-- No wal: nil, or one that nobody made. -/
def NoWal (w : World) (v : Value) : Prop :=
  v = .pointer none ∨ ∃ d, v = .pointer (some ⟨d, 0, none⟩) ∧ w.heap[d]? = some (.cells #[.pointer none, .int .i64 0] 79 (0, 0))

theorem wnum_is (w : World) (k : Int) : Calls Try.prog 36 #[.int .i64 k] w fun e w' => e = .returned (.int .i64 k) ∧ w = w' := by
  go_enter Try.func36, Try.ntmps36
  go_wp2
  go_ret
  exact ⟨rfl, rfl⟩

theorem nw_none {w : World} {v : Value} (h : NoWal w v) : Calls Try.prog 66 #[v] w fun e w' => e = .returned (.bool true) ∧ w = w' := by
  rcases h with rfl | ⟨d, rfl, h⟩
  · go_enter Try.func66, Try.ntmps66
    go_wp2
    go_ret
    exact ⟨rfl, rfl⟩
  · have c0 := cells_all h 0
    clear h
    go_enter Try.func66, Try.ntmps66
    go_wp2
    go_ret
    exact ⟨rfl, rfl⟩

theorem nw_append {w : World} {v : Value} (h : NoWal w v) (s : Value) : Calls Try.prog 37 #[v, s] w fun e w' => e = .returned (.tuple #[.int .i64 0, .int .i64 1]) ∧ w = w' := by
  have N := Lib.hid (nw_none h)
  clear h
  go_enter Try.func37, Try.ntmps37
  go_wp2_with (go_at_call 66; refine N.out.mono ?_; rintro e w' ⟨rfl, rfl⟩)
  go_ret2
  exact ⟨rfl, rfl⟩

theorem nw_sync {w : World} {v : Value} (h : NoWal w v) : Calls Try.prog 38 #[v] w fun e w' => e = .returned (.int .i64 1) ∧ w = w' := by
  have N := Lib.hid (nw_none h)
  clear h
  go_enter Try.func38, Try.ntmps38
  go_wp2_with (go_at_call 66; refine N.out.mono ?_; rintro e w' ⟨rfl, rfl⟩)
  go_ret
  exact ⟨rfl, rfl⟩

theorem nw_sure {w : World} {v : Value} (h : NoWal w v) : Calls Try.prog 42 #[v] w fun e w' => e = .returned (.int .i64 0) ∧ w = w' := by
  have N := Lib.hid (nw_none h)
  clear h
  go_enter Try.func42, Try.ntmps42
  go_wp2_with (go_at_call 66; refine N.out.mono ?_; rintro e w' ⟨rfl, rfl⟩)
  go_ret
  exact ⟨rfl, rfl⟩

theorem NoWal.out {w w' : World} {v : Value} (h : NoWal w v) (ho : Out Zone.no w w') : NoWal w' v := by
  rcases h with h | ⟨d, h1, h2⟩
  · exact Or.inl h
  · exact Or.inr ⟨d, h1, ho.get h2 id⟩
theorem nowal_made (w : World) : NoWal (w.alloc (.cells #[.pointer none, .int .i64 0] 79)) (.pointer (some ⟨w.heap.size, 0, none⟩)) :=
  Or.inr ⟨_, rfl, heap_alloc_new w _⟩

theorem nw_since {w : World} {v : Value} (h : NoWal w v) (at_ : Int) : Calls Try.prog 39 #[v, .int .i64 at_] w fun e w' => e = .returned (.tuple #[.slice none 0 0, .int .i64 1]) ∧ Out Zone.no w w' := by
  have N := Lib.hid (nw_none (h.out ((Out.refl _ _).alloc (.cells #[.int .i64 at_] 3))))
  have O := Lib.hid ((Out.refl Zone.no w).alloc (.cells #[.int .i64 at_] 3))
  clear h
  go_enter Try.func39, Try.ntmps39
  go_wp2_with (go_at_call 66; refine N.out.mono ?_; rintro e w' ⟨rfl, rfl⟩)
  go_ret2
  exact ⟨rfl, O.out⟩

theorem nw_truncate {w : World} {v : Value} (h : NoWal w v) (at_ : Int) : Calls Try.prog 40 #[v, .int .i64 at_] w fun e w' => e = .returned (.int .i64 1) ∧ Out Zone.no w w' := by
  have N := Lib.hid (nw_since h at_)
  clear h
  go_enter Try.func40, Try.ntmps40
  go_wp2_with (go_at_call 39; refine N.out.mono ?_; rintro e w' ⟨rfl, ho⟩; have O := Lib.hid ho; clear ho)
  go_ret
  exact ⟨rfl, O.out⟩

theorem nw_retire {w : World} {v : Value} (h : NoWal w v) (at_ : Int) : Calls Try.prog 41 #[v, .int .i64 at_] w fun e w' => e = .returned (.int .i64 1) ∧ Out Zone.no w w' := by
  have N := Lib.hid (nw_since h at_)
  clear h
  go_enter Try.func41, Try.ntmps41
  go_wp2_with (go_at_call 39; refine N.out.mono ?_; rintro e w' ⟨rfl, ho⟩; have O := Lib.hid ho; clear ho)
  go_ret
  exact ⟨rfl, O.out⟩

theorem nd_open {w : World} {v : Value} (h : NoDisk w v) : Calls Try.prog 35 #[v] w fun e w' => e = .returned (.tuple #[.pointer none, .slice none 0 0, .int .i64 1]) ∧ w = w' := by
  have N := Lib.hid (nd_base h)
  have R := Lib.hid (nd_read h 0)
  clear h
  go_enter Try.func35, Try.ntmps35
  go_wp2_with (first | (go_at_call 19; refine N.out.mono ?_; rintro e w' ⟨rfl, rfl⟩) | (go_at_call 18; refine R.out.mono ?_; rintro e w' ⟨rfl, rfl⟩))
  exact bodyPost_ret (v := .tuple #[.pointer none, .slice none 0 0, .int .i64 1]) (by simp [results, Try.results35, go_sem]) rfl ⟨rfl, rfl⟩
end Go.Proofs.Ytddcojikbcbihaa
