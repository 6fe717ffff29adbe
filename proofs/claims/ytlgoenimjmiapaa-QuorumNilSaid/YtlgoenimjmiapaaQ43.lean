import Derived.Test.YtlgoenimjmiapaaQ40
/-! No node, and one that nobody made. -/
set_option linter.unusedVariables false
namespace Go.Proofs.Ytlgoenimjmiapaa
open Go.RowKit Go.Maps

set_option maxRecDepth 100000 in
theorem none_nil (w : World) : Calls Try.prog 27 #[.pointer none] w fun e w' => e = .returned (.bool true) ∧ w = w' := by
  go_enter Try.func27, Try.ntmps27
  go_wp2_with fail
  go_ret
  exact ⟨rfl, rfl⟩
set_option maxRecDepth 100000 in
theorem none_zero (w : World) (x : Nat) (h : w.cell? ⟨x, 4, none⟩ = some (.int .i64 0)) : Calls Try.prog 27 #[.pointer (some ⟨x, 0, none⟩)] w fun e w' => e = .returned (.bool true) ∧ w = w' := by
  go_enter Try.func27, Try.ntmps27
  go_wp2_with fail
  go_ret
  exact ⟨rfl, rfl⟩

/-- No node at p. -/
def NoNode (w : World) (p : Value) : Prop := ∀ W, Out Zone.no w W → Calls Try.prog 27 #[p] W fun e w' => e = .returned (.bool true) ∧ W = w'
theorem NoNode.nil (w : World) : NoNode w (.pointer none) := fun W _ => none_nil W
theorem NoNode.zero {w : World} {x : Nat} (h : w.cell? ⟨x, 4, none⟩ = some (.int .i64 0)) : NoNode w (.pointer (some ⟨x, 0, none⟩)) := fun W ho => none_zero W x (ho.cell h id)

section
variable {w : World} {p : Value}
set_option maxRecDepth 100000 in
theorem role_z (h : NoNode w p) : Calls Try.prog 16 #[p] w fun e w' => e = .returned (.int .i64 0) ∧ w = w' := by
  have H := Lib.hid (h w (Out.refl _ _))
  clear h
  go_enter Try.func16, Try.ntmps16
  go_wp2_with (go_at_call 27; with_reducible refine H.out.mono ?_; rintro e w' ⟨rfl, rfl⟩)
  go_ret
  exact ⟨rfl, rfl⟩
set_option maxRecDepth 100000 in
theorem commit_z (h : NoNode w p) : Calls Try.prog 17 #[p] w fun e w' => e = .returned (.int .i64 0) ∧ w = w' := by
  have H := Lib.hid (h w (Out.refl _ _))
  clear h
  go_enter Try.func17, Try.ntmps17
  go_wp2_with (go_at_call 27; with_reducible refine H.out.mono ?_; rintro e w' ⟨rfl, rfl⟩)
  go_ret
  exact ⟨rfl, rfl⟩
set_option maxRecDepth 100000 in
theorem promote_z (h : NoNode w p) : Calls Try.prog 12 #[p] w fun e w' => e = .returned (.tuple #[.agg #[.slice none 0 0, .slice none 0 0], .int .i64 1]) ∧ Out Zone.no w w' := by
  have H := Lib.hid (h (w.alloc (.cells #[.slice none 0 0, .slice none 0 0] 32)) ((Out.refl _ _).alloc _))
  clear h
  go_enter Try.func12, Try.ntmps12
  go_wp2_with (go_at_call 27; with_reducible refine H.out.mono ?_; rintro e w' ⟨rfl, rfl⟩)
  refine bodyPost_ret (v := .tuple #[.agg #[.slice none 0 0, .slice none 0 0], .int .i64 1]) (by simp [results, Try.results12, go_sem]) rfl ?_
  exact ⟨rfl, (Out.refl _ _).alloc _⟩
set_option maxRecDepth 100000 in
theorem tick_z (h : NoNode w p) : Calls Try.prog 14 #[p] w fun e w' => e = .returned (.tuple #[.agg #[.slice none 0 0, .slice none 0 0], .int .i64 1]) ∧ Out Zone.no w w' := by
  have H := Lib.hid (h (w.alloc (.cells #[.slice none 0 0, .slice none 0 0] 32)) ((Out.refl _ _).alloc _))
  clear h
  go_enter Try.func14, Try.ntmps14
  go_wp2_with (go_at_call 27; with_reducible refine H.out.mono ?_; rintro e w' ⟨rfl, rfl⟩)
  refine bodyPost_ret (v := .tuple #[.agg #[.slice none 0 0, .slice none 0 0], .int .i64 1]) (by simp [results, Try.results14, go_sem]) rfl ?_
  exact ⟨rfl, (Out.refl _ _).alloc _⟩
set_option maxRecDepth 100000 in
theorem append_z (h : NoNode w p) (S : ByteArray) : Calls Try.prog 13 #[p, .string S] w fun e w' => e = .returned (.tuple #[.int .i64 0, .agg #[.slice none 0 0, .slice none 0 0], .int .i64 1]) ∧ Out Zone.no w w' := by
  have H := Lib.hid (h (w.alloc (.cells #[.slice none 0 0, .slice none 0 0] 32)) ((Out.refl _ _).alloc _))
  clear h
  go_enter Try.func13, Try.ntmps13
  go_wp2_with (go_at_call 27; with_reducible refine H.out.mono ?_; rintro e w' ⟨rfl, rfl⟩)
  refine bodyPost_ret (v := .tuple #[.int .i64 0, .agg #[.slice none 0 0, .slice none 0 0], .int .i64 1]) (by simp [results, Try.results13, go_sem]) rfl ?_
  exact ⟨rfl, (Out.refl _ _).alloc _⟩
set_option maxRecDepth 100000 in
theorem state_z (h : NoNode w p) : Calls Try.prog 10 #[p] w fun e w' => e = .returned (.agg #[.int .i64 0, .int .i64 0, .slice none 0 0]) ∧ Out Zone.no w w' := by
  have H := Lib.hid (h (w.alloc (.cells #[.int .i64 0, .int .i64 0, .slice none 0 0] 28)) ((Out.refl _ _).alloc _))
  clear h
  go_enter Try.func10, Try.ntmps10
  go_wp2_with (go_at_call 27; with_reducible refine H.out.mono ?_; rintro e w' ⟨rfl, rfl⟩)
  refine bodyPost_ret (v := .agg #[.int .i64 0, .int .i64 0, .slice none 0 0]) (by simp [results, Try.results10, go_sem]) rfl ?_
  exact ⟨rfl, (Out.refl _ _).alloc _⟩
set_option maxRecDepth 100000 in
set_option maxHeartbeats 1000000 in
theorem step_z (h : NoNode w p) (m : Msg) (A : Option Addr) (n c : Nat) : Calls Try.prog 8 #[p, .agg (m.cells (.slice A n c)).toArray] w fun e w' => e = .returned (.tuple #[.agg #[.slice none 0 0, .slice none 0 0], .int .i64 1]) ∧ Out Zone.no w w' := by
  have o2 : Out Zone.no w ((w.alloc (.cells (m.cells (.slice A n c)).toArray 36)).alloc (.cells #[.slice none 0 0, .slice none 0 0] 32)) := ((Out.refl _ _).alloc _).alloc _
  have H : Hid (∀ k, Calls Try.prog 27 #[p] (((w.alloc (.cells (m.cells (.slice A n c)).toArray 36)).alloc (.cells #[.slice none 0 0, .slice none 0 0] 32)).drewN k) fun e w'' => e = .returned (.bool true) ∧ ∃ j, w'' = ((w.alloc (.cells (m.cells (.slice A n c)).toArray 36)).alloc (.cells #[.slice none 0 0, .slice none 0 0] 32)).drewN j) := fun k => (h _ (o2.drewN k)).mono (fun e w' ⟨h1, h2⟩ => ⟨h1, k, h2.symm⟩)
  have O2 := Lib.hid o2
  have r0 := cell_new (w.alloc (.cells (m.cells (.slice A n c)).toArray 36)) #[.slice none 0 0, .slice none 0 0] 32 0
  unfold Msg.cells at *
  clear h o2
  go_enter Try.func8, Try.ntmps8
  go_wp2_with fail
  go_quiet (first | (go_at_call 27; exact H.out _))
  go_wp2_with fail
  refine bodyPost_ret (v := .tuple #[.agg #[.slice none 0 0, .slice none 0 0], .int .i64 1]) (by simp [results, Try.results8, go_sem]) rfl ?_
  exact ⟨rfl, ((O2.out.drewN _).setCell (Or.inr (by show w.heap.size ≤ w.heap.size + 1; omega)) _).setCell (Or.inr (by show w.heap.size ≤ w.heap.size + 1; omega)) _⟩
end
end Go.Proofs.Ytlgoenimjmiapaa
