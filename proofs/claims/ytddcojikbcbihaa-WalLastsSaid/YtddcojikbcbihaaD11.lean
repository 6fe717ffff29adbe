import Derived.Test.YtddcojikbcbihaaD9
/-! The program's disk: New. -/
set_option linter.unusedVariables false
namespace Go.Proofs.Ytddcojikbcbihaa
open Go.RowKit

/-- A new disk. -/
def DS.new (most count : Int) : DS := { left := -1, off := false, most := most.toNat, count := count.toNat, base := 0, sure := 0, log := [], old := fun _ => none, fresh := fun _ => none }

/-- What New comes to where the numbers may be: a disk in the call's own blocks. -/
def NewOk (most count : Int) (w : World) (e : Ending) (w' : World) : Prop :=
  ∃ d, e = .returned (.tuple #[.pointer (some ⟨d, 0, none⟩), .int .i64 0]) ∧ DiskAt (Zone.of w.heap.size w'.heap.size) w' d (DS.new most count) ∧ w.heap.size ≤ d ∧ d < w'.heap.size ∧ Out Zone.no w w'

theorem new_ok (w : World) (most count : Int) (h1 : 1 ≤ most) (h2 : most ≤ 16777216) (h3 : 0 ≤ count) (h4 : count ≤ 65536) :
    Calls Try.prog 10 #[.int .i64 most, .int .i64 count] w (NewOk most count w) := by
  have hmm := @run_makeMap Try.prog
  go_enter Try.func10, Try.ntmps10
  go_wp2_with fail
  go_ret2
  have a1 := heap_alloc_new w (.cells #[.int .i64 (-1), .bool false] 82)
  generalize hw1 : w.alloc (.cells #[.int .i64 (-1), .bool false] 82) = w1 at *
  have z1 : w1.heap.size = w.heap.size + 1 := by rw [← hw1]; simp
  have b1 := MapV.made Try.prog 3 w1
  have o1 : Out Zone.no w w1 := by rw [← hw1]; exact (Out.refl Zone.no w).alloc _
  generalize hw2 : w1.alloc (.map #[] 0) = w2 at *
  have z2 : w2.heap.size = w1.heap.size + 1 := by rw [← hw2]; simp
  have b2 := MapV.made Try.prog 3 w2
  have o2 : Out Zone.no w1 w2 := by rw [← hw2]; exact (Out.refl Zone.no w1).alloc _
  generalize hw3 : w2.alloc (.map #[] 0) = w3 at *
  have z3 : w3.heap.size = w2.heap.size + 1 := by rw [← hw3]; simp
  have o3 : Out Zone.no w2 w3 := by rw [← hw3]; exact (Out.refl Zone.no w2).alloc _
  have a4 := heap_alloc_new w3 (.cells #[.pointer (some ⟨w.heap.size, 0, none⟩), .int .i64 most, .int .i64 count, .int .i64 0, .int .i64 0, .slice none 0 0, .map (some (w.heap.size + 1)), .map (some (w.heap.size + 1 + 1))] 53)
  have o4 : Out Zone.no w3 (w3.alloc (.cells #[.pointer (some ⟨w.heap.size, 0, none⟩), .int .i64 most, .int .i64 count, .int .i64 0, .int .i64 0, .slice none 0 0, .map (some (w.heap.size + 1)), .map (some (w.heap.size + 1 + 1))] 53)) := (Out.refl Zone.no w3).alloc _
  generalize hw4 : w3.alloc (.cells #[.pointer (some ⟨w.heap.size, 0, none⟩), .int .i64 most, .int .i64 count, .int .i64 0, .int .i64 0, .slice none 0 0, .map (some (w.heap.size + 1)), .map (some (w.heap.size + 1 + 1))] 53) = w4 at *
  have z4 : w4.heap.size = w3.heap.size + 1 := by rw [← hw4]; simp
  have any : ∀ k : Nat, ¬ Zone.no.S k := fun k => id
  refine ⟨w.heap.size + 1 + 1 + 1, rfl, ⟨w.heap.size, w.heap.size + 1, w.heap.size + 1 + 1, .slice none 0 0, ?_⟩, by omega, by omega, ((o1.trans o2).trans o3).trans o4⟩
  rw [z1] at b1
  rw [z2, z1] at b2
  rw [z3, z2, z1] at a4
  refine ⟨?_, (((o2.trans o3).trans o4).get a1 (any _)), row_nil _ _ _ _ (Nat.zero_le _), ⟨_, ((b1.out (o3.trans o4) (any _)).mono (by omega)), fun x => rfl⟩, ⟨_, ((b2.out o4 (any _)).mono (by omega)), fun x => rfl⟩, ⟨by omega, by omega⟩, ⟨by omega, by omega⟩, ⟨by omega, by omega⟩, ⟨by omega, by omega⟩, fun k hk => hk.2, by omega, ?_⟩
  · have e1 : ((DS.new most count).most : Int) = most := by simp only [DS.new]; omega
    have e2 : ((DS.new most count).count : Int) = count := by simp only [DS.new]; omega
    rw [e1, e2]
    exact a4
  · refine ⟨by simp only [DS.new]; omega, by simp only [DS.new]; omega, Int.le_refl _, by simp only [DS.new]; omega, Nat.le_refl _, Nat.zero_le _, by simp only [DS.new]; omega, by simp only [DS.new]; omega, (fun k s hs => by cases hs), (fun k s hs => by cases hs)⟩

theorem new_bad (w : World) (most count : Int) (h : most < 1 ∨ 16777216 < most ∨ count < 0 ∨ 65536 < count) :
    Calls Try.prog 10 #[.int .i64 most, .int .i64 count] w fun e w' => e = .returned (.tuple #[.pointer none, .int .i64 1]) ∧ w = w' := by
  by_cases h1 : most < 1
  · go_enter Try.func10, Try.ntmps10
    go_wp2_with fail
    go_ret2
    exact ⟨rfl, rfl⟩
  · by_cases h2 : 16777216 < most
    · go_enter Try.func10, Try.ntmps10
      go_wp2_with fail
      go_ret2
      exact ⟨rfl, rfl⟩
    · by_cases h3 : count < 0
      · go_enter Try.func10, Try.ntmps10
        go_wp2_with fail
        go_ret2
        exact ⟨rfl, rfl⟩
      · have h4 : 65536 < count := by omega
        go_enter Try.func10, Try.ntmps10
        go_wp2_with fail
        go_ret2
        exact ⟨rfl, rfl⟩
end Go.Proofs.Ytddcojikbcbihaa
