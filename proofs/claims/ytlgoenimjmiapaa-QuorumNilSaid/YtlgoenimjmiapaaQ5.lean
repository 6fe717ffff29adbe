import Derived.Test.YtlgoenimjmiapaaQ4
import Derived.RegionTactic
import Derived.BigRegion
import Derived.Deep.QuietTactic
import Derived.BigQuiet
import Derived.StillTailTactics
import Derived.Deep.RegionHeld3
import Derived.Outline
/-! A state in the memory: its last epoch. -/
set_option linter.unusedVariables false
namespace Go.Proofs.Ytlgoenimjmiapaa
open Go.RowKit

theorem elem26 : ElemN Try.prog 26 38 (.agg #[.int .i64 0, .string ⟨#[]⟩]) 2 24 := ElemN.mk' Try.underlying26 (by kernel_rfl) (by kernel_rfl) (by omega)

def St.last (s : St) (n : Nat) : Int := if n = 0 then 0 else ((s.log[n - 1]?).map Ent.ep).getD 0
theorem last_zero (s : St) : s.last 0 = 0 := if_pos rfl
theorem last_at {s : St} {n : Nat} {x : Ent} (h : s.log[n]? = some x) : s.last (n + 1) = x.ep := by
  unfold St.last
  rw [if_neg (by omega), Nat.add_sub_cancel, h]
  rfl
def St.note (s : St) (t : Nt) : Option St :=
  if t.right = false then none
  else if t.kind = 1 then if t.ep < s.ep ∨ t.ep = s.ep ∧ s.voted ≠ -1 ∧ t.n ≠ s.voted then none else some { s with ep := t.ep, voted := t.n }
  else if t.kind = 2 then if (s.log.length : Int) < t.n then none else some { s with log := s.log.take t.n.toNat }
  else if t.ent.ep < s.last s.log.length ∨ s.ep < t.ent.ep then none else some { s with log := s.log ++ [t.ent] }

/-- A row that grows, whatever block it lies in. -/
def GR (w : World) (e : TypeId) (sz : Nat) (v : Value) (n : Nat) (xs : List Value) : Prop := GRow (fun _ => True) w e sz v n xs
/-- A state at the head of a block. -/
def StAt (w : World) (b : Nat) (T : TypeId) (ep voted : Int) (lv : Value) (rest : List Value) : Prop := w.heap[b]? = some (.cells (.int .i64 ep :: .int .i64 voted :: lv :: rest).toArray T (0, 0))

theorem StAt.c0 {w : World} {b : Nat} {T : TypeId} {ep voted : Int} {lv : Value} {rest : List Value} (h : StAt w b T ep voted lv rest) : w.cell? ⟨b, 0, none⟩ = some (.int .i64 ep) := by rw [cells_all h 0]; rfl
theorem StAt.c1 {w : World} {b : Nat} {T : TypeId} {ep voted : Int} {lv : Value} {rest : List Value} (h : StAt w b T ep voted lv rest) : w.cell? ⟨b, 1, none⟩ = some (.int .i64 voted) := by rw [cells_all h 1]; rfl
theorem StAt.c2 {w : World} {b : Nat} {T : TypeId} {ep voted : Int} {lv : Value} {rest : List Value} (h : StAt w b T ep voted lv rest) : w.cell? ⟨b, 2, none⟩ = some lv := by rw [cells_all h 2]; rfl
theorem StAt.fr {w : World} {b : Nat} {T : TypeId} {ep voted : Int} {lv : Value} {rest : List Value} (h : StAt w b T ep voted lv rest) (i : Nat) : w.frozen? ⟨b, i, none⟩ = false := frozen_all h i
theorem StAt.any {w w' : World} {b : Nat} {T : TypeId} {ep voted : Int} {lv : Value} {rest : List Value} (h : StAt w b T ep voted lv rest) (ho : Out Zone.no w w') : StAt w' b T ep voted lv rest := ho.get h id

set_option maxRecDepth 100000 in
theorem last_is (w : World) (b : Nat) (T : TypeId) (s : St) (lv : Value) (rest : List Value) (hs : StAt w b T s.ep s.voted lv rest) (hg : GR w 38 2 lv s.log.length (encL s.log)) (n : Nat) (hn : n ≤ s.log.length) (hl : s.log.length ≤ 1000000) :
    Calls Try.prog 52 #[.pointer (some ⟨b, 0, none⟩), .int .i64 (n : Int)] w fun e w' => e = .returned (.int .i64 (s.last n)) ∧ w = w' := by
  have c2 := hs.c2
  by_cases h0 : n = 0
  · subst h0
    rw [last_zero]
    clear hs hg
    go_enter Try.func52, Try.ntmps52
    go_wp2_with fail
    go_ret
    exact ⟨rfl, rfl⟩
  · obtain ⟨m, rfl⟩ : ∃ m, n = m + 1 := ⟨n - 1, by omega⟩
    obtain ⟨x, hx⟩ : ∃ x, s.log[m]? = some x := ⟨_, List.getElem?_eq_getElem (by omega)⟩
    obtain ⟨g, cap, rfl, hc⟩ := GRow.cell hg (encL_at hx).1
    rw [last_at hx]
    obtain ⟨L, hL⟩ : ∃ L, s.log.length = L := ⟨_, rfl⟩
    rw [hL] at c2 hn hl
    have e0 : ((m : Int) + 1 == 0) = false := by rw [beq_eq_false_iff_ne]; omega
    clear hs hg hx hL h0
    go_enter Try.func52, Try.ntmps52
    go_wp2_with fail
    go_ret
    exact ⟨rfl, rfl⟩
end Go.Proofs.Ytlgoenimjmiapaa
