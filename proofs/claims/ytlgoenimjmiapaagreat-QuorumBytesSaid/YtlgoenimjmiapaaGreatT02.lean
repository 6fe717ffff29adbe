import Derived.Test.YtlgoenimjmiapaaGreatT01
import Derived.RegionTactic
import Derived.BigRegion
import Derived.Deep.QuietTactic
import Derived.BigQuiet
import Derived.StillTailTactics
import Derived.Deep.RegionHeld3
import Derived.Outline
set_option linter.unusedSimpArgs false
set_option linter.unusedVariables false
set_option linter.unusedSectionVars false
/-! Notes that may be; the last epoch. -/
set_option linter.unusedVariables false
namespace Go.Proofs.YtlgoenimjmiapaaGreat
open Go.RowKit

def Nt.right (t : Nt) : Bool :=
  if t.kind = 1 then decide (t.ent.ep = 0) && decide (t.ent.data = []) && inB t.ep && decide (-1 ≤ t.n) && decide (t.n ≤ 6)
  else if t.kind = 2 then decide (t.ep = 0) && decide (t.ent.ep = 0) && decide (t.ent.data = []) && inB t.n
  else decide (t.kind = 3) && decide (t.ep = 0) && decide (t.n = 0) && t.ent.right

set_option maxRecDepth 100000 in
set_option maxHeartbeats 2000000 in
theorem nright_is (w : World) (k ep n ee : Int) (d : List UInt8) (hl : d.length ≤ 9223372036854775807) :
    Calls Tryz.prog 19 #[.agg #[.int .i64 k, .int .i64 ep, .int .i64 n, .int .i64 ee, .string (str d)]] w fun e w' => e = .returned (.bool (Nt.right ⟨k, ep, n, ⟨ee, d⟩⟩)) ∧ Out Zone.no w w' := by
  have o1 := (Out.refl Zone.no w).alloc (.cells #[.int .i64 k, .int .i64 ep, .int .i64 n, .int .i64 ee, .string (str d)] 36)
  have HO1 := Lib.hid o1
  have hd : (str d).toList = d := str_toList d
  by_cases k1 : k = 1
  · have e1 : (k == 1) = true := by simpa using k1
    have o2 := o1.alloc (.cells #[.int .i64 ep] 3)
    have I := in1_is (w.alloc (.cells #[.int .i64 k, .int .i64 ep, .int .i64 n, .int .i64 ee, .string (str d)] 36)) ep
    subst k1
    simp only [World.size_alloc] at I
    have HO2 := Lib.hid o2
    have HI := Lib.hid I
    have HR : Hid (Nt.right ⟨1, ep, n, ⟨ee, d⟩⟩ = (decide (ee = 0) && decide (d = []) && inB ep && decide (-1 ≤ n) && decide (n ≤ 6))) := rfl
    clear I o1 o2
    by_cases h0 : ee = 0
    · subst h0
      by_cases h1 : d = []
      · subst h1
        obtain ⟨g, hg⟩ : ∃ g, inB ep = g := ⟨_, rfl⟩
        rw [hg] at HI HR
        clear hg
        cases g with
        | true =>
          by_cases h2 : -1 ≤ n
          · by_cases h3 : n ≤ 6
            · go_enter Tryz.func19, Tryz.ntmps19
              go_wp2_with (go_at_call 44; refine HI.out.mono ?_; rintro e w' ⟨rfl, rfl⟩)
              go_ret
              exact ⟨by rw [HR.out]; simp [go_sem, h2, h3] <;> omega, HO2.out⟩
            · go_enter Tryz.func19, Tryz.ntmps19
              go_wp2_with (go_at_call 44; refine HI.out.mono ?_; rintro e w' ⟨rfl, rfl⟩)
              go_ret
              exact ⟨by rw [HR.out]; simp [go_sem, h2, h3] <;> omega, HO2.out⟩
          · go_enter Tryz.func19, Tryz.ntmps19
            go_wp2_with (go_at_call 44; refine HI.out.mono ?_; rintro e w' ⟨rfl, rfl⟩)
            go_ret
            exact ⟨by rw [HR.out]; simp [go_sem, h2] <;> omega, HO2.out⟩
        | false =>
          go_enter Tryz.func19, Tryz.ntmps19
          go_wp2_with (go_at_call 44; refine HI.out.mono ?_; rintro e w' ⟨rfl, rfl⟩)
          go_ret
          exact ⟨by rw [HR.out]; simp [go_sem], HO2.out⟩
      · go_enter Tryz.func19, Tryz.ntmps19
        go_wp2_with fail
        go_ret
        exact ⟨by rw [HR.out]; simp [go_sem, h1], HO1.out⟩
    · go_enter Tryz.func19, Tryz.ntmps19
      go_wp2_with fail
      go_ret
      exact ⟨by rw [HR.out]; simp [go_sem, h0], HO1.out⟩
  · have e1 : (k == 1) = false := by simpa using k1
    by_cases k2 : k = 2
    · have e2 : (k == 2) = true := by simpa using k2
      have o2 := o1.alloc (.cells #[.int .i64 n] 3)
      have I := in1_is (w.alloc (.cells #[.int .i64 k, .int .i64 ep, .int .i64 n, .int .i64 ee, .string (str d)] 36)) n
      subst k2
      simp only [World.size_alloc] at I
      have HO2 := Lib.hid o2
      have HI := Lib.hid I
      have HR : Hid (Nt.right ⟨2, ep, n, ⟨ee, d⟩⟩ = (decide (ep = 0) && decide (ee = 0) && decide (d = []) && inB n)) := rfl
      clear I o1 o2
      by_cases hp : ep = 0
      · subst hp
        by_cases h0 : ee = 0
        · subst h0
          by_cases h1 : d = []
          · subst h1
            obtain ⟨g, hg⟩ : ∃ g, inB n = g := ⟨_, rfl⟩
            rw [hg] at HI HR
            clear hg
            go_enter Tryz.func19, Tryz.ntmps19
            go_wp2_with (go_at_call 44; refine HI.out.mono ?_; rintro e w' ⟨rfl, rfl⟩)
            go_ret
            exact ⟨by rw [HR.out]; simp [go_sem], HO2.out⟩
          · go_enter Tryz.func19, Tryz.ntmps19
            go_wp2_with fail
            go_ret
            exact ⟨by rw [HR.out]; simp [go_sem, h1], HO1.out⟩
        · go_enter Tryz.func19, Tryz.ntmps19
          go_wp2_with fail
          go_ret
          exact ⟨by rw [HR.out]; simp [go_sem, h0], HO1.out⟩
      · go_enter Tryz.func19, Tryz.ntmps19
        go_wp2_with fail
        go_ret
        exact ⟨by rw [HR.out]; simp [go_sem, hp], HO1.out⟩
    · have e2 : (k == 2) = false := by simpa using k2
      have HR : Hid (Nt.right ⟨k, ep, n, ⟨ee, d⟩⟩ = (decide (k = 3) && decide (ep = 0) && decide (n = 0) && Ent.right ⟨ee, d⟩)) := by
        show _ = _
        unfold Nt.right
        simp only
        rw [if_neg k1, if_neg k2]
      have E := eright_is (w.alloc (.cells #[.int .i64 k, .int .i64 ep, .int .i64 n, .int .i64 ee, .string (str d)] 36)) ⟨ee, d⟩ hl
      obtain ⟨g, hg⟩ : ∃ g, Ent.right ⟨ee, d⟩ = g := ⟨_, rfl⟩
      rw [hg] at E HR
      have HE := Lib.hid E
      clear E hg o1
      by_cases k3 : k = 3
      · have e3 : (k == 3) = true := by simpa using k3
        subst k3
        by_cases hp : ep = 0
        · subst hp
          by_cases hn : n = 0
          · subst hn
            go_enter Tryz.func19, Tryz.ntmps19
            go_wp2_with (go_at_call 45; refine HE.out.mono ?_; rintro e w1 ⟨rfl, ho⟩; have HO := Lib.hid ho; clear ho)
            go_ret
            exact ⟨by rw [HR.out]; simp [go_sem], HO1.out.trans HO.out⟩
          · go_enter Tryz.func19, Tryz.ntmps19
            go_wp2_with fail
            go_ret
            exact ⟨by rw [HR.out]; simp [go_sem, hn], HO1.out⟩
        · go_enter Tryz.func19, Tryz.ntmps19
          go_wp2_with fail
          go_ret
          exact ⟨by rw [HR.out]; simp [go_sem, hp], HO1.out⟩
      · have e3 : (k == 3) = false := by simpa using k3
        go_enter Tryz.func19, Tryz.ntmps19
        go_wp2_with fail
        go_ret
        exact ⟨by rw [HR.out]; simp [go_sem, k3], HO1.out⟩
end Go.Proofs.YtlgoenimjmiapaaGreat

/-! A state in the memory: its last epoch. -/
set_option linter.unusedVariables false
namespace Go.Proofs.YtlgoenimjmiapaaGreat
open Go.RowKit

theorem elem47 : ElemN Tryz.prog 47 34 (.agg #[.int .i64 0, .string ⟨#[]⟩]) 2 24 := ElemN.mk' Tryz.underlying47 (by kernel_rfl) (by kernel_rfl) (by omega)

def St.last (s : St) (n : Nat) : Int := if n = 0 then 0 else ((s.log[n - 1]?).map Ent.ep).getD 0
theorem last_zero (s : St) : s.last 0 = 0 := if_pos rfl
theorem last_at {s : St} {n : Nat} {x : Ent} (h : s.log[n]? = some x) : s.last (n + 1) = x.ep := by
  unfold St.last
  rw [if_neg (by omega), Nat.add_sub_cancel, h]
  rfl
def St.note (s : St) (t : Nt) : Option St :=
  if t.right = false then none
  else if t.kind = 1 then if t.ep < s.ep ∨ t.ep = s.ep ∧ s.voted ≠ -1 ∧ t.n ≠ s.voted then none else some { s with ep := t.ep, voted := t.n }
  else if t.kind = 2 then if (s.log.length : Int) < t.n then none else some { s with log := s.log.take t.n.toNat }
  else if t.ent.ep < s.last s.log.length ∨ s.ep < t.ent.ep then none else some { s with log := s.log ++ [t.ent] }

/-- A row that grows, whatever block it lies in. -/
def GR (w : World) (e : TypeId) (sz : Nat) (v : Value) (n : Nat) (xs : List Value) : Prop := GRow (fun _ => True) w e sz v n xs
/-- A state at the head of a block. -/
def StAt (w : World) (b : Nat) (T : TypeId) (ep voted : Int) (lv : Value) (rest : List Value) : Prop := w.heap[b]? = some (.cells (.int .i64 ep :: .int .i64 voted :: lv :: rest).toArray T (0, 0))

theorem StAt.c0 {w : World} {b : Nat} {T : TypeId} {ep voted : Int} {lv : Value} {rest : List Value} (h : StAt w b T ep voted lv rest) : w.cell? ⟨b, 0, none⟩ = some (.int .i64 ep) := by rw [cells_all h 0]; rfl
theorem StAt.c1 {w : World} {b : Nat} {T : TypeId} {ep voted : Int} {lv : Value} {rest : List Value} (h : StAt w b T ep voted lv rest) : w.cell? ⟨b, 1, none⟩ = some (.int .i64 voted) := by rw [cells_all h 1]; rfl
theorem StAt.c2 {w : World} {b : Nat} {T : TypeId} {ep voted : Int} {lv : Value} {rest : List Value} (h : StAt w b T ep voted lv rest) : w.cell? ⟨b, 2, none⟩ = some lv := by rw [cells_all h 2]; rfl
theorem StAt.fr {w : World} {b : Nat} {T : TypeId} {ep voted : Int} {lv : Value} {rest : List Value} (h : StAt w b T ep voted lv rest) (i : Nat) : w.frozen? ⟨b, i, none⟩ = false := frozen_all h i
theorem StAt.any {w w' : World} {b : Nat} {T : TypeId} {ep voted : Int} {lv : Value} {rest : List Value} (h : StAt w b T ep voted lv rest) (ho : Out Zone.no w w') : StAt w' b T ep voted lv rest := ho.get h id

set_option maxRecDepth 100000 in
theorem last_big (w : World) (b : Nat) (T : TypeId) (s : St) (lv : Value) (rest : List Value) (hs : StAt w b T s.ep s.voted lv rest) (hg : GR w 34 2 lv s.log.length (encL s.log)) (n : Nat) (hn : n ≤ s.log.length) (hl : s.log.length ≤ 1000000000) :
    Calls Tryz.prog 78 #[.pointer (some ⟨b, 0, none⟩), .int .i64 (n : Int)] w fun e w' => e = .returned (.int .i64 (s.last n)) ∧ w = w' := by
  have c2 := hs.c2
  by_cases h0 : n = 0
  · subst h0
    rw [last_zero]
    clear hs hg
    go_enter Tryz.func78, Tryz.ntmps78
    go_wp2_with fail
    go_ret
    exact ⟨rfl, rfl⟩
  · obtain ⟨m, rfl⟩ : ∃ m, n = m + 1 := ⟨n - 1, by omega⟩
    obtain ⟨x, hx⟩ : ∃ x, s.log[m]? = some x := ⟨_, List.getElem?_eq_getElem (by omega)⟩
    obtain ⟨g, cap, rfl, hc⟩ := GRow.cell hg (encL_at hx).1
    rw [last_at hx]
    obtain ⟨L, hL⟩ : ∃ L, s.log.length = L := ⟨_, rfl⟩
    rw [hL] at c2 hn hl
    have e0 : ((m : Int) + 1 == 0) = false := by rw [beq_eq_false_iff_ne]; omega
    clear hs hg hx hL h0
    go_enter Tryz.func78, Tryz.ntmps78
    go_wp2_with fail
    go_ret
    exact ⟨rfl, rfl⟩
theorem last_is (w : World) (b : Nat) (T : TypeId) (s : St) (lv : Value) (rest : List Value) (hs : StAt w b T s.ep s.voted lv rest) (hg : GR w 34 2 lv s.log.length (encL s.log)) (n : Nat) (hn : n ≤ s.log.length) (hl : s.log.length ≤ 1000000) :
    Calls Tryz.prog 78 #[.pointer (some ⟨b, 0, none⟩), .int .i64 (n : Int)] w fun e w' => e = .returned (.int .i64 (s.last n)) ∧ w = w' :=
  last_big w b T s lv rest hs hg n hn (by omega)
end Go.Proofs.YtlgoenimjmiapaaGreat
