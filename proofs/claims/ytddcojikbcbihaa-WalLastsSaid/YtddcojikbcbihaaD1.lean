import Derived.Test.YtddcojikbcbihaaA2
import Derived.Test.YtddcojikbcbihaaA3
import Derived.Test.YtddcojikbcbihaaD0
import Derived.StillTailTactics
/-! The program's disk in memory, and its small functions. -/
set_option linter.unusedVariables false
namespace Go.Proofs.Ytddcojikbcbihaa
open Go.RowKit

theorem zero22 (W : World) : (zeroValue 22).run Try.prog W = .ok (.slice none 0 0) W := by kernel_rfl

/-- What the map's values read as. -/
def MapRows (Z : Zone) (w : World) (b : Nat) (F : Int → Option (List UInt8)) : Prop :=
  ∃ V, MapV Try.prog 3 w b 65536 V ∧ ∀ x, match V x with
    | none => F x = none
    | some v => ∃ L, F x = some L ∧ Row Z w v (bytes L)

theorem MapRows.out {Z Z' : Zone} {w w' : World} {b : Nat} {F : Int → Option (List UInt8)} (h : MapRows Z w b F) (ho : Out Z' w w') (hs : ∀ k, Z'.S k → Z.T k) (hb : w'.heap[b]? = w.heap[b]?) : MapRows Z w' b F := by
  obtain ⟨V, h1, h2⟩ := h
  refine ⟨V, h1.same hb, fun x => ?_⟩
  have h3 := h2 x
  cases hV : V x with
  | none => rw [hV] at h3; exact h3
  | some v =>
    rw [hV] at h3
    obtain ⟨L, hL, hr⟩ := h3
    exact ⟨L, hL, hr.far ho hs⟩

/-- The disk of the program: its struct in block d, its power in p, its maps in o and f, its log's value lv. -/
structure Disk0 (Z : Zone) (w : World) (d p o f : Nat) (lv : Value) (D : DS) : Prop where
  sd : w.heap[d]? = some (.cells #[.pointer (some ⟨p, 0, none⟩), .int .i64 D.most, .int .i64 D.count, .int .i64 D.base, .int .i64 D.sure, lv, .map (some o), .map (some f)] 53 (0, 0))
  sp : w.heap[p]? = some (.cells #[.int .i64 D.left, .bool D.off] 82 (0, 0))
  log : Row Z w lv (bytes D.log)
  old : MapRows Z w o D.old
  fresh : MapRows Z w f D.fresh
  bd : Z.S d
  bp : Z.S p
  bo : Z.S o
  bf : Z.S f
  top : Z.Top w
  ne : o ≠ f
  ok : D.Ok

theorem Disk0.dp {Z : Zone} {w : World} {d p o f : Nat} {lv : Value} {D : DS} (h : Disk0 Z w d p o f lv D) : d ≠ p := by
  rintro rfl
  have := h.sd.symm.trans h.sp
  simp at this

theorem Disk0.map_ne {Z : Zone} {w : World} {d p o f : Nat} {lv : Value} {D : DS} (h : Disk0 Z w d p o f lv D) : o ≠ d ∧ o ≠ p ∧ f ≠ d ∧ f ≠ p := by
  obtain ⟨V, ⟨D1, ⟨es, c, hb, _⟩, _⟩, _⟩ := h.old
  obtain ⟨V, ⟨D2, ⟨es', c', hb', _⟩, _⟩, _⟩ := h.fresh
  refine ⟨?_, ?_, ?_, ?_⟩
  · rintro rfl; have := hb.symm.trans h.sd; cases this
  · rintro rfl; have := hb.symm.trans h.sp; cases this
  · rintro rfl; have := hb'.symm.trans h.sd; cases this
  · rintro rfl; have := hb'.symm.trans h.sp; cases this

/-- A disk at block d. -/
def DiskAt (Z : Zone) (w : World) (d : Nat) (D : DS) : Prop := ∃ p o f lv, Disk0 Z w d p o f lv D

theorem DiskAt.out {Z Z' : Zone} {w w' : World} {d : Nat} {D : DS} (h : DiskAt Z w d D) (ho : Out Z' w w') (hd : ∀ k, Z.S k → ¬ Z'.S k) (hs : ∀ k, Z'.S k → Z.T k) : DiskAt Z w' d D := by
  obtain ⟨p, o, f, lv, h⟩ := h
  have hr : ∀ v xs, Row Z w v xs → Row Z w' v xs := fun v xs hv => hv.far ho hs
  have hb : ∀ k, Z.S k → w'.heap[k]? = w.heap[k]? := fun k hk => ho.block k (h.top.lt hk) (hd k hk)
  have hm : ∀ b F, Z.S b → MapRows Z w b F → MapRows Z w' b F := by
    intro b F hb1 hF
    obtain ⟨V, h1, h2⟩ := hF
    refine ⟨V, h1.same (hb b hb1), fun x => ?_⟩
    have h3 := h2 x
    cases hV : V x with
    | none => rw [hV] at h3; exact h3
    | some v =>
      rw [hV] at h3
      obtain ⟨L, hL, hrr⟩ := h3
      exact ⟨L, hL, hr _ _ hrr⟩
  exact ⟨p, o, f, lv, (hb d h.bd).trans h.sd, (hb p h.bp).trans h.sp, hr _ _ h.log, hm _ _ h.bo h.old, hm _ _ h.bf h.fresh, h.bd, h.bp, h.bo, h.bf, h.top.mono ho.size, h.ne, h.ok⟩

section
variable {Z : Zone} {w : World} {d p o f : Nat} {lv : Value} {D : DS}

theorem none_is (h : Disk0 Z w d p o f lv D) : Calls Try.prog 48 #[.pointer (some ⟨d, 0, none⟩)] w fun e w' => e = .returned (.bool false) ∧ w = w' := by
  have c0 := cells_all h.sd 0
  clear h
  go_enter Try.func48, Try.ntmps48
  go_wp2
  go_ret
  exact ⟨rfl, rfl⟩

theorem may_is (h : Disk0 Z w d p o f lv D) (fine : Bool) : Calls Try.prog 43 #[.pointer (some ⟨d, 0, none⟩), .bool fine] w fun e w' => e = .returned (.int .i64 (D.may fine)) ∧ w = w' := by
  have c0 := cells_all h.sd 0
  have c1 := cells_all h.sp 1
  have N := Lib.hid (none_is h)
  unfold DS.may
  cases hoff : D.off <;> cases fine <;> rw [hoff] at c1 <;> clear h hoff
  all_goals
    go_enter Try.func43, Try.ntmps43
    go_wp2_with (go_at_call 48; refine N.out.mono ?_; rintro e w' ⟨rfl, rfl⟩)
    go_ret
    exact ⟨rfl, rfl⟩

theorem oper_zero (w : World) (p : Nat) (h : w.heap[p]? = some (.cells #[.int .i64 0, .bool false] 82 (0, 0))) :
    Calls Try.prog 44 #[.pointer (some ⟨p, 0, none⟩)] w fun e w' => e = .returned (.int .i64 9) ∧ w' = w.setCell ⟨p, 1, none⟩ (.bool true) := by
  have c0 := cells_all h
  have f0 := frozen_all h
  clear h
  go_enter Try.func44, Try.ntmps44
  go_wp2
  go_ret
  exact ⟨rfl, rfl⟩
theorem oper_pos (w : World) (p : Nat) (l : Int) (h : w.heap[p]? = some (.cells #[.int .i64 l, .bool false] 82 (0, 0))) (h1 : 0 < l) (h2 : l ≤ 9223372036854775807) :
    Calls Try.prog 44 #[.pointer (some ⟨p, 0, none⟩)] w fun e w' => e = .returned (.int .i64 0) ∧ w' = w.setCell ⟨p, 0, none⟩ (.int .i64 (l - 1)) := by
  have c0 := cells_all h
  have f0 := frozen_all h
  have hb : (l == 0) = false := beq_eq_false_iff_ne.2 (by omega)
  clear h
  go_enter Try.func44, Try.ntmps44
  go_wp2
  go_ret
  exact ⟨rfl, rfl⟩
theorem oper_neg (w : World) (p : Nat) (l : Int) (h : w.heap[p]? = some (.cells #[.int .i64 l, .bool false] 82 (0, 0))) (h1 : l < 0) :
    Calls Try.prog 44 #[.pointer (some ⟨p, 0, none⟩)] w fun e w' => e = .returned (.int .i64 0) ∧ w' = w := by
  have c0 := cells_all h
  have f0 := frozen_all h
  have hb : (l == 0) = false := beq_eq_false_iff_ne.2 (by omega)
  clear h
  go_enter Try.func44, Try.ntmps44
  go_wp2
  go_ret
  exact ⟨rfl, rfl⟩

/-- operation: the answer, and the power block behind it. -/
theorem operation_is (h : Disk0 Z w d p o f lv D) (hoff : D.off = false) : Calls Try.prog 44 #[.pointer (some ⟨p, 0, none⟩)] w fun e w' => e = .returned (.int .i64 D.oper) ∧ w'.heap[p]? = some (.cells #[.int .i64 D.ticked.left, .bool D.ticked.off] 82 (0, 0)) ∧ w.grownBy w' (some p) := by
  have h7 := h.ok.left0
  have h8 := h.ok.left1
  have hb := h.sp
  rw [hoff] at hb
  clear h
  unfold DS.oper DS.ticked
  by_cases h0 : D.left = 0
  · rw [h0] at hb
    refine (oper_zero w p hb).mono ?_
    rintro e w' ⟨rfl, rfl⟩
    rw [if_pos h0, if_pos h0]
    exact ⟨rfl, by simpa [h0] using heap_set hb 1 (.bool true), only_setCell _ _ _⟩
  · rw [if_neg h0, if_neg h0]
    by_cases h1 : 0 < D.left
    · refine (oper_pos w p D.left hb h1 h8).mono ?_
      rintro e w' ⟨rfl, rfl⟩
      rw [if_pos h1]
      exact ⟨rfl, by simpa [hoff] using heap_set hb 0 (.int .i64 (D.left - 1)), only_setCell _ _ _⟩
    · refine (oper_neg w p D.left hb (by omega)).mono ?_
      rintro e w' ⟨rfl, rfl⟩
      rw [if_neg h1]
      exact ⟨rfl, by rw [hoff]; exact hb, World.grownBy.refl _ _⟩

/-- The disk behind an operation. -/
theorem Disk0.ticked {w' : World} (h : Disk0 Z w d p o f lv D) (hp : w'.heap[p]? = some (.cells #[.int .i64 D.ticked.left, .bool D.ticked.off] 82 (0, 0))) (hg : w.grownBy w' (some p)) :
    Disk0 Z w' d p o f lv D.ticked ∧ Out Z w w' := by
  have hout : Out Z w w' := (Out.refl Z w).grown hg (fun k hk => by cases hk; exact Or.inl h.bp)
  have hne := h.map_ne
  have hk : ∀ k, Z.S k → k ≠ p → w'.heap[k]? = w.heap[k]? := fun k hk hp => hg.block k (h.top.lt hk) (fun e => hp (by injection e))
  have e : D.ticked.most = D.most ∧ D.ticked.count = D.count ∧ D.ticked.base = D.base ∧ D.ticked.sure = D.sure ∧ D.ticked.log = D.log ∧ D.ticked.old = D.old ∧ D.ticked.fresh = D.fresh := by
    unfold DS.ticked
    split
    · exact ⟨rfl, rfl, rfl, rfl, rfl, rfl, rfl⟩
    · split <;> exact ⟨rfl, rfl, rfl, rfl, rfl, rfl, rfl⟩
  obtain ⟨e1, e2, e3, e4, e5, e6, e7⟩ := e
  refine ⟨⟨?_, hp, ?_, ?_, ?_, h.bd, h.bp, h.bo, h.bf, h.top.mono hout.size, h.ne, h.ok.ticked⟩, hout⟩
  · rw [e1, e2, e3, e4]
    exact (hk d h.bd h.dp).trans h.sd
  · rw [e5]; exact h.log.out hout
  · rw [e6]; exact h.old.out hout Z.sub (hk o h.bo hne.2.1)
  · rw [e7]; exact h.fresh.out hout Z.sub (hk f h.bf hne.2.2.2)
end
end Go.Proofs.Ytddcojikbcbihaa
