import Derived.Test.YtddcojikbcbihaaA1
import Derived.Laws.Wrap64
/-! The disk as numbers and lists: what each call does (no Go here). -/
namespace Go.Proofs.Ytddcojikbcbihaa
open Go.RowKit

structure DS where
  left : Int
  off : Bool
  most : Nat
  count : Nat
  base : Int
  sure : Nat
  log : List UInt8
  old : Int → Option (List UInt8)
  fresh : Int → Option (List UInt8)

namespace DS

def fin (D : DS) : Int := wrap64 (D.base + D.log.length)
def inn (D : DS) (at_ : Int) : Bool := decide (D.base ≤ at_) && decide (at_ ≤ D.fin)
def page (D : DS) (p : Int) : Bool := decide (0 ≤ p) && decide (p < D.count)
/-- may: 0, or the error. -/
def may (D : DS) (fine : Bool) : Int := if D.off then 9 else if fine then 0 else 1
/-- operation: 0, or the error; the disk behind it. -/
def oper (D : DS) : Int := if D.left = 0 then 9 else 0
def ticked (D : DS) : DS := if D.left = 0 then { D with off := true } else if 0 < D.left then { D with left := D.left - 1 } else D

structure Ok (D : DS) : Prop where
  most : D.most ≤ 16777216
  count : D.count ≤ 65536
  base0 : 0 ≤ D.base
  base1 : D.base ≤ 9223372036854775807
  sure : D.sure ≤ D.log.length
  log : D.log.length ≤ D.most
  left0 : -1 ≤ D.left
  left1 : D.left ≤ 9223372036854775807
  old : ∀ k s, D.old k = some s → 0 ≤ k ∧ k < D.count ∧ s.length = 512
  fresh : ∀ k s, D.fresh k = some s → 0 ≤ k ∧ k < D.count ∧ s.length = 512

theorem Ok.ticked {D : DS} (h : D.Ok) : D.ticked.Ok := by
  unfold DS.ticked
  obtain ⟨h1, h2, h3, h4, h5, h6, h7, h8, h9, h10⟩ := h
  split
  · exact ⟨h1, h2, h3, h4, h5, h6, h7, h8, h9, h10⟩
  · split
    · exact ⟨h1, h2, h3, h4, h5, h6, by simp only; omega, by simp only; omega, h9, h10⟩
    · exact ⟨h1, h2, h3, h4, h5, h6, h7, h8, h9, h10⟩

theorem ticked_all (D : DS) : D.ticked.most = D.most ∧ D.ticked.count = D.count ∧ D.ticked.base = D.base ∧ D.ticked.sure = D.sure ∧ D.ticked.log = D.log ∧ D.ticked.old = D.old ∧ D.ticked.fresh = D.fresh := by
  unfold DS.ticked
  split
  · exact ⟨rfl, rfl, rfl, rfl, rfl, rfl, rfl⟩
  · split <;> exact ⟨rfl, rfl, rfl, rfl, rfl, rfl, rfl⟩
theorem ticked_most (D : DS) : D.ticked.most = D.most := (ticked_all D).1
theorem ticked_count (D : DS) : D.ticked.count = D.count := (ticked_all D).2.1
theorem ticked_base (D : DS) : D.ticked.base = D.base := (ticked_all D).2.2.1
theorem ticked_sure (D : DS) : D.ticked.sure = D.sure := (ticked_all D).2.2.2.1
theorem ticked_log (D : DS) : D.ticked.log = D.log := (ticked_all D).2.2.2.2.1
theorem ticked_old (D : DS) : D.ticked.old = D.old := (ticked_all D).2.2.2.2.2.1
theorem ticked_fresh (D : DS) : D.ticked.fresh = D.fresh := (ticked_all D).2.2.2.2.2.2
theorem ticked_fin (D : DS) : D.ticked.fin = D.fin := by unfold DS.fin; rw [ticked_base, ticked_log]

/-- A place in the log lies no further behind base than the log is long. -/
theorem Ok.inn {D : DS} (h : D.Ok) {at_ : Int} (hi : D.inn at_ = true) : D.base ≤ at_ ∧ at_ ≤ D.base + D.log.length ∧ D.fin = D.base + D.log.length := by
  have h1 := h.most; have h2 := h.log; have h3 := h.base0; have h4 := h.base1
  unfold DS.inn at hi
  simp only [Bool.and_eq_true, decide_eq_true_eq] at hi
  have : D.fin = D.base + D.log.length := by
    have := hi.2
    unfold DS.fin wrap64 at this ⊢
    omega
  omega

theorem Ok.cutOk {D : DS} (h : D.ticked.Ok) (k : Nat) : Ok { D.ticked with log := D.log.take k, sure := min D.sure k } := by
  obtain ⟨h1, h2, h3, h4, h5, h6, h7, h8, h9, h10⟩ := h
  rw [ticked_log] at h5 h6
  rw [ticked_sure] at h5
  exact ⟨h1, h2, h3, h4, by simp only [List.length_take]; omega, by simp only [List.length_take]; omega, h7, h8, h9, h10⟩

def append (D : DS) (b : List UInt8) : Int × Int × DS :=
  if D.off then (0, 9, D) else if D.most < D.log.length + b.length then (0, 7, D) else if D.left = 0 then (0, 9, D.ticked) else (D.fin, 0, { D.ticked with log := D.log ++ b })
def merged (old fresh : Int → Option (List UInt8)) : Int → Option (List UInt8) := fun k => match fresh k with | some s => some s | none => old k
def sync (D : DS) : Int × DS :=
  if D.off then (9, D) else if D.left = 0 then (9, D.ticked) else (0, { D.ticked with sure := D.log.length, old := merged D.old D.fresh, fresh := fun _ => none })
def cut (D : DS) (at_ : Int) : Int × DS :=
  if D.off then (9, D) else if D.inn at_ then if D.left = 0 then (9, D.ticked) else (0, { D.ticked with log := D.log.take (at_ - D.base).toNat, sure := min D.sure (at_ - D.base).toNat }) else (1, D)
def retire (D : DS) (at_ : Int) : Int × DS :=
  if D.off then (9, D) else if D.inn at_ then if D.left = 0 then (9, D.ticked) else (0, { D.ticked with log := D.log.drop (at_ - D.base).toNat, sure := D.sure - (at_ - D.base).toNat, base := at_ }) else (1, D)
def read (D : DS) (at_ : Int) : List UInt8 × Int :=
  if D.off then ([], 9) else if D.inn at_ then (D.log.drop (at_ - D.base).toNat, 0) else ([], 1)
def write (D : DS) (p : Int) (b : List UInt8) : Int × DS :=
  if D.off then (9, D) else if D.page p && decide (b.length = 512) then if D.left = 0 then (9, D.ticked) else (0, { D.ticked with fresh := fun k => if k = p then some b else D.fresh k }) else (1, D)
def zeros : List UInt8 := List.replicate 512 0
def load (D : DS) (p : Int) : List UInt8 × Int :=
  if D.off then ([], 9) else if D.page p then (((D.fresh p).getD ((D.old p).getD zeros)), 0) else ([], 1)
def fuse (D : DS) (k : Int) : DS := { D with left := max (-1) k }
end DS
end Go.Proofs.Ytddcojikbcbihaa
