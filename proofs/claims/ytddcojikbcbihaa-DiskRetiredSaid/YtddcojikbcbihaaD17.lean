import Derived.Test.YtddcojikbcbihaaD13
import Derived.Test.YtddcojikbcbihaaD11
/-! The law DiskRetired on numbers and lists. -/
set_option linter.unusedVariables false
namespace Go.Proofs.Ytddcojikbcbihaa
open Go.RowKit

/-- The law's disk: its log, how much of it is sure, its base. -/
def R (M : List UInt8) (s : Nat) (b : Int) : DS := { left := -1, off := false, most := 1048576, count := 0, base := b, sure := s, log := M, old := fun _ => none, fresh := fun _ => none }

theorem r_new : DS.new 1048576 0 = R [] 0 0 := rfl
theorem r_tick (M : List UInt8) (s : Nat) (b : Int) : (R M s b).ticked = R M s b := by simp [DS.ticked, R]
theorem r_fin (M : List UInt8) (s b : Nat) (h : b + M.length ≤ 1048577) : (R M s b).fin = ((b + M.length : Nat) : Int) := by
  simp only [DS.fin, R, wrap64]
  omega
theorem r_append (M X : List UInt8) (s b : Nat) (h : b + M.length ≤ 100000) (hx : X.length ≤ 10000) : (R M s b).append X = (((b + M.length : Nat) : Int), 0, R (M ++ X) s b) := by
  unfold DS.append
  rw [if_neg (by simp [R]), if_neg (by simp only [R]; omega), if_neg (by simp [R]), r_fin M s b (by omega), r_tick]
  rfl
theorem r_sync (M : List UInt8) (s : Nat) (b : Int) : (R M s b).sync = (0, R M M.length b) := by
  unfold DS.sync
  rw [if_neg (by simp [R]), if_neg (by simp [R]), r_tick]
  rfl
theorem r_in (M : List UInt8) (s b : Nat) (h : b + M.length ≤ 100000) (k : Nat) (hk : k ≤ M.length) : (R M s b).inn ((b : Int) + (k : Int)) = true := by
  unfold DS.inn
  rw [r_fin M s b (by omega)]
  rw [show (R M s b).base = (b : Int) from rfl, decide_eq_true (by omega), decide_eq_true (by omega)]
  rfl
theorem r_retire (M : List UInt8) (s b : Nat) (h : b + M.length ≤ 100000) (k : Nat) (hk : k ≤ M.length) : (R M s b).retire ((b + k : Nat) : Int) = (0, R (M.drop k) (s - k) ((b + k : Nat) : Int)) := by
  unfold DS.retire
  have hi := r_in M s b h k hk
  have e : ((b + k : Nat) : Int) = (b : Int) + (k : Int) := by omega
  have e2 : ((b : Int) + (k : Int) - (b : Int)).toNat = k := by omega
  rw [e, if_neg (by simp [R]), if_pos hi, if_neg (by simp [R]), r_tick]
  simp only [R, e2]
theorem r_cut (M : List UInt8) (s b : Nat) (h : b + M.length ≤ 100000) (k : Nat) (hk : k ≤ M.length) : (R M s b).cut ((b + k : Nat) : Int) = (0, R (M.take k) (min s k) b) := by
  unfold DS.cut
  have hi := r_in M s b h k hk
  have e : ((b + k : Nat) : Int) = (b : Int) + (k : Int) := by omega
  have e2 : ((b : Int) + (k : Int) - (b : Int)).toNat = k := by omega
  rw [e, if_neg (by simp [R]), if_pos hi, if_neg (by simp [R]), r_tick]
  simp only [R, e2]
theorem r_crash (M : List UInt8) (b : Int) (keep : Int) (torn : Bool) : (R M M.length b).crash keep torn [] = R M M.length b := by
  have h1 : (R M M.length b).stay keep = M.length := by simp [DS.stay, R]
  have h2 : (R M M.length b).keys = [] := by simp [DS.keys, R]
  unfold DS.crash
  rw [h1, h2]
  have h3 : DS.tear M M.length M.length torn = M := by unfold DS.tear; rw [if_neg (by omega), List.take_length]
  simp only [R, h3, DS.crashOld]
theorem r_read (M : List UInt8) (s b : Nat) (h : b + M.length ≤ 100000) : (R M s b).read b = (M, 0) := by
  unfold DS.read
  have hi := r_in M s b h 0 (Nat.zero_le _)
  rw [Int.natCast_zero, Int.add_zero] at hi
  rw [if_neg (by simp [R]), if_pos hi]
  simp [R]
theorem r_below (M : List UInt8) (s : Nat) (b : Int) : (R M s b).read (b - 1) = ([], 1) := by
  unfold DS.read
  rw [if_neg (by simp [R]), if_neg]
  unfold DS.inn
  rw [show (R M s b).base = b from rfl, decide_eq_false (by omega)]
  simp
end Go.Proofs.Ytddcojikbcbihaa
