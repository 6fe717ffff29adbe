import Derived.Test.YtddcojikbcbihaaK0
import Derived.Test.YtddcojikbcbihaaD21
/-! codec: eight. -/
set_option linter.unusedVariables false
namespace Go.Proofs.Ytddcojikbcbihaa
open Go.RowKit

def byteOf (x : Int) : UInt8 := UInt8.ofNat (x % 256).toNat
theorem mod_byte (x : Int) : x % 256 = ((byteOf x).toNat : Int) := by
  unfold byteOf
  rw [UInt8.toNat_ofNat']
  omega
theorem wrap_byte (x : Int) : IntKind.u8.wrap x = ((byteOf x).toNat : Int) := by
  have h : IntKind.u8.wrap x = x % 256 := by simp [IntKind.wrap, IntKind.bits, IntKind.signed]
  rw [h]
  unfold byteOf
  rw [UInt8.toNat_ofNat']
  omega

def byteAt (c : Int) (i : Nat) : UInt8 := byteOf (c / 2 ^ (56 - 8 * i))
def eightI (c : Int) : List UInt8 := (List.range 8).map (byteAt c)
theorem length_eightI (c : Int) : (eightI c).length = 8 := by simp [eightI]

theorem make8 (W : World) : (Instr.makeSlice 22 (.int .i64 8) (.int .i64 8)).run Try.prog W = .ok (.slice (some ⟨W.heap.size, 0, none⟩) 8 8) (W.alloc (.cells (madeCells #[.int .u8 0] 8) 5)) := by
  obtain ⟨hu, ⟨i, hi1, hz, hsz, hby⟩, hz1⟩ := elem22
  have h := run_make (P := Try.prog) W 22 5 i (.int .u8 0) hu hi1 hz .i64 .i64 8 8 (by omega) (by omega) (by rw [hby]; omega) (by omega)
  rw [hsz] at h
  exact h

set_option maxRecDepth 100000 in
set_option maxHeartbeats 1000000 in
theorem eight_is (w : World) (c : Int) : Calls Try.prog 83 #[.int .u64 c] w fun e w' => e = .returned (.slice (some ⟨w.heap.size, 0, none⟩) 8 8) ∧ Row Zone.no w' (.slice (some ⟨w.heap.size, 0, none⟩) 8 8) (bytes (eightI c)) ∧ Out Zone.no w w' := by
  have hm := make8 w
  have hz5 : (w.alloc (.cells (madeCells #[.int .u8 0] 8) 5)).heap[w.heap.size]? = some (.cells (madeCells #[.int .u8 0] 8) 5 (0, 0)) := heap_alloc_new w _
  have hzs : (madeCells #[.int .u8 0] 8).size = 8 := by
    have := congrArg List.length (toList_madeCells_one (.int .u8 0) 8)
    simpa using this
  have HO5 := Lib.hid ((Out.refl Zone.no w).alloc (.cells (madeCells #[.int .u8 0] 8) 5))
  obtain ⟨g, hg⟩ : ∃ g, w.heap.size = g := ⟨_, rfl⟩
  rw [hg] at hz5 hm ⊢
  have HZ : Hid (Exists fun cs : Array Value => (w.alloc (.cells (madeCells #[.int .u8 0] 8) 5)).heap[g]? = some (.cells cs 5 (0, 0)) ∧ cs.size = 8 ∧ ∀ j, j < 0 → cs[j]? = some (.int .u8 ((byteAt c j).toNat : Int))) := ⟨_, hz5, hzs, fun j hj => by omega⟩
  have HG := Lib.hid hg
  clear hz5 hzs hg
  go_enter Try.func83, Try.ntmps83
  go_wp2_with fail
  obtain ⟨W5, hW5⟩ : ∃ W5, w.alloc (.cells (madeCells #[.int .u8 0] 8) 5) = W5 := ⟨_, rfl⟩
  rw [hW5] at HZ HO5 ⊢
  clear hW5 hm
  go_loopw [8] (fun vi wr => ∃ i : Nat, i ≤ 8 ∧ vi = .int .i64 (i : Int) ∧ Hid (Exists fun cs : Array Value => wr.heap[g]? = some (.cells cs 5 (0, 0)) ∧ cs.size = 8 ∧ ∀ j, j < i → cs[j]? = some (.int .u8 ((byteAt c j).toNat : Int))) ∧ Hid (Out Zone.no w wr)) (fun vi _ => 8 - (intOf vi).toNat)
  case atStart => exact ⟨0, by omega, rfl, HZ.out, HO5.out⟩
  case round =>
    obtain ⟨i, hi, rfl, hcs, how⟩ := hrel
    obtain ⟨cs, hcs1, hcs2, hcs3⟩ := hcs.out
    by_cases hk5 : i < 8
    · obtain ⟨uk, ck⟩ : ∃ u, wr.cell? ⟨g, i, none⟩ = some u := ⟨cs[i]'(by omega), by rw [cells_all hcs1 i]; exact Array.getElem?_eq_getElem (by omega)⟩
      have fk := frozen_all hcs1 i
      have HN5 : Hid (∀ x : Int, x = ((byteAt c i).toNat : Int) → Exists fun cs' : Array Value => (wr.setCell ⟨g, i, none⟩ (.int .u8 x)).heap[g]? = some (.cells cs' 5 (0, 0)) ∧ cs'.size = 8 ∧ ∀ j, j < i + 1 → cs'[j]? = some (.int .u8 ((byteAt c j).toNat : Int))) := fun x hx =>
        ⟨_, heap_set hcs1 i (.int .u8 x), by rw [Array.size_setIfInBounds, hcs2], fun j hj => by
          rw [Array.getElem?_setIfInBounds]
          by_cases hjk : i = j
          · rw [if_pos hjk, if_pos (by omega), hx, hjk]
          · rw [if_neg hjk]; exact hcs3 j (by omega)⟩
      have HO5 := Lib.hid (fun x : Int => how.out.setCell (p := ⟨g, i, none⟩) (Or.inr (by have := HG.out; show w.heap.size ≤ g; omega)) (.int .u8 x))
      have b1 : (0 : Int) ≤ 56 - 8 * (i : Int) := by omega
      have b2 : 56 - 8 * (i : Int) ≤ 64 := by omega
      clear hcs1 hcs2 hcs3
      go_wp2_with fail
      go_roundw
      case rel => exact ⟨i + 1, by omega, by go_num, HN5.out _ (mod_byte _), HO5.out _⟩
      case measure => simp [intOf]; omega
    · obtain rfl : i = 8 := by omega
      have hrow : Row Zone.no wr (.slice (some ⟨g, 0, none⟩) 8 8) (bytes (eightI c)) := by
        refine ⟨some ⟨g, 0, none⟩, 8, by rw [length_bytes, length_eightI], by rw [length_bytes, length_eightI]; omega, le_maxLen (by omega), fun j u hu => ⟨_, rfl, id, ?_⟩⟩
        have hj : j < 8 := by have := (List.getElem?_eq_some_iff.1 hu).1; rwa [length_bytes, length_eightI] at this
        rw [addr0_add, cells_all hcs1 j, hcs3 j hj, ← hu]
        simp [bytes, eightI, hj]
      have HR := Lib.hid hrow
      clear hrow hcs1 hcs2 hcs3
      go_wp2_with fail
      go_ret
      exact ⟨rfl, HR.out, how.out⟩
end Go.Proofs.Ytddcojikbcbihaa
