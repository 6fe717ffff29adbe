import Derived.Test.YtddcojikbcbihaaK1
import Derived.Laws.BitsAllLaws
/-! codec: Number. -/
set_option linter.unusedVariables false
namespace Go.Proofs.Ytddcojikbcbihaa
open Go.RowKit

/-- A byte that says: more. -/
def moreOf (u : Nat) : UInt8 := UInt8.ofNat (u % 128 + 128)
/-- A number's bytes. -/
def numB (u : Nat) : List UInt8 := if h : u < 128 then [UInt8.ofNat u] else moreOf u :: numB (u / 128)
termination_by u
decreasing_by omega

theorem numB_small {u : Nat} (h : u < 128) : numB u = [UInt8.ofNat u] := by rw [numB, dif_pos h]
theorem numB_more {u : Nat} (h : ¬ u < 128) : numB u = moreOf u :: numB (u / 128) := by rw [numB, dif_neg h]

theorem zig0 (n : Int) (h0 : 0 ≤ n) (h1 : n ≤ 1000000000) : bits .xor .u64 (n * 2) (n / 9223372036854775808) = ((2 * n.toNat : Nat) : Int) := by
  have e1 : n / 9223372036854775808 = ((0 : Nat) : Int) := by omega
  have e2 : n * 2 = ((2 * n.toNat : Nat) : Int) := by omega
  rw [e1, e2, u64_xor_nat _ _ (by omega) (by omega)]
  simp

theorem more_or (u : Nat) : bits .or .u8 ((u : Int) % 256) 128 = ((moreOf u).toNat : Int) := by
  have e1 : (u : Int) % 256 = ((u % 256 : Nat) : Int) := by omega
  have hd : ∀ a : Fin 256, (a.val ||| 128) = a.val % 128 + 128 := by decide +kernel
  have h := hd ⟨u % 256, by omega⟩
  simp only at h
  rw [e1, show (128 : Int) = ((128 : Nat) : Int) from rfl, u8_or_nat _ _ (by omega) (by omega), h]
  unfold moreOf
  rw [UInt8.toNat_ofNat']
  omega

theorem small_byte {u : Nat} (h : u < 128) : ((u : Int) % 256) = ((UInt8.ofNat u).toNat : Int) := by
  rw [UInt8.toNat_ofNat']
  omega

/-- append(b, x) onto a slice of the call's own. -/
theorem owns_push {base : Nat} {w : World} {v : Value} {L : List UInt8} (h : Owns base w v L) (hb : base ≤ w.heap.size) (x : UInt8) (hl : L.length ≤ 10000000000) :
    ∃ v' w', (Builtin.append_ #[22, 22] 22 #[v, .slice (some ⟨w.heap.size, 0, none⟩) 1 1]).run Try.prog (w.alloc (.cells #[.int .u8 (x.toNat : Int)] 5)) = .ok v' w' ∧ Owns base w' v' (L ++ [x]) ∧ (∀ w0, Out Zone.no w0 w → w0.heap.size ≤ base → Out Zone.no w0 w') := by
  have o0 := (Out.refl Zone.no w).alloc (.cells #[.int .u8 (x.toNat : Int)] 5)
  have hr : Row Zone.no (w.alloc (.cells #[.int .u8 (x.toNat : Int)] 5)) (.slice (some ⟨w.heap.size, 0, none⟩) 1 1) (bytes [x]) :=
    row_block (cs := [.int .u8 (x.toNat : Int)]) (heap_alloc_new w _) id (le_maxLen (by simp))
  obtain ⟨v', w', hrun, h1, hg, _⟩ := (h.out o0 (fun _ _ h => h)).append (Nat.le_trans hb o0.size) hr (by simp; omega) 22
  refine ⟨v', w', hrun, h1, fun w0 ho hw => (ho.trans o0).grown hg (fun k hk => Or.inr ?_)⟩
  have := (World.ownsRow.lt h k hk).1
  omega

set_option maxRecDepth 100000 in
set_option maxHeartbeats 1000000 in
theorem num82 (w : World) (n : Int) (h0 : 0 ≤ n) (h1 : n ≤ 1000000000) : Calls Try.prog 82 #[.int .i64 n] w fun e w' => ∃ v, e = .returned v ∧ Row Zone.no w' v (bytes (numB (2 * n.toNat))) ∧ Out Zone.no w w' := by
  have hz := Lib.hid (zig0 n h0 h1)
  go_enter Try.func82, Try.ntmps82
  go_wp2_with fail
  rw [hz.out]
  obtain ⟨m, hm⟩ : ∃ m, 2 * n.toNat = m := ⟨_, rfl⟩
  rw [hm]
  have hm2 : m ≤ 2000000000 := by omega
  have HMM := Lib.hid hm
  clear hm hz h0 h1
  go_loopw [3, 4] (fun vu vb wr => ∃ (u : Nat) (L : List UInt8), u ≤ m ∧ vu = .int .u64 (u : Int) ∧ L.length + u ≤ m ∧ Hid (L ++ numB u = numB m) ∧ Hid (Owns w.heap.size wr vb L) ∧ Hid (Out Zone.no w wr)) (fun vu _ _ => (intOf vu).toNat)
  case atStart => exact ⟨m, [], Nat.le_refl _, rfl, by simp, rfl, owns_nil _ _, Out.refl _ _⟩
  case round =>
    obtain ⟨u, L, hu, rfl, hl, hL, hown, how⟩ := hrel
    rename_i vb wr
    by_cases hlt : u < 128
    · have hsm : ((UInt8.ofNat u).toNat : Int) = (u : Int) := by rw [UInt8.toNat_ofNat']; omega
      obtain ⟨v', w', hrun, h1, ho⟩ := owns_push hown.out how.out.size (UInt8.ofNat u) (by omega)
      rw [hsm] at hrun
      have HR := Lib.hid hrun
      have H1 := Lib.hid h1
      have HO := Lib.hid (ho w how.out (Nat.le_refl _))
      clear hrun h1 ho hsm
      go_wp2_with (at_builtin; refine wpList_builtin rfl _ _ _ rfl HR.out ?_)
      go_ret
      refine ⟨_, rfl, ?_, HO.out⟩
      rw [HMM.out, ← hL.out, numB_small hlt]
      exact H1.out.row (fun g _ h => h)
    · have hmo := more_or u
      obtain ⟨v', w', hrun, h1, ho⟩ := owns_push hown.out how.out.size (moreOf u) (by omega)
      have HR := Lib.hid hrun
      have H1 := Lib.hid h1
      have HO := Lib.hid (ho w how.out (Nat.le_refl _))
      clear hrun h1 ho
      go_wp2_with (at_builtin; refine wpList_builtin rfl _ _ _ rfl HR.out ?_)
      go_roundw
      case rel => exact ⟨u / 128, L ++ [moreOf u], by omega, by go_num, by rw [List.length_append]; simp only [List.length_cons, List.length_nil]; omega, by
        show _ = _
        rw [← hL.out, numB_more hlt, List.append_assoc]
        rfl, H1.out, HO.out⟩
      case measure => simp [intOf]; omega
end Go.Proofs.Ytddcojikbcbihaa
