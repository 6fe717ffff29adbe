import Derived.Test.YtddcojikbcbihaaK5
import Derived.Test.YtddcojikbcbihaaK1
/-! codec.Record. -/
set_option linter.unusedVariables false
namespace Go.Proofs.Ytddcojikbcbihaa
open Go.RowKit

/-- A record's bytes. -/
def recB (L : List UInt8) : List UInt8 := numB (2 * L.length) ++ L ++ eightI (crcI L)

theorem length_numB (u : Nat) : 0 < (numB u).length ∧ (numB u).length ≤ u + 1 := by
  induction u using Nat.strongRecOn with
  | _ u ih =>
    by_cases h : u < 128
    · rw [numB_small h]
      simp
    · rw [numB_more h]
      have := ih (u / 128) (by omega)
      simp only [List.length_cons]
      omega

theorem numB_short {u k : Nat} (h : u < 128 ^ (k + 1)) : (numB u).length ≤ k + 1 := by
  induction k generalizing u with
  | zero => rw [numB_small (by omega)]; simp
  | succ k ih =>
    by_cases h1 : u < 128
    · rw [numB_small h1]; simp
    · rw [numB_more h1, List.length_cons]
      have : u / 128 < 128 ^ (k + 1) := by
        rw [Nat.div_lt_iff_lt_mul (by omega)]
        rw [Nat.pow_succ] at h
        omega
      have := ih this
      omega

theorem rows3 {w : World} {g : Nat} {v1 v2 v3 : Value} {L1 L2 L3 : List UInt8} (h : w.heap[g]? = some (.cells #[v1, v2, v3] 22 (0, 0))) (h1 : Row Zone.no w v1 (bytes L1)) (h2 : Row Zone.no w v2 (bytes L2)) (h3 : Row Zone.no w v3 (bytes L3)) :
    Rows w ⟨g, 0, none⟩ [L1, L2, L3] := by
  intro i L hL
  have hi : i < 3 := by
    have := (List.getElem?_eq_some_iff.1 hL).1
    simpa using this
  have hc := cells_all h i
  rw [addr0_add]
  rcases (by omega : i = 0 ∨ i = 1 ∨ i = 2) with rfl | rfl | rfl
  · injection hL with hL; subst hL; exact ⟨v1, hc, h1⟩
  · injection hL with hL; subst hL; exact ⟨v2, hc, h2⟩
  · injection hL with hL; subst hL; exact ⟨v3, hc, h3⟩

theorem Owns.base_le {b b' : Nat} {w : World} {v : Value} {L : List UInt8} (h : Owns b w v L) (hb : b' ≤ b) : Owns b' w v L := by
  obtain ⟨h1, h2⟩ := h
  refine ⟨h1, ?_⟩
  rcases h2 with h2 | ⟨g, cap, cur, hv, hg, hh, hr⟩
  · exact Or.inl h2
  · exact Or.inr ⟨g, cap, cur, hv, Nat.le_trans hb hg, hh, hr⟩

set_option maxRecDepth 100000 in
set_option maxHeartbeats 1000000 in
theorem record_is (w : World) (v : Value) (L : List UInt8) (hr : Row Zone.no w v (bytes L)) (hl : L.length ≤ 1048576) :
    Calls Try.prog 67 #[v] w fun e w' => ∃ v', e = .returned (.tuple #[v', .int .i64 0]) ∧ Owns w.heap.size w' v' (recB L) ∧ Out Zone.no w w' := by
  obtain ⟨A, c, rfl, hc1, hc2⟩ := hr.form
  have HR := Lib.hid hr
  have N0 := num82 w (L.length : Int) (by omega) (by omega)
  rw [Int.toNat_natCast] at N0
  have N := Lib.hid N0
  clear N0
  clear hr hc2
  go_enter Try.func67, Try.ntmps67
  go_wp2_with (first
    | (go_at_call 82; refine N.out.mono ?_; rintro e w1 ⟨v1, rfl, h1, ho1⟩; obtain ⟨A1, c1, rfl, _, _⟩ := h1.form; have H1 := Lib.hid h1; have HO1 := Lib.hid ho1; clear h1 ho1)
    | (go_at_call 84; refine (sum_is w1 _ L (HR.out.out HO1.out) (by omega)).mono ?_; rintro e w2 ⟨rfl, rfl⟩)
    | (go_at_call 83; refine (eight_is w1 (crcI L)).mono ?_; rintro e w3 ⟨rfl, h3, ho3⟩; have H3 := Lib.hid h3; have HO3 := Lib.hid ho3; clear h3 ho3)
    | fail)
  have o1 := (HO1.out.trans HO3.out).alloc (.cells #[Value.slice A1 (numB (2 * L.length)).length c1, Value.slice A L.length c, Value.slice (some { block := w1.heap.size, off := 0 }) 8 8] 22)
  have o3 := (Out.refl Zone.no w3).alloc (.cells #[Value.slice A1 (numB (2 * L.length)).length c1, Value.slice A L.length c, Value.slice (some { block := w1.heap.size, off := 0 }) 8 8] 22)
  have R := rows3 (heap_alloc_new w3 _) (H1.out.out (HO3.out.trans o3)) (HR.out.out o1) (H3.out.out o3)
  have hs := (HO1.out.trans HO3.out).size
  have HO := Lib.hid o1
  have hk := numB_short (u := 2 * L.length) (k := 3) (by omega)
  have hlen : [numB (2 * L.length), L, eightI (crcI L)].flatten = recB L := by simp [recB]
  have hlen2 : (recB L).length = (numB (2 * L.length)).length + L.length + 8 := by
    unfold recB
    rw [List.length_append, List.length_append, length_eightI]
  refine (concat_is _ _ _ R (by rw [hlen]; omega) (by rw [hlen]; omega) (by simp)).mono ?_
  rintro e w4 ⟨v4, rfl, h4, ho4⟩
  rw [hlen] at h4
  have H4 := Lib.hid h4
  have HO4 := Lib.hid ho4
  clear h4 ho4 R o1 o3 hlen hlen2
  go_wp2_with fail
  go_ret2
  exact ⟨_, rfl, H4.out.base_le (Nat.le_trans hs (by simp)), HO.out.trans HO4.out⟩

theorem record_long (w : World) (A : Option Addr) (n c : Nat) (hl : ¬ n ≤ 1048576) (hn : n ≤ 9223372036854775807) :
    Calls Try.prog 67 #[.slice A n c] w fun e w' => e = .returned (.tuple #[.slice none 0 0, .int .i64 6]) ∧ w = w' := by
  go_enter Try.func67, Try.ntmps67
  go_wp2_with fail
  go_ret2
  exact ⟨rfl, rfl⟩
end Go.Proofs.Ytddcojikbcbihaa
