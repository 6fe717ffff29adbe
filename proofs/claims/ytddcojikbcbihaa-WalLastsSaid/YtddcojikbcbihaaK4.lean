import Derived.Test.YtddcojikbcbihaaK0
import Derived.Test.YtddcojikbcbihaaA2
/-! slices.Equal at []byte. -/
set_option linter.unusedVariables false
namespace Go.Proofs.Ytddcojikbcbihaa
open Go.RowKit

def EqualOk (L M : List UInt8) (w : World) (e : Ending) (w' : World) : Prop := e = .returned (.bool (decide (L = M))) ∧ ∃ n, w' = w.drewN n

set_option maxRecDepth 100000 in
set_option maxHeartbeats 1000000 in
theorem equal_is (w : World) (v1 v2 : Value) (L M : List UInt8) (h1 : Row Zone.no w v1 (bytes L)) (h2 : Row Zone.no w v2 (bytes M)) :
    Calls Try.prog 91 #[v1, v2] w (EqualOk L M w) := by
  obtain ⟨A1, c1, rfl, hc1, hm1⟩ := h1.form
  obtain ⟨A2, c2, rfl, hc2, hm2⟩ := h2.form
  have H1 := Lib.hid h1
  have H2 := Lib.hid h2
  have hl1 : L.length ≤ 9223372036854775807 := by unfold maxLen at hm1; omega
  have hl2 : M.length ≤ 9223372036854775807 := by unfold maxLen at hm2; omega
  clear h1 h2 hm1 hm2
  by_cases hlen : L.length = M.length
  · have HLEN := Lib.hid hlen
    rw [← hlen] at hc2 ⊢
    clear hl2
    have hl2 : L.length ≤ c2 := hc2
    clear hlen
    go_enter Try.func91, Try.ntmps91
    go_wp2_with fail
    go_loopw [13] (fun vi wr => ∃ i q : Nat, i ≤ L.length ∧ vi = .int .i64 (i : Int) ∧ wr = w.drewN q ∧ Hid (L.take i = M.take i)) (fun vi _ => L.length - (intOf vi).toNat)
    case atStart => exact ⟨0, 0, Nat.zero_le _, rfl, rfl, rfl⟩
    case round =>
      obtain ⟨i, q, hi, rfl, rfl, ht⟩ := hrel
      by_cases hlt : i < L.length
      · obtain ⟨u, hu⟩ : ∃ u, L[i]? = some u := ⟨_, List.getElem?_eq_getElem hlt⟩
        obtain ⟨x, hx⟩ : ∃ x, M[i]? = some x := ⟨_, List.getElem?_eq_getElem (by rw [← HLEN.out]; exact hlt)⟩
        obtain ⟨a1, rfl, _, k1⟩ := H1.out.byte hu
        obtain ⟨a2, rfl, _, k2⟩ := H2.out.byte hx
        have HU := Lib.hid hu
        have HX := Lib.hid hx
        have hc1' : i < c1 := by omega
        clear hu hx
        by_cases hux : u = x
        · obtain rfl := hux
          have HT : Hid (L.take (i + 1) = M.take (i + 1)) := by
            show _ = _
            rw [List.take_add_one, List.take_add_one, ht.out, HU.out, HX.out]
          go_wp2_with fail
          go_quiet (fail)
          go_wp2_with fail
          go_roundw
          case rel => exact ⟨i + 1, _, by omega, by go_num, rfl, HT.out⟩
          case measure => simp [intOf]; omega
        · have hne : ((u.toNat : Int) == (x.toNat : Int)) = false := by
            have : u.toNat ≠ x.toNat := fun e => hux (UInt8.toNat_inj.1 e)
            simp; omega
          have hne' : ((u.toNat : Int) != (x.toNat : Int)) = true := by simp [bne, hne]
          have HD : Hid (decide (L = M) = false) := by
            show _ = _
            rw [decide_eq_false_iff_not]
            intro e
            have h := HU.out
            rw [e, HX.out] at h
            injection h with h
            exact hux h.symm
          go_wp2_with fail
          go_quiet (fail)
          go_wp2_with fail
          go_ret
          unfold EqualOk
          rw [HD.out]
          exact ⟨rfl, _, by rw [World.drewN_drewN]⟩
      · have HD : Hid (decide (L = M) = true) := by
          show _ = _
          rw [decide_eq_true_eq]
          have h := ht.out
          rwa [List.take_of_length_le (by omega), List.take_of_length_le (by rw [← HLEN.out]; omega)] at h
        go_wp2_with fail
        go_ret
        unfold EqualOk
        rw [HD.out]
        exact ⟨rfl, _, rfl⟩
  · have HD : Hid (decide (L = M) = false) := by
      show _ = _
      rw [decide_eq_false_iff_not]
      exact fun e => hlen (by rw [e])
    have hne : ((L.length : Int) == (M.length : Int)) = false := by simp; omega
    have hne' : ((L.length : Int) != (M.length : Int)) = true := by simp [bne, hne]
    go_enter Try.func91, Try.ntmps91
    go_wp2_with fail
    go_ret
    unfold EqualOk
    rw [HD.out]
    exact ⟨rfl, 0, rfl⟩
end Go.Proofs.Ytddcojikbcbihaa
