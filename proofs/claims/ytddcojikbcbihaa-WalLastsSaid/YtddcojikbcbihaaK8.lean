import Derived.Test.YtddcojikbcbihaaK7
/-! A record is read back. -/
set_option linter.unusedVariables false
namespace Go.Proofs.Ytddcojikbcbihaa
open Go.RowKit

theorem moreOf_toNat (u : Nat) : (moreOf u).toNat = u % 128 + 128 := by
  unfold moreOf
  rw [UInt8.toNat_ofNat']
  omega

theorem numN_at (u : Nat) : ∀ (P rest : List UInt8) (acc : Nat), P.length + (numB u).length ≤ 9 → (P.length = 0 ∨ 0 < u) →
    numN (P ++ (numB u ++ rest)) P.length acc = (unN (acc + u * 2 ^ (7 * P.length)), P.length + (numB u).length, 0) := by
  induction u using Nat.strongRecOn with
  | _ u ih =>
    intro P rest acc hl h0
    by_cases hu : u < 128
    · rw [numB_small hu] at hl ⊢
      have hc : (UInt8.ofNat u).toNat = u := by rw [UInt8.toNat_ofNat']; omega
      have hg : (P ++ ([UInt8.ofNat u] ++ rest))[P.length]? = some (UInt8.ofNat u) := by simp
      simp only [List.length_cons, List.length_nil] at hl ⊢
      rw [numN_done (by omega) hg (by omega) (by rw [hc]; omega) (by rw [hc]; omega), hc, Nat.mod_eq_of_lt hu]
    · rw [numB_more hu] at hl ⊢
      have hc := moreOf_toNat u
      simp only [List.length_cons] at hl ⊢
      have hg : (P ++ (moreOf u :: numB (u / 128) ++ rest))[P.length]? = some (moreOf u) := by simp
      rw [numN_go (by omega) hg (by omega) (by rw [hc]; omega), hc]
      have e1 : (u % 128 + 128) % 128 = u % 128 := by omega
      have e2 : P ++ (moreOf u :: numB (u / 128) ++ rest) = (P ++ [moreOf u]) ++ (numB (u / 128) ++ rest) := by simp
      have h := ih (u / 128) (by omega) (P ++ [moreOf u]) rest (acc + u % 128 * 2 ^ (7 * P.length)) (by simp; omega) (Or.inr (by omega))
      simp only [List.length_append, List.length_cons, List.length_nil] at h
      rw [e1, e2, h]
      have e3 : 2 ^ (7 * (P.length + 1)) = 2 ^ (7 * P.length) * 128 := by rw [Nat.mul_add, Nat.pow_add]
      have e4 : acc + u % 128 * 2 ^ (7 * P.length) + u / 128 * 2 ^ (7 * (P.length + 1)) = acc + u * 2 ^ (7 * P.length) := by
        rw [e3]
        generalize 2 ^ (7 * P.length) = X
        have hd := Nat.div_add_mod u 128
        calc acc + u % 128 * X + u / 128 * (X * 128) = acc + (128 * (u / 128) + u % 128) * X := by rw [Nat.add_mul]; rw [Nat.mul_comm X 128, ← Nat.mul_assoc, Nat.mul_comm (u / 128) 128]; omega
          _ = acc + u * X := by rw [hd]
      rw [e4]
      simp only [Nat.zero_add]
      congr 2
      omega

theorem unN_even (n : Nat) : unN (2 * n) = n := by
  unfold unN
  rw [if_pos (by omega)]
  congr 1
  omega

theorem unrec_rec (L rest : List UInt8) (hl : L.length ≤ 1048576) : unrec (recB L ++ rest) = (L, (recB L).length, 0) := by
  have hs := numB_short (u := 2 * L.length) (k := 3) (by omega)
  have hn := numN_at (2 * L.length) [] (L ++ eightI (crcI L) ++ rest) 0 (by simp; omega) (Or.inl rfl)
  simp only [List.length_nil, Nat.mul_zero, Nat.pow_zero, Nat.mul_one, Nat.zero_add, List.nil_append, unN_even] at hn
  have e : recB L ++ rest = numB (2 * L.length) ++ (L ++ eightI (crcI L) ++ rest) := by simp [recB]
  have hlen : (recB L).length = (numB (2 * L.length)).length + L.length + 8 := by
    unfold recB
    rw [List.length_append, List.length_append, length_eightI]
  have d1 : (recB L ++ rest).drop (numB (2 * L.length)).length = L ++ eightI (crcI L) ++ rest := by rw [e, List.drop_left]
  have d2 : (recB L ++ rest).drop ((numB (2 * L.length)).length + L.length) = eightI (crcI L) ++ rest := by
    rw [← List.drop_drop, d1, List.append_assoc, List.drop_left]
  rw [← e] at hn
  have t1 : (L ++ eightI (crcI L) ++ rest).take L.length = L := by rw [List.append_assoc, List.take_left]
  rw [unrec_ok hn hl (by rw [List.length_append, hlen]; omega) (by
    rw [d1, d2, t1]
    have := length_eightI (crcI L)
    rw [← this, List.take_left]), d1, t1, hlen]
end Go.Proofs.Ytddcojikbcbihaa
