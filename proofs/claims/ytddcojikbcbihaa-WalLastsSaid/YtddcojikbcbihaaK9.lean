import Derived.Test.YtddcojikbcbihaaW3
import Derived.Test.YtddcojikbcbihaaD15
/-! What the law's knows sees: no Go here. -/
set_option linter.unusedVariables false
namespace Go.Proofs.Ytddcojikbcbihaa
open Go.RowKit

theorem length_recB (L : List UInt8) : (recB L).length = (numB (2 * L.length)).length + L.length + 8 := by
  unfold recB
  rw [List.length_append, List.length_append, length_eightI]
theorem length_rec1 (x : UInt8) : (recB [x]).length = 10 := by
  rw [length_recB]
  simp [numB_small]

theorem recs_nil : recs 0 [] 0 = [] := recs_end 0 (by simp)

theorem recs_know : recs 0 ((recB [97] ++ recB [98]).take 15) 0 = [(0, [97], 10)] := by
  have h1 := length_rec1 97
  have h2 := length_rec1 98
  have e : (recB [97] ++ recB [98]).take 15 = recB [97] ++ (recB [98]).take 5 := by
    rw [List.take_append, h1, List.take_of_length_le (by omega)]
  rw [e]
  have u1 := unrec_rec [97] ((recB [98]).take 5) (by simp)
  rw [h1] at u1
  rw [recs_go 0 (k := 0) (by simp; omega) (by rw [List.drop_zero]; exact u1) (by omega)]
  have d : (recB [97] ++ (recB [98]).take 5).drop (0 + 10) = (recB [98]).take 5 := by rw [Nat.zero_add, ← h1, List.drop_left]
  have hb : (recB [98]).take 5 = numB 2 ++ ((recB [98]).take 5).drop 1 := by
    have : (recB [98]) = numB 2 ++ ([98] ++ eightI (crcI [98])) := by simp [recB]
    rw [this, numB_small (by omega)]
    simp
  have hn := numN_at 2 [] (((recB [98]).take 5).drop 1) 0 (by rw [numB_small (by omega)]; simp) (Or.inl rfl)
  simp only [List.nil_append, List.length_nil, ← hb, Nat.mul_zero, Nat.pow_zero, Nat.mul_one, Nat.zero_add] at hn
  rw [show unN 2 = ((1 : Nat) : Int) from rfl] at hn
  have ue := unrec_end hn (by omega) (by rw [List.length_take, h2]; simp [numB_small])
  rw [recs_err 0 (by rw [d, ue]; simp)]
  simp

end Go.Proofs.Ytddcojikbcbihaa
