import Derived.Test.YtddcojikbcbihaaK9
import Derived.Test.YtddcojikbcbihaaW1
/-! What is told behind a crash (no Go here). -/
set_option linter.unusedVariables false
namespace Go.Proofs.Ytddcojikbcbihaa
open Go.RowKit

/-- Records, one behind the other. -/
def flatR (S : List (List UInt8)) : List UInt8 := (S.map recB).flatten
theorem flatR_nil : flatR [] = [] := rfl
theorem flatR_cons (b : List UInt8) (S : List (List UInt8)) : flatR (b :: S) = recB b ++ flatR S := by simp [flatR]
theorem flatR_append (S T : List (List UInt8)) : flatR (S ++ T) = flatR S ++ flatR T := by simp [flatR]

/-- What a scan tells of them. -/
def entsR (o : Nat) : List (List UInt8) → List (Int × List UInt8 × Int)
  | [] => []
  | b :: S => ((o : Int), b, (o : Int) + (recB b).length) :: entsR (o + (recB b).length) S
def Stop (T : List UInt8) : Prop := (unrec T).2.2 ≠ 0

theorem recs_flat : ∀ (S : List (List UInt8)) (P T : List UInt8), (∀ b ∈ S, b.length ≤ 1000) → Stop T → recs 0 (P ++ (flatR S ++ T)) P.length = entsR P.length S
  | [], P, T, _, ht => by
    rw [flatR_nil, List.nil_append, recs_err 0 (by rw [List.drop_left]; exact ht)]
    rfl
  | b :: S, P, T, hb, ht => by
    have hrl := length_recB b
    have hu := unrec_rec b (flatR S ++ T) (by have := hb b (by simp); omega)
    have hd : (P ++ (flatR (b :: S) ++ T)).drop P.length = recB b ++ (flatR S ++ T) := by rw [List.drop_left, flatR_cons, List.append_assoc]
    rw [recs_go 0 (X := b) (n := (recB b).length) (by rw [flatR_cons]; simp only [List.length_append]; omega) (by rw [hd]; exact hu) (by omega)]
    have ih := recs_flat S (P ++ recB b) T (fun c hc => hb c (by simp [hc])) ht
    rw [List.length_append] at ih
    rw [show P ++ (flatR (b :: S) ++ T) = P ++ recB b ++ (flatR S ++ T) by rw [flatR_cons]; simp, ih]
    simp [entsR]

theorem entsR_length (o : Nat) (S : List (List UInt8)) : (entsR o S).length = S.length := by
  induction S generalizing o with
  | nil => rfl
  | cons b S ih => simp [entsR, ih]
theorem entsR_at (S : List (List UInt8)) : ∀ (o i : Nat) (b : List UInt8), S[i]? = some b → (entsR o S)[i]? = some (((o + (flatR (S.take i)).length : Nat) : Int), b, ((o + (flatR (S.take i)).length + (recB b).length : Nat) : Int)) := by
  induction S with
  | nil => intro o i b h; cases h
  | cons c S ih =>
    intro o i b h
    cases i with
    | zero => injection h with h; subst h; simp [entsR, flatR_nil]
    | succ i =>
      have := ih (o + (recB c).length) i b h
      show (entsR (o + (recB c).length) S)[i]? = _
      rw [this, List.take_succ_cons, flatR_cons, List.length_append]
      simp only [Option.some.injEq, Prod.mk.injEq, true_and]
      constructor <;> omega
theorem entsR_end (S : List (List UInt8)) (o : Nat) (a : Int) : (entsR o S).foldl (fun _ r => r.2.2) a = if S = [] then a else ((o + (flatR S).length : Nat) : Int) := by
  induction S generalizing o a with
  | nil => simp [entsR]
  | cons b S ih =>
    rw [if_neg (by simp)]
    show (entsR _ S).foldl _ _ = _
    rw [ih]
    by_cases hs : S = []
    · subst hs; simp [flatR_cons, flatR_nil]
    · rw [if_neg hs, flatR_cons, List.length_append]; congr 1; omega

theorem numN_pos (L : List UInt8) (s u : Nat) (h : (numN L s u).2.2 = 0) : s < (numN L s u).2.1 := by
  induction hk : 10 - s generalizing s u with
  | zero => rw [numN, dif_neg (by omega)] at h; simp at h
  | succ k ih =>
    rw [numN, dif_pos (by omega)] at h ⊢
    split at h
    · simp at h
    · rename_i c hc
      split at h
      · simp at h
      · rename_i h1
        rw [if_neg h1]
        split at h
        · rename_i h2
          rw [if_pos h2]
          have := ih _ _ h (by omega)
          omega
        · rename_i h2
          rw [if_neg h2]
          split at h
          · simp at h
          · rename_i h3
            rw [if_neg h3]
            simp only
            omega

theorem unrec_short (P : List UInt8) (h : P.length ≤ 8) : Stop P := by
  unfold Stop
  intro he
  have hn := unrec_size P he
  unfold unrec at he hn
  split at he
  · rename_i h1; exact (h1 he).elim
  · split at he
    · simp at he
    · split at he
      · simp at he
      · rename_i h1 h2 h3
        have := numN_pos P 0 0 (by simpa using h1)
        omega

/-- The last byte turned. -/
def turnLast (L : List UInt8) : List UInt8 := L.set (L.length - 1) ((L.getD (L.length - 1) 0) ^^^ 85)
theorem xor85 (c : UInt8) : c ^^^ 85 ≠ c := by
  intro h
  have hd : ∀ a : Fin 256, (a.val ^^^ 85) ≠ a.val := by decide +kernel
  have := congrArg UInt8.toNat h
  rw [UInt8.toNat_xor] at this
  exact hd ⟨c.toNat, c.toNat_lt⟩ this
theorem turnLast_length (L : List UInt8) : (turnLast L).length = L.length := by simp [turnLast]
theorem turnLast_append (P Q : List UInt8) (h : Q ≠ []) : turnLast (P ++ Q) = P ++ turnLast Q := by
  have hq : 0 < Q.length := List.length_pos_iff.2 h
  unfold turnLast
  have e : (P ++ Q).length - 1 = P.length + (Q.length - 1) := by simp; omega
  rw [e, List.set_append_right _ _ (by omega), Nat.add_sub_cancel_left]
  congr 2
  rw [List.getD_eq_getElem?_getD, List.getD_eq_getElem?_getD, List.getElem?_append_right (by omega), Nat.add_sub_cancel_left]
theorem turnLast_ne (Q : List UInt8) (h : Q ≠ []) : turnLast Q ≠ Q := by
  have hq : 0 < Q.length := List.length_pos_iff.2 h
  intro e
  have := congrArg (fun l => l.getD (Q.length - 1) 0) e
  simp only [turnLast, List.getD_eq_getElem?_getD] at this
  rw [List.getElem?_set_self (by omega)] at this
  exact xor85 _ this

def torn_ (t : Bool) (L : List UInt8) : List UInt8 := if t then turnLast L else L
theorem torn_length (t : Bool) (L : List UInt8) : (torn_ t L).length = L.length := by unfold torn_; split <;> simp [turnLast_length]
theorem torn_append (t : Bool) (P Q : List UInt8) (h : Q ≠ []) : torn_ t (P ++ Q) = P ++ torn_ t Q := by
  unfold torn_; split
  · exact turnLast_append P Q h
  · rfl

theorem numN_rec (b R : List UInt8) (hb : b.length ≤ 1000) : numN (numB (2 * b.length) ++ R) 0 0 = ((b.length : Int), (numB (2 * b.length)).length, 0) := by
  have hs := numB_short (u := 2 * b.length) (k := 1) (by omega)
  have hn := numN_at (2 * b.length) [] R 0 (by simp; omega) (Or.inl rfl)
  simpa only [List.length_nil, Nat.mul_zero, Nat.pow_zero, Nat.mul_one, Nat.zero_add, List.nil_append, unN_even] using hn

/-- A record that is cut off, or whose last byte is turned, tells nothing. -/
theorem cut_stops (b : List UInt8) (hb : b.length ≤ 1000) (j : Nat) (t : Bool) (hj : j < (recB b).length ∨ j = (recB b).length ∧ t = true) : Stop (torn_ t ((recB b).take j)) := by
  have hlen := length_recB b
  have hs := numB_short (u := 2 * b.length) (k := 1) (by omega)
  by_cases h8 : j ≤ 8
  · exact unrec_short _ (by rw [torn_length, List.length_take]; omega)
  · have hpos : 0 < (numB (2 * b.length)).length := (length_numB _).1
    have e1 : (recB b).take j = numB (2 * b.length) ++ (b ++ eightI (crcI b)).take (j - (numB (2 * b.length)).length) := by
      unfold recB
      rw [List.append_assoc, List.take_append, List.take_of_length_le (by omega)]
    have hne : (b ++ eightI (crcI b)).take (j - (numB (2 * b.length)).length) ≠ [] := by
      intro e
      have := congrArg List.length e
      rw [List.length_take, List.length_append, length_eightI] at this
      simp at this
      omega
    rw [e1, torn_append t _ _ hne]
    have hN := numN_rec b (torn_ t ((b ++ eightI (crcI b)).take (j - (numB (2 * b.length)).length))) hb
    have hlP : (numB (2 * b.length) ++ torn_ t ((b ++ eightI (crcI b)).take (j - (numB (2 * b.length)).length))).length = j := by
      rw [List.length_append, torn_length, List.length_take, List.length_append, length_eightI]
      omega
    unfold Stop
    by_cases hjl : j < (recB b).length
    · rw [unrec_end hN (by omega) (by rw [hlP]; omega)]
      simp
    · obtain ⟨hj1, rfl⟩ : j = (recB b).length ∧ t = true := hj.resolve_left hjl
      have e2 : (b ++ eightI (crcI b)).take (j - (numB (2 * b.length)).length) = b ++ eightI (crcI b) := List.take_of_length_le (by rw [List.length_append, length_eightI]; omega)
      have he8 : eightI (crcI b) ≠ [] := by
        intro e
        have := congrArg List.length e
        rw [length_eightI] at this
        simp at this
      rw [e2] at hN hlP ⊢
      rw [torn_append true _ _ he8] at hN hlP ⊢
      have d1 : (numB (2 * b.length) ++ (b ++ torn_ true (eightI (crcI b)))).drop (numB (2 * b.length)).length = b ++ torn_ true (eightI (crcI b)) := List.drop_left
      have d2 : (numB (2 * b.length) ++ (b ++ torn_ true (eightI (crcI b)))).drop ((numB (2 * b.length)).length + b.length) = torn_ true (eightI (crcI b)) := by
        rw [← List.append_assoc, List.drop_left' (by simp)]
      rw [unrec_sum hN (by omega) (by rw [hlP]; omega) (by
        rw [d1, d2, List.take_left, List.take_of_length_le (by rw [torn_length, length_eightI]; omega)]
        exact turnLast_ne _ he8)]
      simp

/-- What a crash leaves of records that are not sure: a beginning of them, and what tells nothing. -/
theorem left_tells : ∀ (M : List (List UInt8)) (j : Nat) (t : Bool), (∀ b ∈ M, b.length ≤ 1000) → j ≤ (flatR M).length →
    ∃ q T, q ≤ M.length ∧ Stop T ∧ (if t ∧ 0 < j then turnLast ((flatR M).take j) else (flatR M).take j) = flatR (M.take q) ++ T
  | [], j, t, _, hj => by
    have : j = 0 := by simpa [flatR_nil] using hj
    subst this
    exact ⟨0, [], by simp, unrec_short _ (by simp), by simp [flatR_nil]⟩
  | b :: M, j, t, hb, hj => by
    have hb0 := hb b (by simp)
    by_cases h : j < (recB b).length ∨ j = (recB b).length ∧ t = true
    · have hc := cut_stops b hb0 j (if 0 < j then t else false) (by
        rcases h with h | h
        · exact Or.inl h
        · have := length_recB b
          exact Or.inr ⟨h.1, by rw [if_pos (by omega)]; exact h.2⟩)
      refine ⟨0, _, by omega, hc, ?_⟩
      have e : (flatR (b :: M)).take j = (recB b).take j := by rw [flatR_cons, List.take_append_of_le_length (by omega)]
      rw [e]
      by_cases h0 : 0 < j
      · rw [if_pos h0]; cases t <;> simp [torn_, h0, flatR_nil]
      · rw [if_neg h0]; simp [torn_, h0, flatR_nil]
    · have hge : (recB b).length ≤ j := Nat.le_of_not_lt (fun e => h (Or.inl e))
      obtain ⟨i, rfl⟩ : ∃ i, j = (recB b).length + i := ⟨j - (recB b).length, by omega⟩
      have hi : t = true → 0 < i := fun ht => by
        rcases Nat.eq_zero_or_pos i with h0 | h0
        · exact (h (Or.inr ⟨by omega, ht⟩)).elim
        · exact h0
      rw [flatR_cons, List.length_append] at hj
      obtain ⟨q, T, hq, hT, he⟩ := left_tells M i t (fun c hc => hb c (by simp [hc])) (by omega)
      refine ⟨q + 1, T, by simp; omega, hT, ?_⟩
      have e : (flatR (b :: M)).take ((recB b).length + i) = recB b ++ (flatR M).take i := by
        rw [flatR_cons, List.take_length_add_append]
      have hp := length_recB b
      rw [e, List.take_succ_cons, flatR_cons b (M.take q), List.append_assoc, ← he]
      by_cases ht : t = true
      · have h0 := hi ht
        rw [if_pos ⟨ht, by omega⟩, if_pos ⟨ht, h0⟩, turnLast_append _ _ (by
          intro e'
          have := congrArg List.length e'
          rw [List.length_take, List.length_nil] at this
          omega)]
      · rw [if_neg (fun h => ht h.1), if_neg (fun h => ht h.1)]
end Go.Proofs.Ytddcojikbcbihaa
