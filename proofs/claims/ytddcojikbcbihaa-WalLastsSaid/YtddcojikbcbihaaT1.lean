import Derived.Test.YtddcojikbcbihaaT0
import Derived.Test.YtddcojikbcbihaaD13
import Derived.Test.YtddcojikbcbihaaW3
/-! A wal's life, call by call (no Go here). -/
set_option linter.unusedVariables false
namespace Go.Proofs.Ytddcojikbcbihaa
open Go.RowKit

/-- The disk below a wal: S is sure, M was appended behind it. -/
structure WalInv (D : DS) (S M : List (List UInt8)) (i : Nat) : Prop where
  base : D.base = 0
  most : D.most = 1048576
  log : D.log = flatR S ++ flatR M
  sure : D.sure = (flatR S).length
  each : ∀ b ∈ S ++ M, b.length ≤ 1000
  few : S.length + M.length ≤ i
  len : D.log.length ≤ 1010 * i

theorem recB_len {b : List UInt8} (h : b.length ≤ 1000) : (recB b).length ≤ 1010 := by
  have h1 := length_recB b
  have h2 := numB_short (u := 2 * b.length) (k := 1) (by omega)
  omega

theorem WalInv.ticked {D : DS} {S M : List (List UInt8)} {i : Nat} (h : WalInv D S M i) : WalInv D.ticked S M (i + 1) := by
  obtain ⟨h1, h2, h3, h4, h5, h6, h7⟩ := h
  obtain ⟨k1, k2, k3, k4, k5, _, _⟩ := DS.ticked_all D
  exact ⟨k3.trans h1, k1.trans h2, k5.trans h3, k4.trans h4, h5, by omega, by rw [k5]; omega⟩
theorem WalInv.more {D : DS} {S M : List (List UInt8)} {i : Nat} (h : WalInv D S M i) : WalInv D S M (i + 1) :=
  ⟨h.base, h.most, h.log, h.sure, h.each, by have := h.few; omega, by have := h.len; omega⟩

theorem WalInv.append {D : DS} {S M : List (List UInt8)} {i : Nat} (h : WalInv D S M i) (hi : i < 120) (b : List UInt8) (hb : b.length ≤ 1000) :
    0 ≤ (D.append (recB b)).1 ∧ ((D.append (recB b)).2.1 = 0 ∧ WalInv (D.append (recB b)).2.2 S (M ++ [b]) (i + 1) ∨ (D.append (recB b)).2.1 = 9 ∧ WalInv (D.append (recB b)).2.2 S M (i + 1)) := by
  have hl := recB_len hb
  have h7 := h.len
  unfold DS.append
  by_cases ho : D.off = true
  · rw [if_pos ho]; exact ⟨Int.le_refl _, Or.inr ⟨rfl, h.more⟩⟩
  · rw [if_neg ho, if_neg (by rw [h.most]; omega)]
    by_cases hz : D.left = 0
    · rw [if_pos hz]; exact ⟨Int.le_refl _, Or.inr ⟨rfl, h.ticked⟩⟩
    · rw [if_neg hz]
      obtain ⟨k1, k2, k3, k4, k5, _, _⟩ := DS.ticked_all D
      refine ⟨?_, Or.inl ⟨rfl, ?_⟩⟩
      · simp only
        unfold DS.fin wrap64
        rw [h.base]; omega
      · refine ⟨k3.trans h.base, k1.trans h.most, ?_, k4.trans h.sure, ?_, ?_, ?_⟩
        · simp only [h.log, flatR_append, List.append_assoc]
          simp [flatR]
        · intro c hc
          rw [← List.append_assoc] at hc
          rcases List.mem_append.1 hc with hc | hc
          · exact h.each c hc
          · rw [List.mem_singleton.1 hc]; exact hb
        · have := h.few; simp; omega
        · simp only [List.length_append]; omega

theorem WalInv.sync {D : DS} {S M : List (List UInt8)} {i : Nat} (h : WalInv D S M i) :
    D.sync.1 = 0 ∧ WalInv D.sync.2 (S ++ M) [] (i + 1) ∨ D.sync.1 = 9 ∧ WalInv D.sync.2 S M (i + 1) := by
  unfold DS.sync
  by_cases ho : D.off = true
  · rw [if_pos ho]; exact Or.inr ⟨rfl, h.more⟩
  · rw [if_neg ho]
    by_cases hz : D.left = 0
    · rw [if_pos hz]; exact Or.inr ⟨rfl, h.ticked⟩
    · rw [if_neg hz]
      obtain ⟨k1, k2, k3, k4, k5, _, _⟩ := DS.ticked_all D
      refine Or.inl ⟨rfl, k3.trans h.base, k1.trans h.most, ?_, ?_, ?_, ?_, ?_⟩
      · simp only [k5, h.log, flatR_append, flatR_nil, List.append_nil]
      · simp only [h.log, flatR_append]
      · rw [List.append_nil]; exact h.each
      · have := h.few; simp; omega
      · have := h.len; simp only [k5]; omega

theorem WalInv.fuse {D : DS} {S M : List (List UInt8)} {i : Nat} (h : WalInv D S M i) (k : Int) : WalInv (D.fuse k) S M (i + 1) :=
  ⟨h.base, h.most, h.log, h.sure, h.each, by have := h.few; omega, by have := h.len; show D.log.length ≤ _; omega⟩

theorem tear_is (P Q : List UInt8) (j : Nat) (t : Bool) (hj : j ≤ Q.length) : DS.tear (P ++ Q) (P.length + j) P.length t = P ++ (if t ∧ 0 < j then turnLast (Q.take j) else Q.take j) := by
  have e : (P ++ Q).take (P.length + j) = P ++ Q.take j := List.take_length_add_append j
  unfold DS.tear
  by_cases h : t = true ∧ 0 < j
  · rw [if_pos ⟨h.1, by omega⟩, if_pos h, ← turnLast_append _ _ (by
      intro e'
      have := congrArg List.length e'
      rw [List.length_take, List.length_nil] at this
      omega), ← e]
    unfold turnLast
    have hl : ((P ++ Q).take (P.length + j)).length = P.length + j := by rw [List.length_take, List.length_append]; omega
    rw [hl]
    congr 2
    rw [List.getD_eq_getElem?_getD, List.getD_eq_getElem?_getD, List.getElem?_take, if_pos (by omega)]
  · rw [if_neg (fun h' => h ⟨h'.1, by omega⟩), if_neg h, e]

/-- The power goes, and the wal is opened. -/
theorem WalInv.life {D : DS} {S M : List (List UInt8)} {i : Nat} (h : WalInv D S M i) (keep : Int) (t : Bool) :
    ∃ q, q ≤ M.length ∧ recs 0 (D.crash keep t []).log 0 = entsR 0 (S ++ M.take q) ∧ WalInv ((D.crash keep t []).opened (recEnd (D.crash keep t []).log).toNat) (S ++ M.take q) [] i := by
  obtain ⟨j, hj, hs⟩ : ∃ j, j ≤ (flatR M).length ∧ D.stay keep = (flatR S).length + j := by
    refine ⟨min (max keep 0).toNat (flatR M).length, by omega, ?_⟩
    unfold DS.stay
    rw [h.sure, h.log, List.length_append, Nat.add_sub_cancel_left]
  have hlog : (D.crash keep t []).log = flatR S ++ (if t ∧ 0 < j then turnLast ((flatR M).take j) else (flatR M).take j) := by
    show DS.tear D.log (D.stay keep) D.sure t = _
    rw [hs, h.sure, h.log, tear_is _ _ _ _ hj]
  obtain ⟨q, T, hq, hT, he⟩ := left_tells M j t (fun b hb => h.each b (by simp [hb])) hj
  rw [he, ← List.append_assoc, ← flatR_append] at hlog
  have hea : ∀ b ∈ S ++ M.take q, b.length ≤ 1000 := fun b hb => h.each b (by
    rcases List.mem_append.1 hb with hb | hb
    · simp [hb]
    · simp [List.mem_of_mem_take hb])
  have hr : recs 0 (D.crash keep t []).log 0 = entsR 0 (S ++ M.take q) := by
    rw [hlog]
    have := recs_flat (S ++ M.take q) [] T hea hT
    simpa using this
  have hre : recEnd (D.crash keep t []).log = ((flatR (S ++ M.take q)).length : Int) := by
    unfold recEnd
    rw [hr, entsR_end]
    split
    · rename_i h0; rw [h0]; rfl
    · simp
  have hll : (D.crash keep t []).log.length ≤ D.log.length := by
    show (DS.tear D.log (D.stay keep) D.sure t).length ≤ _
    rw [DS.length_tear]; omega
  refine ⟨q, hq, hr, ?_⟩
  rw [hre, Int.toNat_natCast]
  have ht : ((D.crash keep t []).log).take (flatR (S ++ M.take q)).length = flatR (S ++ M.take q) := by rw [hlog, List.take_left]
  refine ⟨h.base, h.most, ?_, rfl, by rw [List.append_nil]; exact hea, ?_, ?_⟩
  · show List.take _ _ = _
    rw [ht, flatR_nil, List.append_nil]
  · have := h.few; simp; omega
  · show (List.take _ _).length ≤ _
    rw [List.length_take]
    have := h.len
    omega
theorem WalInv.start : WalInv (DS.opened (DS.new 1048576 0) 0) [] [] 0 := ⟨rfl, rfl, by simp [DS.opened, flatR_nil], rfl, by simp, by simp, by simp [DS.opened, DS.new]⟩

theorem entsR_rise (S : List (List UInt8)) (k : Nat) (x y : Int × List UInt8 × Int) (hx : (entsR 0 S)[k]? = some x) (hy : (entsR 0 S)[k + 1]? = some y) : x.1 < y.1 := by
  have hl := entsR_length 0 S
  obtain ⟨h1, _⟩ := List.getElem?_eq_some_iff.1 hy
  obtain ⟨a, ha⟩ : ∃ a, S[k]? = some a := ⟨_, List.getElem?_eq_getElem (by omega)⟩
  obtain ⟨b, hb⟩ : ∃ b, S[k + 1]? = some b := ⟨_, List.getElem?_eq_getElem (by omega)⟩
  rw [entsR_at S 0 k a ha] at hx
  rw [entsR_at S 0 (k + 1) b hb] at hy
  injection hx with hx
  injection hy with hy
  subst hx hy
  simp only
  have e : S.take (k + 1) = S.take k ++ [a] := by
    obtain ⟨hk, rfl⟩ := List.getElem?_eq_some_iff.1 ha
    exact List.take_succ_eq_append_getElem hk
  have hp := length_recB a
  rw [e, flatR_append, List.length_append, show (flatR [a]).length = (recB a).length by simp [flatR]]
  omega
end Go.Proofs.Ytddcojikbcbihaa
