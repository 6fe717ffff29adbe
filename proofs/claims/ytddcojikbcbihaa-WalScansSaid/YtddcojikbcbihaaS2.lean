import Derived.Test.YtddcojikbcbihaaK3
/-! The document's number. -/
set_option linter.unusedVariables false
namespace Go.Proofs.Ytddcojikbcbihaa
open Go.RowKit

set_option maxRecDepth 100000 in
theorem unfold_is (w : World) (U : Nat) (hU : U < 18446744073709551616) : Calls Try.prog 92 #[.int .u64 (U : Int)] w fun e w' => e = .returned (.int .i64 (unN U)) ∧ w = w' := by
  have e2 : wrap64 ((U : Int) / 2) = ((U / 2 : Nat) : Int) := by unfold wrap64; omega
  by_cases h : U % 2 = 0
  · have e0 : ((U : Int) % 2 == 0) = true := by rw [beq_iff_eq]; omega
    have HE : Hid (unN U = (U : Int) / 2) := by show _ = _; unfold unN; rw [if_pos h]; omega
    clear h
    go_enter Try.func92, Try.ntmps92
    go_wp2_with fail
    go_ret
    exact ⟨by rw [HE.out]; rfl, rfl⟩
  · have e0 : ((U : Int) % 2 == 0) = false := by rw [beq_eq_false_iff_ne]; omega
    have HE : Hid (unN U = -((U : Int) / 2) - 1) := by show _ = _; unfold unN; rw [if_neg h]; omega
    clear h
    go_enter Try.func92, Try.ntmps92
    go_wp2_with fail
    go_ret
    exact ⟨by rw [HE.out]; rfl, rfl⟩

set_option maxRecDepth 1000000 in
set_option maxHeartbeats 4000000 in
theorem rnumber_is (w : World) (v : Value) (L : List UInt8) (hr : Row Zone.no w v (bytes L)) : Calls Try.prog 78 #[v] w (NumOk L w) := by
  obtain ⟨A, cA, rfl, hc1, hc2⟩ := hr.form
  have HR := Lib.hid hr
  unfold maxLen at hc2
  clear hr
  go_enter Try.func78, Try.ntmps78
  go_wp2_with fail
  go_loop [5, 6] (fun vu vs => ∃ (s u : Nat), vs = .int .i64 (s : Int) ∧ vu = .int .u64 (u : Int) ∧ s ≤ 10 ∧ s ≤ L.length ∧ (s ≤ 9 → Hid (u < 2 ^ (7 * s))) ∧ Hid (numN L s u = numN L 0 0)) (fun _ vs => 10 - (intOf vs).toNat)
  case atStart => exact ⟨0, 0, rfl, rfl, by omega, by omega, fun _ => by show _ < _; simp, rfl⟩
  case round =>
    obtain ⟨s, u, rfl, rfl, hs, hsl, hu, hn⟩ := hrel
    by_cases hlt : s < 10
    · have hu := hu (by omega)
      cases hx : L[s]? with
      | none =>
        have hge : L.length ≤ s := List.getElem?_eq_none_iff.1 hx
        have HX := Lib.hid (numOk (w := w) hn.out (numN_none (by omega) hx))
        clear hx
        go_wp2_with fail
        go_ret3
        exact HX.out
      | some c =>
        obtain ⟨a, rfl, _, hcell⟩ := HR.out.byte hx
        have hlt2 : s < L.length := (List.getElem?_eq_some_iff.1 hx).1
        have HX := Lib.hid hx
        have hcl := c.toNat_lt
        clear hx
        by_cases h9 : s = 9 ∧ 1 < c.toNat
        · have HX := Lib.hid (numOk (w := w) hn.out (numN_ten h9.1 HX.out h9.2))
          obtain ⟨h91, h92⟩ := h9
          have hse : ((s : Int) == 9) = true := by rw [beq_iff_eq]; omega
          clear h91
          go_wp2_with fail
          go_ret3
          exact HX.out
        · have h9' : s = 9 → c.toNat ≤ 1 := fun e => by omega
          have hor := num_or (by omega) hu.out hcl h9'
          have hb := num_bound (by omega) hu.out hcl h9'
          obtain ⟨U, hU⟩ : ∃ U, u + c.toNat % 128 * 2 ^ (7 * s) = U := ⟨_, rfl⟩
          rw [hU] at hb
          have hadd : IntKind.u64.wrap ((u : Int) + IntKind.u64.wrap ((c.toNat : Int) % 128 * 2 ^ (7 * s))) = (U : Int) := by
            have hw : ∀ y : Int, IntKind.u64.wrap y = y % 18446744073709551616 := fun y => by simp [IntKind.wrap, IntKind.bits, IntKind.signed]
            have e1 : (c.toNat : Int) % 128 * 2 ^ (7 * s) = ((c.toNat % 128 * 2 ^ (7 * s) : Nat) : Int) := by push_cast; rfl
            rw [hw, hw, e1]
            generalize c.toNat % 128 * 2 ^ (7 * s) = Y at *
            omega
          have HU := Lib.hid hU
          have HB := Lib.hid hb
          have H9 := Lib.hid h9
          have hc1 : (s : Int) = 9 → ¬ (1 : Int) < (c.toNat : Int) := fun e => by omega
          have HC1 := Lib.hid hc1
          clear hU hb h9 hor hc1
          have HS : Hid (s = 9 ∧ ((s : Int) == 9) = true ∧ ¬ (1 : Int) < (c.toNat : Int) ∨ ((s : Int) == 9) = false) := by
            by_cases e : s = 9
            · exact Or.inl ⟨e, by rw [beq_iff_eq]; omega, by have := h9' e; omega⟩
            · exact Or.inr (by rw [beq_eq_false_iff_ne]; omega)
          clear h9'
          by_cases hge : 128 ≤ c.toNat
          · have HN2 : Hid (s + 1 ≤ 10 ∧ s + 1 ≤ L.length ∧ (s + 1 ≤ 9 → Hid (U < 2 ^ (7 * (s + 1)))) ∧ Hid (numN L (s + 1) U = numN L 0 0)) := by
              refine ⟨by omega, by omega, fun h => ?_, ?_⟩
              · show _ < _; rw [← HU.out]; exact num_next (by omega) hu.out
              · show _ = _; rw [← hn.out, numN_go (by omega) HX.out H9.out hge, HU.out]
            rcases HS.out with ⟨-, hse, hc1⟩ | hse <;> (clear HS; go_wp2_with fail; try (go_round; (case rel => exact ⟨s + 1, U, by go_num, rfl, HN2.out⟩); (case measure => simp [intOf]; omega)))
          · by_cases hc0 : c.toNat = 0 ∧ 0 < s
            · have HX2 := Lib.hid (numOk (w := w) hn.out (numN_zero (by omega) HX.out hc0.1 hc0.2))
              have hz : ((c.toNat : Int) == 0) = true := by rw [beq_iff_eq]; omega
              have hs0 : 0 < s := hc0.2
              clear hc0
              rcases HS.out with ⟨-, hse, hc1⟩ | hse <;> (clear HS; go_wp2_with fail; go_ret3; exact HX2.out)
            · have HX2 := Lib.hid (numOk (w := w) hn.out (numN_done (by omega) HX.out H9.out hge hc0))
              rw [HU.out] at HX2
              have HUN := Lib.hid (unfold_is w U HB.out.2.2)
              by_cases hz : c.toNat = 0
              · have hz' : ((c.toNat : Int) == 0) = true := by rw [beq_iff_eq]; omega
                have hs0 : ¬ 0 < s := fun e => hc0 ⟨hz, e⟩
                clear hc0 hz
                rcases HS.out with ⟨-, hse, hc1⟩ | hse <;> (clear HS; go_wp2_with (go_at_call 92; refine HUN.out.mono ?_; rintro e w' ⟨rfl, rfl⟩); go_ret3; exact HX2.out)
              · have hz' : ((c.toNat : Int) == 0) = false := by rw [beq_eq_false_iff_ne]; omega
                clear hc0 hz
                rcases HS.out with ⟨-, hse, hc1⟩ | hse <;> (clear HS; go_wp2_with (go_at_call 92; refine HUN.out.mono ?_; rintro e w' ⟨rfl, rfl⟩); go_ret3; exact HX2.out)
    · obtain rfl : s = 10 := by omega
      have HX : Hid (NumOk L w (.returned (.tuple #[.int .i64 0, .int .i64 ((0 : Nat) : Int), .int .i64 21])) w) := numOk hn.out (by rw [numN, dif_neg (by omega)])
      go_wp2_with fail
      go_ret3
      exact HX.out
end Go.Proofs.Ytddcojikbcbihaa
