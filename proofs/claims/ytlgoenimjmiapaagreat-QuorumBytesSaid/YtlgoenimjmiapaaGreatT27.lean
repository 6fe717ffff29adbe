import Derived.Test.YtlgoenimjmiapaaGreatT24
import Derived.ScopeJumps
import Derived.WalkMore
set_option linter.unusedSimpArgs false
set_option linter.unusedVariables false
set_option linter.unusedSectionVars false
/-! codec: number. -/
set_option linter.unusedVariables false
set_option linter.unusedSimpArgs false
namespace Go.Proofs.YtlgoenimjmiapaaGreat
open Go.RowKit

/-- What a folded number says. -/
def unN (u : Nat) : Int := if u % 2 = 0 then ((u / 2 : Nat) : Int) else -((u / 2 : Nat) : Int) - 1

/-- A number that bytes begin with, from a place on: it, its bytes, the error. -/
def numN (L : List UInt8) (s u : Nat) : Int × Nat × Int :=
  if h : s < 10 then
    match L[s]? with
    | none => (0, 0, 20)
    | some c =>
      if s = 9 ∧ 1 < c.toNat then (0, 0, 21)
      else if 128 ≤ c.toNat then numN L (s + 1) (u + c.toNat % 128 * 2 ^ (7 * s))
      else if c.toNat = 0 ∧ 0 < s then (0, 0, 21)
      else (unN (u + c.toNat % 128 * 2 ^ (7 * s)), s + 1, 0)
  else (0, 0, 21)
termination_by 10 - s

theorem and_low7 (c : UInt8) : bits .andNot .u8 (c.toNat : Int) 128 = ((c.toNat % 128 : Nat) : Int) := by
  have hd : ∀ a : Fin 256, (a.val &&& 127) = a.val % 128 := by decide +kernel
  have h := hd ⟨c.toNat, c.toNat_lt⟩
  simp only at h
  rw [show (128 : Int) = ((128 : Nat) : Int) from rfl, u8_andNot_nat _ _ c.toNat_lt (by omega), h]

theorem pow7 {s : Nat} (hs : s ≤ 9) : s = 0 ∧ 2 ^ (7 * s) = 1 ∨ s = 1 ∧ 2 ^ (7 * s) = 128 ∨ s = 2 ∧ 2 ^ (7 * s) = 16384 ∨ s = 3 ∧ 2 ^ (7 * s) = 2097152 ∨ s = 4 ∧ 2 ^ (7 * s) = 268435456 ∨ s = 5 ∧ 2 ^ (7 * s) = 34359738368 ∨
    s = 6 ∧ 2 ^ (7 * s) = 4398046511104 ∨ s = 7 ∧ 2 ^ (7 * s) = 562949953421312 ∨ s = 8 ∧ 2 ^ (7 * s) = 72057594037927936 ∨ s = 9 ∧ 2 ^ (7 * s) = 9223372036854775808 := by
  have : s = 0 ∨ s = 1 ∨ s = 2 ∨ s = 3 ∨ s = 4 ∨ s = 5 ∨ s = 6 ∨ s = 7 ∨ s = 8 ∨ s = 9 := by omega
  rcases this with rfl | rfl | rfl | rfl | rfl | rfl | rfl | rfl | rfl | rfl <;> simp

theorem num_bound {s u c : Nat} (hs : s ≤ 9) (hu : u < 2 ^ (7 * s)) (hc : c < 256) (h9 : s = 9 → c ≤ 1) : u < 18446744073709551616 ∧ c % 128 * 2 ^ (7 * s) < 18446744073709551616 ∧ u + c % 128 * 2 ^ (7 * s) < 18446744073709551616 := by
  have h1 : c % 128 < 128 := by omega
  rcases pow7 hs with ⟨rfl, e⟩ | ⟨rfl, e⟩ | ⟨rfl, e⟩ | ⟨rfl, e⟩ | ⟨rfl, e⟩ | ⟨rfl, e⟩ | ⟨rfl, e⟩ | ⟨rfl, e⟩ | ⟨rfl, e⟩ | ⟨rfl, e⟩ <;> rw [e] at hu ⊢
  all_goals first | omega | (have := h9 rfl; omega)

theorem num_or {s u c : Nat} (hs : s ≤ 9) (hu : u < 2 ^ (7 * s)) (hc : c < 256) (h9 : s = 9 → c ≤ 1) :
    bits .or .u64 (u : Int) (IntKind.u64.wrap ((c : Int) % 128 * 2 ^ (7 * s))) = ((u + c % 128 * 2 ^ (7 * s) : Nat) : Int) := by
  obtain ⟨b1, b2, b3⟩ := num_bound hs hu hc h9
  have e1 : (c : Int) % 128 * 2 ^ (7 * s) = ((c % 128 * 2 ^ (7 * s) : Nat) : Int) := by push_cast; rfl
  have e2 : IntKind.u64.wrap ((c % 128 * 2 ^ (7 * s) : Nat) : Int) = ((c % 128 * 2 ^ (7 * s) : Nat) : Int) := by
    have h : ∀ y : Int, IntKind.u64.wrap y = y % 18446744073709551616 := fun y => by simp [IntKind.wrap, IntKind.bits, IntKind.signed]
    rw [h]
    generalize c % 128 * 2 ^ (7 * s) = Y at *
    omega
  rw [e1, e2, u64_or_nat _ _ b1 b2]
  congr 1
  rw [Nat.or_comm, ← Nat.shiftLeft_eq, ← Nat.shiftLeft_add_eq_or_of_lt hu, Nat.add_comm]

theorem fin_num {U : Nat} (hU : U < 18446744073709551616) : bits .xor .i64 (wrap64 ((U : Int) / 2)) (wrap64 (-wrap64 (bits .and .u64 (U : Int) 1))) = unN U := by
  have e1 : bits .and .u64 (U : Int) 1 = ((U % 2 : Nat) : Int) := by
    rw [show (1 : Int) = ((1 : Nat) : Int) from rfl, u64_and_nat _ _ hU (by omega), Nat.and_one_is_mod]
  have e2 : wrap64 ((U : Int) / 2) = ((U / 2 : Nat) : Int) := by unfold wrap64; omega
  rw [e1, e2]
  unfold unN
  by_cases h : U % 2 = 0
  · rw [h, if_pos rfl]
    have e3 : wrap64 (-wrap64 ((0 : Nat) : Int)) = 0 := by unfold wrap64; omega
    rw [e3]
    show IntKind.i64.wrap ((BitVec.ofInt 64 ((U / 2 : Nat) : Int) ^^^ BitVec.ofInt 64 0).toNat : Int) = _
    have h0 : BitVec.ofInt 64 0 = 0#64 := by decide
    rw [h0, BitVec.xor_zero, ofInt_u64 _ (by omega)]
    simp [IntKind.wrap, IntKind.bits, IntKind.signed]
    omega
  · have h1 : U % 2 = 1 := by omega
    rw [h1, if_neg (by omega)]
    have e3 : wrap64 (-wrap64 ((1 : Nat) : Int)) = -1 := by unfold wrap64; omega
    rw [e3]
    have hc : bits .xor .i64 ((U / 2 : Nat) : Int) (-1) = bits .xor .i64 (-1) ((U / 2 : Nat) : Int) := by
      show IntKind.i64.wrap ((BitVec.ofInt 64 ((U / 2 : Nat) : Int) ^^^ BitVec.ofInt 64 (-1)).toNat : Int) = IntKind.i64.wrap ((BitVec.ofInt 64 (-1) ^^^ BitVec.ofInt 64 ((U / 2 : Nat) : Int)).toNat : Int)
      rw [BitVec.xor_comm]
    rw [hc, i64_not _ (by omega)]
    omega

theorem numN_none {L : List UInt8} {s u : Nat} (hs : s < 10) (h : L[s]? = none) : numN L s u = (0, 0, 20) := by
  rw [numN, dif_pos hs, h]

theorem numN_ten {L : List UInt8} {s u : Nat} {c : UInt8} (hs : s = 9) (h : L[s]? = some c) (hc : 1 < c.toNat) : numN L s u = (0, 0, 21) := by
  rw [numN, dif_pos (by omega), h]
  simp only
  rw [if_pos ⟨hs, hc⟩]

theorem numN_go {L : List UInt8} {s u : Nat} {c : UInt8} (hs : s < 10) (h : L[s]? = some c) (h9 : ¬ (s = 9 ∧ 1 < c.toNat)) (hc : 128 ≤ c.toNat) : numN L s u = numN L (s + 1) (u + c.toNat % 128 * 2 ^ (7 * s)) := by
  rw [numN, dif_pos hs, h]
  simp only
  rw [if_neg h9, if_pos hc]

theorem numN_zero {L : List UInt8} {s u : Nat} {c : UInt8} (hs : s < 10) (h : L[s]? = some c) (hc : c.toNat = 0) (h0 : 0 < s) : numN L s u = (0, 0, 21) := by
  rw [numN, dif_pos hs, h]
  simp only
  rw [if_neg (by omega), if_neg (by omega), if_pos ⟨hc, h0⟩]

theorem numN_done {L : List UInt8} {s u : Nat} {c : UInt8} (hs : s < 10) (h : L[s]? = some c) (h9 : ¬ (s = 9 ∧ 1 < c.toNat)) (hc : ¬ 128 ≤ c.toNat) (h0 : ¬ (c.toNat = 0 ∧ 0 < s)) : numN L s u = (unN (u + c.toNat % 128 * 2 ^ (7 * s)), s + 1, 0) := by
  rw [numN, dif_pos hs, h]
  simp only
  rw [if_neg h9, if_neg hc, if_neg h0]

theorem num_next {s u c : Nat} (hs : s ≤ 8) (hu : u < 2 ^ (7 * s)) : u + c % 128 * 2 ^ (7 * s) < 2 ^ (7 * (s + 1)) := by
  have h1 : c % 128 < 128 := by omega
  rw [Nat.mul_add, Nat.pow_add]
  generalize 2 ^ (7 * s) = P at *
  have : c % 128 * P + P ≤ 128 * P := by
    have := Nat.mul_le_mul_right P (show c % 128 + 1 ≤ 128 by omega)
    rw [Nat.add_mul, Nat.one_mul] at this
    exact this
  omega

def NumOk (L : List UInt8) (w : World) (e : Ending) (w' : World) : Prop :=
  e = .returned (.tuple #[.int .i64 (numN L 0 0).1, .int .i64 ((numN L 0 0).2.1 : Int), .int .i64 (numN L 0 0).2.2]) ∧ w = w'

theorem numOk {L : List UInt8} {w : World} {s u : Nat} {a : Int} {b : Nat} {c : Int} (hn : numN L s u = numN L 0 0) (h : numN L s u = (a, b, c)) : NumOk L w (.returned (.tuple #[.int .i64 a, .int .i64 (b : Int), .int .i64 c])) w := by
  unfold NumOk
  rw [← hn, h]
  exact ⟨rfl, rfl⟩

set_option maxRecDepth 1000000 in
set_option maxHeartbeats 4000000 in
theorem num90 (w : World) (v : Value) (L : List UInt8) (hr : Row Zone.no w v (bytes L)) : Calls Tryz.prog 52 #[v] w (NumOk L w) := by
  obtain ⟨A, cA, rfl, hc1, hc2⟩ := hr.form
  have HR := Lib.hid hr
  unfold maxLen at hc2
  clear hr
  go_enter Tryz.func52, Tryz.ntmps52
  go_wp2_with fail
  refine wp_scope_jumps 0 (fun a' w' => w = w' ∧ ∃ (s u : Nat) (x1 u6 u7 u8 u9 u10 u11 u12 u13 u14 u15 u16 u17 u18 u19 u20 u21 u22 u23 u24 u25 u26 u27 u28 u29 u30 u31 u32 u33 u34 u35 u36 u37 u38 u39 u40 u41 u42 u43 u44 u45 u46 u47 : Value), a' = { tmps := #[.slice A L.length cA, x1, .int .i64 0, .int .i64 (s : Int), .int .i64 0, .int .u64 (u : Int), u6, u7, u8, u9, u10, u11, u12, u13, u14, u15, u16, u17, u18, u19, u20, u21, u22, u23, u24, u25, u26, u27, u28, u29, u30, u31, u32, u33, u34, u35, u36, u37, u38, u39, u40, u41, u42, u43, u44, u45, u46, u47], defers := [] } ∧ 0 < s ∧ s ≤ 9 ∧ s ≤ L.length ∧ Hid (u < 2 ^ (7 * s)) ∧ Hid (numN L s u = numN L 0 0)) (fun a' _ => 10 - (intOf (a'.tmps.getD 3 undef)).toNat) rfl ?_ ?_
  · cases hx : L[0]? with
    | none =>
      have hge : L.length ≤ 0 := List.getElem?_eq_none_iff.1 hx
      have HX := Lib.hid (numOk (w := w) rfl (numN_none (u := 0) (by omega) hx))
      have hse : ((0 : Int) == (L.length : Int)) = true := by rw [beq_iff_eq]; omega
      clear hx
      go_wp2_with fail
      go_step3
      go_wp2_with fail
      simp only [Exit.jump]
      go_ret3
      exact HX.out
    | some c =>
      obtain ⟨a, rfl, _, hcell⟩ := HR.out.byte hx
      have hcell0 : w.cell? a = some (.int .u8 c.toNat) := by simpa [Addr.add] using hcell
      have hlt : 0 < L.length := (List.getElem?_eq_some_iff.1 hx).1
      have HX := Lib.hid hx
      have han := and_low7 c
      have hcl := c.toNat_lt
      have hse : ((0 : Int) == (L.length : Int)) = false := by rw [beq_eq_false_iff_ne]; omega
      clear hx hcell
      have hor0 : bits .or .u64 0 ((c.toNat : Int) % 128) = ((c.toNat % 128 : Nat) : Int) := by
        have e1 : (c.toNat : Int) % 128 = ((c.toNat % 128 : Nat) : Int) := by omega
        rw [e1, show (0 : Int) = ((0 : Nat) : Int) from rfl, u64_or_nat _ _ (by omega) (by omega), Nat.zero_or]
      obtain ⟨U, hU⟩ : ∃ U, c.toNat % 128 = U := ⟨_, rfl⟩
      have HP : Hid (0 + c.toNat % 128 * 2 ^ (7 * 0) = U) := by show _ = _; omega
      rw [hU] at hor0
      have HU := Lib.hid hU
      have hU2 := Lib.hid (show U < 128 by omega)
      clear hU
      by_cases hge : 128 ≤ c.toNat
      · have HN2 : Hid (numN L 1 U = numN L 0 0) := by
          show _ = _
          rw [numN_go (s := 0) (u := 0) (by omega) HX.out (by omega) hge, HP.out]
        go_wp2_with fail
        go_step3
        go_wp2_with fail
        go_step3
        exact ⟨rfl, rfl, 1, U, undef, _, _, _, _, _, _, _, _, _, _, _, _, _, _, _, _, _, _, _, _, _, _, _, _, _, _, _, _, _, _, _, _, _, _, _, _, _, _, _, _, _, _, rfl, by omega, by omega, by omega, hU2.out, HN2.out⟩
      · have HX2 := Lib.hid (numOk (w := w) rfl (numN_done (s := 0) (u := 0) (by omega) HX.out (by omega) hge (by omega)))
        rw [HP.out] at HX2
        have hfn := fin_num (U := U) (by have := hU2.out; omega)
        go_wp2_with fail
        go_step3
        go_wp2_with fail
        all_goals
          simp only [Exit.jump]
          go_ret3
          exact HX2.out
  · rintro a' w' ⟨rfl, s, u, x1, u6, u7, u8, u9, u10, u11, u12, u13, u14, u15, u16, u17, u18, u19, u20, u21, u22, u23, u24, u25, u26, u27, u28, u29, u30, u31, u32, u33, u34, u35, u36, u37, u38, u39, u40, u41, u42, u43, u44, u45, u46, u47, rfl, hs0, hs9, hsl, hu, hn⟩
    cases hx : L[s]? with
    | none =>
      have hge : L.length ≤ s := List.getElem?_eq_none_iff.1 hx
      have HX := Lib.hid (numOk (w := w) hn.out (numN_none (by omega) hx))
      have hse : ((s : Int) == (L.length : Int)) = true := by rw [beq_iff_eq]; omega
      clear hx
      go_wp2_with fail
      simp only [Exit.jump]
      go_ret3
      exact HX.out
    | some c =>
      obtain ⟨a, rfl, _, hcell⟩ := HR.out.byte hx
      have hlt : s < L.length := (List.getElem?_eq_some_iff.1 hx).1
      have HX := Lib.hid hx
      have han := and_low7 c
      have hcl := c.toNat_lt
      clear hx
      by_cases h9 : s = 9 ∧ 1 < c.toNat
      · have HX := Lib.hid (numOk (w := w) hn.out (numN_ten h9.1 HX.out h9.2))
        obtain ⟨h91, h92⟩ := h9
        have hse : ((s : Int) == 9) = true := by rw [beq_iff_eq]; omega
        clear h91
        go_wp2_with fail
        simp only [Exit.jump]
        go_ret3
        exact HX.out
      · have h9' : s = 9 → c.toNat ≤ 1 := fun e => by omega
        have hor := num_or hs9 hu.out hcl h9'
        have hb := num_bound hs9 hu.out hcl h9'
        have hn9 : (s : Int) = 9 → ¬ (1 : Int) < (c.toNat : Int) := fun e => by omega
        obtain ⟨U, hU⟩ : ∃ U, u + c.toNat % 128 * 2 ^ (7 * s) = U := ⟨_, rfl⟩
        rw [hU] at hor hb
        have HU := Lib.hid hU
        have HB := Lib.hid hb
        have H9 := Lib.hid h9
        clear hU hb h9 hn9
        by_cases hge : 128 ≤ c.toNat
        · have hs8 : s ≤ 8 := by omega
          have HN2 : Hid (numN L (s + 1) U = numN L 0 0 ∧ U < 2 ^ (7 * (s + 1))) := by
            refine ⟨?_, ?_⟩
            · rw [← hn.out, numN_go (by omega) HX.out H9.out hge, HU.out]
            · rw [← HU.out]; exact num_next hs8 hu.out
          have hse : ((s : Int) == 9) = false := by rw [beq_eq_false_iff_ne]; omega
          clear h9'
          go_wp2_with fail
          go_step3
          have ec : (s : Int) + 1 = ((s + 1 : Nat) : Int) := by omega
          rw [ec]
          refine ⟨rfl, ⟨rfl, s + 1, U, x1, _, _, _, _, _, _, _, _, _, _, _, _, _, _, _, _, _, _, _, _, _, _, _, _, _, _, _, _, _, _, _, _, _, _, _, _, _, _, _, _, _, _, rfl, by omega, by omega, by omega, HN2.out.2, HN2.out.1⟩, ?_⟩
          simp [intOf]
          omega
        · by_cases hc0 : c.toNat = 0
          · have HX2 := Lib.hid (numOk (w := w) hn.out (numN_zero (by omega) HX.out hc0 hs0))
            have hc1 : ¬ (1 : Int) < (c.toNat : Int) := by omega
            by_cases hs9' : s = 9
            · have hse : ((s : Int) == 9) = true := by rw [beq_iff_eq]; omega
              clear hs9' h9'
              go_wp2_with fail
              simp only [Exit.jump]
              go_ret3
              exact HX2.out
            · have hse : ((s : Int) == 9) = false := by rw [beq_eq_false_iff_ne]; omega
              clear hs9' h9'
              go_wp2_with fail
              simp only [Exit.jump]
              go_ret3
              exact HX2.out
          · have HX2 := Lib.hid (numOk (w := w) hn.out (numN_done (by omega) HX.out H9.out hge (by omega)))
            rw [HU.out] at HX2
            have hfn := fin_num HB.out.2.2
            by_cases hs9' : s = 9
            · have hse : ((s : Int) == 9) = true := by rw [beq_iff_eq]; omega
              have hc1 : ¬ (1 : Int) < (c.toNat : Int) := by have := h9' hs9'; omega
              clear hs9' h9'
              go_wp2_with fail
              simp only [Exit.jump]
              go_ret3
              exact HX2.out
            · have hse : ((s : Int) == 9) = false := by rw [beq_eq_false_iff_ne]; omega
              clear hs9' h9'
              go_wp2_with fail
              simp only [Exit.jump]
              go_ret3
              exact HX2.out
theorem numN_size (L : List UInt8) (s u : Nat) (hs : s ≤ 10) : (numN L s u).2.1 ≤ 10 ∧ ((numN L s u).2.2 = 0 ∨ (numN L s u).2.2 = 20 ∨ (numN L s u).2.2 = 21) := by
  induction hk : 10 - s generalizing s u with
  | zero => rw [numN, dif_neg (by omega)]; simp
  | succ k ih =>
    rw [numN, dif_pos (by omega)]
    split
    · simp
    · split
      · simp
      · split
        · exact ih _ _ (by omega) (by omega)
        · split
          · simp
          · simp only; exact ⟨by omega, by simp⟩
end Go.Proofs.YtlgoenimjmiapaaGreat
