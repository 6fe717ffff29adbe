import Derived.Test.YtddcojikbcbihaaK0
/-! The document's Sum. -/
set_option linter.unusedVariables false
namespace Go.Proofs.Ytddcojikbcbihaa
open Go.RowKit

/-- A word as a number. -/
def TB (v : BitVec 64) : Int := (v.toNat : Int)
theorem tb_ofInt (v : BitVec 64) : BitVec.ofInt 64 (TB v) = v := by
  apply BitVec.eq_of_toNat_eq
  unfold TB
  rw [BitVec.toNat_ofInt]
  have := v.isLt
  omega
theorem tb_wrap (v : BitVec 64) : IntKind.u64.wrap (TB v) = TB v := by
  have h : ∀ y : Int, IntKind.u64.wrap y = y % 18446744073709551616 := fun y => by simp [IntKind.wrap, IntKind.bits, IntKind.signed]
  rw [h]; unfold TB
  have := v.isLt
  omega
theorem tb_xor (a b : BitVec 64) : bits .xor .u64 (TB a) (TB b) = TB (a ^^^ b) := by
  show IntKind.u64.wrap ((BitVec.ofInt 64 (TB a) ^^^ BitVec.ofInt 64 (TB b)).toNat : Int) = _
  rw [tb_ofInt, tb_ofInt]
  exact tb_wrap _
theorem tb_and (a b : BitVec 64) : bits .and .u64 (TB a) (TB b) = TB (a &&& b) := by
  show IntKind.u64.wrap ((BitVec.ofInt 64 (TB a) &&& BitVec.ofInt 64 (TB b)).toNat : Int) = _
  rw [tb_ofInt, tb_ofInt]
  exact tb_wrap _
theorem tb_dbl (a : BitVec 64) : IntKind.u64.wrap (TB a * 2) = TB (a <<< 1) := by
  have h : ∀ y : Int, IntKind.u64.wrap y = y % 18446744073709551616 := fun y => by simp [IntKind.wrap, IntKind.bits, IntKind.signed]
  rw [h]; unfold TB
  rw [BitVec.toNat_shiftLeft, Nat.shiftLeft_eq]
  omega
theorem tb_neg (a : BitVec 64) : IntKind.u64.wrap (-(TB a)) = TB (-a) := by
  have h : ∀ y : Int, IntKind.u64.wrap y = y % 18446744073709551616 := fun y => by simp [IntKind.wrap, IntKind.bits, IntKind.signed]
  rw [h]; unfold TB
  rw [BitVec.toNat_neg]
  have := a.isLt
  omega
theorem tb_top (a : BitVec 64) : TB a / (9223372036854775808 : Int) = TB (a >>> 63) := by
  unfold TB
  rw [BitVec.toNat_ushiftRight, Nat.shiftRight_eq_div_pow]
  omega
theorem tb_inj {a b : BitVec 64} (h : TB a = TB b) : a = b := by
  have := congrArg (BitVec.ofInt 64) h
  rwa [tb_ofInt, tb_ofInt] at this

theorem tb_mix1 (y : BitVec 64) : mix1 (TB y) = TB ((y <<< 1) ^^^ (4823603603198064275#64 &&& -(y >>> 63))) := by
  unfold mix1
  have e : (4823603603198064275 : Int) = TB 4823603603198064275#64 := by decide
  rw [tb_top, tb_neg, tb_dbl, e, tb_and, tb_xor]

theorem tb_byte (u : UInt8) : IntKind.u64.wrap (u.toNat : Int) = TB (BitVec.ofNat 64 u.toNat) := by
  have h : ∀ y : Int, IntKind.u64.wrap y = y % 18446744073709551616 := fun y => by simp [IntKind.wrap, IntKind.bits, IntKind.signed]
  rw [h]; unfold TB
  rw [BitVec.toNat_ofNat]
  omega

/-- The byte's share k turns on. -/
def shB (u : UInt8) (k : Nat) : BitVec 64 := BitVec.ofNat 64 u.toNat <<< (56 + k)

theorem tb_mixB (x : BitVec 64) (u : UInt8) : mixB (TB x) u = TB (x ^^^ shB u 0) := by
  unfold mixB shB
  rw [tb_byte]
  have e : IntKind.u64.wrap (TB (BitVec.ofNat 64 u.toNat) * 72057594037927936) = TB (BitVec.ofNat 64 u.toNat <<< (56 + 0)) := by
    have h : ∀ y : Int, IntKind.u64.wrap y = y % 18446744073709551616 := fun y => by simp [IntKind.wrap, IntKind.bits, IntKind.signed]
    rw [h]; unfold TB
    rw [BitVec.toNat_shiftLeft, Nat.shiftLeft_eq]
    omega
  rw [e, tb_xor]

theorem shB_next (u : UInt8) (k : Nat) : shB u k <<< 1 = shB u (k + 1) := by
  unfold shB
  rw [← BitVec.shiftLeft_add]; rfl
theorem shB_last (u : UInt8) : shB u 8 = 0#64 := by
  have : ∀ a : Fin 256, BitVec.ofNat 64 a.val <<< (56 + 8) = 0#64 := by decide +kernel
  exact this ⟨u.toNat, u.toNat_lt⟩
theorem shB_top (u : UInt8) {k : Nat} (hk : k < 8) : TB (shB u k >>> 63) = bits .and .u64 (IntKind.u64.wrap (u.toNat : Int) / 2 ^ (7 - k)) 1 := by
  have h : ∀ (k : Fin 8) (a : Fin 256), TB (BitVec.ofNat 64 a.val <<< (56 + k.val) >>> 63) = bits .and .u64 (IntKind.u64.wrap (a.val : Int) / 2 ^ (7 - k.val)) 1 := by decide +kernel
  exact h ⟨k, hk⟩ ⟨u.toNat, u.toNat_lt⟩

/-- The document's turn. -/
def turnR (x : Int) (u : UInt8) (k : Nat) : Int :=
  if (bits .xor .u64 (x / 9223372036854775808) (bits .and .u64 (IntKind.u64.wrap (u.toNat : Int) / 2 ^ (7 - k)) 1) == 1) = true then bits .xor .u64 (IntKind.u64.wrap (x * 2)) 4823603603198064275 else IntKind.u64.wrap (x * 2)

theorem one_top (y : BitVec 64) : y >>> 63 = 0#64 ∨ y >>> 63 = 1#64 := by
  have h : (y >>> 63).toNat < 2 := by
    rw [BitVec.toNat_ushiftRight, Nat.shiftRight_eq_div_pow]
    have := y.isLt
    omega
  rcases Nat.lt_or_ge (y >>> 63).toNat 1 with h1 | h1
  · left; apply BitVec.eq_of_toNat_eq; simp only [BitVec.toNat_ofNat]; omega
  · right; apply BitVec.eq_of_toNat_eq; simp only [BitVec.toNat_ofNat]; omega

theorem turn_ok (X : BitVec 64) (u : UInt8) {k : Nat} (hk : k < 8) : ∃ X', turnR (TB X) u k = TB X' ∧ mix1 (TB (X ^^^ shB u k)) = TB (X' ^^^ shB u (k + 1)) := by
  have e1 : (4823603603198064275 : Int) = TB 4823603603198064275#64 := by decide
  have e2 : (1 : Int) = TB 1#64 := by decide
  unfold turnR
  rw [← shB_top u hk, tb_top, tb_xor, tb_dbl, e1, tb_xor, tb_mix1]
  have hd : (X ^^^ shB u k) >>> 63 = X >>> 63 ^^^ shB u k >>> 63 := BitVec.ushiftRight_xor_distrib _ _ _
  have hs : (X ^^^ shB u k) <<< 1 = X <<< 1 ^^^ shB u (k + 1) := by rw [BitVec.shiftLeft_xor_distrib, shB_next]
  rw [hs, ← hd]
  rcases one_top (X ^^^ shB u k) with h | h
  · rw [h, if_neg (by decide)]
    exact ⟨_, rfl, by simp⟩
  · rw [h, if_pos (by decide)]
    refine ⟨_, rfl, ?_⟩
    have : 4823603603198064275#64 &&& -1#64 = 4823603603198064275#64 := by decide
    rw [this]
    congr 1
    rw [BitVec.xor_assoc, BitVec.xor_assoc, BitVec.xor_comm (shB u (k + 1))]

theorem crc_tb (L : List UInt8) : ∃ X, crcI L = TB X := by
  unfold crcI
  suffices h : ∀ (L : List UInt8) (X : BitVec 64), ∃ Y, List.foldl (fun x u => mixN 8 (mixB x u)) (TB X) L = TB Y from h L 0#64
  intro L
  induction L with
  | nil => exact fun X => ⟨X, rfl⟩
  | cons u L ih =>
    intro X
    rw [List.foldl_cons, tb_mixB]
    obtain ⟨Z, hZ⟩ : ∃ Z, mixN 8 (TB (X ^^^ shB u 0)) = TB Z := by
      suffices h : ∀ n Y, ∃ Z, mixN n (TB Y) = TB Z from h 8 _
      intro n
      induction n with
      | zero => exact fun Y => ⟨Y, rfl⟩
      | succ n ih =>
        intro Y
        obtain ⟨Z, hZ⟩ := ih Y
        exact ⟨_, by show mix1 (mixN n (TB Y)) = _; rw [hZ, tb_mix1]⟩
    rw [hZ]
    exact ih Z

/-- After k turns. -/
def AtTurn (y0 : Int) (u : UInt8) (k : Nat) (x : Int) : Prop := ∃ X, x = TB X ∧ mixN k y0 = TB (X ^^^ shB u k)
theorem AtTurn.start {x : Int} {L : List UInt8} (h : crcI L = x) (u : UInt8) : AtTurn (mixB x u) u 0 x := by
  obtain ⟨X, hX⟩ := crc_tb L
  exact ⟨X, h.symm.trans hX, by show mixB x u = _; rw [← h, hX, tb_mixB]⟩
theorem AtTurn.next {y0 : Int} {u : UInt8} {k : Nat} {x : Int} (h : AtTurn y0 u k x) (hk : k < 8) : AtTurn y0 u (k + 1) (turnR x u k) := by
  obtain ⟨X, rfl, hm⟩ := h
  obtain ⟨X', h1, h2⟩ := turn_ok X u hk
  exact ⟨X', h1, by show mix1 (mixN k y0) = _; rw [hm, h2]⟩
theorem AtTurn.done {y0 : Int} {u : UInt8} {x : Int} (h : AtTurn y0 u 8 x) : mixN 8 y0 = x := by
  obtain ⟨X, rfl, hm⟩ := h
  rw [hm, shB_last, BitVec.xor_zero]

set_option maxRecDepth 100000 in
set_option maxHeartbeats 1000000 in
theorem rsum_is (w : World) (v : Value) (L : List UInt8) (hr : Row Zone.no w v (bytes L)) (hl : L.length ≤ 2000000) :
    Calls Try.prog 80 #[v] w fun e w' => e = .returned (.int .u64 (crcI L)) ∧ w = w' := by
  obtain ⟨A, c, rfl, _, _⟩ := hr.form
  have HR := Lib.hid hr
  clear hr
  go_enter Try.func80, Try.ntmps80
  go_wp2_with fail
  go_loop [3, 4] (fun vc vi => ∃ (i : Nat), i ≤ L.length ∧ vi = .int .i64 (i : Int) ∧ vc = .int .u64 (crcI (L.take i))) (fun _ vi => L.length - (intOf vi).toNat)
  case atStart => exact ⟨0, by omega, rfl, rfl⟩
  case round =>
    obtain ⟨i, hi, rfl, rfl⟩ := hrel
    by_cases hlt : i < L.length
    · obtain ⟨u, hu⟩ : ∃ u, L[i]? = some u := ⟨_, List.getElem?_eq_getElem hlt⟩
      obtain ⟨a, rfl, _, hcell⟩ := HR.out.byte hu
      have HS := Lib.hid (crcI_snoc L hu)
      clear hu
      obtain ⟨x, hx⟩ : ∃ x, crcI (L.take i) = x := ⟨_, rfl⟩
      rw [hx] at HS ⊢
      have HT := Lib.hid (AtTurn.start hx u)
      clear hx
      go_wp2_with fail
      go_loop [3, 5] (fun vc vk => ∃ (k : Nat) (z : Int), k ≤ 8 ∧ vk = .int .i64 (7 - (k : Int)) ∧ vc = .int .u64 z ∧ Hid (AtTurn (mixB x u) u k z)) (fun _ vk => (intOf vk + 1).toNat)
      case atStart => exact ⟨0, _, by omega, rfl, rfl, HT.out⟩
      case round =>
        obtain ⟨k, z, hk, rfl, rfl, hat⟩ := hrel
        by_cases hk8 : k < 8
        · have HN := Lib.hid (hat.out.next hk8)
          by_cases hb : (bits .xor .u64 (z / 9223372036854775808) (bits .and .u64 (IntKind.u64.wrap (u.toNat : Int) / 2 ^ (7 - k)) 1) == 1) = true
          · have HE : Hid (turnR z u k = bits .xor .u64 (IntKind.u64.wrap (z * 2)) 4823603603198064275) := if_pos hb
            go_wp2_with fail
            go_round
            case rel => exact ⟨k + 1, _, by omega, by go_num, rfl, by rw [← HE.out]; exact HN.out⟩
            case measure => simp [intOf]; omega
          · have HE : Hid (turnR z u k = IntKind.u64.wrap (z * 2)) := if_neg hb
            have hb : (bits .xor .u64 (z / 9223372036854775808) (bits .and .u64 (IntKind.u64.wrap (u.toNat : Int) / 2 ^ (7 - k)) 1) == 1) = false := by simpa using hb
            go_wp2_with fail
            go_round
            case rel => exact ⟨k + 1, _, by omega, by go_num, rfl, by rw [← HE.out]; exact HN.out⟩
            case measure => simp [intOf]; omega
        · obtain rfl : k = 8 := by omega
          have HF : Hid (z = crcI (L.take (i + 1))) := by show _ = _; rw [HS.out]; exact hat.out.done.symm
          go_wp2_with fail
          go_round
          case rel => exact ⟨i + 1, by omega, by go_num, by rw [← HF.out]⟩
          case measure => simp [intOf]; omega
    · obtain rfl : i = L.length := by omega
      rw [List.take_length]
      go_wp2_with fail
      go_ret
      exact ⟨rfl, rfl⟩
end Go.Proofs.Ytddcojikbcbihaa
