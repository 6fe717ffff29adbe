import Derived.Test.YtddcojikbcbihaaD15
/-! codec: Sum. -/
set_option linter.unusedVariables false
namespace Go.Proofs.Ytddcojikbcbihaa
open Go.RowKit

theorem Row.byte {Z : Zone} {w : World} {A : Option Addr} {n c : Nat} {L : List UInt8} (h : Row Z w (.slice A n c) (bytes L)) {i : Nat} {u : UInt8} (hu : L[i]? = some u) : ∃ a, A = some a ∧ ¬ Z.T a.block ∧ w.cell? (a.add i) = some (.int .u8 u.toNat) := by
  obtain ⟨A', c', hv, _, _, hc⟩ := h
  injection hv with hv _ _
  obtain ⟨a, ha, hb, hx⟩ := hc i (.int .u8 u.toNat) (by unfold bytes; rw [List.getElem?_map, hu]; rfl)
  exact ⟨a, hv.trans ha, hb, hx⟩

/-- A byte into the sum; one turn; eight of them; the sum of bytes: as the walk has them. -/
def mixB (x : Int) (u : UInt8) : Int := bits .xor .u64 x (IntKind.u64.wrap (IntKind.u64.wrap (u.toNat : Int) * 72057594037927936))
def mix1 (y : Int) : Int := bits .xor .u64 (IntKind.u64.wrap (y * 2)) (bits .and .u64 4823603603198064275 (IntKind.u64.wrap (-(y / 9223372036854775808))))
def mixN : Nat → Int → Int
  | 0, y => y
  | k + 1, y => mix1 (mixN k y)
def crcI (L : List UInt8) : Int := L.foldl (fun x u => mixN 8 (mixB x u)) 0

theorem crcI_snoc (L : List UInt8) {i : Nat} {u : UInt8} (hu : L[i]? = some u) : crcI (L.take (i + 1)) = mixN 8 (mixB (crcI (L.take i)) u) := by
  obtain ⟨hi, rfl⟩ := List.getElem?_eq_some_iff.1 hu
  unfold crcI
  rw [List.take_succ_eq_append_getElem hi, List.foldl_append]
  rfl

set_option maxRecDepth 100000 in
set_option maxHeartbeats 1000000 in
theorem sum_is (w : World) (v : Value) (L : List UInt8) (hr : Row Zone.no w v (bytes L)) (hl : L.length ≤ 2000000) :
    Calls Try.prog 84 #[v] w fun e w' => e = .returned (.int .u64 (crcI L)) ∧ w = w' := by
  obtain ⟨A, c, rfl, _, _⟩ := hr.form
  have HR := Lib.hid hr
  clear hr
  go_enter Try.func84, Try.ntmps84
  go_wp2_with fail
  go_loop [3, 8] (fun vc vi => ∃ (i : Nat), i ≤ L.length ∧ vi = .int .i64 (i : Int) ∧ vc = .int .u64 (crcI (L.take i))) (fun _ vi => L.length - (intOf vi).toNat)
  case atStart => exact ⟨0, by omega, rfl, rfl⟩
  case round =>
    obtain ⟨i, hi, rfl, rfl⟩ := hrel
    by_cases hlt : i < L.length
    · obtain ⟨u, hu⟩ : ∃ u, L[i]? = some u := ⟨_, List.getElem?_eq_getElem hlt⟩
      obtain ⟨a, rfl, _, hcell⟩ := HR.out.byte hu
      have HS := Lib.hid (crcI_snoc L hu)
      clear hu
      obtain ⟨x, hx⟩ : ∃ x, crcI (L.take i) = x := ⟨_, rfl⟩
      rw [hx] at HS ⊢
      clear hx
      go_wp2_with fail
      obtain ⟨y0, hy0⟩ : ∃ y0, bits .xor .u64 x (IntKind.u64.wrap (IntKind.u64.wrap (u.toNat : Int) * 72057594037927936)) = y0 := ⟨_, rfl⟩
      have HY : Hid (mixB x u = y0) := hy0
      rw [hy0]
      clear hy0
      go_loop [3, 17] (fun vc vk => ∃ (k : Nat), k ≤ 8 ∧ vk = .int .i64 (k : Int) ∧ vc = .int .u64 (mixN k y0)) (fun _ vk => 8 - (intOf vk).toNat)
      case atStart => exact ⟨0, by omega, rfl, rfl⟩
      case round =>
        obtain ⟨k, hk, rfl, rfl⟩ := hrel
        by_cases hk8 : k < 8
        · obtain ⟨y, hy⟩ : ∃ y, mixN k y0 = y := ⟨_, rfl⟩
          have HM : Hid (mixN (k + 1) y0 = mix1 y) := by show _ = _; rw [← hy]; rfl
          rw [hy]
          clear hy
          go_wp2_with fail
          go_round
          case rel => exact ⟨k + 1, by omega, by go_num, by rw [HM.out]; rfl⟩
          case measure => simp [intOf]; omega
        · obtain rfl : k = 8 := by omega
          have HF : Hid (mixN 8 y0 = crcI (L.take (i + 1))) := by show _ = _; rw [HS.out, HY.out]
          obtain ⟨z, hz⟩ : ∃ z, mixN 8 y0 = z := ⟨_, rfl⟩
          rw [hz] at HF ⊢
          clear hz
          go_wp2_with fail
          go_round
          case rel => exact ⟨i + 1, by omega, by go_num, by rw [← HF.out]⟩
          case measure => simp [intOf]; omega
    · obtain rfl : i = L.length := by omega
      rw [List.take_length]
      go_wp2_with fail
      go_ret
      exact ⟨rfl, rfl⟩
end Go.Proofs.Ytddcojikbcbihaa
