import Derived.Test.YtddcojikbcbihaaS7
import Derived.Test.YtddcojikbcbihaaW4
/-! The law WalScans, walked. -/
set_option linter.unusedVariables false
namespace Go.Proofs.Ytddcojikbcbihaa
open Go.RowKit

theorem LentAt.row {b : Nat} {w : World} {v : Value} {L : List UInt8} (h : LentAt b w v L) : Row Zone.no w v (bytes L) := by
  obtain ⟨g, c, rfl, hc, hown⟩ := h
  obtain ⟨A', c', hv, q1, q2, q3⟩ := hown.row (Z := Zone.no) (fun _ _ h => h)
  injection hv with e1 e2 e3
  subst e3
  refine ⟨some ⟨g, 0, none⟩, c, by rw [length_bytes], by rw [length_bytes]; omega, q2, fun j u hu => ?_⟩
  rw [e1]
  refine q3 j u ?_
  rw [bytes_append, List.getElem?_append_left]
  · exact hu
  · exact (List.getElem?_eq_some_iff.1 hu).1
theorem LentAt.out {b : Nat} {w w' : World} {v : Value} {L : List UInt8} (h : LentAt b w v L) (ho : Out Zone.no w w') : LentAt b w' v L := by
  obtain ⟨g, c, rfl, hc, hown⟩ := h
  exact ⟨g, c, rfl, hc, hown.out ho (fun _ _ h => h)⟩
theorem LentAt.drewN {b : Nat} {w : World} {v : Value} {L : List UInt8} (h : LentAt b w v L) (n : Nat) : LentAt b (w.drewN n) v L := h

theorem endOf_keys {base : Int} {xs ys : List Ent} (h : xs.map Ent.key = ys.map Ent.key) : endOf base xs = endOf base ys := by
  have e : ∀ (zs : List Ent) (b : Int), endOf b zs = (zs.map Ent.key).foldl (fun _ k => k.2.2) b := by
    intro zs
    induction zs with
    | nil => exact fun b => rfl
    | cons z r ih => exact fun b => ih _
  rw [e, e, h]

set_option maxRecDepth 100000 in
set_option maxHeartbeats 1000000 in
theorem wscans_is (w : World) (base : Int) (hb : -9223372036854775808 ≤ base ∧ base ≤ 9223372036854775807) (v : Value) (L : List UInt8) (hr : Row Zone.no w v (bytes L)) :
    Calls Try.prog 7 #[.int .i64 base, v] w fun e w' => e = .returned (.bool true) ∧ Out Zone.no w w' := by
  obtain ⟨A, c, rfl, hc1, hc2⟩ := hr.form
  unfold maxLen at hc2
  have HR := Lib.hid hr
  clear hr
  by_cases hl : L.length ≤ 20000
  · obtain ⟨B, hB⟩ : ∃ B, base.tmod 1000000 = B := ⟨_, rfl⟩
    have hB2 : -1000000 < B ∧ B < 1000000 := by
      rcases Int.lt_or_le base 0 with h | h
      · obtain ⟨n, rfl⟩ : ∃ n : Nat, base = -(n : Int) := ⟨(-base).toNat, by omega⟩
        rw [Int.neg_tmod, Int.tmod_eq_emod_of_nonneg (by omega)] at hB
        omega
      · rw [Int.tmod_eq_emod_of_nonneg h] at hB
        omega
    have HS : ∀ W v', Row Zone.no W v' (bytes L) → Hid (Calls Try.prog 30 #[.int .i64 B, v'] W fun e w' => ∃ lv xs, e = .returned (.tuple #[lv, .int .i64 (endOf B xs)]) ∧ OwnsE W.heap.size w' lv xs ∧ xs.map Ent.key = recs B L 0 ∧ (∀ x ∈ xs, Owns W.heap.size w' x.v x.X) ∧ Out Zone.no W w') := fun W v' h => scan_is W B v' L h (by omega) (by omega)
    have HT : ∀ W v', Row Zone.no W v' (bytes L) → Hid (Calls Try.prog 31 #[.int .i64 B, v'] W fun e w' => ∃ lv xs, e = .returned (.tuple #[lv, .int .i64 (endOf B xs)]) ∧ OwnsF W.heap.size w' lv xs ∧ xs.map Ent.key = recs B L 0 ∧ (∀ x ∈ xs, Owns W.heap.size w' x.v x.X) ∧ Out Zone.no W w') := fun W v' h => rscan_is W B v' L h (by omega) (by omega)
    go_enter Try.func7, Try.ntmps7
    go_wp2_with fail
    refine (lent_is w _ L HR.out (by omega)).mono ?_
    rintro e w1 ⟨v1, rfl, hlent, ho1⟩
    have HL1 := Lib.hid hlent
    have HO1 := Lib.hid ho1
    have HR1 := Lib.hid hlent.row
    clear ho1 hlent
    go_wp2_with fail
    refine (HS w1 v1 HR1.out).out.mono ?_
    rintro e w2 ⟨v2, xs, rfl, hx1, hx2, hx3, ho2⟩
    have HX := Lib.hid (ents_of hx1 (fun x hx => ⟨_, hx3 x hx⟩))
    have HK := Lib.hid hx2
    have HO2 := Lib.hid (HO1.out.trans ho2)
    have HL2 := Lib.hid (HL1.out.out ho2)
    clear hx1 hx2 hx3 ho2 HS HL1 HR1
    obtain ⟨e1, he1⟩ : ∃ e1, endOf B xs = e1 := ⟨_, rfl⟩
    rw [he1]
    go_wp2_with fail
    refine (HT w2 _ (HR.out.out HO2.out)).out.mono ?_
    rintro e w3 ⟨v3, ys, rfl, hy1, hy2, hy3, ho3⟩
    have HY := Lib.hid (ents_of hy1 (fun x hx => ⟨_, hy3 x hx⟩))
    have hkk : xs.map Ent.key = ys.map Ent.key := HK.out.trans hy2.symm
    have HO3 := Lib.hid (HO2.out.trans ho3)
    have HX3 := Lib.hid (HX.out.out ho3)
    have HL3 := Lib.hid (HL2.out.out ho3)
    have hee : endOf B ys = e1 := by rw [← he1]; exact (endOf_keys hkk).symm
    have hlx : xs.length ≤ 100000000 := by
      have h1 := congrArg List.length HK.out
      have h2 := recs_length B L 0
      rw [List.length_map] at h1
      omega
    have HSA := Lib.hid (same_is w3 v2 v3 xs ys HX3.out HY.out hkk hlx)
    clear hy1 hy2 hy3 ho3 HT hkk HX HL2 hlx HX3
    rw [hee]
    clear hee he1
    go_wp2_with (first
      | (go_at_call 32; refine HSA.out.mono ?_; rintro e w' ⟨rfl, n1, rfl⟩)
      | (go_at_call 33; refine (stays_is (w3.drewN n1) _ _ _ L (HL3.out.drewN n1) ((HR.out.out HO3.out).drewN n1) (by omega)).mono ?_; rintro e w' ⟨rfl, n2, rfl⟩)
      | (go_at_call 28; refine (wknows_is _).mono ?_; rintro e w4 ⟨rfl, hok⟩; have HOK := Lib.hid hok; clear hok)
      | fail)
    go_ret
    exact ⟨rfl, (HO3.out.drewN _).trans HOK.out⟩
  · go_enter Try.func7, Try.ntmps7
    go_wp2_with (go_at_call 28; refine (wknows_is _).mono ?_; rintro e w2 ⟨rfl, hok⟩; have HOK := Lib.hid hok; clear hok)
    go_ret
    exact ⟨rfl, HOK.out⟩
end Go.Proofs.Ytddcojikbcbihaa
