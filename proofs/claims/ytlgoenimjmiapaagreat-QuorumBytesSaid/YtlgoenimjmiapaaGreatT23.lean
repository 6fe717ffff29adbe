import Derived.Test.YtlgoenimjmiapaaGreatT22
import Derived.Laws.StructEq
import Derived.Test.YtlgoenimjmiapaaGreatT32
set_option linter.unusedSimpArgs false
set_option linter.unusedVariables false
set_option linter.unusedSectionVars false
/-! SameLog, where it is the same. -/
set_option linter.unusedVariables false
set_option linter.unusedSectionVars false
namespace Go.Proofs.YtlgoenimjmiapaaGreat
open Go.RowKit Go.Maps

@[go_sem] theorem eq34 (a c : Int) (b d : ByteArray) (w : World) : (Op.equalIn 10000 34 (.agg #[.int .i64 a, .string b]) (.agg #[.int .i64 c, .string d])).run Tryz.prog w = .ok (a == c && b.toList == d.toList) w := by
  have u3 := Tryz.underlying3
  have a3 := Tryz.isAgg3
  have z3 := Tryz.sizeOf3
  have u9 := Tryz.underlying9
  have a9 := Tryz.isAgg9
  have z9 := Tryz.sizeOf9
  have hS : Tryz.prog.underlying 34 = some (.struct (Tryz.prog.fieldsOf 34)) := by kernel_rfl
  have hp : Tryz.prog.stoodInHeld 34 = false := by kernel_rfl
  rw [show (10000 : Nat) = 9999 + 1 from rfl, run_equalIn_agg w 9999 34 _ _ hS hp]
  simp only [Program.fieldsOf, Tryz.underlying34]
  go_simp
  by_cases h1 : a = c <;> by_cases h2 : b.toList = d.toList <;> simp [h1, h2]

set_option maxRecDepth 100000 in
set_option maxHeartbeats 2000000 in
theorem samelog_is (w : World) {N1 N2 : Nat → Prop} (v1 v2 : Value) (l : List Ent) (h1 : RRow N1 w v1 l.length 2 (encL l)) (h2 : RRow N2 w v2 l.length 2 (encL l)) :
    Calls Tryz.prog 37 #[v1, v2] w fun e w' => e = .returned (.bool true) ∧ Out Zone.no w w' := by
  obtain ⟨A, c, rfl, hc1, hc2⟩ := h1.form
  obtain ⟨A', c', rfl, hc1', hc2'⟩ := h2.form
  have HR1 := Lib.hid h1
  have HR2 := Lib.hid h2
  have hl2 : l.length ≤ 9223372036854775807 := by have : maxLen ≤ 9223372036854775807 := by decide
                                                  omega
  obtain ⟨L, hL⟩ : ∃ L, l.length = L := ⟨_, rfl⟩
  have HL := Lib.hid hL
  rw [hL] at hl2 hc1 hc1' ⊢
  clear h1 h2 hL
  go_enter Tryz.func37, Tryz.ntmps37
  go_wp2_with fail
  go_loopw [5] (fun vi wr => ∃ i : Nat, i ≤ L ∧ vi = .int .i64 (i : Int) ∧ Hid (Out Zone.no w wr)) (fun vi _ => L - (intOf vi).toNat)
  case atStart => exact ⟨0, by omega, rfl, Out.refl _ _⟩
  case round =>
    obtain ⟨i, hi, rfl, hinv⟩ := hrel
    by_cases hlt : i < L
    · obtain ⟨y, hy⟩ : ∃ y, l[i]? = some y := ⟨_, List.getElem?_eq_getElem (by rw [HL.out]; exact hlt)⟩
      have CE : ∀ {N : Nat → Prop} {A : Option Addr} {c : Nat}, RRow N w (.slice A l.length c) l.length 2 (encL l) → ∃ b o, A = some ⟨b, o, none⟩ ∧ ∀ W, Out Zone.no w W → W.cell? ⟨b, o + i * 2, none⟩ = some (.int .i64 y.ep) ∧ W.cell? ⟨b, o + i * 2 + 1, none⟩ = some (.string (str y.data)) := fun h => by
        obtain ⟨_, A', c', hv, _, _, hc⟩ := h
        obtain ⟨e1, e2⟩ := encL_at hy
        obtain ⟨b, o, hA, _, hcc1⟩ := hc _ _ e1
        obtain ⟨b', o', hA', _, hcc2⟩ := hc _ _ e2
        rw [hA] at hA'
        obtain ⟨rfl, rfl⟩ : b = b' ∧ o = o' := by injection hA' with h; injection h with h1 h2; exact ⟨h1, h2⟩
        injection hv with hv
        exact ⟨b, o, by rw [hv, hA], fun W ho => ⟨ho.cell hcc1 id, by rw [Nat.add_assoc]; exact ho.cell hcc2 id⟩⟩
      obtain ⟨b, o, hA, hC⟩ := CE HR1.out
      obtain ⟨b', o', hA', hC'⟩ := CE HR2.out
      subst hA hA'
      obtain ⟨ye, hye⟩ : ∃ ye, y.ep = ye := ⟨_, rfl⟩
      obtain ⟨yd, hyd⟩ : ∃ yd, str y.data = yd := ⟨_, rfl⟩
      rw [hye, hyd] at hC hC'
      obtain ⟨p1, p2⟩ := hC wr hinv.out
      obtain ⟨q1, q2⟩ := hC' wr hinv.out
      clear hC hC' hye hyd hy CE
      go_wp2_with fail
      go_quiet (fail)
      go_wp2_with fail
      go_roundw
      case rel => exact ⟨i + 1, by omega, by go_num, hinv.out.trans ((Out.refl _ _).drewN nq)⟩
      case measure => simp [intOf]; omega
    · obtain rfl : i = L := by omega
      go_wp2_with fail
      go_ret
      exact ⟨rfl, hinv.out⟩
end Go.Proofs.YtlgoenimjmiapaaGreat

/-! The law's same. -/
set_option linter.unusedVariables false
set_option linter.unusedSimpArgs false
namespace Go.Proofs.YtlgoenimjmiapaaGreat
open Go.RowKit

set_option maxRecDepth 100000 in
set_option maxHeartbeats 1000000 in
theorem samemsg_is (w : World) {N1 N2 : Nat → Prop} (m : Msg) (v1 v2 : Value) (h1 : RRow N1 w v1 m.log.length 2 (encL m.log)) (h2 : RRow N2 w v2 m.log.length 2 (encL m.log)) :
    Calls Tryz.prog 17 #[.agg (m.cells v1).toArray, .agg (m.cells v2).toArray] w fun e w' => e = .returned (.bool true) ∧ Out Zone.no w w' := by
  have HS : Hid (∀ W, Out Zone.no w W → Calls Tryz.prog 37 #[v1, v2] W fun e w' => e = .returned (.bool true) ∧ Out Zone.no W w') := fun W ho => samelog_is W v1 v2 m.log (h1.any ho) (h2.any ho)
  unfold Msg.cells
  obtain ⟨kd, hkd⟩ : ∃ kd, m.kind = kd := ⟨_, rfl⟩
  obtain ⟨fr, hfr⟩ : ∃ fr, m.frm = fr := ⟨_, rfl⟩
  obtain ⟨tt, hto⟩ : ∃ tt, m.to = tt := ⟨_, rfl⟩
  obtain ⟨me, hme⟩ : ∃ me, m.ep = me := ⟨_, rfl⟩
  obtain ⟨ma, hma⟩ : ∃ ma, m.at_ = ma := ⟨_, rfl⟩
  obtain ⟨ml, hml2⟩ : ∃ ml, m.last = ml := ⟨_, rfl⟩
  obtain ⟨mc, hmc⟩ : ∃ mc, m.commit = mc := ⟨_, rfl⟩
  rw [hkd, hfr, hto, hme, hma, hml2, hmc]
  clear h1 h2 hkd hfr hto hme hma hml2 hmc
  go_enter Tryz.func17, Tryz.ntmps17
  go_wp2_with (go_at_call 37; refine (HS.out _ (((Out.refl _ w).alloc _).alloc _)).mono ?_; rintro e w3 ⟨rfl, ho⟩; have HO := Lib.hid ((((Out.refl _ w).alloc _).alloc _).trans ho); clear ho)
  go_ret
  exact ⟨rfl, HO.out⟩
end Go.Proofs.YtlgoenimjmiapaaGreat
