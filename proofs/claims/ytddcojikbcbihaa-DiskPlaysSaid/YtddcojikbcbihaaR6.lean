import Derived.Test.YtddcojikbcbihaaR5
/-! The document's disk: Sync. -/
set_option linter.unusedVariables false
namespace Go.Proofs.Ytddcojikbcbihaa
open Go.RowKit

/-- 'len(m)': 0 only where nothing is in it. -/
theorem MapV.len {P : Program} {k e t : TypeId} {w : World} {b n : Nat} {V : Int → Option Value} (ht : P.underlying t = some (.map k e)) (h : MapV P k w b n V) (ty : TypeId) :
    ∃ m : Nat, m ≤ n ∧ (Builtin.len_ #[t] ty #[.map (some b)]).run P w = .ok (.int .i64 m) w ∧ (m = 0 → ∀ x, V x = none) := by
  obtain ⟨D, hown, h5⟩ := h
  have hr := hown.len ht ty
  obtain ⟨es, c, hb, F, hs, rfl⟩ := hown
  refine ⟨Maps.size (DataW.map ((es.toList.map (Go.WideElems.rg P k heldR)).foldr DataW.insert [])), ?_, hr, ?_⟩
  · have : Maps.size (DataW.map ((es.toList.map (Go.WideElems.rg P k heldR)).foldr DataW.insert [])) = ((es.toList.map (Go.WideElems.rg P k heldR)).foldr DataW.insert []).length := rfl
    rw [this, (WideShapes.sorted_perm _).length_eq]
    simpa using hs
  · intro hm x
    have h6 := h5 x
    have hl : ((es.toList.map (Go.WideElems.rg P k heldR)).foldr DataW.insert []) = [] := List.eq_nil_of_length_eq_zero hm
    cases hV : V x with
    | none => rfl
    | some v =>
      rw [hV] at h6
      have h7 := h6 .nil
      rw [hl] at h7
      cases h7

def oldTo (D : DS) (i : Nat) : Int → Option (List UInt8) := fun k => if k < i then DS.merged D.old D.fresh k else D.old k
def freshFrom (D : DS) (i : Nat) : Int → Option (List UInt8) := fun k => if k < i then none else D.fresh k

theorem oldTo_zero {D : DS} (h : D.Ok) : oldTo D 0 = D.old := by
  funext k
  unfold oldTo
  by_cases hk : k < (0 : Nat)
  · rw [if_pos hk]
    unfold DS.merged
    cases hf : D.fresh k with
    | none => rfl
    | some s => have := (h.fresh k s hf).1; omega
  · rw [if_neg hk]
theorem freshFrom_zero {D : DS} (h : D.Ok) : freshFrom D 0 = D.fresh := by
  funext k
  unfold freshFrom
  by_cases hk : k < (0 : Nat)
  · rw [if_pos hk]
    cases hf : D.fresh k with
    | none => rfl
    | some s => have := (h.fresh k s hf).1; omega
  · rw [if_neg hk]
/-- Where no fresh page is left all is done. -/
theorem to_end {D : DS} {i : Nat} (h : ∀ k, freshFrom D i k = none) : oldTo D i = DS.merged D.old D.fresh ∧ freshFrom D i = fun _ => none := by
  refine ⟨?_, funext h⟩
  funext k
  unfold oldTo
  by_cases hk : k < i
  · rw [if_pos hk]
  · rw [if_neg hk]
    have := h k
    unfold freshFrom at this
    rw [if_neg hk] at this
    unfold DS.merged
    rw [this]
theorem past_end {D : DS} (h : D.Ok) {i : Nat} (hi : D.count ≤ i) (k : Int) : freshFrom D i k = none := by
  unfold freshFrom
  by_cases hk : k < i
  · rw [if_pos hk]
  · rw [if_neg hk]
    cases hf : D.fresh k with
    | none => rfl
    | some s => have := (h.fresh k s hf).2.1; omega
theorem oldTo_none {D : DS} {i : Nat} (h : D.fresh i = none) : oldTo D (i + 1) = oldTo D i := by
  funext k
  unfold oldTo
  by_cases hk : k < i
  · rw [if_pos hk, if_pos (by omega)]
  · by_cases hk2 : k = i
    · subst hk2
      rw [if_pos (by omega), if_neg (by omega)]
      unfold DS.merged
      rw [h]
    · rw [if_neg hk, if_neg (by omega)]
theorem freshFrom_none {D : DS} {i : Nat} (h : D.fresh i = none) : freshFrom D (i + 1) = freshFrom D i := by
  funext k
  unfold freshFrom
  by_cases hk : k < i
  · rw [if_pos hk, if_pos (by omega)]
  · by_cases hk2 : k = i
    · subst hk2
      rw [if_pos (by omega), if_neg (by omega), h]
    · rw [if_neg hk, if_neg (by omega)]
theorem oldTo_some {D : DS} {i : Nat} {s : List UInt8} (h : D.fresh i = some s) : oldTo D (i + 1) = putF (oldTo D i) i s := by
  funext k
  unfold oldTo putF
  show (if k < ((i + 1 : Nat) : Int) then DS.merged D.old D.fresh k else D.old k) = if k = (i : Int) then some s else if k < (i : Int) then DS.merged D.old D.fresh k else D.old k
  by_cases hk : k < i
  · rw [if_pos (by omega), if_neg (by omega), if_pos hk]
  · by_cases hk2 : k = i
    · subst hk2
      rw [if_pos (by omega), if_pos rfl]
      unfold DS.merged
      rw [h]
    · rw [if_neg (by omega), if_neg hk2, if_neg hk]
theorem freshFrom_some {D : DS} {i : Nat} : delV (strF (freshFrom D i)) i = strF (freshFrom D (i + 1)) := by
  funext k
  unfold delV strF freshFrom
  by_cases hk : k < i
  · rw [if_neg (by omega), if_pos hk, if_pos (by omega)]
  · by_cases hk2 : k = i
    · subst hk2
      rw [if_pos rfl, if_pos (by omega)]; rfl
    · rw [if_neg hk2, if_neg hk, if_neg (by omega)]
theorem freshFrom_at (D : DS) (i : Nat) : freshFrom D i i = D.fresh i := by unfold freshFrom; rw [if_neg (by omega)]
theorem oldTo_ok {D : DS} (h : D.Ok) (i : Nat) : ∀ k s, oldTo D i k = some s → 0 ≤ k ∧ k < D.count ∧ s.length = 512 := by
  intro k s hs
  unfold oldTo at hs
  split at hs
  · exact merged_ok h k s hs
  · exact h.old k s hs
theorem freshFrom_ok {D : DS} (h : D.Ok) (i : Nat) : ∀ k s, freshFrom D i k = some s → 0 ≤ k ∧ k < D.count ∧ s.length = 512 := by
  intro k s hs
  unfold freshFrom at hs
  split at hs
  · cases hs
  · exact h.fresh k s hs

section
variable {Z : Zone} {w : World} {r o f : Nat} {lv : Value} {D : DS}

theorem rsync_off (h : Ref0 Z w r o f lv D) (hoff : D.off = true) : Calls Try.prog 56 #[.pointer (some ⟨r, 0, none⟩)] w (RDoes Z r (9, D) w) := by
  have c3 := cells_all h.sr 3
  rw [hoff] at c3
  have HH := Lib.hid h.at_
  clear h hoff
  go_enter Try.func56, Try.ntmps56
  go_wp2_with fail
  go_ret
  exact ⟨rfl, HH.out, Out.refl _ _⟩

theorem rsync_dead (h : Ref0 Z w r o f lv D) (hoff : D.off = false) (hl : D.left = 0) : Calls Try.prog 56 #[.pointer (some ⟨r, 0, none⟩)] w (RDoes Z r (9, D.ticked) w) := by
  have c3 := cells_all h.sr 3
  rw [hoff] at c3
  have O := Lib.hid (roper_is h hoff)
  rw [show decide (D.left ≠ 0) = false from by simp [hl]] at O
  clear h hoff hl
  go_enter Try.func56, Try.ntmps56
  go_wp2_with fail
  refine O.out.mono ?_
  rintro e w1 ⟨rfl, hd1, ho1⟩
  have H1 := Lib.hid hd1.at_
  have HO1 := Lib.hid ho1
  clear hd1 ho1 c3
  go_wp2_with fail
  go_ret
  exact ⟨rfl, H1.out, HO1.out⟩

set_option maxRecDepth 100000 in
set_option maxHeartbeats 1000000 in
theorem rsync_ok (h : Ref0 Z w r o f lv D) (hoff : D.off = false) (hl : D.left ≠ 0) :
    Calls Try.prog 56 #[.pointer (some ⟨r, 0, none⟩)] w (RDoes Z r (0, { D.ticked with sure := D.log.length, old := DS.merged D.old D.fresh, fresh := fun _ => none }) w) := by
  obtain ⟨A, c, rfl, hc, hc2⟩ := h.log.form
  have c3 := cells_all h.sr 3
  rw [hoff] at c3
  have O := Lib.hid (roper_is h hoff)
  rw [show decide (D.left ≠ 0) = true from by simp [hl]] at O
  have kc := h.ok.count
  have kl := h.ok.log
  have km := h.ok.most
  have HOK := Lib.hid h.ok
  clear h hoff hl
  go_enter Try.func56, Try.ntmps56
  go_wp2_with fail
  refine O.out.mono ?_
  rintro e w1 ⟨rfl, hd1, ho1⟩
  have H1 := Lib.hid hd1
  have HO1 := Lib.hid ho1
  have c5 := cells_all hd1.sr 5
  have c6 := cells_all hd1.sr 6
  have f6 := frozen_all hd1.sr 6
  obtain ⟨h2, ho2⟩ := hd1.store { D.ticked with sure := D.log.length, old := oldTo D 0, fresh := freshFrom D 0 } (.slice A D.log.length c)
    (w' := w1.setCell ⟨r, 6, none⟩ (.int .i64 (D.log.length : Int))) (by simpa using heap_set hd1.sr 6 (.int .i64 (D.log.length : Int))) (only_setCell _ _ _)
    (by rw [DS.ticked_old]; exact oldTo_zero HOK.out) (by rw [DS.ticked_fresh]; exact freshFrom_zero HOK.out) hd1.log (by
      obtain ⟨k1, k2, k3, k4, k5, k6, k7, k8, k9, k10⟩ := hd1.ok
      exact ⟨k1, k2, k3, k4, by simp only [DS.ticked_log]; omega, k6, k7, k8, fun k s hs => by have := oldTo_ok HOK.out 0 k s hs; rwa [← DS.ticked_count] at this, fun k s hs => by have := freshFrom_ok HOK.out 0 k s hs; rwa [← DS.ticked_count] at this⟩)
  have H2 := Lib.hid h2
  have HO2 := Lib.hid (ho1.trans ho2)
  clear hd1 ho1 c3 O h2 ho2
  go_wp2_with fail
  obtain ⟨W, hW⟩ : ∃ W, w1.setCell ⟨r, 6, none⟩ (.int .i64 (D.log.length : Int)) = W := ⟨_, rfl⟩
  rw [hW] at H2 HO2 ⊢
  clear hW c5 c6 f6
  go_loopw [3] (fun vi wr => ∃ i : Nat, i ≤ D.count ∧ vi = .int .i64 (i : Int) ∧ Hid (Ref0 Z wr r o f (.slice A D.log.length c) { D.ticked with sure := D.log.length, old := oldTo D i, fresh := freshFrom D i }) ∧ Hid (Out Z w wr)) (fun vi _ => D.count - (intOf vi).toNat)
  case atStart => exact ⟨0, Nat.zero_le _, rfl, H2.out, HO2.out⟩
  case round =>
    obtain ⟨i, hi, rfl, hr, how⟩ := hrel
    have c1 := cells_all hr.out.sr 1
    have c7 := cells_all hr.out.sr 7
    have c8 := cells_all hr.out.sr 8
    rw [DS.ticked_count] at c1
    by_cases hlt : i < D.count
    · obtain ⟨m, hm1, hm2, hm3⟩ := MapV.len Try.underlying93 hr.out.fresh 3
      have hm4 : (m : Int) ≤ 65536 := by omega
      have HM3 := Lib.hid hm3
      clear hm3
      by_cases hm0 : m = 0
      · subst hm0
        have hn := to_end (D := D) (i := i) (fun k => by
          have := HM3.out rfl k
          unfold strF at this
          cases hx : freshFrom D i k with
          | none => rfl
          | some s => simp only [hx] at this; cases this)
        have HN := Lib.hid hn
        clear hn
        go_wp2_with fail
        go_ret
        have h9 := hr.out.at_
        rw [HN.out.1, HN.out.2] at h9
        exact ⟨rfl, h9, how.out⟩
      · have hm5 : (0 : Int) < (m : Int) := by omega
        have hlk := MapV.look2 Try.underlying3 Try.underlying93 zero9 hr.out.fresh (wf_i64 (a := (i : Int)) (by omega) (by omega))
        simp only [strF, freshFrom_at] at hlk
        cases hv : D.fresh i with
        | none =>
          rw [hv] at hlk
          have HV := Lib.hid hv
          clear hv
          go_wp2_with fail
          go_roundw
          case rel => exact ⟨i + 1, by omega, by go_num, by show Ref0 _ _ _ _ _ _ _; rw [oldTo_none HV.out, freshFrom_none HV.out]; exact hr.out, how⟩
          case measure => simp [intOf]; omega
        | some s =>
          rw [hv] at hlk
          have HV := Lib.hid hv
          clear hv
          obtain ⟨w5, hrun5, hm5', hg5⟩ := MapV.update Try.underlying3 Try.underlying93 hr.out.old (by unfold maxLen; omega) (wf_i64 (a := (i : Int)) (by omega) (by omega)) (.string (str s))
          rw [strF_put, ← oldTo_some HV.out] at hm5'
          obtain ⟨h5, o5⟩ := hr.out.reold hm5' hg5 (fun k s hs => by have := oldTo_ok HOK.out (i + 1) k s hs; rwa [← DS.ticked_count] at this)
          obtain ⟨w6, hrun6, hm6, hg6⟩ := MapV.delete (ty := 0) Try.underlying3 Try.underlying93 h5.fresh (wf_i64 (a := (i : Int)) (by omega) (by omega))
          rw [freshFrom_some] at hm6
          obtain ⟨h6, o6⟩ := h5.freshen hm6 hg6 (fun k s hs => by have := freshFrom_ok HOK.out (i + 1) k s hs; rwa [← DS.ticked_count] at this)
          have c8' := cells_all h5.sr 8
          have H6 := Lib.hid h6
          have HO6 := Lib.hid ((how.out.trans o5).trans o6)
          clear hm5' hg5 h5 o5 hm6 hg6 h6 o6
          go_wp2_with fail
          go_roundw
          case rel => exact ⟨i + 1, by omega, by go_num, H6.out, HO6⟩
          case measure => simp [intOf]; omega
    · have hn := to_end (past_end HOK.out (i := i) (by omega))
      have HN := Lib.hid hn
      clear hn
      go_wp2_with fail
      go_ret
      have h9 := hr.out.at_
      rw [HN.out.1, HN.out.2] at h9
      exact ⟨rfl, h9, how.out⟩

theorem rsync_is (h : RefAt Z w r D) : Calls Try.prog 56 #[.pointer (some ⟨r, 0, none⟩)] w (RDoes Z r D.sync w) := by
  obtain ⟨o, f, lv, h⟩ := h
  unfold DS.sync
  cases hoff : D.off
  · rw [if_neg (by simp)]
    by_cases hl : D.left = 0
    · rw [if_pos hl]; exact rsync_dead h hoff hl
    · rw [if_neg hl]; exact rsync_ok h hoff hl
  · rw [if_pos rfl]; exact rsync_off h hoff
end
end Go.Proofs.Ytddcojikbcbihaa
