import Derived.Test.YtddcojikbcbihaaD7
/-! The program's disk: Sync, Write. -/
set_option linter.unusedVariables false
namespace Go.Proofs.Ytddcojikbcbihaa
open Go.RowKit

theorem wpList_clear {P : Program} {ops : Array Oper} {rest : List Oper} {o : Oper} {a : Act} {w w' : World} {v' : Value} {Q : Exit → Act → World → Prop}
    (hg : o.guard = none) (x : Operand) (t : TypeId) (hop : o.op = Op.call { callee := Callee.builtin Builtin.clear, args := #[x], argTypes := #[t] })
    (hrun : (Builtin.clear_ #[t] o.type #[a.eval x]).run P w = .ok v' w')
    (hK : wpList P ops Q rest (a.put o.dst v') w') : wpList P ops Q (o :: rest) a w := by
  refine wpList_plain hg fun K hk => ?_
  unfold Oper.wp
  simp [execOp, hop, resolve, invoke, builtin, hrun, Result.andThen]
  exact hk _ _ hK

theorem some_ne {a b : Nat} (h : a ≠ b) : some a ≠ some b := fun e => h (by injection e)

theorem grown_undrewN {w w' : World} {n : Nat} {r : Option Nat} (h : (w.drewN n).grownBy w' r) : w.grownBy w' r := ⟨h.os, h.tape, h.output, h.size, h.block⟩
theorem grown_undrew {w w' : World} {r : Option Nat} (h : w.drew.grownBy w' r) : w.grownBy w' r := ⟨h.os, h.tape, h.output, h.size, h.block⟩

/-- Maps that read as F, merged. -/
theorem mapRows_merge {Z : Zone} {w w' : World} {b c : Nat} {F G : Int → Option (List UInt8)} {V U : Int → Option Value} {n : Nat}
    (h1 : ∀ x, match V x with | none => F x = none | some v => ∃ L, F x = some L ∧ Row Z w v (bytes L)) (h2 : ∀ x, match U x with | none => G x = none | some v => ∃ L, G x = some L ∧ Row Z w v (bytes L)) :
    ∀ x, match mergeV V U x with | none => DS.merged F G x = none | some v => ∃ L, DS.merged F G x = some L ∧ Row Z w v (bytes L) := by
  intro x
  unfold mergeV DS.merged
  have g1 := h1 x
  have g2 := h2 x
  cases hU : U x with
  | some v =>
    rw [hU] at g2
    obtain ⟨L, hL, hr⟩ := g2
    simp only
    exact ⟨L, by rw [hL], hr⟩
  | none =>
    rw [hU] at g2
    simp only at g2
    rw [g2]
    cases hV : V x with
    | none => rw [hV] at g1; exact g1
    | some v => rw [hV] at g1; exact g1

section
variable {Z : Zone} {w : World} {d p o f : Nat} {lv : Value} {D : DS}

theorem mapV_of_rows {b n : Nat} {V : Int → Option Value} {F : Int → Option (List UInt8)} {w' : World} (h : MapV Try.prog 3 w b n V) (hF : ∀ x, match V x with | none => F x = none | some v => ∃ L, F x = some L ∧ Row Z w' v (bytes L))
    (hok : ∀ k s, F k = some s → 0 ≤ k ∧ k < 65536) : MapV Try.prog 3 w b 65536 V :=
  h.small Try.underlying3 65536 (fun x v hx => by
    have := hF x
    rw [hx] at this
    obtain ⟨L, hL, _⟩ := this
    exact hok x L hL)

theorem rows_out {w' : World} {V : Int → Option Value} {F : Int → Option (List UInt8)} (ho : Out Z w w') (hF : ∀ x, match V x with | none => F x = none | some v => ∃ L, F x = some L ∧ Row Z w v (bytes L)) :
    ∀ x, match V x with | none => F x = none | some v => ∃ L, F x = some L ∧ Row Z w' v (bytes L) := by
  intro x
  have h3 := hF x
  cases hV : V x with
  | none => rw [hV] at h3; exact h3
  | some v =>
    rw [hV] at h3
    obtain ⟨L, hL, hr⟩ := h3
    exact ⟨L, hL, hr.out ho⟩

theorem merged_ok {D : DS} (h : D.Ok) : ∀ k s, DS.merged D.old D.fresh k = some s → 0 ≤ k ∧ k < D.count ∧ s.length = 512 := by
  intro k s hs
  unfold DS.merged at hs
  cases hf : D.fresh k with
  | none => rw [hf] at hs; exact h.old k s hs
  | some t => rw [hf] at hs; cases hs; exact h.fresh k _ hf

/-- The disk behind a sync's stores. -/
theorem Disk0.synced {w2 w3 : World} {V U : Int → Option Value} {N : Nat} (h : Disk0 Z w d p o f lv D)
    (hF : ∀ x, match V x with | none => D.old x = none | some v => ∃ L, D.old x = some L ∧ Row Z w v (bytes L)) (hG : ∀ x, match U x with | none => D.fresh x = none | some v => ∃ L, D.fresh x = some L ∧ Row Z w v (bytes L))
    (hm2 : MapV Try.prog 3 w2 o N (mergeV V U)) (hg2 : (w.setCell ⟨d, 4, none⟩ (.int .i64 (D.log.length : Int))).grownBy w2 (some o))
    (hm3 : MapV Try.prog 3 w3 f 0 (fun _ => none)) (hg3 : w2.grownBy w3 (some f)) :
    Disk0 Z w3 d p o f lv { D with sure := D.log.length, old := DS.merged D.old D.fresh, fresh := fun _ => none } ∧ Out Z w w3 := by
  have hm := h.map_ne
  have o1 : Out Z w (w.setCell ⟨d, 4, none⟩ (.int .i64 (D.log.length : Int))) := (Out.refl Z w).setCell (Or.inl h.bd) _
  have o2 : Out Z w w2 := o1.grown hg2 (fun k hk => by cases hk; exact Or.inl h.bo)
  have o3 : Out Z w w3 := o2.grown hg3 (fun k hk => by cases hk; exact Or.inl h.bf)
  have top := h.top
  have e1 : (w.setCell ⟨d, 4, none⟩ (.int .i64 (D.log.length : Int))).heap.size = w.heap.size := by simp [World.setCell]
  have s1 : (w.setCell ⟨d, 4, none⟩ (.int .i64 (D.log.length : Int))).heap.size = w.heap.size := by simp [World.setCell]
  have hd2 : w2.heap[d]? = _ := (hg2.block d (by rw [e1]; exact top.lt h.bd) (some_ne (Ne.symm hm.1))).trans (heap_set h.sd 4 (.int .i64 (D.log.length : Int)))
  have hd3 : w3.heap[d]? = _ := (hg3.block d (Nat.lt_of_lt_of_le (by rw [e1]; exact top.lt h.bd) hg2.size) (some_ne (Ne.symm hm.2.2.1))).trans hd2
  have hp2 : w2.heap[p]? = _ := (hg2.block p (by rw [e1]; exact top.lt h.bp) (some_ne (Ne.symm hm.2.1))).trans (heap_far h.sp (fun e => h.dp e.symm) _)
  have hp3 : w3.heap[p]? = _ := (hg3.block p (Nat.lt_of_lt_of_le (by rw [e1]; exact top.lt h.bp) hg2.size) (some_ne (Ne.symm hm.2.2.2))).trans hp2
  have hok := h.ok
  have hmk := merged_ok hok
  have hmr : ∀ x, match mergeV V U x with | none => DS.merged D.old D.fresh x = none | some v => ∃ L, DS.merged D.old D.fresh x = some L ∧ Row Z w3 v (bytes L) :=
    mapRows_merge (w' := w3) (b := 0) (c := 0) (n := 0) (rows_out o3 hF) (rows_out o3 hG)
  refine ⟨⟨by simpa using hd3, hp3, h.log.out o3, ⟨mergeV V U, ?_, hmr⟩, ⟨_, hm3.mono (by omega), fun x => rfl⟩, h.bd, h.bp, h.bo, h.bf, top.mono o3.size, h.ne, ?_⟩, o3⟩
  · exact mapV_of_rows (hm2.kept hg3 (some_ne h.ne)) hmr (fun k s hs => by have := hmk k s hs; have := hok.count; omega)
  · obtain ⟨k1, k2, k3, k4, k5, k6, k7, k8, k9, k10⟩ := hok
    exact ⟨k1, k2, k3, k4, Nat.le_refl _, k6, k7, k8, hmk, fun k s hs => by cases hs⟩

set_option maxRecDepth 100000 in
set_option maxHeartbeats 1000000 in
theorem sync_ok (h : Disk0 Z w d p o f lv D) (hoff : D.off = false) (hl : D.left ≠ 0) :
    Calls Try.prog 14 #[.pointer (some ⟨d, 0, none⟩)] w (Does Z d (0, { D.ticked with sure := D.log.length, old := DS.merged D.old D.fresh, fresh := fun _ => none }) w) := by
  obtain ⟨A, c, rfl, hc, _⟩ := h.log.form
  have hmay : D.may true = 0 := by unfold DS.may; rw [hoff]; rfl
  have hop : D.oper = 0 := by unfold DS.oper; rw [if_neg hl]
  have M := Lib.hid (may_is h true)
  rw [hmay] at M
  have O := Lib.hid (operation_is h hoff)
  rw [hop] at O
  have HH := Lib.hid h
  have c0 := cells_all h.sd 0
  clear h hmay hop hl
  go_enter Try.func14, Try.ntmps14
  go_wp2_with fail
  refine M.out.mono ?_
  rintro e w' ⟨rfl, rfl⟩
  go_wp2_with fail
  refine O.out.mono ?_
  rintro e w1 ⟨rfl, hp1, hg1⟩
  obtain ⟨h1, ho1⟩ := HH.out.ticked hp1 hg1
  have H1 := Lib.hid h1
  have HO1 := Lib.hid ho1
  have c4 := cells_all h1.sd 4
  have c5 := cells_all h1.sd 5
  have c6 := cells_all h1.sd 6
  have c7 := cells_all h1.sd 7
  have f4 := frozen_all h1.sd 4
  obtain ⟨V, hV, hF⟩ := h1.old
  obtain ⟨U, hU, hG⟩ := h1.fresh
  have hm := h1.map_ne
  have g1 : w1.grownBy (w1.setCell ⟨d, 4, none⟩ (.int .i64 (D.log.length : Int))) (some d) := only_setCell _ _ _
  have hV1 := hV.kept g1 (some_ne hm.1)
  have hU1 := hU.kept g1 (some_ne hm.2.2.1)
  have CP := Lib.hid (fun n => copy_is ((w1.setCell ⟨d, 4, none⟩ (.int .i64 (D.log.length : Int))).drewN n) o f 65536 65536 V U hV1 hU1 h1.ne (le_maxLen (by omega)))
  have HV := Lib.hid hV1
  have HU := Lib.hid hU1
  have HF := Lib.hid (show _ ∧ _ from ⟨hF, hG⟩)
  have HM := Lib.hid (show _ ∧ _ from ⟨hm, h1.ne⟩)
  clear hp1 hg1 c0 ho1 M O HH h1 hV hU hF hG hm g1 hV1 hU1
  go_wp2_with fail
  go_region_with (go_at_call 45; refine (CP.out _).mono ?_; rintro e w2 ⟨rfl, hm2, hg2⟩; have HM2 := Lib.hid hm2; have HG2 := Lib.hid (grown_undrewN hg2); clear hm2 hg2)
  all_goals
    have hd2 : w2.heap[d]? = _ := (HG2.out.block d (by simpa [World.setCell] using H1.out.top.lt H1.out.bd) (some_ne (Ne.symm HM.out.1.1))).trans (heap_set H1.out.sd 4 (.int .i64 (D.log.length : Int)))
    have c7' := cells_all hd2 7
    have HD2 := Lib.hid hd2
    obtain ⟨w3, hrun, hm3, hg3⟩ := (HU.out.kept HG2.out (some_ne (Ne.symm HM.out.2))).clear (ty := 0) Try.underlying51
    have HR := Lib.hid hrun
    have HM3 := Lib.hid hm3
    have HG3 := Lib.hid hg3
    clear hrun hd2 c7 c6 c5 c4 f4 hm3 hg3
    go_wp2_with (refine wpList_clear rfl _ _ rfl HR.out ?_)
    go_ret
    obtain ⟨h5, o5⟩ := H1.out.synced HF.out.1 HF.out.2 HM2.out (by rw [DS.ticked_log]; exact HG2.out) HM3.out HG3.out
    rw [DS.ticked_old, DS.ticked_fresh] at h5
    have h6 := h5.at_
    have o6 := HO1.out.trans o5
    have e1 : D.ticked.log.length = D.log.length := by rw [DS.ticked_log]
    rw [e1] at h6
    exact ⟨rfl, h6, o6⟩

theorem sync_is (h : DiskAt Z w d D) : Calls Try.prog 14 #[.pointer (some ⟨d, 0, none⟩)] w (Does Z d D.sync w) := by
  obtain ⟨p, o, f, lv, h⟩ := h
  unfold DS.sync
  by_cases h1 : D.off = true
  · rw [if_pos h1]
    have hmay : D.may true = 9 := by unfold DS.may; rw [h1]; rfl
    have M := Lib.hid (may_is h true)
    rw [hmay] at M
    have HH := Lib.hid h.at_
    clear h hmay h1
    go_enter Try.func14, Try.ntmps14
    go_wp2_with (go_at_call 43; refine M.out.mono ?_; rintro e w' ⟨rfl, rfl⟩)
    go_ret
    exact ⟨rfl, HH.out, Out.refl _ _⟩
  · have hoff : D.off = false := by simpa using h1
    rw [if_neg h1]
    by_cases hl : D.left = 0
    · rw [if_pos hl]
      have hmay : D.may true = 0 := by unfold DS.may; rw [hoff]; rfl
      have hop : D.oper = 9 := by unfold DS.oper; rw [if_pos hl]
      have M := Lib.hid (may_is h true)
      rw [hmay] at M
      have O := Lib.hid (operation_is h hoff)
      rw [hop] at O
      have HH := Lib.hid h
      have c0 := cells_all h.sd 0
      clear h hmay hop hl h1
      go_enter Try.func14, Try.ntmps14
      go_wp2_with fail
      refine M.out.mono ?_
      rintro e w' ⟨rfl, rfl⟩
      go_wp2_with fail
      refine O.out.mono ?_
      rintro e w1 ⟨rfl, hp1, hg1⟩
      obtain ⟨h1, ho1⟩ := HH.out.ticked hp1 hg1
      have H1 := Lib.hid h1.at_
      have HO1 := Lib.hid ho1
      clear hp1 hg1 c0 ho1 M O HH h1
      go_wp2_with fail
      go_ret
      exact ⟨rfl, H1.out, HO1.out⟩
    · rw [if_neg hl]
      exact sync_ok h hoff hl
end
end Go.Proofs.Ytddcojikbcbihaa
