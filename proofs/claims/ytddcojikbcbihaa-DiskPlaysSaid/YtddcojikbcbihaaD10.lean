import Derived.Test.YtddcojikbcbihaaD9
/-! The program's disk: Retire. -/
set_option linter.unusedVariables false
namespace Go.Proofs.Ytddcojikbcbihaa
open Go.RowKit

section
variable {Z : Zone} {w : World} {d p o f : Nat} {lv : Value} {D : DS}

theorem DS.Ok.retireOk {D : DS} (h : D.ticked.Ok) (k : Nat) (hk : k ≤ D.log.length) (hb : D.base + k ≤ 9223372036854775807) : DS.Ok { D.ticked with log := D.log.drop k, sure := D.sure - k, base := D.base + k } := by
  obtain ⟨h1, h2, h3, h4, h5, h6, h7, h8, h9, h10⟩ := h
  rw [DS.ticked_log] at h5 h6
  rw [DS.ticked_sure] at h5
  rw [DS.ticked_base] at h3
  exact ⟨h1, h2, by simp only; omega, hb, by simp only [List.length_drop]; omega, by simp only [List.length_drop]; omega, h7, h8, h9, h10⟩

theorem grown_set3 (w : World) (d i j k : Nat) (u v x : Value) : w.grownBy (((w.setCell ⟨d, i, none⟩ u).setCell ⟨d, j, none⟩ v).setCell ⟨d, k, none⟩ x) (some d) :=
  ⟨rfl, rfl, rfl, by simp [World.setCell], fun k _ hne => ((Below.heap_setCell _ _ _ _ (fun e => hne (by rw [e]))).trans (Below.heap_setCell _ _ _ _ (fun e => hne (by rw [e])))).trans (Below.heap_setCell _ _ _ _ (fun e => hne (by rw [e])))⟩

set_option maxRecDepth 100000 in
set_option maxHeartbeats 2000000 in
theorem retire_ok (h : Disk0 Z w d p o f lv D) (k : Nat) (hk : k ≤ D.log.length) (hmay : D.may (D.inn (D.base + k)) = 0) (hl : D.left ≠ 0) :
    Calls Try.prog 15 #[.pointer (some ⟨d, 0, none⟩), .int .i64 (D.base + k)] w (Does Z d (0, { D.ticked with log := D.log.drop k, sure := D.sure - k, base := D.base + k }) w) := by
  obtain ⟨A, c, rfl, hc, _⟩ := h.log.form
  have hop : D.oper = 0 := by unfold DS.oper; rw [if_neg hl]
  have I := Lib.hid (in_is h (D.base + k))
  have M : ∀ n, Hid _ := fun n => Lib.hid (may_is (h.drewN n) (D.inn (D.base + k)))
  rw [hmay] at M
  have O := Lib.hid (fun n => operation_is (h.drewN n) (may_zero hmay).1)
  rw [hop] at O
  have HH := Lib.hid h
  have c0 := cells_all h.sd 0
  have k4 := h.ok.log
  have k5 := h.ok.most
  have k6 := h.ok.base0
  have k7 := h.ok.base1
  have k8 := h.ok.sure
  have k9 : D.base + k ≤ 9223372036854775807 := by
    have h2 := (may_zero hmay).2
    unfold DS.inn at h2
    simp only [Bool.and_eq_true, decide_eq_true_eq] at h2
    have := h2.2
    unfold DS.fin wrap64 at this
    omega
  clear h hmay hop hl
  go_enter Try.func15, Try.ntmps15
  go_wp2_with fail
  refine I.out.mono ?_
  rintro e w' ⟨rfl, n, rfl⟩
  go_wp2_with fail
  refine (M _).out.mono ?_
  rintro e w' ⟨rfl, rfl⟩
  go_wp2_with fail
  refine (O.out _).mono ?_
  rintro e w1 ⟨rfl, hp1, hg1⟩
  obtain ⟨h1, ho1⟩ := (HH.out.drewN _).ticked hp1 hg1
  have H1 := Lib.hid h1
  have HO1 := Lib.hid ho1.undrewN
  have c3 := cells_all h1.sd 3
  have c4 := cells_all h1.sd 4
  have c5 := cells_all h1.sd 5
  rw [DS.ticked_base] at c3
  rw [DS.ticked_sure] at c4
  clear hp1 hg1 c0 ho1 M O HH I
  have e1 : D.base + (k : Int) - D.base = k := by omega
  have e2 : IntKind.i64.wrap (D.base + (k : Int) - D.base) = k := by rw [e1]; exact IntWalk.i64_in _ (by omega)
  have T := Lib.hid h1.top
  have HR := h1.log
  rw [DS.ticked_log] at HR
  have HR := Lib.hid HR
  have HL : Hid ((bytes (D.log.drop k)).length ≤ 140737488355328) := by show (bytes (D.log.drop k)).length ≤ _; rw [length_bytes, List.length_drop]; omega
  clear h1
  have E2 := Lib.hid e2
  clear e2
  go_wp2_with fail
  have e2 := E2.out
  obtain ⟨A', hA⟩ : ∃ A', (if c = k then A else Option.map (fun x => x.add k) A) = A' := ⟨_, rfl⟩
  have HV1 : Hid (∀ n, Row Z (w1.drewN n) (.slice A' (D.log.length - k) (c - k)) (bytes (D.log.drop k))) := fun n => by rw [← hA]; exact (Row.drewN HR.out n).drop_ hk
  have F : Hid (∀ w2 A2 x2 v, v = ((D.sure - k : Nat) : Int) → Out Zone.no w1 w2 → Row Z w2 (.slice A2 (D.log.drop k).length x2) (bytes (D.log.drop k)) →
      DiskAt Z (((w2.setCell ⟨d, 5, none⟩ (.slice A2 (D.log.length - k) x2)).setCell ⟨d, 4, none⟩ (.int .i64 v)).setCell ⟨d, 3, none⟩ (.int .i64 (D.base + k))) d { D.ticked with log := D.log.drop k, sure := D.sure - k, base := D.base + k } ∧
      Out Z w (((w2.setCell ⟨d, 5, none⟩ (.slice A2 (D.log.length - k) x2)).setCell ⟨d, 4, none⟩ (.int .i64 v)).setCell ⟨d, 3, none⟩ (.int .i64 (D.base + k)))) := by
    intro w2 A2 x2 v hv ho hr
    subst hv
    rw [List.length_drop] at hr
    have h2 := H1.out.any ho
    obtain ⟨h3, ho3⟩ := h2.remake { D.ticked with log := D.log.drop k, sure := D.sure - k, base := D.base + k } (.slice A2 (D.log.length - k) x2)
      (w' := ((w2.setCell ⟨d, 5, none⟩ (.slice A2 (D.log.length - k) x2)).setCell ⟨d, 4, none⟩ (.int .i64 ((D.sure - k : Nat) : Int))).setCell ⟨d, 3, none⟩ (.int .i64 (D.base + k)))
      (by simpa using heap_set (heap_set (heap_set h2.sd 5 (.slice A2 (D.log.length - k) x2)) 4 (.int .i64 ((D.sure - k : Nat) : Int))) 3 (.int .i64 (D.base + k))) (grown_set3 _ _ _ _ _ _ _ _) rfl rfl rfl rfl
      hr (H1.out.ok.retireOk k hk k9)
    exact ⟨h3.at_, (HO1.out.trans ho.mono0).trans ho3⟩
  have SV : Hid (IntKind.i64.wrap ((D.ticked.sure : Int) - (k : Int)) = (D.sure : Int) - (k : Int)) := by
    show IntKind.i64.wrap ((D.ticked.sure : Int) - (k : Int)) = (D.sure : Int) - (k : Int)
    rw [DS.ticked_sure]
    exact IntWalk.i64_in _ (by omega)
  have SV2 : Hid (IntKind.i64.wrap ((D.sure : Int) - (k : Int)) = (D.sure : Int) - (k : Int)) := by
    show IntKind.i64.wrap ((D.sure : Int) - (k : Int)) = (D.sure : Int) - (k : Int)
    exact IntWalk.i64_in _ (by omega)
  clear HR hc k4 k5 k6 k8
  by_cases hsk : k ≤ D.sure
  all_goals
    go_region_with (go_at_call 47; refine (clone_any _ Z (by exact T.out) _ _ (by exact (HV1.out _)) HL.out).mono ?_; rintro e w2 ⟨v', rfl, ho, hr⟩; obtain ⟨A2, x2, rfl, _, _⟩ := hr.form; have HO := Lib.hid (Out.undrewN ho); have HR2 := Lib.hid hr; clear ho hr; have g := HO.out.get H1.out.sd (id); have c3' := cells_all g 3; have c4' := cells_all g 4; have c5' := cells_all g 5; have fr := frozen_all g; clear g)
  all_goals
    go_wp2_with fail
    go_ret
    exact ⟨rfl, F.out _ _ _ _ (by first | omega | (have h1 := SV.out; have h2 := SV2.out; omega)) HO.out HR2.out⟩
end
end Go.Proofs.Ytddcojikbcbihaa
