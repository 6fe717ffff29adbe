import Derived.Test.YtddcojikbcbihaaR0
/-! The document's disk: Append. -/
set_option linter.unusedVariables false
namespace Go.Proofs.Ytddcojikbcbihaa
open Go.RowKit

section
variable {Z : Zone} {w : World} {r o f : Nat} {lv : Value} {D : DS}

def RAppendOk (Z : Zone) (r : Nat) (x : Int × Int × DS) (w : World) (e : Ending) (w' : World) : Prop :=
  e = .returned (.tuple #[.int .i64 x.1, .int .i64 x.2.1]) ∧ RefAt Z w' r x.2.2 ∧ Out Z w w'

theorem Owns.form {base : Nat} {w : World} {v : Value} {L : List UInt8} (h : Owns base w v L) : ∃ A c, v = .slice A L.length c ∧ L.length ≤ c ∧ c ≤ maxLen := by
  have := h.row (Z := Zone.no) (fun g _ h => h)
  exact this.form

/-- append(append([]byte{}, log..), b..) -/
theorem chain_append (w : World) (Z : Zone) (hT : Z.Top w) (v s : Value) (L M : List UInt8) (hv : Row Z w v (bytes L)) (hs : Row Z w s (bytes M)) (hl : L.length + M.length ≤ 140737488355328) (t1 t2 : TypeId) :
    ∃ v1 w1 A c w2, (Builtin.append_ #[22, 22] t1 #[.slice (some ⟨w.heap.size, 0, none⟩) 0 0, v]).run Try.prog (w.alloc (.cells #[] 5)) = .ok v1 w1 ∧
      (Builtin.append_ #[22, 22] t2 #[v1, s]).run Try.prog w1 = .ok (.slice A (L.length + M.length) c) w2 ∧ Out Zone.no w w2 ∧ Row Z w2 (.slice A (L.length + M.length) c) (bytes (L ++ M)) := by
  have o0 := (Out.refl Zone.no w).alloc (.cells #[] 5)
  have hown : Owns w.heap.size (w.alloc (.cells #[] 5)) (.slice (some ⟨w.heap.size, 0, none⟩) 0 0) [] :=
    World.ownsRow_lit (base := w.heap.size) (e := 5) (size := 1) w #[] 0 (Nat.le_refl _) (Nat.zero_le _) (by simp)
  obtain ⟨v1, w1, hrun1, h1, hg1, hf1⟩ := hown.append (Z := Z) (by simp) (hv.far o0 (fun _ h => h.elim)) (by simp only [List.length_nil]; omega) t1
  rw [List.nil_append] at h1
  have o1 : Out Zone.no w w1 := o0.grown hg1 (fun k hk => Or.inr (by simp only [Value.ownBlock] at hk; injection hk with hk; omega))
  have hb1 : ∀ g, v1.ownBlock = some g → w.heap.size ≤ g := fun g hg => (h1.lt g hg).1
  obtain ⟨v2, w2, hrun2, h2, hg2, hf2⟩ := h1.append (Z := Z) o1.size (hs.far o1 (fun _ h => h.elim)) hl t2
  have o2 : Out Zone.no w w2 := o1.grown hg2 (fun k hk => Or.inr (hb1 k hk))
  obtain ⟨A, c, rfl, _, _⟩ := h2.form
  rw [List.length_append] at h2 hrun2
  refine ⟨v1, w1, A, c, w2, hrun1, hrun2, o2, ?_⟩
  exact h2.row (fun g hg => hT.fresh (by rcases (h2.lt g hg) with ⟨h, _⟩; exact h))

theorem rappend_off (h : Ref0 Z w r o f lv D) (s : Value) (hoff : D.off = true) : Calls Try.prog 55 #[.pointer (some ⟨r, 0, none⟩), s] w (RAppendOk Z r (0, 9, D) w) := by
  have c3 := cells_all h.sr 3
  rw [hoff] at c3
  have HH := Lib.hid h.at_
  clear h hoff
  go_enter Try.func55, Try.ntmps55
  go_wp2_with fail
  go_ret2
  exact ⟨rfl, HH.out, Out.refl _ _⟩

theorem rappend_full (h : Ref0 Z w r o f lv D) (s : Value) (b : List UInt8) (hs : Row Z w s (bytes b)) (hoff : D.off = false) (hroom : D.most < D.log.length + b.length) :
    Calls Try.prog 55 #[.pointer (some ⟨r, 0, none⟩), s] w (RAppendOk Z r (0, 7, D) w) := by
  obtain ⟨A, c, rfl, hc, _⟩ := h.log.form
  obtain ⟨B, m, rfl, hm, hm2⟩ := hs.form
  have c0 := cells_all h.sr 0
  have c3 := cells_all h.sr 3
  have c5 := cells_all h.sr 5
  rw [hoff] at c3
  have HH := Lib.hid h
  have k5 := h.ok.most
  have k6 := h.ok.log
  unfold maxLen at hm2
  clear h hs hoff
  go_enter Try.func55, Try.ntmps55
  go_wp2_with fail
  go_quiet (fail)
  go_wp2_with fail
  go_ret2
  exact ⟨rfl, (HH.out.drewN _).at_, (Out.refl Z w).drewN _⟩

theorem rappend_dead (h : Ref0 Z w r o f lv D) (s : Value) (b : List UInt8) (hs : Row Z w s (bytes b)) (hoff : D.off = false) (hroom : D.log.length + b.length ≤ D.most) (hl : D.left = 0) :
    Calls Try.prog 55 #[.pointer (some ⟨r, 0, none⟩), s] w (RAppendOk Z r (0, 9, D.ticked) w) := by
  obtain ⟨A, c, rfl, hc, _⟩ := h.log.form
  obtain ⟨B, m, rfl, hm, hm2⟩ := hs.form
  have c0 := cells_all h.sr 0
  have c3 := cells_all h.sr 3
  have c5 := cells_all h.sr 5
  have O := Lib.hid (fun n => roper_is (h.drewN n) hoff)
  rw [show decide (D.left ≠ 0) = false from by simp [hl]] at O
  rw [hoff] at c3
  have k5 := h.ok.most
  have k6 := h.ok.log
  unfold maxLen at hm2
  clear h hs hoff hl
  go_enter Try.func55, Try.ntmps55
  go_wp2_with fail
  go_quiet (fail)
  go_wp2_with fail
  refine (O.out _).mono ?_
  rintro e w1 ⟨rfl, hd1, ho1⟩
  have H1 := Lib.hid hd1.at_
  have HO1 := Lib.hid ho1.undrewN
  clear hd1 ho1 c0 c3 c5
  go_wp2_with fail
  go_ret2
  exact ⟨rfl, H1.out, HO1.out⟩

set_option maxHeartbeats 1000000 in
set_option maxRecDepth 100000 in
theorem rappend_ok (h : Ref0 Z w r o f lv D) (s : Value) (b : List UInt8) (hs : Row Z w s (bytes b)) (hoff : D.off = false) (hroom : D.log.length + b.length ≤ D.most) (hl : D.left ≠ 0) :
    Calls Try.prog 55 #[.pointer (some ⟨r, 0, none⟩), s] w (RAppendOk Z r (D.fin, 0, { D.ticked with log := D.log ++ b }) w) := by
  obtain ⟨A, c, rfl, hc, _⟩ := h.log.form
  obtain ⟨B, m, rfl, hm, hm2⟩ := hs.form
  have c0 := cells_all h.sr 0
  have c3 := cells_all h.sr 3
  have c5 := cells_all h.sr 5
  have HS := Lib.hid hs
  have O := Lib.hid (fun n => roper_is (h.drewN n) hoff)
  rw [show decide (D.left ≠ 0) = true from by simp [hl]] at O
  rw [hoff] at c3
  have k5 := h.ok.most
  have k6 := h.ok.log
  unfold maxLen at hm2
  clear h hs hoff hl
  go_enter Try.func55, Try.ntmps55
  go_wp2_with fail
  go_quiet (fail)
  go_wp2_with fail
  refine (O.out _).mono ?_
  rintro e w1 ⟨rfl, hd1, ho1⟩
  have H1 := Lib.hid hd1
  have HO1 := Lib.hid ho1.undrewN
  have E := Lib.hid (rend_is hd1)
  rw [DS.ticked_fin] at E
  have c5' := cells_all hd1.sr 5
  have f5 := frozen_all hd1.sr 5
  clear hd1 ho1 c0 c3 c5 O
  go_wp2_with fail
  refine E.out.mono ?_
  rintro e w' ⟨rfl, n2, rfl⟩
  obtain ⟨v1, w2, A2, x2, w3, hr1, hr2, ho3, hrow⟩ := chain_append (w1.drewN n2) Z H1.out.top _ (.slice B b.length m) D.log b (by have := (H1.out.drewN n2).log; rwa [DS.ticked_log] at this) ((HS.out.out HO1.out).drewN n2) (by omega) 22 22
  have HR1 := Lib.hid hr1
  have HR2 := Lib.hid hr2
  have HO3 := Lib.hid ho3.undrewN
  have HV := Lib.hid hrow
  have H3 := Lib.hid ((H1.out.drewN n2).any ho3)
  have c5'' := cells_all H3.out.sr 5
  have f5'' := frozen_all H3.out.sr 5
  clear hr1 hr2 ho3 hrow E
  have cA := cells_all (H1.out.any (((Out.refl Zone.no w1).drewN n2).alloc (.cells #[] 5))).sr 5
  go_wp2_with (at_builtin; first | refine wpList_builtin rfl _ _ _ rfl HR1.out ?_ | refine wpList_builtin rfl _ _ _ rfl HR2.out ?_)
  go_ret2
  obtain ⟨h4, ho4⟩ := H3.out.store { D.ticked with log := D.log ++ b } (.slice A2 (D.log.length + b.length) x2) (by simpa using heap_set H3.out.sr 5 (.slice A2 (D.log.length + b.length) x2)) (only_setCell _ _ _) rfl rfl HV.out (by
    obtain ⟨k1, k2, k3, k4, k5, k6, k7, k8, k9, k10⟩ := H3.out.ok
    rw [DS.ticked_log] at k5
    exact ⟨k1, k2, k3, k4, by simp only [List.length_append]; omega, by simp only [List.length_append, DS.ticked_most]; exact hroom, k7, k8, k9, k10⟩)
  exact ⟨rfl, h4.at_, (HO1.out.trans HO3.out.mono0).trans ho4⟩

theorem rappend_is (h : RefAt Z w r D) (s : Value) (b : List UInt8) (hs : Row Z w s (bytes b)) : Calls Try.prog 55 #[.pointer (some ⟨r, 0, none⟩), s] w (RAppendOk Z r (D.append b) w) := by
  obtain ⟨o, f, lv, h⟩ := h
  unfold DS.append
  cases hoff : D.off
  · rw [if_neg (by simp)]
    by_cases h1 : D.most < D.log.length + b.length
    · rw [if_pos h1]; exact rappend_full h s b hs hoff h1
    · rw [if_neg h1]
      by_cases h2 : D.left = 0
      · rw [if_pos h2]; exact rappend_dead h s b hs hoff (by omega) h2
      · rw [if_neg h2]; exact rappend_ok h s b hs hoff (by omega) h2
  · rw [if_pos rfl]; exact rappend_off h s hoff
end
end Go.Proofs.Ytddcojikbcbihaa
