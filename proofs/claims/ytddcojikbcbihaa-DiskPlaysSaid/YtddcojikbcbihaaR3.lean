import Derived.Test.YtddcojikbcbihaaR2
/-! The document's disk: Retire, Read. -/
set_option linter.unusedVariables false
namespace Go.Proofs.Ytddcojikbcbihaa
open Go.RowKit

section
variable {Z : Zone} {w : World} {r o f : Nat} {lv : Value} {D : DS}

theorem rcut_is (h : RefAt Z w r D) (at_ : Int) : Calls Try.prog 57 #[.pointer (some ⟨r, 0, none⟩), .int .i64 at_] w (RDoes Z r (D.cut at_) w) := by
  obtain ⟨o, f, lv, h⟩ := h
  unfold DS.cut
  cases hoff : D.off
  · rw [if_neg (by simp)]
    cases hin : D.inn at_
    · rw [if_neg (by simp)]; exact rcut_arg h at_ hoff hin
    · rw [if_pos rfl]
      by_cases hl : D.left = 0
      · rw [if_pos hl]; exact rcut_dead h at_ hoff hin hl
      · rw [if_neg hl]
        obtain ⟨k1, k2, k3⟩ := h.ok.inn hin
        obtain ⟨k, rfl⟩ : ∃ k : Nat, at_ = D.base + k := ⟨(at_ - D.base).toNat, by omega⟩
        rw [show (D.base + (k : Int) - D.base).toNat = k from by omega]
        exact rcut_ok h k (by omega) hoff hin hl
  · rw [if_pos rfl]; exact rcut_off h at_ hoff

theorem rretire_off (h : Ref0 Z w r o f lv D) (at_ : Int) (hoff : D.off = true) : Calls Try.prog 58 #[.pointer (some ⟨r, 0, none⟩), .int .i64 at_] w (RDoes Z r (9, D) w) := by
  have c3 := cells_all h.sr 3
  rw [hoff] at c3
  have HH := Lib.hid h.at_
  clear h hoff
  go_enter Try.func58, Try.ntmps58
  go_wp2_with fail
  go_ret
  exact ⟨rfl, HH.out, Out.refl _ _⟩

theorem rretire_arg (h : Ref0 Z w r o f lv D) (at_ : Int) (hoff : D.off = false) (hin : D.inn at_ = false) : Calls Try.prog 58 #[.pointer (some ⟨r, 0, none⟩), .int .i64 at_] w (RDoes Z r (1, D) w) := by
  have c3 := cells_all h.sr 3
  have c4 := cells_all h.sr 4
  rw [hoff] at c3
  have E := Lib.hid (rend_is h)
  have HH := Lib.hid h
  rcases inn_false hin with h1 | ⟨h1, h2⟩
  all_goals
    clear h hoff hin
    go_enter Try.func58, Try.ntmps58
    go_wp2_with (go_at_call 63; refine E.out.mono ?_; rintro e w' ⟨rfl, n, rfl⟩)
    go_ret
    first | exact ⟨rfl, HH.out.at_, Out.refl _ _⟩ | exact ⟨rfl, (HH.out.drewN _).at_, (Out.refl _ w).drewN _⟩

theorem rretire_dead (h : Ref0 Z w r o f lv D) (at_ : Int) (hoff : D.off = false) (hin : D.inn at_ = true) (hl : D.left = 0) : Calls Try.prog 58 #[.pointer (some ⟨r, 0, none⟩), .int .i64 at_] w (RDoes Z r (9, D.ticked) w) := by
  have c3 := cells_all h.sr 3
  have c4 := cells_all h.sr 4
  rw [hoff] at c3
  have E := Lib.hid (rend_is h)
  have HH := Lib.hid h
  have O := Lib.hid (fun n => roper_is (h.drewN n) hoff)
  rw [show decide (D.left ≠ 0) = false from by simp [hl]] at O
  obtain ⟨h1, h2⟩ := inn_true hin
  clear h hoff hin hl
  go_enter Try.func58, Try.ntmps58
  go_wp2_with (go_at_call 63; refine E.out.mono ?_; rintro e w' ⟨rfl, n, rfl⟩)
  refine (O.out _).mono ?_
  rintro e w1 ⟨rfl, hd1, ho1⟩
  have H1 := Lib.hid hd1.at_
  have HO1 := Lib.hid ho1.undrewN
  clear hd1 ho1 c3 c4 O
  go_wp2_with fail
  go_ret
  exact ⟨rfl, H1.out, HO1.out⟩

/-- append([]byte{}, x..) -/
theorem chain1 (w : World) (Z : Zone) (hT : Z.Top w) (v : Value) (L : List UInt8) (hv : Row Z w v (bytes L)) (hl : L.length ≤ 140737488355328) (t1 : TypeId) :
    ∃ A c w1, (Builtin.append_ #[22, 22] t1 #[.slice (some ⟨w.heap.size, 0, none⟩) 0 0, v]).run Try.prog (w.alloc (.cells #[] 5)) = .ok (.slice A L.length c) w1 ∧ Out Zone.no w w1 ∧ Row Z w1 (.slice A L.length c) (bytes L) := by
  have o0 := (Out.refl Zone.no w).alloc (.cells #[] 5)
  have hown : Owns w.heap.size (w.alloc (.cells #[] 5)) (.slice (some ⟨w.heap.size, 0, none⟩) 0 0) [] :=
    World.ownsRow_lit (base := w.heap.size) (e := 5) (size := 1) w #[] 0 (Nat.le_refl _) (Nat.zero_le _) (by simp)
  obtain ⟨v1, w1, hrun1, h1, hg1, hf1⟩ := hown.append (Z := Z) (by simp) (hv.far o0 (fun _ h => h.elim)) (by simp only [List.length_nil]; omega) t1
  rw [List.nil_append] at h1
  have o1 : Out Zone.no w w1 := o0.grown hg1 (fun k hk => Or.inr (by simp only [Value.ownBlock] at hk; injection hk with hk; omega))
  obtain ⟨A, c, rfl, _, _⟩ := h1.form
  exact ⟨A, c, w1, hrun1, o1, h1.row (fun g hg => hT.fresh (by rcases (h1.lt g hg) with ⟨h, _⟩; exact h))⟩

theorem grown_set3 (w : World) (d i j k : Nat) (u v x : Value) : w.grownBy (((w.setCell ⟨d, i, none⟩ u).setCell ⟨d, j, none⟩ v).setCell ⟨d, k, none⟩ x) (some d) :=
  ⟨rfl, rfl, rfl, by simp [World.setCell], fun k _ hne => ((Below.heap_setCell _ _ _ _ (fun e => hne (by rw [e]))).trans (Below.heap_setCell _ _ _ _ (fun e => hne (by rw [e])))).trans (Below.heap_setCell _ _ _ _ (fun e => hne (by rw [e])))⟩

theorem DS.Ok.rretireOk {D : DS} (h : D.ticked.Ok) (k : Nat) (b : Int) (hb : 0 ≤ b ∧ b ≤ 9223372036854775807) : DS.Ok { D.ticked with log := D.log.drop k, sure := D.sure - k, base := b } := by
  obtain ⟨h1, h2, h3, h4, h5, h6, h7, h8, h9, h10⟩ := h
  rw [DS.ticked_log] at h5 h6
  rw [DS.ticked_sure] at h5
  exact ⟨h1, h2, hb.1, hb.2, by simp only [List.length_drop]; omega, by simp only [List.length_drop]; omega, h7, h8, h9, h10⟩

set_option maxRecDepth 100000 in
set_option maxHeartbeats 1000000 in
theorem rretire_ok (h : Ref0 Z w r o f lv D) (k : Nat) (hk : k ≤ D.log.length) (hoff : D.off = false) (hin : D.inn (D.base + k) = true) (hl : D.left ≠ 0) :
    Calls Try.prog 58 #[.pointer (some ⟨r, 0, none⟩), .int .i64 (D.base + k)] w (RDoes Z r (0, { D.ticked with log := D.log.drop k, sure := D.sure - k, base := D.base + k }) w) := by
  obtain ⟨A, c, rfl, hc, _⟩ := h.log.form
  have c3 := cells_all h.sr 3
  have c4 := cells_all h.sr 4
  rw [hoff] at c3
  have E := Lib.hid (rend_is h)
  have O := Lib.hid (fun n => roper_is (h.drewN n) hoff)
  rw [show decide (D.left ≠ 0) = true from by simp [hl]] at O
  obtain ⟨h1, h2⟩ := inn_true hin
  have k4 := h.ok.log
  have k5 := h.ok.most
  have k6 := h.ok.base0
  have k7 := h.ok.base1
  have k8 := h.ok.sure
  have k9 : D.base + k ≤ 9223372036854775807 := by
    unfold DS.fin wrap64 at h2
    omega
  clear h hoff hin hl
  go_enter Try.func58, Try.ntmps58
  go_wp2_with (go_at_call 63; refine E.out.mono ?_; rintro e w' ⟨rfl, n, rfl⟩)
  refine (O.out _).mono ?_
  rintro e w1 ⟨rfl, hd1, ho1⟩
  have H1 := Lib.hid hd1
  have HO1 := Lib.hid ho1.undrewN
  have c4' := cells_all hd1.sr 4
  rw [DS.ticked_base] at c4'
  clear c3 c4 O E h1 h2
  have e1 : D.base + (k : Int) - D.base = k := by omega
  obtain ⟨AX, hAX⟩ : ∃ AX, (if c = k then A else Option.map (fun x => x.add k) A) = AX := ⟨_, rfl⟩
  have hrow := hd1.log
  rw [DS.ticked_log] at hrow
  have hrX := hrow.drop_ hk
  rw [hAX] at hrX
  obtain ⟨A2, x2, w2, hr1, ho2, hrw⟩ := chain1 w1 Z hd1.top _ _ hrX (by rw [List.length_drop]; omega) 22
  rw [List.length_drop] at hr1 hrw
  have HR1 := Lib.hid hr1
  have HO2 := Lib.hid ho2
  have HV := Lib.hid hrw
  have h2 := hd1.any ho2
  have H2 := Lib.hid h2
  have cA := cells_all (hd1.any ((Out.refl Zone.no w1).alloc (.cells #[] 5))).sr 5
  have c4' := cells_all h2.sr 4
  have c5' := cells_all h2.sr 5
  have c6' := cells_all h2.sr 6
  have f4 := frozen_all h2.sr 4
  have f5 := frozen_all h2.sr 5
  have f6 := frozen_all h2.sr 6
  rw [DS.ticked_sure] at c6'
  have F : Hid (∀ v : Int, v = ((D.sure - k : Nat) : Int) → ∀ n, RefAt Z ((((w2.setCell ⟨r, 5, none⟩ (.slice A2 (D.log.length - k) x2)).setCell ⟨r, 6, none⟩ (.int .i64 v)).setCell ⟨r, 4, none⟩ (.int .i64 (D.base + k))).drewN n) r { D.ticked with log := D.log.drop k, sure := D.sure - k, base := D.base + k } ∧ Out Z w ((((w2.setCell ⟨r, 5, none⟩ (.slice A2 (D.log.length - k) x2)).setCell ⟨r, 6, none⟩ (.int .i64 v)).setCell ⟨r, 4, none⟩ (.int .i64 (D.base + k))).drewN n)) := by
    intro v hv n
    subst hv
    obtain ⟨h3, ho3⟩ := H2.out.store { D.ticked with log := D.log.drop k, sure := D.sure - k, base := D.base + k } (.slice A2 (D.log.length - k) x2)
      (w' := ((w2.setCell ⟨r, 5, none⟩ (.slice A2 (D.log.length - k) x2)).setCell ⟨r, 6, none⟩ (.int .i64 ((D.sure - k : Nat) : Int))).setCell ⟨r, 4, none⟩ (.int .i64 (D.base + k)))
      (by simpa using heap_set (heap_set (heap_set H2.out.sr 5 (.slice A2 (D.log.length - k) x2)) 6 (.int .i64 ((D.sure - k : Nat) : Int))) 4 (.int .i64 (D.base + k))) (grown_set3 _ _ _ _ _ _ _ _) rfl rfl
      HV.out
      (H2.out.ok.rretireOk k _ (by omega))
    exact ⟨(h3.drewN n).at_, ((HO1.out.trans HO2.out.mono0).trans ho3).drewN n⟩
  clear hd1 ho1 h2 hr1 ho2 hrw hrow hrX
  go_wp2_with (at_builtin; refine wpList_builtin rfl _ _ _ rfl HR1.out ?_)
  all_goals
    go_ret
    exact ⟨rfl, F.out _ (by omega) 0⟩

theorem rretire_is (h : RefAt Z w r D) (at_ : Int) : Calls Try.prog 58 #[.pointer (some ⟨r, 0, none⟩), .int .i64 at_] w (RDoes Z r (D.retire at_) w) := by
  obtain ⟨o, f, lv, h⟩ := h
  unfold DS.retire
  cases hoff : D.off
  · rw [if_neg (by simp)]
    cases hin : D.inn at_
    · rw [if_neg (by simp)]; exact rretire_arg h at_ hoff hin
    · rw [if_pos rfl]
      by_cases hl : D.left = 0
      · rw [if_pos hl]; exact rretire_dead h at_ hoff hin hl
      · rw [if_neg hl]
        obtain ⟨k1, k2, k3⟩ := h.ok.inn hin
        obtain ⟨k, rfl⟩ : ∃ k : Nat, at_ = D.base + k := ⟨(at_ - D.base).toNat, by omega⟩
        rw [show (D.base + (k : Int) - D.base).toNat = k from by omega]
        exact rretire_ok h k (by omega) hoff hin hl
  · rw [if_pos rfl]; exact rretire_off h at_ hoff

/-- What Read comes to. -/
def RReadOk (Z : Zone) (r o f : Nat) (lv : Value) (D : DS) (x : List UInt8 × Int) (w : World) (e : Ending) (w' : World) : Prop :=
  ∃ v, e = .returned (.tuple #[v, .int .i64 x.2]) ∧ Row Z w' v (bytes x.1) ∧ Ref0 Z w' r o f lv D ∧ Out Zone.no w w'

theorem rread_off (h : Ref0 Z w r o f lv D) (at_ : Int) (hoff : D.off = true) : Calls Try.prog 61 #[.pointer (some ⟨r, 0, none⟩), .int .i64 at_] w (RReadOk Z r o f lv D ([], 9) w) := by
  have c3 := cells_all h.sr 3
  rw [hoff] at c3
  have HH := Lib.hid h
  clear h hoff
  go_enter Try.func61, Try.ntmps61
  go_wp2_with fail
  go_ret2
  exact ⟨_, rfl, row_nil _ _ _ _ (Nat.zero_le _), HH.out, Out.refl _ _⟩

theorem rread_arg (h : Ref0 Z w r o f lv D) (at_ : Int) (hoff : D.off = false) (hin : D.inn at_ = false) : Calls Try.prog 61 #[.pointer (some ⟨r, 0, none⟩), .int .i64 at_] w (RReadOk Z r o f lv D ([], 1) w) := by
  have c3 := cells_all h.sr 3
  have c4 := cells_all h.sr 4
  rw [hoff] at c3
  have E := Lib.hid (rend_is h)
  have HH := Lib.hid h
  rcases inn_false hin with h1 | ⟨h1, h2⟩
  all_goals
    clear h hoff hin
    go_enter Try.func61, Try.ntmps61
    go_wp2_with (go_at_call 63; refine E.out.mono ?_; rintro e w' ⟨rfl, n, rfl⟩)
    go_ret2
    first | exact ⟨_, rfl, row_nil _ _ _ _ (Nat.zero_le _), HH.out, Out.refl _ _⟩ | exact ⟨_, rfl, row_nil _ _ _ _ (Nat.zero_le _), HH.out.drewN _, (Out.refl _ w).drewN _⟩

set_option maxRecDepth 100000 in
set_option maxHeartbeats 1000000 in
theorem rread_ok (h : Ref0 Z w r o f lv D) (k : Nat) (hk : k ≤ D.log.length) (hoff : D.off = false) (hin : D.inn (D.base + k) = true) :
    Calls Try.prog 61 #[.pointer (some ⟨r, 0, none⟩), .int .i64 (D.base + k)] w (RReadOk Z r o f lv D (D.log.drop k, 0) w) := by
  obtain ⟨A, c, rfl, hc, hc2⟩ := h.log.form
  have c3 := cells_all h.sr 3
  have c4 := cells_all h.sr 4
  have c5 := cells_all h.sr 5
  rw [hoff] at c3
  have E := Lib.hid (rend_is h)
  have HH := Lib.hid h
  obtain ⟨h1, h2⟩ := inn_true hin
  have k4 := h.ok.log
  have k5 := h.ok.most
  have k6 := h.ok.base0
  have k7 := h.ok.base1
  have k9 : D.base + k ≤ 9223372036854775807 := by
    unfold DS.fin wrap64 at h2
    omega
  clear h hoff hin
  go_enter Try.func61, Try.ntmps61
  go_wp2_with (go_at_call 63; refine E.out.mono ?_; rintro e w' ⟨rfl, n, rfl⟩)
  clear h1 h2 E c3
  have e1 : D.base + (k : Int) - D.base = k := by omega
  obtain ⟨AX, hAX⟩ : ∃ AX, (if c = k then A else Option.map (fun x => x.add k) A) = AX := ⟨_, rfl⟩
  have hrX := HH.out.log.drop_ hk
  rw [hAX] at hrX
  have HRX := Lib.hid hrX
  obtain ⟨m, hm⟩ : ∃ m, D.log.length - k = m := ⟨_, rfl⟩
  have hlen : (bytes (D.log.drop k)).length ≤ 140737488355328 := by rw [length_bytes, List.length_drop]; omega
  have HL := Lib.hid hlen
  have KA : Hid (∀ n, Row Z (((w.drewN n)).alloc (.cells #[] 5)) (.slice AX (D.log.length - k) (c - k)) (bytes (D.log.drop k))) := fun n => HRX.out.far (((Out.refl Zone.no w).drewN n).alloc _) (fun _ h => h.elim)
  have KT : Hid (∀ n, Z.Top ((w.drewN n).alloc (.cells #[] 5))) := fun n => HH.out.top.mono (by simp)
  have KC : ∀ n, (w.drewN n).cell? ⟨r, 5, none⟩ = some (.slice A D.log.length c) ∧ (w.drewN n).cell? ⟨r, 4, none⟩ = some (.int .i64 D.base) := fun n => ⟨c5, c4⟩
  have KC' : ∀ n, ((w.drewN n).alloc (.cells #[] 5)).cell? ⟨r, 5, none⟩ = some (.slice A D.log.length c) ∧ ((w.drewN n).alloc (.cells #[] 5)).cell? ⟨r, 4, none⟩ = some (.int .i64 D.base) := fun n => by
    have h := (HH.out.any (((Out.refl Zone.no w).drewN n).alloc (.cells #[] 5))).sr
    exact ⟨cells_all h 5, cells_all h 4⟩
  clear hrX hm hlen
  go_wp2_with fail
  have b1 : ([] : List Value).length + (bytes (D.log.drop k)).length ≤ 140737488355328 := by have := HL.out; simp only [List.length_nil]; omega
  have B1 := Lib.hid (le_maxLen b1)
  have B2 := Lib.hid (show (([] : List Value).length + (bytes (D.log.drop k)).length) * 1 ≤ 140737488355328 by rw [Nat.mul_one]; exact b1)
  clear b1
  have KD := (show (w.drewN n).drew.cell? ⟨r, 5, none⟩ = some (.slice A D.log.length c) ∧ (w.drewN n).drew.cell? ⟨r, 4, none⟩ = some (.int .i64 D.base) from KC (n + 1))
  have KE := (show ((w.drewN n).drew.alloc (.cells #[] 5)).cell? ⟨r, 5, none⟩ = some (.slice A D.log.length c) ∧ ((w.drewN n).drew.alloc (.cells #[] 5)).cell? ⟨r, 4, none⟩ = some (.int .i64 D.base) from KC' (n + 1))
  have KZ : Hid (∀ w', Out Zone.no ((w.drewN n).drew.alloc (.cells #[] 5)) w' → w'.cell? ⟨r, 5, none⟩ = some (.slice A D.log.length c) ∧ w'.cell? ⟨r, 4, none⟩ = some (.int .i64 D.base)) := fun w' ho => by
    have h := (HH.out.any ((((Out.refl Zone.no w).drewN (n + 1)).alloc (.cells #[] 5)).trans ho)).sr
    exact ⟨cells_all h 5, cells_all h 4⟩
  clear KC KC'
  have q0 : (0 : Int) ≤ (k : Int) := by omega
  have q1 : (k : Int) ≤ (D.log.length : Int) := by omega
  have q2 : IntKind.i64.wrap (D.base + (k : Int) - D.base) = k := by rw [e1]; exact IntWalk.i64_in _ (by omega)
  have q3 : IntKind.i64.wrap (k : Int) = k := IntWalk.i64_in _ (by omega)
  have hsl : ∀ W, (Instr.slice 22 (.slice A D.log.length c) (some (.int .i64 (k : Int))) none none).run Try.prog W = .ok (.slice AX (D.log.length - k) (c - k)) W := fun W => by
    have := run_slice_l elem22 A D.log.length c k (by omega) W
    unfold cut3 at this
    rw [hAX] at this
    exact this
  go_region_held3 (fun W' => W'.cell? ⟨r, 5, none⟩ = some (.slice A D.log.length c) ∧ W'.cell? ⟨r, 4, none⟩ = some (.int .i64 D.base))
    (first | exact KD | exact KE | exact KZ.out _ HO.out | assumption)
    ((refine step_append_tight rfl _ _ 22 rfl elem22 Z (by exact KT.out (n + 1)) [] (bytes (D.log.drop k)) (by exact row_nil _ _ _ _ (Nat.zero_le _)) (by exact (KA.out (n + 1)).any) (by exact cap_self _) B1.out B2.out ?_; intro v' w' ho hr; have HO := Lib.hid ho; have HV := Lib.hid hr; clear ho hr))
  all_goals
    go_wp2_with fail
    go_ret2
    have ho2 : Out Zone.no w _ := ((((Out.refl Zone.no w).drewN (n + 1)).alloc (.cells #[] 5)).trans HO.out)
    have hv := HV.out
    rw [List.nil_append] at hv
    exact ⟨_, rfl, hv, HH.out.any ho2, ho2⟩

theorem rread_is (h : Ref0 Z w r o f lv D) (at_ : Int) : Calls Try.prog 61 #[.pointer (some ⟨r, 0, none⟩), .int .i64 at_] w (RReadOk Z r o f lv D (D.read at_) w) := by
  unfold DS.read
  cases hoff : D.off
  · rw [if_neg (by simp)]
    cases hin : D.inn at_
    · rw [if_neg (by simp)]; exact rread_arg h at_ hoff hin
    · rw [if_pos rfl]
      obtain ⟨k1, k2, k3⟩ := h.ok.inn hin
      obtain ⟨k, rfl⟩ : ∃ k : Nat, at_ = D.base + k := ⟨(at_ - D.base).toNat, by omega⟩
      rw [show (D.base + (k : Int) - D.base).toNat = k from by omega]
      exact rread_ok h k (by omega) hoff hin
  · rw [if_pos rfl]; exact rread_off h at_ hoff
end
end Go.Proofs.Ytddcojikbcbihaa
