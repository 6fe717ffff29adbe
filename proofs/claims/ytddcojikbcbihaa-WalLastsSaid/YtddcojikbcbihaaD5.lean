import Derived.Test.YtddcojikbcbihaaD4
/-! The program's disk: Cut, Fuse. -/
set_option linter.unusedVariables false
namespace Go.Proofs.Ytddcojikbcbihaa
open Go.RowKit

section
variable {Z : Zone} {w : World} {d p o f : Nat} {lv : Value} {D : DS}

/-- What a call comes to that answers an error alone. -/
def Does (Z : Zone) (d : Nat) (x : Int × DS) (w : World) (e : Ending) (w' : World) : Prop :=
  e = .returned (.int .i64 x.1) ∧ DiskAt Z w' d x.2 ∧ Out Z w w'

/-- The disk behind stores into its struct. -/
theorem Disk0.remake {w' : World} (h : Disk0 Z w d p o f lv D) (D' : DS) (lv' : Value)
    (hd : w'.heap[d]? = some (.cells #[.pointer (some ⟨p, 0, none⟩), .int .i64 D'.most, .int .i64 D'.count, .int .i64 D'.base, .int .i64 D'.sure, lv', .map (some o), .map (some f)] 53 (0, 0)))
    (hg : w.grownBy w' (some d)) (e1 : D'.left = D.left) (e2 : D'.off = D.off) (e3 : D'.old = D.old) (e4 : D'.fresh = D.fresh) (hr : Row Z w lv' (bytes D'.log)) (ok : D'.Ok) :
    Disk0 Z w' d p o f lv' D' ∧ Out Z w w' := by
  have hout : Out Z w w' := (Out.refl Z w).grown hg (fun k hk => by cases hk; exact Or.inl h.bd)
  have hne := h.map_ne
  have hk : ∀ k, Z.S k → k ≠ d → w'.heap[k]? = w.heap[k]? := fun k hk hp => hg.block k (h.top.lt hk) (fun e => hp (by injection e))
  refine ⟨⟨hd, ?_, hr.out hout, ?_, ?_, h.bd, h.bp, h.bo, h.bf, h.top.mono hout.size, h.ne, ok⟩, hout⟩
  · rw [e1, e2]; exact (hk p h.bp (Ne.symm h.dp)).trans h.sp
  · rw [e3]; exact h.old.out hout Z.sub (hk o h.bo hne.1)
  · rw [e4]; exact h.fresh.out hout Z.sub (hk f h.bf hne.2.2.1)

theorem grown_set2 (w : World) (d i j : Nat) (u v : Value) : w.grownBy ((w.setCell ⟨d, i, none⟩ u).setCell ⟨d, j, none⟩ v) (some d) :=
  ⟨rfl, rfl, rfl, by simp [World.setCell], fun k _ hne => (Below.heap_setCell _ _ _ _ (fun e => hne (by rw [e]))).trans (Below.heap_setCell _ _ _ _ (fun e => hne (by rw [e])))⟩

theorem may_zero {fine : Bool} (h : D.may fine = 0) : D.off = false ∧ fine = true := by
  unfold DS.may at h
  cases h1 : D.off <;> cases fine <;> simp [h1] at h ⊢

theorem cut_ok (h : Disk0 Z w d p o f lv D) (k : Nat) (hk : k ≤ D.log.length) (hmay : D.may (D.inn (D.base + k)) = 0) (hl : D.left ≠ 0) :
    Calls Try.prog 16 #[.pointer (some ⟨d, 0, none⟩), .int .i64 (D.base + k)] w (Does Z d (0, { D.ticked with log := D.log.take k, sure := min D.sure k }) w) := by
  obtain ⟨A, c, rfl, hc, _⟩ := h.log.form
  have hop : D.oper = 0 := by unfold DS.oper; rw [if_neg hl]
  have I := Lib.hid (in_is h (D.base + k))
  have M : ∀ n, Hid _ := fun n => Lib.hid (may_is (h.drewN n) (D.inn (D.base + k)))
  rw [hmay] at M
  have O := Lib.hid (fun n => operation_is (h.drewN n) (may_zero hmay).1)
  rw [hop] at O
  have HH := Lib.hid h
  have c0 := cells_all h.sd 0
  have k4 := h.ok.log
  have k5 := h.ok.most
  have k6 := h.ok.base0
  have k7 := h.ok.base1
  have k8 := h.ok.sure
  have k9 : D.base + k ≤ 9223372036854775807 := by
    have := h.ok.inn (may_zero hmay).2
    unfold DS.inn at *
    have h2 := (may_zero hmay).2
    simp only [Bool.and_eq_true, decide_eq_true_eq] at h2
    have := h2.2
    unfold DS.fin wrap64 at this
    omega
  clear h hmay hop hl
  go_enter Try.func16, Try.ntmps16
  go_wp2_with fail
  refine I.out.mono ?_
  rintro e w' ⟨rfl, n, rfl⟩
  go_wp2_with fail
  refine (M _).out.mono ?_
  rintro e w' ⟨rfl, rfl⟩
  go_wp2_with fail
  refine (O.out _).mono ?_
  rintro e w1 ⟨rfl, hp1, hg1⟩
  obtain ⟨h1, ho1⟩ := (HH.out.drewN _).ticked hp1 hg1
  have H1 := Lib.hid h1
  have HO1 := Lib.hid ho1.undrewN
  have c3 := cells_all h1.sd 3
  have c4 := cells_all h1.sd 4
  have c5 := cells_all h1.sd 5
  have f4 := frozen_all h1.sd 4
  have f5 := frozen_all h1.sd 5
  rw [DS.ticked_base] at c3
  rw [DS.ticked_sure] at c4
  clear hp1 hg1 c0 ho1 M O HH h1 I
  have e1 : D.base + (k : Int) - D.base = k := by omega
  have e2 : IntKind.i64.wrap (D.base + (k : Int) - D.base) = k := by rw [e1]; exact IntWalk.i64_in _ (by omega)
  have E2 := Lib.hid e2
  clear e2
  have F : Hid (∀ v : Int, v = ((min D.sure k : Nat) : Int) → DiskAt Z ((w1.setCell ⟨d, 5, none⟩ (.slice A k k)).setCell ⟨d, 4, none⟩ (.int .i64 v)) d { D.ticked with log := D.log.take k, sure := min D.sure k } ∧ Out Z w ((w1.setCell ⟨d, 5, none⟩ (.slice A k k)).setCell ⟨d, 4, none⟩ (.int .i64 v))) := by
    intro v hv
    subst hv
    obtain ⟨h3, ho3⟩ := H1.out.remake { D.ticked with log := D.log.take k, sure := min D.sure k } (.slice A k k)
      (w' := (w1.setCell ⟨d, 5, none⟩ (.slice A k k)).setCell ⟨d, 4, none⟩ (.int .i64 ((min D.sure k : Nat) : Int)))
      (by simpa using heap_set (heap_set H1.out.sd 5 (.slice A k k)) 4 (.int .i64 ((min D.sure k : Nat) : Int))) (grown_set2 _ _ _ _ _ _) rfl rfl rfl rfl
      (by
        have hr := H1.out.log
        rw [DS.ticked_log] at hr
        simp only [bytes_take]
        exact hr.head hk)
      (H1.out.ok.cutOk k)
    exact ⟨h3.at_, HO1.out.trans ho3⟩
  have e2 := E2.out
  go_wp2_with fail
  all_goals
    go_ret
    exact ⟨rfl, F.out _ (by omega)⟩

theorem may_of (D : DS) (at_ : Int) (hoff : D.off = false) : D.may (D.inn at_) = if D.inn at_ then 0 else 1 := by unfold DS.may; rw [hoff]; rfl

theorem cut_is (h : DiskAt Z w d D) (at_ : Int) : Calls Try.prog 16 #[.pointer (some ⟨d, 0, none⟩), .int .i64 at_] w (Does Z d (D.cut at_) w) := by
  obtain ⟨p, o, f, lv, h⟩ := h
  by_cases hm : D.may (D.inn at_) = 0
  · obtain ⟨hoff, hin⟩ := may_zero hm
    obtain ⟨k1, k2, k3⟩ := h.ok.inn hin
    obtain ⟨k, rfl⟩ : ∃ k : Nat, at_ = D.base + k := ⟨(at_ - D.base).toNat, by omega⟩
    have hk : (D.base + (k : Int) - D.base).toNat = k := by omega
    unfold DS.cut
    rw [if_neg (by rw [hoff]; simp), if_pos hin, hk]
    by_cases hl : D.left = 0
    · rw [if_pos hl]
      have hop : D.oper = 9 := by unfold DS.oper; rw [if_pos hl]
      have I := Lib.hid (in_is h (D.base + k))
      have M : ∀ n, Hid _ := fun n => Lib.hid (may_is (h.drewN n) (D.inn (D.base + k)))
      rw [hm] at M
      have O := Lib.hid (fun n => operation_is (h.drewN n) hoff)
      rw [hop] at O
      have HH := Lib.hid h
      have c0 := cells_all h.sd 0
      clear h hm hop hl hoff hin k1 k2 k3 hk
      go_enter Try.func16, Try.ntmps16
      go_wp2_with fail
      refine I.out.mono ?_
      rintro e w' ⟨rfl, n, rfl⟩
      go_wp2_with fail
      refine (M _).out.mono ?_
      rintro e w' ⟨rfl, rfl⟩
      go_wp2_with fail
      refine (O.out _).mono ?_
      rintro e w1 ⟨rfl, hp1, hg1⟩
      obtain ⟨h1, ho1⟩ := (HH.out.drewN _).ticked hp1 hg1
      have H1 := Lib.hid h1.at_
      have HO1 := Lib.hid ho1.undrewN
      clear hp1 hg1 c0 ho1 M O HH h1 I
      go_wp2_with fail
      go_ret
      exact ⟨rfl, H1.out, HO1.out⟩
    · rw [if_neg hl]
      exact cut_ok h k (by omega) hm hl
  · have hres : ∃ x, D.cut at_ = (x, D) ∧ D.may (D.inn at_) = x := by
      unfold DS.cut DS.may at *
      cases h1 : D.off <;> rw [h1] at hm
      · cases h2 : D.inn at_ <;> rw [h2] at hm
        · exact ⟨1, rfl, rfl⟩
        · exact absurd rfl hm
      · exact ⟨9, rfl, rfl⟩
    obtain ⟨x, h1, h2⟩ := hres
    have hx : (x == 0) = false := beq_eq_false_iff_ne.2 (h2 ▸ hm)
    have hx' : (x != 0) = true := bne_iff_ne.2 (h2 ▸ hm)
    have I := Lib.hid (in_is h at_)
    have M : ∀ n, Hid _ := fun n => Lib.hid (may_is (h.drewN n) (D.inn at_))
    rw [h1]
    rw [h2] at M
    have HH := Lib.hid h
    clear h h1 h2 hm
    go_enter Try.func16, Try.ntmps16
    go_wp2_with (first | (go_at_call 46; refine I.out.mono ?_; rintro e w' ⟨rfl, n, rfl⟩) | (go_at_call 43; refine (M _).out.mono ?_; rintro e w' ⟨rfl, rfl⟩))
    go_ret
    exact ⟨rfl, (HH.out.drewN _).at_, (Out.refl _ w).drewN _⟩

/-- Fuse, of power. -/
theorem pfuse_is (h : Disk0 Z w d p o f lv D) (k : Int) : Calls Try.prog 53 #[.pointer (some ⟨p, 0, none⟩), .int .i64 k] w fun e w' => e = .returned (.tuple #[]) ∧ w' = w.setCell ⟨p, 0, none⟩ (.int .i64 (max (-1) k)) := by
  have c0 := cells_all h.sp 0
  have f0 := frozen_all h.sp 0
  clear h
  by_cases hk : -1 < k
  · go_enter Try.func53, Try.ntmps53
    go_wp2_with fail
    go_end0
    exact ⟨rfl, by first | rfl | rw [show max (-1) k = k from by omega] | rw [show max (-1) k = -1 from by omega]⟩
  · go_enter Try.func53, Try.ntmps53
    go_wp2_with fail
    go_end0
    exact ⟨rfl, by first | rfl | rw [show max (-1) k = k from by omega] | rw [show max (-1) k = -1 from by omega]⟩

theorem fuse_is (h : DiskAt Z w d D) (k : Int) (hk : k ≤ 9223372036854775807) : Calls Try.prog 23 #[.pointer (some ⟨d, 0, none⟩), .int .i64 k] w fun e w' => e = .returned (.tuple #[]) ∧ DiskAt Z w' d (D.fuse k) ∧ Out Z w w' := by
  obtain ⟨p, o, f, lv, h⟩ := h
  have PF := Lib.hid (pfuse_is h k)
  have c0 := cells_all h.sd 0
  have HH := Lib.hid h
  clear h
  go_enter Try.func23, Try.ntmps23
  go_wp2_with fail
  refine PF.out.mono ?_
  rintro e w' ⟨rfl, rfl⟩
  go_wp2_with fail
  go_end0
  have h := HH.out
  have hm := h.map_ne
  have hout : Out Z w (w.setCell ⟨p, 0, none⟩ (.int .i64 (max (-1) k))) := (Out.refl Z w).setCell (Or.inl h.bp) _
  refine ⟨rfl, ⟨p, o, f, lv, heap_far h.sd h.dp _, by simpa [DS.fuse] using heap_set h.sp 0 (.int .i64 (max (-1) k)), h.log.out hout, h.old.out hout Z.sub (Below.heap_setCell _ _ _ _ hm.2.1), h.fresh.out hout Z.sub (Below.heap_setCell _ _ _ _ hm.2.2.2), h.bd, h.bp, h.bo, h.bf, h.top.mono hout.size, h.ne, ?_⟩, hout⟩
  obtain ⟨k1, k2, k3, k4, k5, k6, k7, k8, k9, k10⟩ := h.ok
  exact ⟨k1, k2, k3, k4, k5, k6, by simp only [DS.fuse]; omega, by simp only [DS.fuse]; omega, k9, k10⟩
end
end Go.Proofs.Ytddcojikbcbihaa
