import Derived.Test.YtddcojikbcbihaaD3
import Derived.Deep.RegionLaw
/-! The program's disk: Append. -/
set_option linter.unusedVariables false
namespace Go.Proofs.Ytddcojikbcbihaa
open Go.RowKit

section
variable {Z : Zone} {w : World} {d p o f : Nat} {lv : Value} {D : DS}

def AppendOk (Z : Zone) (d : Nat) (x : Int × Int × DS) (w : World) (e : Ending) (w' : World) : Prop :=
  e = .returned (.tuple #[.int .i64 x.1, .int .i64 x.2.1]) ∧ DiskAt Z w' d x.2.2 ∧ Out Z w w'

theorem Disk0.at_ (h : Disk0 Z w d p o f lv D) : DiskAt Z w d D := ⟨p, o, f, lv, h⟩

/-- The disk behind a store of a log. -/
theorem Disk0.setLog {lv' : Value} {L : List UInt8} (h : Disk0 Z w d p o f lv D) (hr : Row Z w lv' (bytes L)) (h1 : D.sure ≤ L.length) (h2 : L.length ≤ D.most) :
    Disk0 Z (w.setCell ⟨d, 5, none⟩ lv') d p o f lv' { D with log := L } ∧ Out Z w (w.setCell ⟨d, 5, none⟩ lv') := by
  have hout : Out Z w (w.setCell ⟨d, 5, none⟩ lv') := (Out.refl Z w).setCell (Or.inl h.bd) _
  have hm := h.map_ne
  refine ⟨⟨?_, heap_far h.sp (fun e => h.dp e.symm) _, hr.out hout, h.old.out hout Z.sub (Below.heap_setCell _ _ _ _ hm.1), h.fresh.out hout Z.sub (Below.heap_setCell _ _ _ _ hm.2.2.1), h.bd, h.bp, h.bo, h.bf, h.top.mono hout.size, h.ne, ?_⟩, hout⟩
  · simpa using heap_set h.sd 5 lv'
  · obtain ⟨k1, k2, k3, k4, k5, k6, k7, k8, k9, k10⟩ := h.ok
    exact ⟨k1, k2, k3, k4, h1, h2, k7, k8, k9, k10⟩

set_option maxRecDepth 100000 in
set_option maxHeartbeats 2000000 in
theorem append_ok (h : Disk0 Z w d p o f lv D) {Z2 : Zone} (hZ2 : ∀ k, Z.S k → Z2.T k) (s : Value) (b : List UInt8) (hs : Row Z2 w s (bytes b)) (hoff : D.off = false) (hroom : D.log.length + b.length ≤ D.most) (hl : D.left ≠ 0) :
    Calls Try.prog 13 #[.pointer (some ⟨d, 0, none⟩), s] w (AppendOk Z d (D.fin, 0, { D.ticked with log := D.log ++ b }) w) := by
  obtain ⟨A, c, rfl, hc, _⟩ := h.log.form
  obtain ⟨B, m, rfl, hm, hm2⟩ := hs.form
  have hmay : D.may true = 0 := by unfold DS.may; rw [hoff]; rfl
  have hop : D.oper = 0 := by unfold DS.oper; rw [if_neg hl]
  have M := Lib.hid (may_is h true)
  rw [hmay] at M
  have O := Lib.hid (fun n => operation_is (h.drewN n) hoff)
  rw [hop] at O
  have HH := Lib.hid h
  have HS := Lib.hid hs
  have HZ2 := Lib.hid hZ2
  clear hZ2
  have c0 := cells_all h.sd 0
  have c1 := cells_all h.sd 1
  have c5 := cells_all h.sd 5
  have k5 := h.ok.most
  have k6 := h.ok.sure
  clear h hs hmay hop hm2
  go_enter Try.func13, Try.ntmps13
  go_wp2_with fail
  refine M.out.mono ?_
  rintro e w' ⟨rfl, rfl⟩
  go_wp2_with fail
  go_quiet (fail)
  go_wp2_with fail
  refine (O.out _).mono ?_
  rintro e w1 ⟨rfl, hp1, hg1⟩
  obtain ⟨h1, ho1⟩ := (HH.out.drewN _).ticked hp1 hg1
  have H1 := Lib.hid h1
  have HO1 := Lib.hid ho1.undrewN
  clear hp1 hg1 c0 c1 c5 ho1 M O HH
  have E := Lib.hid (end_is h1)
  rw [DS.ticked_fin] at E
  have c5 := cells_all h1.sd 5
  have f5 := frozen_all h1.sd 5
  clear h1
  go_wp2_with fail
  refine E.out.mono ?_
  rintro e w' ⟨rfl, n2, rfl⟩
  go_wp2_with fail
  have T1 := Lib.hid H1.out.top
  have R1 := Lib.hid (((H1.out.drewN (n2 + 1)).log).tight)
  rw [DS.ticked_log] at R1
  have RS := Lib.hid (HS.out.far (HO1.out.drewN (n2 + 1)) HZ2.out).any
  have b1 : (bytes D.log).length + (bytes b).length ≤ 140737488355328 := by rw [length_bytes, length_bytes]; omega
  have B1 := Lib.hid (le_maxLen b1)
  have B2 := Lib.hid (show ((bytes D.log).length + (bytes b).length) * 1 ≤ 140737488355328 by rw [Nat.mul_one]; exact b1)
  clear b1
  go_region_law (refine step_append_tight rfl _ _ 22 rfl elem22 Z (by exact T1.out) (bytes D.log) (bytes b) (by exact R1.out) (by exact RS.out) (by exact cap_bytes _ _) B1.out B2.out ?_; intro v' w' ho hr; obtain ⟨A2, x2, rfl, _, _⟩ := hr.form0; have HO := Lib.hid ho.undrewN; have HV := Lib.hid hr; have g := HO.out.get H1.out.sd (id); have c5' := cells_all g 5; have f5' := frozen_all g 5; clear ho hr g)
  all_goals
    go_wp2_with fail
    go_ret2
    obtain ⟨h3, ho3⟩ := (H1.out.any HO.out).setLog (L := D.log ++ b) (by rw [bytes_append]; exact HV.out) (by rw [DS.ticked_sure, List.length_append]; omega) (by rw [DS.ticked_most, List.length_append]; exact hroom)
    have el : (bytes D.log ++ bytes b).length = D.log.length + b.length := by simp
    rw [el] at h3 ho3
    exact ⟨rfl, h3.at_, (HO1.out.trans HO.out.mono0).trans ho3⟩

/-- A call that fails: the error, and the disk behind a tick, perhaps. -/
theorem append_err (h : Disk0 Z w d p o f lv D) {Z2 : Zone} (s : Value) (b : List UInt8) (hs : Row Z2 w s (bytes b)) (hb : b.length ≤ 140737488355328) (hoff : D.off = true) :
    Calls Try.prog 13 #[.pointer (some ⟨d, 0, none⟩), s] w (AppendOk Z d (0, 9, D) w) := by
  have hmay : D.may true = 9 := by unfold DS.may; rw [hoff]; rfl
  have M := Lib.hid (may_is h true)
  rw [hmay] at M
  have HH := Lib.hid h.at_
  clear h hmay hs hb
  go_enter Try.func13, Try.ntmps13
  go_wp2_with (go_at_call 43; refine M.out.mono ?_; rintro e w' ⟨rfl, rfl⟩)
  go_ret2
  exact ⟨rfl, HH.out, Out.refl _ _⟩

theorem append_full (h : Disk0 Z w d p o f lv D) {Z2 : Zone} (s : Value) (b : List UInt8) (hs : Row Z2 w s (bytes b)) (hb : b.length ≤ 140737488355328) (hoff : D.off = false) (hroom : D.most < D.log.length + b.length) :
    Calls Try.prog 13 #[.pointer (some ⟨d, 0, none⟩), s] w (AppendOk Z d (0, 7, D) w) := by
  obtain ⟨A, c, rfl, hc, _⟩ := h.log.form
  obtain ⟨B, m, rfl, hm, hm2⟩ := hs.form
  have hmay : D.may true = 0 := by unfold DS.may; rw [hoff]; rfl
  have M := Lib.hid (may_is h true)
  rw [hmay] at M
  have HH := Lib.hid h
  have c1 := cells_all h.sd 1
  have c5 := cells_all h.sd 5
  have k5 := h.ok.most
  have k6 := h.ok.log
  clear h hs hmay hm2
  go_enter Try.func13, Try.ntmps13
  go_wp2_with (go_at_call 43; refine M.out.mono ?_; rintro e w' ⟨rfl, rfl⟩)
  go_quiet (fail)
  go_wp2_with fail
  go_ret2
  exact ⟨rfl, (HH.out.drewN _).at_, (Out.refl Z w).drewN _⟩

theorem append_dead (h : Disk0 Z w d p o f lv D) {Z2 : Zone} (s : Value) (b : List UInt8) (hs : Row Z2 w s (bytes b)) (hoff : D.off = false) (hroom : D.log.length + b.length ≤ D.most) (hl : D.left = 0) :
    Calls Try.prog 13 #[.pointer (some ⟨d, 0, none⟩), s] w (AppendOk Z d (0, 9, D.ticked) w) := by
  obtain ⟨A, c, rfl, hc, _⟩ := h.log.form
  obtain ⟨B, m, rfl, hm, hm2⟩ := hs.form
  have hmay : D.may true = 0 := by unfold DS.may; rw [hoff]; rfl
  have hop : D.oper = 9 := by unfold DS.oper; rw [if_pos hl]
  have M := Lib.hid (may_is h true)
  rw [hmay] at M
  have O := Lib.hid (fun n => operation_is (h.drewN n) hoff)
  rw [hop] at O
  have HH := Lib.hid h
  have c0 := cells_all h.sd 0
  have c1 := cells_all h.sd 1
  have c5 := cells_all h.sd 5
  have k5 := h.ok.most
  clear h hs hmay hop hm2 hl
  go_enter Try.func13, Try.ntmps13
  go_wp2_with fail
  refine M.out.mono ?_
  rintro e w' ⟨rfl, rfl⟩
  go_wp2_with fail
  go_quiet (fail)
  go_wp2_with fail
  refine (O.out _).mono ?_
  rintro e w1 ⟨rfl, hp1, hg1⟩
  obtain ⟨h1, ho1⟩ := (HH.out.drewN _).ticked hp1 hg1
  have H1 := Lib.hid h1.at_
  have HO1 := Lib.hid ho1.undrewN
  clear hp1 hg1 c0 c1 c5 ho1 M O HH h1
  go_wp2_with fail
  go_ret2
  exact ⟨rfl, H1.out, HO1.out⟩

theorem append_is2 (h : DiskAt Z w d D) {Z2 : Zone} (hZ2 : ∀ k, Z.S k → Z2.T k) (s : Value) (b : List UInt8) (hs : Row Z2 w s (bytes b)) (hb : b.length ≤ 140737488355328) :
    Calls Try.prog 13 #[.pointer (some ⟨d, 0, none⟩), s] w (AppendOk Z d (D.append b) w) := by
  obtain ⟨p, o, f, lv, h⟩ := h
  unfold DS.append
  by_cases h1 : D.off = true
  · rw [if_pos h1]; exact append_err h s b hs hb h1
  · have h1' : D.off = false := by simpa using h1
    rw [if_neg h1]
    by_cases h2 : D.most < D.log.length + b.length
    · rw [if_pos h2]; exact append_full h s b hs hb h1' h2
    · rw [if_neg h2]
      by_cases h3 : D.left = 0
      · rw [if_pos h3]; exact append_dead h s b hs h1' (by omega) h3
      · rw [if_neg h3]; exact append_ok h hZ2 s b hs h1' (by omega) h3

theorem append_is (h : DiskAt Z w d D) (s : Value) (b : List UInt8) (hs : Row Z w s (bytes b)) (hb : b.length ≤ 140737488355328) :
    Calls Try.prog 13 #[.pointer (some ⟨d, 0, none⟩), s] w (AppendOk Z d (D.append b) w) := append_is2 h Z.sub s b hs hb
end
end Go.Proofs.Ytddcojikbcbihaa
