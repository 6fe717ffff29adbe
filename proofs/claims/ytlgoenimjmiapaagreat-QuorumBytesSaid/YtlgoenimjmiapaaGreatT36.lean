import Derived.Test.YtlgoenimjmiapaaGreatT23
import Derived.Laws.StructEq
import Derived.BigQuiet
import Derived.Test.YtlgoenimjmiapaaGreatT33
import Derived.Test.YtlgoenimjmiapaaGreatT34
import Derived.Test.YtlgoenimjmiapaaGreatT30
import Derived.Test.YtlgoenimjmiapaaGreatT35
import Derived.Test.YtlgoenimjmiapaaGreatT21
import Derived.Deep.RegionHeld3
import Derived.Deep.CutBlock
set_option linter.unusedSimpArgs false
set_option linter.unusedVariables false
set_option linter.unusedSectionVars false
/-! QuorumBytes, walked. -/
set_option linter.unusedVariables false
set_option linter.unusedSimpArgs false
namespace Go.Proofs.YtlgoenimjmiapaaGreat
open Go.RowKit

theorem Owns.bytes {b : Nat} {w : World} {v : Value} {L : List UInt8} (h : Owns b w v L) : Row Zone.no w v (bytes L) := h.row (fun _ _ h => h)

theorem eqf34 (N : Nat) (d : Int) (s : ByteArray) (w : World) : (Op.equalIn (N + 2) 34 (.agg #[.int .i64 d, .string s]) (.agg #[.int .i64 d, .string s])).run Tryz.prog w = .ok true w := by
  have u3 := Tryz.underlying3
  have a3 := Tryz.isAgg3
  have z3 := Tryz.sizeOf3
  have u9 := Tryz.underlying9
  have a9 := Tryz.isAgg9
  have z9 := Tryz.sizeOf9
  have hS : Tryz.prog.underlying 34 = some (.struct (Tryz.prog.fieldsOf 34)) := by kernel_rfl
  have hp : Tryz.prog.stoodInHeld 34 = false := by kernel_rfl
  rw [run_equalIn_agg w (N + 1) 34 _ _ hS hp]
  simp only [Program.fieldsOf, Tryz.underlying34]
  go_simp
theorem eqf36 (N : Nat) (a b c d : Int) (s : ByteArray) (w : World) : (Op.equalIn (N + 3) 36 (.agg #[.int .i64 a, .int .i64 b, .int .i64 c, .int .i64 d, .string s]) (.agg #[.int .i64 a, .int .i64 b, .int .i64 c, .int .i64 d, .string s])).run Tryz.prog w = .ok true w := by
  have u3 := Tryz.underlying3
  have a3 := Tryz.isAgg3
  have z3 := Tryz.sizeOf3
  have u34 := Tryz.underlying34
  have a34 := Tryz.isAgg34
  have z34 := Tryz.sizeOf34
  have e34 := eqf34 N d s w
  have hS : Tryz.prog.underlying 36 = some (.struct (Tryz.prog.fieldsOf 36)) := by kernel_rfl
  have hp : Tryz.prog.stoodInHeld 36 = false := by kernel_rfl
  rw [run_equalIn_agg w (N + 2) 36 _ _ hS hp]
  simp only [Program.fieldsOf, Tryz.underlying36]
  go_simp
@[go_sem] theorem eq36 (a b c d : Int) (s : ByteArray) (w : World) : (Op.equalIn 10000 36 (.agg #[.int .i64 a, .int .i64 b, .int .i64 c, .int .i64 d, .string s]) (.agg #[.int .i64 a, .int .i64 b, .int .i64 c, .int .i64 d, .string s])).run Tryz.prog w = .ok true w := eqf36 9997 a b c d s w

theorem gmsg_len (L : List UInt8) : (gmsg L).1.log.length ≤ 2048 := by
  unfold gmsg
  simp only
  split
  · simp [zmsg]
  · unfold gfin
    split
    · rename_i h
      have := (Msg.right_nums h.2).2.2
      exact this
    · simp [zmsg]

set_option maxRecDepth 100000 in
set_option maxHeartbeats 4000000 in
theorem qbytes_is (w : World) (k ep n ee : Int) (d : List UInt8) (hd : d.length ≤ 9223372036854775807) (m : Msg) (vm : Value) (hm : RRow (fun _ => False) w vm m.log.length 2 (encL m.log)) (hml : (m.log.length + 1) * 24 ≤ 140737488355328) (hf : Fits m.log)
    (vb vc : Value) (Lb Lc : List UInt8) (hb : Row Zone.no w vb (bytes Lb)) (hc : Row Zone.no w vc (bytes Lc)) (lb : Lb.length ≤ 140737488351232) (lc : Lc.length ≤ 140737488351232) :
    Calls Tryz.prog 3 #[.agg #[.int .i64 k, .int .i64 ep, .int .i64 n, .int .i64 ee, .string (str d)], .agg (m.cells vm).toArray, vb, vc] w fun e w' => e = .returned (.bool true) ∧ Out Zone.no w w' := by
  obtain ⟨kd, fr, tt, me, ma, ml, mc, l⟩ := m
  simp only at hm hml hf
  obtain ⟨A, c, rfl, _, _⟩ := hm.form
  show Calls Tryz.prog 3 #[.agg #[.int .i64 k, .int .i64 ep, .int .i64 n, .int .i64 ee, .string (str d)], .agg #[.int .i64 kd, .int .i64 fr, .int .i64 tt, .int .i64 me, .int .i64 ma, .int .i64 ml, .int .i64 mc, .slice A l.length c], vb, vc] w _
  obtain ⟨B, hB⟩ : ∃ B, w.heap.size = B := ⟨_, rfl⟩
  have K4b : Hid (∀ W, Out Zone.no w W → Calls Tryz.prog 4 #[vb] W fun e w' => ∃ v', e = .returned v' ∧ LentAt W.heap.size w' v' Lb ∧ Out Zone.no W w') := fun W ho => lent_is W vb Lb (hb.out ho) lb
  have K6 : Hid (∀ W k ep n ee d, Calls Tryz.prog 6 #[.agg #[.int .i64 k, .int .i64 ep, .int .i64 n, .int .i64 ee, .string (str d)]] W fun e w' => e = .returned (.agg #[.int .i64 k, .int .i64 ep, .int .i64 n, .int .i64 ee, .string (str d)]) ∧ Out Zone.no W w') := fun W k ep n ee d => lnote_is W k ep n ee d
  have K5 : Hid (∃ E P, (∀ W, Calls Tryz.prog 5 #[.agg #[.int .i64 k, .int .i64 ep, .int .i64 n, .int .i64 ee, .string (str d)]] W fun e w' => ∃ v, e = .returned (.tuple #[v, .int .i64 E]) ∧ Owns W.heap.size w' v P ∧ Out Zone.no W w') ∧ ∀ W, Calls Tryz.prog 7 #[.agg #[.int .i64 k, .int .i64 ep, .int .i64 n, .int .i64 ee, .string (str d)]] W fun e w' => ∃ v, e = .returned (.tuple #[v, .int .i64 E]) ∧ Owns W.heap.size w' v P ∧ Out Zone.no W w') :=
    ⟨_, _, fun W => pnote_is W k ep n ee d hd, fun W => rpnote_is W k ep n ee d hd⟩
  have K8 : Hid (∃ g1 g2 g3 g4 gd GE, (∀ W v, Row Zone.no W v (bytes Lb) → Calls Tryz.prog 8 #[v] W fun e w' => e = .returned (.tuple #[.agg #[.int .i64 g1, .int .i64 g2, .int .i64 g3, .int .i64 g4, .string (str gd)], .int .i64 GE]) ∧ Out Zone.no W w') ∧ ∀ W v, Row Zone.no W v (bytes Lb) → Calls Tryz.prog 9 #[v] W fun e w' => e = .returned (.tuple #[.agg #[.int .i64 g1, .int .i64 g2, .int .i64 g3, .int .i64 g4, .string (str gd)], .int .i64 GE]) ∧ Out Zone.no W w') :=
    ⟨_, _, _, _, _, _, fun W v h => gnote_is W v Lb h (by omega), fun W v h => rgnote_is W v Lb h (by omega)⟩
  obtain ⟨E1, P1, K5, K7⟩ := K5.out
  obtain ⟨g1, g2, g3, g4, gd, GE, K8, K9⟩ := K8.out
  have K5 := Lib.hid K5
  have K7 := Lib.hid K7
  have K8 := Lib.hid K8
  have K9 := Lib.hid K9
  have HRB := Lib.hid hb
  have HRC := Lib.hid hc
  have HRM := Lib.hid hm
  have HFI := Lib.hid hf
  obtain ⟨W0, hW0⟩ : ∃ W0, (w.alloc (.cells #[.int .i64 k, .int .i64 ep, .int .i64 n, .int .i64 ee, .string (str d)] 25)).alloc (.cells #[.int .i64 kd, .int .i64 fr, .int .i64 tt, .int .i64 me, .int .i64 ma, .int .i64 ml, .int .i64 mc, .slice A l.length c] 28) = W0 := ⟨_, rfl⟩
  have OO : Hid (Out Zone.no w W0) := by rw [← hW0]; exact ((Out.refl _ _).alloc _).alloc _
  have HT0 : Hid (W0.heap[B]? = some (.cells #[.int .i64 k, .int .i64 ep, .int .i64 n, .int .i64 ee, .string (str d)] 25 (0, 0))) := by
    rw [← hW0, ← hB]; exact heap_alloc' (heap_alloc_new w _) _
  have HM0 : Hid (W0.heap[B + 1]? = some (.cells #[.int .i64 kd, .int .i64 fr, .int .i64 tt, .int .i64 me, .int .i64 ma, .int .i64 ml, .int .i64 mc, .slice A l.length c] 28 (0, 0))) := by
    rw [← hW0, ← hB]
    have := heap_alloc_new (w.alloc (.cells #[.int .i64 k, .int .i64 ep, .int .i64 n, .int .i64 ee, .string (str d)] 25)) (.cells #[.int .i64 kd, .int .i64 fr, .int .i64 tt, .int .i64 me, .int .i64 ma, .int .i64 ml, .int .i64 mc, .slice A l.length c] 28)
    rw [show (w.alloc (.cells #[.int .i64 k, .int .i64 ep, .int .i64 n, .int .i64 ee, .string (str d)] 25)).heap.size = w.heap.size + 1 from by simp] at this
    exact this
  have OW : Hid (Out Zone.no W0 W0) := Out.refl _ _
  have CT : Hid (∀ W, Out Zone.no W0 W → W.cell? ⟨B, 0, none⟩ = some (.int .i64 k) ∧ W.cell? ⟨B, 1, none⟩ = some (.int .i64 ep) ∧ W.cell? ⟨B, 2, none⟩ = some (.int .i64 n) ∧ W.cell? ⟨B, 3, none⟩ = some (.int .i64 ee) ∧ W.cell? ⟨B, 4, none⟩ = some (.string (str d)) ∧
      W.cell? ⟨B + 1, 0, none⟩ = some (.int .i64 kd) ∧ W.cell? ⟨B + 1, 1, none⟩ = some (.int .i64 fr) ∧ W.cell? ⟨B + 1, 2, none⟩ = some (.int .i64 tt) ∧ W.cell? ⟨B + 1, 3, none⟩ = some (.int .i64 me) ∧ W.cell? ⟨B + 1, 4, none⟩ = some (.int .i64 ma) ∧ W.cell? ⟨B + 1, 5, none⟩ = some (.int .i64 ml) ∧ W.cell? ⟨B + 1, 6, none⟩ = some (.int .i64 mc) ∧ W.cell? ⟨B + 1, 7, none⟩ = some (.slice A l.length c)) := fun W ho => by
    have h1 := ho.get HT0.out id
    have h2 := ho.get HM0.out id
    exact ⟨cells_all h1 0, cells_all h1 1, cells_all h1 2, cells_all h1 3, cells_all h1 4, cells_all h2 0, cells_all h2 1, cells_all h2 2, cells_all h2 3, cells_all h2 4, cells_all h2 5, cells_all h2 6, cells_all h2 7⟩
  obtain ⟨t0, t1, t2, t3, t4, m0, m1, m2, m3, m4, m5, m6, m7⟩ := CT.out _ OW.out
  have K4c : Hid (∀ W, Out Zone.no w W → Calls Tryz.prog 4 #[vc] W fun e w' => ∃ v', e = .returned v' ∧ LentAt W.heap.size w' v' Lc ∧ Out Zone.no W w') := fun W ho => lent_is W vc Lc (hc.out ho) lc
  have K13 : Hid (∀ W, Out Zone.no w W → Calls Tryz.prog 13 #[.agg #[.int .i64 kd, .int .i64 fr, .int .i64 tt, .int .i64 me, .int .i64 ma, .int .i64 ml, .int .i64 mc, .slice A l.length c]] W fun e w' => ∃ A3 c3, e = .returned (.agg #[.int .i64 kd, .int .i64 fr, .int .i64 tt, .int .i64 me, .int .i64 ma, .int .i64 ml, .int .i64 mc, .slice A3 l.length c3]) ∧ RRow (fun _ => False) w' (.slice A3 l.length c3) l.length 2 (encL l) ∧ Out Zone.no W w') := fun W ho => by
    refine (msg_is W _ ⟨kd, fr, tt, me, ma, ml, mc, l⟩ _ (hm.any ho) hml).mono ?_
    rintro e w' ⟨A3, c3, rfl, hg, ho2, _⟩
    exact ⟨A3, c3, rfl, GRow.reads hg (fun _ _ h => h), ho2⟩
  have KPM : Hid (∃ E P, (∀ W A3 c3, RRow (fun _ => False) W (.slice A3 l.length c3) l.length 2 (encL l) → Calls Tryz.prog 12 #[.agg #[.int .i64 kd, .int .i64 fr, .int .i64 tt, .int .i64 me, .int .i64 ma, .int .i64 ml, .int .i64 mc, .slice A3 l.length c3]] W fun e w' => ∃ v, e = .returned (.tuple #[v, .int .i64 E]) ∧ Owns W.heap.size w' v P ∧ Out Zone.no W w') ∧ ∀ W, Out Zone.no w W → Calls Tryz.prog 14 #[.agg #[.int .i64 kd, .int .i64 fr, .int .i64 tt, .int .i64 me, .int .i64 ma, .int .i64 ml, .int .i64 mc, .slice A l.length c]] W fun e w' => ∃ v, e = .returned (.tuple #[v, .int .i64 E]) ∧ Owns W.heap.size w' v P ∧ Out Zone.no W w') :=
    ⟨_, _, fun W A3 c3 h => pmsg_is W _ ⟨kd, fr, tt, me, ma, ml, mc, l⟩ _ h (by show l.length ≤ _; omega) hf, fun W ho => rpmsg_is W _ ⟨kd, fr, tt, me, ma, ml, mc, l⟩ _ (hm.any ho) (by show l.length ≤ _; omega) hf⟩
  have KGM : Hid (∃ u1 u2 u3 u4 u5 u6 u7, ∃ ul : List Ent, ∃ GE2 : Int, ul.length ≤ 2048 ∧ (∀ W v, Row Zone.no W v (bytes Lc) → Calls Tryz.prog 15 #[v] W fun e w' => ∃ Au cu, e = .returned (.tuple #[.agg #[.int .i64 u1, .int .i64 u2, .int .i64 u3, .int .i64 u4, .int .i64 u5, .int .i64 u6, .int .i64 u7, .slice Au ul.length cu], .int .i64 GE2]) ∧ RRow (fun _ => False) w' (.slice Au ul.length cu) ul.length 2 (encL ul) ∧ Out Zone.no W w') ∧ ∀ W v, Row Zone.no W v (bytes Lc) → Calls Tryz.prog 16 #[v] W fun e w' => ∃ Au cu, e = .returned (.tuple #[.agg #[.int .i64 u1, .int .i64 u2, .int .i64 u3, .int .i64 u4, .int .i64 u5, .int .i64 u6, .int .i64 u7, .slice Au ul.length cu], .int .i64 GE2]) ∧ RRow (fun _ => False) w' (.slice Au ul.length cu) ul.length 2 (encL ul) ∧ Out Zone.no W w') :=
    ⟨_, _, _, _, _, _, _, (gmsg Lc).1.log, _, gmsg_len Lc, fun W v h => gmsg_is W v Lc h (by omega), fun W v h => rgmsg_is W v Lc h (by omega)⟩
  obtain ⟨E2, P2, K12, K14⟩ := KPM.out
  obtain ⟨u1, u2, u3, u4, u5, u6, u7, ul, GE2, hul, K15, K16⟩ := KGM.out
  have K12 := Lib.hid K12
  have K14 := Lib.hid K14
  have K15 := Lib.hid K15
  have K16 := Lib.hid K16
  clear hb hc hm hf hd KPM KGM
  go_enter Tryz.func3, Tryz.ntmps3
  go_wp2_with (first
    | (go_at_call 4; refine (K4b.out _ OO.out).mono ?_; rintro e wn ⟨v1, rfl, hlt, ho⟩; have HLT := Lib.hid hlt; clear hlt; have OO := Lib.hid (OO.out.trans ho); have OW := Lib.hid (OW.out.trans ho); obtain ⟨t0, t1, t2, t3, t4, m0, m1, m2, m3, m4, m5, m6, m7⟩ := CT.out _ OW.out; clear ho)
    | (go_at_call 6; refine (K6.out _ _ _ _ _ _).mono ?_; rintro e wn ⟨rfl, ho⟩; have HLT := Lib.hid (HLT.out.out ho); have OO := Lib.hid (OO.out.trans ho); have OW := Lib.hid (OW.out.trans ho); obtain ⟨t0, t1, t2, t3, t4, m0, m1, m2, m3, m4, m5, m6, m7⟩ := CT.out _ OW.out; clear ho)
    | (go_at_call 5; refine (K5.out _).mono ?_; rintro e wn ⟨p1, rfl, hp, ho⟩; have HLT := Lib.hid (HLT.out.out ho); have HP := Lib.hid hp; clear hp; have OO := Lib.hid (OO.out.trans ho); have OW := Lib.hid (OW.out.trans ho); obtain ⟨t0, t1, t2, t3, t4, m0, m1, m2, m3, m4, m5, m6, m7⟩ := CT.out _ OW.out; clear ho)
    | (go_at_call 7; refine (K7.out _).mono ?_; rintro e wn ⟨q1, rfl, hp, ho⟩; have HLT := Lib.hid (HLT.out.out ho); have HP := Lib.hid (HP.out.out ho (fun _ _ h => h)); have HQ := Lib.hid hp; clear hp; have OO := Lib.hid (OO.out.trans ho); have OW := Lib.hid (OW.out.trans ho); obtain ⟨t0, t1, t2, t3, t4, m0, m1, m2, m3, m4, m5, m6, m7⟩ := CT.out _ OW.out; clear ho)
    | (go_at_call 8; refine (K8.out _ _ HLT.out.row).mono ?_; rintro e w5 ⟨rfl, ho⟩; have HLT := Lib.hid (HLT.out.out ho); have HP := Lib.hid (HP.out.out ho (fun _ _ h => h)); have HQ := Lib.hid (HQ.out.out ho (fun _ _ h => h)); have OO := Lib.hid (OO.out.trans ho); have OW := Lib.hid (OW.out.trans ho); have oa : Out Zone.no w5 (w5.alloc (.cells #[.int .i64 g1, .int .i64 g2, .int .i64 g3, .int .i64 g4, .string (str gd)] 36)) := (Out.refl _ _).alloc _; have HLT := Lib.hid (HLT.out.out oa); have HP := Lib.hid (HP.out.out oa (fun _ _ h => h)); have HQ := Lib.hid (HQ.out.out oa (fun _ _ h => h)); have OO := Lib.hid (OO.out.trans oa); have OW := Lib.hid (OW.out.trans oa); have OX : Hid (Out Zone.no (w5.alloc (.cells #[.int .i64 g1, .int .i64 g2, .int .i64 g3, .int .i64 g4, .string (str gd)] 36)) (w5.alloc (.cells #[.int .i64 g1, .int .i64 g2, .int .i64 g3, .int .i64 g4, .string (str gd)] 36))) := Out.refl _ _; have CX : Hid (∀ W, Out Zone.no (w5.alloc (.cells #[.int .i64 g1, .int .i64 g2, .int .i64 g3, .int .i64 g4, .string (str gd)] 36)) W → W.cell? ⟨w5.heap.size, 0, none⟩ = some (.int .i64 g1) ∧ W.cell? ⟨w5.heap.size, 1, none⟩ = some (.int .i64 g2) ∧ W.cell? ⟨w5.heap.size, 2, none⟩ = some (.int .i64 g3) ∧ W.cell? ⟨w5.heap.size, 3, none⟩ = some (.int .i64 g4) ∧ W.cell? ⟨w5.heap.size, 4, none⟩ = some (.string (str gd))) := (fun W ho => by have h1 := ho.get (heap_alloc_new w5 _) id; exact ⟨cells_all h1 0, cells_all h1 1, cells_all h1 2, cells_all h1 3, cells_all h1 4⟩); obtain ⟨t0, t1, t2, t3, t4, m0, m1, m2, m3, m4, m5, m6, m7⟩ := CT.out _ OW.out; obtain ⟨x0, x1, x2, x3, x4⟩ := CX.out _ OX.out; clear ho oa)
    | (go_at_call 9; refine (K9.out _ _ (HRB.out.out OO.out)).mono ?_; rintro e w6 ⟨rfl, ho⟩; have HLT := Lib.hid (HLT.out.out ho); have HP := Lib.hid (HP.out.out ho (fun _ _ h => h)); have HQ := Lib.hid (HQ.out.out ho (fun _ _ h => h)); have OO := Lib.hid (OO.out.trans ho); have OW := Lib.hid (OW.out.trans ho); have OX := Lib.hid (OX.out.trans ho); have oa : Out Zone.no w6 (w6.alloc (.cells #[.int .i64 g1, .int .i64 g2, .int .i64 g3, .int .i64 g4, .string (str gd)] 25)) := (Out.refl _ _).alloc _; have HLT := Lib.hid (HLT.out.out oa); have HP := Lib.hid (HP.out.out oa (fun _ _ h => h)); have HQ := Lib.hid (HQ.out.out oa (fun _ _ h => h)); have OO := Lib.hid (OO.out.trans oa); have OW := Lib.hid (OW.out.trans oa); have OX := Lib.hid (OX.out.trans oa); have OY : Hid (Out Zone.no (w6.alloc (.cells #[.int .i64 g1, .int .i64 g2, .int .i64 g3, .int .i64 g4, .string (str gd)] 25)) (w6.alloc (.cells #[.int .i64 g1, .int .i64 g2, .int .i64 g3, .int .i64 g4, .string (str gd)] 25))) := Out.refl _ _; have CY : Hid (∀ W, Out Zone.no (w6.alloc (.cells #[.int .i64 g1, .int .i64 g2, .int .i64 g3, .int .i64 g4, .string (str gd)] 25)) W → W.cell? ⟨w6.heap.size, 0, none⟩ = some (.int .i64 g1) ∧ W.cell? ⟨w6.heap.size, 1, none⟩ = some (.int .i64 g2) ∧ W.cell? ⟨w6.heap.size, 2, none⟩ = some (.int .i64 g3) ∧ W.cell? ⟨w6.heap.size, 3, none⟩ = some (.int .i64 g4) ∧ W.cell? ⟨w6.heap.size, 4, none⟩ = some (.string (str gd))) := (fun W ho => by have h1 := ho.get (heap_alloc_new w6 _) id; exact ⟨cells_all h1 0, cells_all h1 1, cells_all h1 2, cells_all h1 3, cells_all h1 4⟩); obtain ⟨t0, t1, t2, t3, t4, m0, m1, m2, m3, m4, m5, m6, m7⟩ := CT.out _ OW.out; obtain ⟨x0, x1, x2, x3, x4⟩ := CX.out _ OX.out; obtain ⟨y0, y1, y2, y3, y4⟩ := CY.out _ OY.out; clear ho oa)
    | fail)
  have OD : Hid (Out Zone.no (w6.alloc (.cells #[.int .i64 g1, .int .i64 g2, .int .i64 g3, .int .i64 g4, .string (str gd)] 25)) (w6.alloc (.cells #[.int .i64 g1, .int .i64 g2, .int .i64 g3, .int .i64 g4, .string (str gd)] 25)).drew) := (Out.refl _ _).drew
  obtain ⟨S, f, hPf, hsur⟩ := class_of (fun W => Out Zone.no (w6.alloc (.cells #[.int .i64 g1, .int .i64 g2, .int .i64 g3, .int .i64 g4, .string (str gd)] 25)).drew W)
  haveI : Nonempty S := (hsur _ (Out.refl _ _)).elim fun s _ => ⟨s⟩
  have HPf := Lib.hid hPf
  have s1 := fun m : S => string_of (HP.out.bytes.out (OD.out.trans (hPf m)))
  have s2 := fun m : S => string_of (HQ.out.bytes.out (OD.out.trans (hPf m)))
  have N10 : Hid (∀ (z : Int) (m : S), Calls Tryz.prog 10 #[.int .i64 z] (f m) fun e w'' => e = .returned (.int .i64 z) ∧ ∃ k : S, w'' = f k) := fun z m => (num_is (f m) z).mono (fun e w' ⟨h1, h2⟩ => ⟨h1, m, h2.symm⟩)
  have N6 : Hid (∀ m : S, Calls Tryz.prog 6 #[.agg #[.int .i64 g1, .int .i64 g2, .int .i64 g3, .int .i64 g4, .string (str gd)]] (f m) fun e w'' => e = .returned (.agg #[.int .i64 g1, .int .i64 g2, .int .i64 g3, .int .i64 g4, .string (str gd)]) ∧ ∃ k : S, w'' = f k) := fun m => (K6.out (f m) g1 g2 g3 g4 gd).mono (fun e w' ⟨h1, h2⟩ => ⟨h1, hsur _ ((HPf.out m).trans h2)⟩)
  have N11 : Hid (∀ m : S, Calls Tryz.prog 11 #[v1, vb] (f m) fun e w'' => e = .returned (.bool true) ∧ ∃ k : S, w'' = f k) := fun m => (stays_is (f m) _ v1 vb Lb (HLT.out.out (OD.out.trans (HPf.out m))) (HRB.out.out (OO.out.trans (OD.out.trans (HPf.out m)))) lb).mono (fun e w' ⟨h1, n, h2⟩ => ⟨h1, hsur _ (h2 ▸ (HPf.out m).drewN n)⟩)
  have x0' := fun m : S => (show (f m).cell? ⟨w5.heap.size, 0, none⟩ = some (.int .i64 g1) from (hPf m).cell x0 id)
  have x1' := fun m : S => (show (f m).cell? ⟨w5.heap.size, 1, none⟩ = some (.int .i64 g2) from (hPf m).cell x1 id)
  have x2' := fun m : S => (show (f m).cell? ⟨w5.heap.size, 2, none⟩ = some (.int .i64 g3) from (hPf m).cell x2 id)
  have x3' := fun m : S => (show (f m).cell? ⟨w5.heap.size, 3, none⟩ = some (.int .i64 g4) from (hPf m).cell x3 id)
  have x4' := fun m : S => (show (f m).cell? ⟨w5.heap.size, 4, none⟩ = some (.string (str gd)) from (hPf m).cell x4 id)
  have y0' := fun m : S => (show (f m).cell? ⟨w6.heap.size, 0, none⟩ = some (.int .i64 g1) from (hPf m).cell y0 id)
  have y1' := fun m : S => (show (f m).cell? ⟨w6.heap.size, 1, none⟩ = some (.int .i64 g2) from (hPf m).cell y1 id)
  have y2' := fun m : S => (show (f m).cell? ⟨w6.heap.size, 2, none⟩ = some (.int .i64 g3) from (hPf m).cell y2 id)
  have y3' := fun m : S => (show (f m).cell? ⟨w6.heap.size, 3, none⟩ = some (.int .i64 g4) from (hPf m).cell y3 id)
  have y4' := fun m : S => (show (f m).cell? ⟨w6.heap.size, 4, none⟩ = some (.string (str gd)) from (hPf m).cell y4 id)
  clear t0 t1 t2 t3 t4 m0 m1 m2 m3 m4 m5 m6 m7 x0 x1 x2 x3 x4 y0 y1 y2 y3 y4
  refine region_class f (by kernel_rfl) (by kernel_rfl) (hsur _ (Out.refl _ _)) ?_
  repeat (go_big_quiet_step (first | (go_at_call 10; exact N10.out _ _) | (go_at_call 10; exact N10.out _) | (go_at_call 6; exact N6.out _) | (go_at_call 6; exact N6.out) | (go_at_call 11; exact N11.out _) | (go_at_call 11; exact N11.out)))
  refine wpQuiet_nil ?_
  rintro _ ⟨s7, rfl⟩
  have OO := Lib.hid (OO.out.trans (OD.out.trans (HPf.out s7)))
  have OW := Lib.hid (OW.out.trans (OD.out.trans (HPf.out s7)))
  obtain ⟨w7, hw7⟩ : ∃ w7, f s7 = w7 := ⟨_, rfl⟩
  rw [hw7] at OO OW ⊢
  clear hw7 N10 N6 N11 s1 s2 x0' x1' x2' x3' x4' y0' y1' y2' y3' y4' HP HQ HLT CX CY OX OY K4b K5 K7 K8 K9 K6
  obtain ⟨t0, t1, t2, t3, t4, m0, m1, m2, m3, m4, m5, m6, m7⟩ := CT.out _ OW.out
  go_wp2_with (first
    | (go_at_call 13; refine (K13.out _ OO.out).mono ?_; rintro e w13 ⟨A3, c3, rfl, hg, ho⟩; have HG3 := Lib.hid hg; have OO := Lib.hid (OO.out.trans ho); have OW := Lib.hid (OW.out.trans ho); obtain ⟨t0, t1, t2, t3, t4, m0, m1, m2, m3, m4, m5, m6, m7⟩ := CT.out _ OW.out; clear hg ho)
    | (go_at_call 12; refine (K12.out _ _ _ HG3.out).mono ?_; rintro e w12 ⟨p2, rfl, hp, ho⟩; have HP := Lib.hid hp; have OO := Lib.hid (OO.out.trans ho); have OW := Lib.hid (OW.out.trans ho); obtain ⟨t0, t1, t2, t3, t4, m0, m1, m2, m3, m4, m5, m6, m7⟩ := CT.out _ OW.out; clear hp ho)
    | (go_at_call 14; refine (K14.out _ OO.out).mono ?_; rintro e w14 ⟨q2, rfl, hp, ho⟩; have HQ := Lib.hid hp; have HP := Lib.hid (HP.out.out ho (fun _ _ h => h)); have OO := Lib.hid (OO.out.trans ho); have OW := Lib.hid (OW.out.trans ho); obtain ⟨t0, t1, t2, t3, t4, m0, m1, m2, m3, m4, m5, m6, m7⟩ := CT.out _ OW.out; clear hp ho)
    | (go_at_call 4; refine (K4c.out _ OO.out).mono ?_; rintro e w4 ⟨v4, rfl, hlt, ho⟩; have HR4 := Lib.hid hlt.row; have HQ := Lib.hid (HQ.out.out ho (fun _ _ h => h)); have HP := Lib.hid (HP.out.out ho (fun _ _ h => h)); have OO := Lib.hid (OO.out.trans ho); have OW := Lib.hid (OW.out.trans ho); obtain ⟨t0, t1, t2, t3, t4, m0, m1, m2, m3, m4, m5, m6, m7⟩ := CT.out _ OW.out; clear hlt ho)
    | (go_at_call 15; refine (K15.out _ _ HR4.out).mono ?_; rintro e w15 ⟨Au, cu, rfl, hu, ho⟩; have oa : Out Zone.no w15 (w15.alloc (.cells #[.int .i64 u1, .int .i64 u2, .int .i64 u3, .int .i64 u4, .int .i64 u5, .int .i64 u6, .int .i64 u7, .slice Au ul.length cu] 49)) := (Out.refl _ _).alloc _; have HU := Lib.hid (hu.any oa); have HQ := Lib.hid ((HQ.out.out ho (fun _ _ h => h)).out oa (fun _ _ h => h)); have HP := Lib.hid ((HP.out.out ho (fun _ _ h => h)).out oa (fun _ _ h => h)); have OO := Lib.hid ((OO.out.trans ho).trans oa); have OW := Lib.hid ((OW.out.trans ho).trans oa); have OX : Hid (Out Zone.no (w15.alloc (.cells #[.int .i64 u1, .int .i64 u2, .int .i64 u3, .int .i64 u4, .int .i64 u5, .int .i64 u6, .int .i64 u7, .slice Au ul.length cu] 49)) (w15.alloc (.cells #[.int .i64 u1, .int .i64 u2, .int .i64 u3, .int .i64 u4, .int .i64 u5, .int .i64 u6, .int .i64 u7, .slice Au ul.length cu] 49))) := Out.refl _ _; have CX : Hid (∀ W, Out Zone.no (w15.alloc (.cells #[.int .i64 u1, .int .i64 u2, .int .i64 u3, .int .i64 u4, .int .i64 u5, .int .i64 u6, .int .i64 u7, .slice Au ul.length cu] 49)) W → W.cell? ⟨w15.heap.size, 0, none⟩ = some (.int .i64 u1) ∧ W.cell? ⟨w15.heap.size, 1, none⟩ = some (.int .i64 u2) ∧ W.cell? ⟨w15.heap.size, 2, none⟩ = some (.int .i64 u3) ∧ W.cell? ⟨w15.heap.size, 3, none⟩ = some (.int .i64 u4) ∧ W.cell? ⟨w15.heap.size, 4, none⟩ = some (.int .i64 u5) ∧ W.cell? ⟨w15.heap.size, 5, none⟩ = some (.int .i64 u6) ∧ W.cell? ⟨w15.heap.size, 6, none⟩ = some (.int .i64 u7) ∧ W.cell? ⟨w15.heap.size, 7, none⟩ = some (.slice Au ul.length cu)) := (fun W ho => by have h1 := ho.get (heap_alloc_new w15 _) id; exact ⟨cells_all h1 0, cells_all h1 1, cells_all h1 2, cells_all h1 3, cells_all h1 4, cells_all h1 5, cells_all h1 6, cells_all h1 7⟩); obtain ⟨x0, x1, x2, x3, x4, x5, x6, x7⟩ := CX.out _ OX.out; clear hu ho oa)
    | (go_at_call 16; refine (K16.out _ _ (HRC.out.out OO.out)).mono ?_; rintro e w16 ⟨Av, cv, rfl, hv, ho⟩; have oa : Out Zone.no w16 (w16.alloc (.cells #[.int .i64 u1, .int .i64 u2, .int .i64 u3, .int .i64 u4, .int .i64 u5, .int .i64 u6, .int .i64 u7, .slice Av ul.length cv] 28)) := (Out.refl _ _).alloc _; have HV := Lib.hid (hv.any oa); have HU := Lib.hid ((HU.out.any ho).any oa); have HQ := Lib.hid ((HQ.out.out ho (fun _ _ h => h)).out oa (fun _ _ h => h)); have HP := Lib.hid ((HP.out.out ho (fun _ _ h => h)).out oa (fun _ _ h => h)); have OO := Lib.hid ((OO.out.trans ho).trans oa); have OX := Lib.hid ((OX.out.trans ho).trans oa); have OY : Hid (Out Zone.no (w16.alloc (.cells #[.int .i64 u1, .int .i64 u2, .int .i64 u3, .int .i64 u4, .int .i64 u5, .int .i64 u6, .int .i64 u7, .slice Av ul.length cv] 28)) (w16.alloc (.cells #[.int .i64 u1, .int .i64 u2, .int .i64 u3, .int .i64 u4, .int .i64 u5, .int .i64 u6, .int .i64 u7, .slice Av ul.length cv] 28))) := Out.refl _ _; have CY : Hid (∀ W, Out Zone.no (w16.alloc (.cells #[.int .i64 u1, .int .i64 u2, .int .i64 u3, .int .i64 u4, .int .i64 u5, .int .i64 u6, .int .i64 u7, .slice Av ul.length cv] 28)) W → W.cell? ⟨w16.heap.size, 0, none⟩ = some (.int .i64 u1) ∧ W.cell? ⟨w16.heap.size, 1, none⟩ = some (.int .i64 u2) ∧ W.cell? ⟨w16.heap.size, 2, none⟩ = some (.int .i64 u3) ∧ W.cell? ⟨w16.heap.size, 3, none⟩ = some (.int .i64 u4) ∧ W.cell? ⟨w16.heap.size, 4, none⟩ = some (.int .i64 u5) ∧ W.cell? ⟨w16.heap.size, 5, none⟩ = some (.int .i64 u6) ∧ W.cell? ⟨w16.heap.size, 6, none⟩ = some (.int .i64 u7) ∧ W.cell? ⟨w16.heap.size, 7, none⟩ = some (.slice Av ul.length cv)) := (fun W ho => by have h1 := ho.get (heap_alloc_new w16 _) id; exact ⟨cells_all h1 0, cells_all h1 1, cells_all h1 2, cells_all h1 3, cells_all h1 4, cells_all h1 5, cells_all h1 6, cells_all h1 7⟩); obtain ⟨x0, x1, x2, x3, x4, x5, x6, x7⟩ := CX.out _ OX.out; obtain ⟨y0, y1, y2, y3, y4, y5, y6, y7⟩ := CY.out _ OY.out; clear hv ho oa)
    | fail)
  have OD : Hid (Out Zone.no (w16.alloc (.cells #[.int .i64 u1, .int .i64 u2, .int .i64 u3, .int .i64 u4, .int .i64 u5, .int .i64 u6, .int .i64 u7, .slice Av ul.length cv] 28)) (w16.alloc (.cells #[.int .i64 u1, .int .i64 u2, .int .i64 u3, .int .i64 u4, .int .i64 u5, .int .i64 u6, .int .i64 u7, .slice Av ul.length cv] 28)).drew) := (Out.refl _ _).drew
  have SALL : Hid (∀ W, Out Zone.no (w16.alloc (.cells #[.int .i64 u1, .int .i64 u2, .int .i64 u3, .int .i64 u4, .int .i64 u5, .int .i64 u6, .int .i64 u7, .slice Av ul.length cv] 28)) W → ((convert 29 9 p2).run Tryz.prog W = .ok (.string (str P2)) W ∧ (convert 29 9 q2).run Tryz.prog W = .ok (.string (str P2)) W) ∧ (W.cell? ⟨w15.heap.size, 0, none⟩ = some (.int .i64 u1) ∧ W.cell? ⟨w15.heap.size, 1, none⟩ = some (.int .i64 u2) ∧ W.cell? ⟨w15.heap.size, 2, none⟩ = some (.int .i64 u3) ∧ W.cell? ⟨w15.heap.size, 3, none⟩ = some (.int .i64 u4) ∧ W.cell? ⟨w15.heap.size, 4, none⟩ = some (.int .i64 u5) ∧ W.cell? ⟨w15.heap.size, 5, none⟩ = some (.int .i64 u6) ∧ W.cell? ⟨w15.heap.size, 6, none⟩ = some (.int .i64 u7) ∧ W.cell? ⟨w15.heap.size, 7, none⟩ = some (.slice Au ul.length cu)) ∧ (W.cell? ⟨w16.heap.size, 0, none⟩ = some (.int .i64 u1) ∧ W.cell? ⟨w16.heap.size, 1, none⟩ = some (.int .i64 u2) ∧ W.cell? ⟨w16.heap.size, 2, none⟩ = some (.int .i64 u3) ∧ W.cell? ⟨w16.heap.size, 3, none⟩ = some (.int .i64 u4) ∧ W.cell? ⟨w16.heap.size, 4, none⟩ = some (.int .i64 u5) ∧ W.cell? ⟨w16.heap.size, 5, none⟩ = some (.int .i64 u6) ∧ W.cell? ⟨w16.heap.size, 6, none⟩ = some (.int .i64 u7) ∧ W.cell? ⟨w16.heap.size, 7, none⟩ = some (.slice Av ul.length cv))) := fun W ho =>
    ⟨⟨string_of (HP.out.bytes.out ho), string_of (HQ.out.bytes.out ho)⟩, CX.out W (OX.out.trans ho), CY.out W (OY.out.trans ho)⟩
  have KU13 : Hid (∀ W, Out Zone.no (w16.alloc (.cells #[.int .i64 u1, .int .i64 u2, .int .i64 u3, .int .i64 u4, .int .i64 u5, .int .i64 u6, .int .i64 u7, .slice Av ul.length cv] 28)) W → Calls Tryz.prog 13 #[.agg #[.int .i64 u1, .int .i64 u2, .int .i64 u3, .int .i64 u4, .int .i64 u5, .int .i64 u6, .int .i64 u7, .slice Av ul.length cv]] W fun e w' => ∃ A9 c9, e = .returned (.agg #[.int .i64 u1, .int .i64 u2, .int .i64 u3, .int .i64 u4, .int .i64 u5, .int .i64 u6, .int .i64 u7, .slice A9 ul.length c9]) ∧ RRow (fun _ => False) w' (.slice A9 ul.length c9) ul.length 2 (encL ul) ∧ Out Zone.no W w') := fun W ho => by
    refine (msg_is W _ ⟨u1, u2, u3, u4, u5, u6, u7, ul⟩ _ (HV.out.any ho) (by show (ul.length + 1) * 24 ≤ _; omega)).mono ?_
    rintro e w' ⟨A9, c9, rfl, hg, ho2, _⟩
    exact ⟨A9, c9, rfl, GRow.reads hg (fun _ _ h => h), ho2⟩
  have KU17 : Hid (∀ W A9 c9, Out Zone.no (w16.alloc (.cells #[.int .i64 u1, .int .i64 u2, .int .i64 u3, .int .i64 u4, .int .i64 u5, .int .i64 u6, .int .i64 u7, .slice Av ul.length cv] 28)) W → RRow (fun _ => False) W (.slice A9 ul.length c9) ul.length 2 (encL ul) → Calls Tryz.prog 17 #[.agg #[.int .i64 u1, .int .i64 u2, .int .i64 u3, .int .i64 u4, .int .i64 u5, .int .i64 u6, .int .i64 u7, .slice Au ul.length cu], .agg #[.int .i64 u1, .int .i64 u2, .int .i64 u3, .int .i64 u4, .int .i64 u5, .int .i64 u6, .int .i64 u7, .slice A9 ul.length c9]] W fun e w' => e = .returned (.bool true) ∧ Out Zone.no W w') := fun W A9 c9 ho hr =>
    samemsg_is W ⟨u1, u2, u3, u4, u5, u6, u7, ul⟩ _ _ (HU.out.any ho) hr
  have HFIN : Hid (∀ W, Out Zone.no (w16.alloc (.cells #[.int .i64 u1, .int .i64 u2, .int .i64 u3, .int .i64 u4, .int .i64 u5, .int .i64 u6, .int .i64 u7, .slice Av ul.length cv] 28)) W → Out Zone.no w W) := fun W ho => OO.out.trans ho
  have S0 := SALL.out _ OD.out
  clear x0 x1 x2 x3 x4 x5 x6 x7 y0 y1 y2 y3 y4 y5 y6 y7 t0 t1 t2 t3 t4 m0 m1 m2 m3 m4 m5 m6 m7 K12 K13 K14 K15 K16 K4c CX CY OX OY HP HQ HU HV HR4 HG3 OO OW CT
  go_region_held3 (fun W => ((convert 29 9 p2).run Tryz.prog W = .ok (.string (str P2)) W ∧ (convert 29 9 q2).run Tryz.prog W = .ok (.string (str P2)) W) ∧ (W.cell? ⟨w15.heap.size, 0, none⟩ = some (.int .i64 u1) ∧ W.cell? ⟨w15.heap.size, 1, none⟩ = some (.int .i64 u2) ∧ W.cell? ⟨w15.heap.size, 2, none⟩ = some (.int .i64 u3) ∧ W.cell? ⟨w15.heap.size, 3, none⟩ = some (.int .i64 u4) ∧ W.cell? ⟨w15.heap.size, 4, none⟩ = some (.int .i64 u5) ∧ W.cell? ⟨w15.heap.size, 5, none⟩ = some (.int .i64 u6) ∧ W.cell? ⟨w15.heap.size, 6, none⟩ = some (.int .i64 u7) ∧ W.cell? ⟨w15.heap.size, 7, none⟩ = some (.slice Au ul.length cu)) ∧ (W.cell? ⟨w16.heap.size, 0, none⟩ = some (.int .i64 u1) ∧ W.cell? ⟨w16.heap.size, 1, none⟩ = some (.int .i64 u2) ∧ W.cell? ⟨w16.heap.size, 2, none⟩ = some (.int .i64 u3) ∧ W.cell? ⟨w16.heap.size, 3, none⟩ = some (.int .i64 u4) ∧ W.cell? ⟨w16.heap.size, 4, none⟩ = some (.int .i64 u5) ∧ W.cell? ⟨w16.heap.size, 5, none⟩ = some (.int .i64 u6) ∧ W.cell? ⟨w16.heap.size, 6, none⟩ = some (.int .i64 u7) ∧ W.cell? ⟨w16.heap.size, 7, none⟩ = some (.slice Av ul.length cv)))
    (first | with_reducible assumption | with_reducible exact SALL.out _ OD.out | with_reducible exact SALL.out _ O9.out | with_reducible exact SALL.out _ O10.out | with_reducible exact SALL.out _ O11.out)
    (first
      | (go_at_call 10; refine (num_is _ _).mono ?_; rintro e wk ⟨rfl, rfl⟩)
      | (go_at_call 13; refine (KU13.out _ OD.out).mono ?_; rintro e w9 ⟨A9, c9, rfl, hr9, ho9⟩; have HR9 := Lib.hid hr9; have O9 := Lib.hid (OD.out.trans ho9); clear hr9 ho9)
      | (go_at_call 17; refine (KU17.out _ _ _ O9.out HR9.out).mono ?_; rintro e w10 ⟨rfl, ho10⟩; have O10 := Lib.hid (O9.out.trans ho10); clear ho10)
      | (go_at_call 18; refine (knows_is _).mono ?_; rintro e w11 ⟨rfl, ho11⟩; have O11 := Lib.hid (O10.out.trans ho11); clear ho11))
  all_goals
    go_wp2_with fail
    go_ret
    exact ⟨rfl, HFIN.out _ O11.out⟩
end Go.Proofs.YtlgoenimjmiapaaGreat
