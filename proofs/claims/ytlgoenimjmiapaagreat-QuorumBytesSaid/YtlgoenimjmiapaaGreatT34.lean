import Derived.Test.YtlgoenimjmiapaaGreatT26
import Derived.Test.YtlgoenimjmiapaaGreatT30
set_option linter.unusedSimpArgs false
set_option linter.unusedVariables false
set_option linter.unusedSectionVars false
/-! PutMessage, the document's. -/
set_option linter.unusedVariables false
set_option linter.unusedSimpArgs false
namespace Go.Proofs.YtlgoenimjmiapaaGreat
open Go.RowKit

theorem rnumbers8_is (W : World) (a b c d e f g h : Int) (hb : ∀ x ∈ [a, b, c, d, e, f, g, h], -1 ≤ x ∧ x ≤ 1099511627776) :
    Calls Tryz.prog 23 #[.slice (some ⟨W.heap.size, 0, none⟩) 8 8] (W.alloc (.cells #[.int .i64 a, .int .i64 b, .int .i64 c, .int .i64 d, .int .i64 e, .int .i64 f, .int .i64 g, .int .i64 h] 3)) fun e' w' => ∃ v', e' = .returned v' ∧ Owns W.heap.size w' v' (numsB [a, b, c, d, e, f, g, h]) ∧ Out Zone.no W w' := by
  refine (rnumbers_is _ (fun _ => False) _ [a, b, c, d, e, f, g, h] (rrow_new (w := W) (e := 3) (cs := [.int .i64 a, .int .i64 b, .int .i64 c, .int .i64 d, .int .i64 e, .int .i64 f, .int .i64 g, .int .i64 h]) (n := 8) (sz := 1) (fun h => h) (by simp) (by omega)) (by simp) hb).mono ?_
  rintro e' w' ⟨v', rfl, h1, h2⟩
  exact ⟨v', rfl, h1.base_le (by simp), ((Out.refl Zone.no W).alloc _).trans h2⟩

set_option maxRecDepth 100000 in
set_option maxHeartbeats 1000000 in
theorem rpmsg_is (w : World) (N : Nat → Prop) (m : Msg) (v : Value) (hr : RRow N w v m.log.length 2 (encL m.log)) (hl : m.log.length ≤ 1152921504606846976) (hf : Fits m.log) :
    Calls Tryz.prog 14 #[.agg #[.int .i64 m.kind, .int .i64 m.frm, .int .i64 m.to, .int .i64 m.ep, .int .i64 m.at_, .int .i64 m.last, .int .i64 m.commit, v]] w fun e w' => ∃ vb, e = .returned (.tuple #[vb, .int .i64 (if m.right then 0 else 1)]) ∧ Owns w.heap.size w' vb (if m.right then msgB m else []) ∧ Out Zone.no w w' := by
  obtain ⟨A, c, rfl, hc1, hc2⟩ := hr.form
  obtain ⟨B, hB⟩ : ∃ B, w.heap.size = B := ⟨_, rfl⟩
  have HMR : Hid (∀ W, Out Zone.no w W → Calls Tryz.prog 35 #[.agg #[.int .i64 m.kind, .int .i64 m.frm, .int .i64 m.to, .int .i64 m.ep, .int .i64 m.at_, .int .i64 m.last, .int .i64 m.commit, .slice A m.log.length c]] W fun e w' => e = .returned (.bool m.right) ∧ Out Zone.no W w') := fun W ho => rmsg_is W N m _ (hr.any ho) hl hf
  have HRN := Lib.hid (@Msg.right_nums m)
  have HMB : msgB m = numsB m.nums8 ++ logB m.log := rfl
  have HN8 : m.nums8 = [m.kind, m.frm, m.to, m.ep, m.at_, m.last, m.commit, (m.log.length : Int)] := rfl
  rw [HMB]
  rw [HN8] at HRN ⊢
  obtain ⟨l, hml⟩ : ∃ l, m.log = l := ⟨_, rfl⟩
  rw [hml] at hr hl HMR HRN ⊢
  obtain ⟨kd, hkd⟩ : ∃ kd, m.kind = kd := ⟨_, rfl⟩
  obtain ⟨fr, hfr⟩ : ∃ fr, m.frm = fr := ⟨_, rfl⟩
  obtain ⟨tt, hto⟩ : ∃ tt, m.to = tt := ⟨_, rfl⟩
  obtain ⟨me, hme⟩ : ∃ me, m.ep = me := ⟨_, rfl⟩
  obtain ⟨ma, hma⟩ : ∃ ma, m.at_ = ma := ⟨_, rfl⟩
  obtain ⟨ml, hml2⟩ : ∃ ml, m.last = ml := ⟨_, rfl⟩
  obtain ⟨mc, hmc⟩ : ∃ mc, m.commit = mc := ⟨_, rfl⟩
  rw [hkd, hfr, hto, hme, hma, hml2, hmc] at HMR HRN ⊢
  obtain ⟨g, hg⟩ : ∃ g, m.right = g := ⟨_, rfl⟩
  rw [hg] at HMR HRN ⊢
  clear HMB HN8 hkd hfr hto hme hma hml2 hmc hg hml hf
  obtain ⟨W0, hW0⟩ : ∃ W0, w.alloc (.cells #[.int .i64 kd, .int .i64 fr, .int .i64 tt, .int .i64 me, .int .i64 ma, .int .i64 ml, .int .i64 mc, .slice A l.length c] 28) = W0 := ⟨_, rfl⟩
  have HB : Hid (W0.heap[B]? = some (.cells #[.int .i64 kd, .int .i64 fr, .int .i64 tt, .int .i64 me, .int .i64 ma, .int .i64 ml, .int .i64 mc, .slice A l.length c] 28 (0, 0))) := by rw [← hW0, ← hB]; exact heap_alloc_new w _
  have HO0 : Hid (Out Zone.no w W0) := by rw [← hW0]; exact (Out.refl _ _).alloc _
  have CS : Hid (∀ W, Out Zone.no W0 W → W.cell? ⟨B, 0, none⟩ = some (.int .i64 kd) ∧ W.cell? ⟨B, 1, none⟩ = some (.int .i64 fr) ∧ W.cell? ⟨B, 2, none⟩ = some (.int .i64 tt) ∧ W.cell? ⟨B, 3, none⟩ = some (.int .i64 me) ∧ W.cell? ⟨B, 4, none⟩ = some (.int .i64 ma) ∧ W.cell? ⟨B, 5, none⟩ = some (.int .i64 ml) ∧ W.cell? ⟨B, 6, none⟩ = some (.int .i64 mc) ∧ W.cell? ⟨B, 7, none⟩ = some (.slice A l.length c)) := fun W ho => by
    have hb := ho.get HB.out id
    exact ⟨cells_all hb 0, cells_all hb 1, cells_all hb 2, cells_all hb 3, cells_all hb 4, cells_all hb 5, cells_all hb 6, cells_all hb 7⟩
  have CS0 := CS.out W0 (Out.refl _ _)
  have HR0 := Lib.hid (HMR.out W0 HO0.out)
  have HRR := Lib.hid (hr.any HO0.out)
  clear hr HMR
  cases g with
  | false =>
    go_enter Tryz.func14, Tryz.ntmps14
    go_wp2_with (go_at_call 35; refine HR0.out.mono ?_; rintro e w1 ⟨rfl, ho⟩; have HO1 := Lib.hid (HO0.out.trans ho); clear ho)
    go_ret2
    exact ⟨_, rfl, owns_nil _ _, HO1.out⟩
  | true =>
    obtain ⟨hb1, hb2, hb3⟩ := HRN.out rfl
    have HAL := Lib.hid hb2
    have N23 : Hid (∀ W, Calls Tryz.prog 23 #[.slice (some ⟨W.heap.size, 0, none⟩) 8 8] (W.alloc (.cells #[.int .i64 kd, .int .i64 fr, .int .i64 tt, .int .i64 me, .int .i64 ma, .int .i64 ml, .int .i64 mc, .int .i64 (l.length : Int)] 3)) fun e w' => ∃ v', e = .returned v' ∧ Owns W.heap.size w' v' (numsB [kd, fr, tt, me, ma, ml, mc, (l.length : Int)]) ∧ Out Zone.no W w') := fun W => rnumbers8_is W _ _ _ _ _ _ _ _ hb1
    have HXL : Hid ((numsB [kd, fr, tt, me, ma, ml, mc, (l.length : Int)]).length ≤ 100000000000000) := by
      have a := numsB_len hb1
      simp only [List.length_cons, List.length_nil] at a
      show _ ≤ _
      omega
    obtain ⟨X, hX⟩ : ∃ X, numsB [kd, fr, tt, me, ma, ml, mc, (l.length : Int)] = X := ⟨_, rfl⟩
    rw [hX] at N23 HXL
    rw [if_pos rfl, if_pos rfl, hX]
    clear hb1 hb2 hX HRN
    go_enter Tryz.func14, Tryz.ntmps14
    go_wp2_with (first
      | (go_at_call 35; refine HR0.out.mono ?_; rintro e w1 ⟨rfl, ho⟩; have OW := Lib.hid ho; have CS1 := CS.out w1 ho; clear ho)
      | (go_at_call 23; refine (N23.out _).mono ?_; rintro e w2 ⟨v2, rfl, h2, ho2⟩; have H2 := Lib.hid (h2.base_le OW.out.size); have OW := Lib.hid (OW.out.trans ho2); have CS2 := CS.out w2 OW.out; clear h2 ho2)
      | fail)
    clear CS0 CS1 CS2
    go_loopw [4, 5] (fun vb vi wr => ∃ i : Nat, i ≤ l.length ∧ vi = .int .i64 (i : Int) ∧ Hid (Owns W0.heap.size wr vb (X ++ logB (l.take i))) ∧ Hid (Out Zone.no W0 wr)) (fun _ vi _ => l.length - (intOf vi).toNat)
    case atStart => exact ⟨0, by omega, rfl, by show Owns _ _ _ _; simpa [logB] using H2.out, OW.out⟩
    case round =>
      obtain ⟨i, hi, rfl, hown, how⟩ := hrel
      rename_i vb wr
      obtain ⟨_, _, _, _, _, _, _, r7⟩ := CS.out wr how.out
      by_cases hlt : i < l.length
      · obtain ⟨x, hx⟩ : ∃ x, l[i]? = some x := ⟨_, List.getElem?_eq_getElem hlt⟩
        obtain ⟨_, A', c', hv, _, _, hc⟩ := HRR.out
        obtain ⟨e1, e2⟩ := encL_at hx
        obtain ⟨b, o, hA, _, hcc1⟩ := hc _ _ e1
        obtain ⟨b', o', hA', _, hcc2⟩ := hc _ _ e2
        obtain rfl : A = A' := by injection hv
        rw [hA] at hA'
        obtain ⟨rfl, rfl⟩ : b = b' ∧ o = o' := by injection hA' with h; injection h with h1 h2; exact ⟨h1, h2⟩
        subst hA
        have hxr : x.right = true := List.all_eq_true.1 HAL.out x (List.mem_of_getElem? hx)
        obtain ⟨g0, g1, g2, g3⟩ := entB_short hxr
        have N36 : Hid (∀ W, Calls Tryz.prog 36 #[.int .i64 x.ep] W fun e w' => ∃ v, e = .returned v ∧ Owns W.heap.size w' v (numB (zz x.ep)) ∧ Out Zone.no W w') := fun W => num36 W x.ep (by omega) g2
        have N24 : Hid (∀ W, Calls Tryz.prog 24 #[.string (str x.data)] W fun e w' => ∃ v, e = .returned v ∧ Owns W.heap.size w' v (numB (zz x.data.length) ++ x.data) ∧ Out Zone.no W w') := fun W => text24 W x.data (by omega)
        have HX : Hid (X ++ logB (l.take (i + 1)) = X ++ logB (l.take i) ++ numB (zz x.ep) ++ (numB (zz x.data.length) ++ x.data)) := by show _ = _; rw [logB_snoc hx]; simp [entB]
        have HLN : (X ++ logB (l.take i)).length ≤ 120000000000000 := by
          have h1 := logB_len (l := l.take i) (by
            rw [List.all_eq_true]
            exact fun y hy => List.all_eq_true.1 HAL.out y (List.mem_of_mem_take hy))
          have h2 := HXL.out
          rw [List.length_take] at h1
          have : min i l.length ≤ 2048 := by omega
          have := Nat.mul_le_mul_right 100000 this
          rw [List.length_append]
          omega
        have s1 := numB_six (n := x.ep) (by omega) g2
        have s2 := numB_six (n := x.data.length) (by omega) (by omega)
        have HL1 : Hid ((X ++ logB (l.take i)).length + (numB (zz x.ep)).length ≤ 140737488355328) := by show _ ≤ _; omega
        have HL2 : Hid ((X ++ logB (l.take i) ++ numB (zz x.ep)).length + (numB (zz x.data.length) ++ x.data).length ≤ 140737488355328) := by
          show _ ≤ _
          simp only [List.length_append] at HLN ⊢
          omega
        obtain ⟨Y, hY⟩ : ∃ Y, numB (zz x.ep) = Y := ⟨_, rfl⟩
        obtain ⟨Z, hZ⟩ : ∃ Z, numB (zz x.data.length) ++ x.data = Z := ⟨_, rfl⟩
        rw [hY] at N36 HX HL1 HL2
        rw [hZ] at N24 HX HL2
        obtain ⟨xe, hxe⟩ : ∃ xe, x.ep = xe := ⟨_, rfl⟩
        obtain ⟨xd, hxd⟩ : ∃ xd, str x.data = xd := ⟨_, rfl⟩
        have CE : Hid (∀ W, Out Zone.no W0 W → W.cell? ⟨B, 7, none⟩ = some (.slice (some ⟨b, o, none⟩) l.length c) ∧ W.cell? ⟨b, o + i * 2, none⟩ = some (.int .i64 xe) ∧ W.cell? ⟨b, o + i * 2 + 1, none⟩ = some (.string xd)) := fun W ho => by
          refine ⟨(CS.out W ho).2.2.2.2.2.2.2, ?_, ?_⟩
          · rw [← hxe]; exact ho.cell hcc1 id
          · rw [← hxd, Nat.add_assoc]; exact ho.cell hcc2 id
        rw [hxe] at N36
        rw [hxd] at N24
        clear hv hc hcc1 hcc2 e1 e2 hA' hx hxr g0 g1 g2 g3 s1 s2 HLN hY hZ hxe hxd
        have CE1 := CE.out wr.drew how.out.drew
        have N36d := Lib.hid (N36.out wr.drew)
        have HOWd := Lib.hid how.out.drew
        go_wp2_with fail
        go_region_held3 (fun W => W.cell? ⟨B, 7, none⟩ = some (.slice (some ⟨b, o, none⟩) l.length c) ∧ W.cell? ⟨b, o + i * 2, none⟩ = some (.int .i64 xe) ∧ W.cell? ⟨b, o + i * 2 + 1, none⟩ = some (.string xd))
          (first | with_reducible assumption | with_reducible exact CE.out _ OWa.out | with_reducible exact CE.out _ OWb.out | with_reducible exact CE.out _ OWc.out | with_reducible exact CE.out _ OWd.out)
          (first
            | (go_at_call 36; refine N36d.out.mono ?_; rintro e w2 ⟨v2, rfl, h2, ho2⟩; have OWa := Lib.hid (HOWd.out.trans ho2); obtain ⟨v3, w3, hrun3, h3, ho3⟩ := (Owns.out (show Owns W0.heap.size wr.drew _ _ from hown.out) ho2 (fun _ _ h => h)).more OWa.out.size (h2.row (Z := Zone.no) (fun _ _ h => h)) HL1.out 29; have HR3 := Lib.hid hrun3; have H3 := Lib.hid h3; have OWb := Lib.hid (ho3 W0 OWa.out (Nat.le_refl _)); clear hrun3 h3 ho3 h2 ho2)
            | (go_at_call 24; refine (N24.out _).mono ?_; rintro e w4 ⟨v4, rfl, h4, ho4⟩; have OWc := Lib.hid (OWb.out.trans ho4); obtain ⟨v5, w5, hrun5, h5, ho5⟩ := (Owns.out H3.out ho4 (fun _ _ h => h)).more OWc.out.size (h4.row (Z := Zone.no) (fun _ _ h => h)) HL2.out 29; have HR5 := Lib.hid hrun5; have H5 := Lib.hid h5; have OWd := Lib.hid (ho5 W0 OWc.out (Nat.le_refl _)); clear hrun5 h5 ho5 h4 ho4)
            | (refine step_builtin rfl _ _ _ rfl (by exact HR3.out) ?_)
            | (refine step_builtin rfl _ _ _ rfl (by exact HR5.out) ?_))
        all_goals
          go_wp2_with fail
          go_roundw
          case rel => exact ⟨i + 1, by omega, by go_num, by show Owns _ _ _ _; rw [HX.out]; exact H5.out, OWd.out⟩
          case measure => simp [intOf]; omega
      · obtain rfl : i = l.length := by omega
        go_wp2_with fail
        go_ret2
        have h := hown.out
        rw [List.take_length] at h
        exact ⟨_, rfl, h.base_le HO0.out.size, HO0.out.trans how.out⟩
end Go.Proofs.YtlgoenimjmiapaaGreat
