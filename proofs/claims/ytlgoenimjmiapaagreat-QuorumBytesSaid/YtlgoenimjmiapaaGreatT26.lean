import Derived.Test.YtlgoenimjmiapaaGreatT25
import Derived.Deep.RegionHeld3
import Derived.Test.YtlgoenimjmiapaaGreatT04
set_option linter.unusedSimpArgs false
set_option linter.unusedVariables false
set_option linter.unusedSectionVars false
/-! PutNote, the program's and the document's. -/
set_option linter.unusedVariables false
set_option linter.unusedSimpArgs false
namespace Go.Proofs.YtlgoenimjmiapaaGreat
open Go.RowKit

theorem nright_bounds {k ep n ee : Int} {d : List UInt8} (h : Nt.right ⟨k, ep, n, ⟨ee, d⟩⟩ = true) : (∀ x ∈ [k, ep, n], -1 ≤ x ∧ x ≤ 1099511627776) ∧ 0 ≤ ee ∧ ee ≤ 1099511627776 ∧ d.length ≤ 65536 := by
  unfold Nt.right at h
  simp only at h
  split at h
  · subst_vars
    simp only [Bool.and_eq_true, decide_eq_true_eq, inB] at h
    obtain ⟨⟨⟨⟨rfl, rfl⟩, h1⟩, h2⟩, h3⟩ := h
    refine ⟨fun x hx => ?_, by omega, by omega, by simp⟩
    simp at hx
    rcases hx with rfl | rfl | rfl <;> omega
  · split at h
    · subst_vars
      simp only [Bool.and_eq_true, decide_eq_true_eq, inB] at h
      obtain ⟨⟨⟨rfl, rfl⟩, rfl⟩, h3⟩ := h
      refine ⟨fun x hx => ?_, by omega, by omega, by simp⟩
      simp at hx
      rcases hx with rfl | rfl | rfl <;> omega
    · simp only [Bool.and_eq_true, decide_eq_true_eq, inB, Ent.right] at h
      obtain ⟨⟨⟨rfl, rfl⟩, rfl⟩, h3, h4⟩ := h
      refine ⟨fun x hx => ?_, by omega, by omega, by omega⟩
      simp at hx
      rcases hx with rfl | rfl | rfl <;> omega
theorem numbers3_is (W : World) (a b c : Int) (hb : ∀ x ∈ [a, b, c], -1 ≤ x ∧ x ≤ 1099511627776) :
    Calls Tryz.prog 20 #[.slice (some ⟨W.heap.size, 0, none⟩) 3 3] (W.alloc (.cells #[.int .i64 a, .int .i64 b, .int .i64 c] 3)) fun e w' => ∃ v', e = .returned v' ∧ Owns W.heap.size w' v' (numsB [a, b, c]) ∧ Out Zone.no W w' := by
  refine (numbers_is _ (fun _ => False) _ [a, b, c] (rrow_new (w := W) (e := 3) (cs := [.int .i64 a, .int .i64 b, .int .i64 c]) (n := 3) (sz := 1) (fun h => h) (by simp) (by omega)) (by simp) hb).mono ?_
  rintro e w' ⟨v', rfl, h1, h2⟩
  exact ⟨v', rfl, h1.base_le (by simp), ((Out.refl Zone.no W).alloc _).trans h2⟩

set_option maxRecDepth 100000 in
set_option maxHeartbeats 1000000 in
theorem pnote_is (w : World) (k ep n ee : Int) (d : List UInt8) (hl : d.length ≤ 9223372036854775807) :
    Calls Tryz.prog 5 #[.agg #[.int .i64 k, .int .i64 ep, .int .i64 n, .int .i64 ee, .string (str d)]] w fun e w' => ∃ v, e = .returned (.tuple #[v, .int .i64 (if Nt.right ⟨k, ep, n, ⟨ee, d⟩⟩ then 0 else 1)]) ∧ Owns w.heap.size w' v (if Nt.right ⟨k, ep, n, ⟨ee, d⟩⟩ then noteB ⟨k, ep, n, ⟨ee, d⟩⟩ else []) ∧ Out Zone.no w w' := by
  obtain ⟨B, hB⟩ : ∃ B, w.heap.size = B := ⟨_, rfl⟩
  obtain ⟨W0, hW0⟩ : ∃ W0, w.alloc (.cells #[.int .i64 k, .int .i64 ep, .int .i64 n, .int .i64 ee, .string (str d)] 36) = W0 := ⟨_, rfl⟩
  have HB : Hid (W0.heap[B]? = some (.cells #[.int .i64 k, .int .i64 ep, .int .i64 n, .int .i64 ee, .string (str d)] 36 (0, 0))) := by rw [← hW0, ← hB]; exact heap_alloc_new w _
  have HO0 : Hid (Out Zone.no w W0) := by rw [← hW0]; exact (Out.refl _ _).alloc _
  have CS : Hid (∀ W, Out Zone.no W0 W → W.cell? ⟨B, 0, none⟩ = some (.int .i64 k) ∧ W.cell? ⟨B, 1, none⟩ = some (.int .i64 ep) ∧ W.cell? ⟨B, 2, none⟩ = some (.int .i64 n) ∧ W.cell? ⟨B, 3, none⟩ = some (.int .i64 ee) ∧ W.cell? ⟨B, 4, none⟩ = some (.string (str d))) := fun W ho => by
    have hb := ho.get HB.out id
    exact ⟨cells_all hb 0, cells_all hb 1, cells_all hb 2, cells_all hb 3, cells_all hb 4⟩
  have CS0 := CS.out W0 (Out.refl _ _)
  have HR := Lib.hid (nright_is W0 k ep n ee d hl)
  obtain ⟨g, hg⟩ : ∃ g, Nt.right ⟨k, ep, n, ⟨ee, d⟩⟩ = g := ⟨_, rfl⟩
  rw [hg] at HR ⊢
  cases g with
  | false =>
    clear hg
    go_enter Tryz.func5, Tryz.ntmps5
    go_wp2_with (go_at_call 19; refine HR.out.mono ?_; rintro e w1 ⟨rfl, ho⟩; have HO1 := Lib.hid (HO0.out.trans ho); clear ho)
    go_ret2
    exact ⟨_, rfl, owns_nil _ _, HO1.out⟩
  | true =>
    obtain ⟨hb1, hb2, hb3, hb4⟩ := nright_bounds hg
    have N20 : Hid (∀ W, Calls Tryz.prog 20 #[.slice (some ⟨W.heap.size, 0, none⟩) 3 3] (W.alloc (.cells #[.int .i64 k, .int .i64 ep, .int .i64 n] 3)) fun e w' => ∃ v', e = .returned v' ∧ Owns W.heap.size w' v' (numsB [k, ep, n]) ∧ Out Zone.no W w') := fun W => numbers3_is W k ep n hb1
    have N21 : Hid (∀ W, Calls Tryz.prog 21 #[.agg #[.int .i64 ee, .string (str d)]] W fun e w' => ∃ v, e = .returned v ∧ Owns W.heap.size w' v (entB ⟨ee, d⟩) ∧ Out Zone.no W w') := fun W => bytes_is W ⟨ee, d⟩ hb2 hb3 hb4
    have HLN : Hid ((numsB [k, ep, n]).length + (entB ⟨ee, d⟩).length ≤ 140737488355328) := by
      have a := numsB_len hb1
      have b := entB_len (x := ⟨ee, d⟩) hb2 hb3 hb4
      simp only [List.length_cons, List.length_nil] at a
      show _ ≤ _
      omega
    have HN : noteB ⟨k, ep, n, ⟨ee, d⟩⟩ = numsB [k, ep, n] ++ entB ⟨ee, d⟩ := rfl
    rw [HN]
    obtain ⟨X, hX⟩ : ∃ X, numsB [k, ep, n] = X := ⟨_, rfl⟩
    obtain ⟨Y, hY⟩ : ∃ Y, entB ⟨ee, d⟩ = Y := ⟨_, rfl⟩
    rw [hX] at N20 HLN ⊢
    rw [hY] at N21 HLN ⊢
    clear hg hb1 hb2 hb3 hb4 hX hY HN hl
    go_enter Tryz.func5, Tryz.ntmps5
    go_wp2_with (go_at_call 19; refine HR.out.mono ?_; rintro e w1 ⟨rfl, ho⟩; have OW := Lib.hid ho; have OW1 := Lib.hid ho; have HO1 := Lib.hid (HO0.out.trans ho); clear ho)
    have CS1 := CS.out w1.drew OW.out.drew
    have N20d := Lib.hid (N20.out w1.drew)
    go_region_held3 (fun W => W.cell? ⟨B, 0, none⟩ = some (.int .i64 k) ∧ W.cell? ⟨B, 1, none⟩ = some (.int .i64 ep) ∧ W.cell? ⟨B, 2, none⟩ = some (.int .i64 n) ∧ W.cell? ⟨B, 3, none⟩ = some (.int .i64 ee) ∧ W.cell? ⟨B, 4, none⟩ = some (.string (str d)))
      (first | with_reducible assumption | with_reducible exact CS.out _ OW.out | with_reducible exact CS.out _ OW4.out | with_reducible exact CS.out _ (OW.out.drew.alloc _) | with_reducible exact CS.out _ (OW.out.alloc _).drew)
      (first
        | (go_at_call 20; refine N20d.out.mono ?_; rintro e w2 ⟨v2, rfl, h2, ho2⟩; have H2 := Lib.hid h2; have OW2 := Lib.hid (OW.out.drew.trans ho2); have OW := Lib.hid (OW.out.drew.trans ho2); clear h2 ho2)
        | (go_at_call 21; refine (N21.out _).mono ?_; rintro e w3 ⟨v3, rfl, h3, ho3⟩; obtain ⟨v4, w4, hrun, h4, ho4⟩ := ((H2.out.out ho3 (fun _ _ h => h)).base_le (OW1.out.drew.size)).more ((OW.out.trans ho3).size) (h3.row (Z := Zone.no) (fun _ _ h => h)) HLN.out 29; have HR2 := Lib.hid hrun; have H4 := Lib.hid h4; have HO4 := Lib.hid (ho4 w (HO0.out.trans (OW.out.trans ho3)) HO0.out.size); have OW4 := Lib.hid (ho4 W0 (OW.out.trans ho3) (Nat.le_refl _)); have OW := Lib.hid (OW.out.trans ho3); clear hrun h4 ho4 h3 ho3)
        | (refine step_builtin rfl _ _ _ rfl (by exact HR2.out) ?_))
    all_goals
      go_wp2_with fail
      go_ret2
      exact ⟨_, rfl, H4.out.base_le (by rw [← hB]; exact HO0.out.size), HO4.out⟩
set_option maxRecDepth 100000 in
theorem lnote_is (w : World) (k ep n ee : Int) (d : List UInt8) :
    Calls Tryz.prog 6 #[.agg #[.int .i64 k, .int .i64 ep, .int .i64 n, .int .i64 ee, .string (str d)]] w fun e w' => e = .returned (.agg #[.int .i64 k, .int .i64 ep, .int .i64 n, .int .i64 ee, .string (str d)]) ∧ Out Zone.no w w' := by
  have o := ((Out.refl Zone.no w).alloc (.cells #[.int .i64 k, .int .i64 ep, .int .i64 n, .int .i64 ee, .string (str d)] 25)).alloc (.cells #[.int .i64 k, .int .i64 ep, .int .i64 n, .int .i64 ee, .string (str d)] 36)
  go_enter Tryz.func6, Tryz.ntmps6
  go_wp2_with fail
  exact bodyPost_ret (v := .agg #[.int .i64 k, .int .i64 ep, .int .i64 n, .int .i64 ee, .string (str d)]) (by simp [results, Tryz.results6, go_sem]) rfl ⟨rfl, o⟩
end Go.Proofs.YtlgoenimjmiapaaGreat

/-! PutMessage, the program's. -/
set_option linter.unusedVariables false
set_option linter.unusedSimpArgs false
namespace Go.Proofs.YtlgoenimjmiapaaGreat
open Go.RowKit

theorem numB_short {u k : Nat} (h : u < 128 ^ (k + 1)) : (numB u).length ≤ k + 1 := by
  induction k generalizing u with
  | zero =>
    rw [numB_small (by simpa using h)]
    simp
  | succ k ih =>
    by_cases hu : u < 128
    · rw [numB_small hu]; simp
    · rw [numB_more hu, List.length_cons]
      have : (numB (u / 128)).length ≤ k + 1 := ih (by
        rw [Nat.pow_succ] at h
        exact Nat.div_lt_of_lt_mul (by rw [Nat.mul_comm]; exact h))
      omega
theorem numB_six {n : Int} (h0 : -1 ≤ n) (h1 : n ≤ 1099511627776) : (numB (zz n)).length ≤ 6 := by
  have := zz_le h1 h0
  exact numB_short (k := 5) (by omega)
theorem entB_short {x : Ent} (h : x.right = true) : (entB x).length ≤ 100000 ∧ 0 ≤ x.ep ∧ x.ep ≤ 1099511627776 ∧ x.data.length ≤ 65536 := by
  simp only [Ent.right, inB, Bool.and_eq_true, decide_eq_true_eq] at h
  have a := numB_six (n := x.ep) (by omega) (by omega)
  have b := numB_six (n := x.data.length) (by omega) (by omega)
  unfold entB
  simp only [List.length_append]
  omega
def logB (l : List Ent) : List UInt8 := l.flatMap entB
theorem logB_len {l : List Ent} (h : l.all Ent.right = true) : (logB l).length ≤ l.length * 100000 := by
  induction l with
  | nil => simp [logB]
  | cons x r ih =>
    rw [List.all_cons, Bool.and_eq_true] at h
    have h1 := ih h.2
    have h2 := (entB_short h.1).1
    show (entB x ++ logB r).length ≤ (r.length + 1) * _
    rw [List.length_append]
    omega
theorem logB_snoc {l : List Ent} {i : Nat} {x : Ent} (h : l[i]? = some x) : logB (l.take (i + 1)) = logB (l.take i) ++ entB x := by
  obtain ⟨hi, rfl⟩ := List.getElem?_eq_some_iff.1 h
  unfold logB
  rw [List.take_succ_eq_append_getElem hi, List.flatMap_append]
  simp
def Msg.nums8 (m : Msg) : List Int := [m.kind, m.frm, m.to, m.ep, m.at_, m.last, m.commit, (m.log.length : Int)]
def msgB (m : Msg) : List UInt8 := numsB m.nums8 ++ logB m.log
theorem Msg.right_nums {m : Msg} (h : m.right = true) : (∀ x ∈ m.nums8, -1 ≤ x ∧ x ≤ 1099511627776) ∧ m.log.all Ent.right = true ∧ m.log.length ≤ 2048 := by
  simp only [Msg.right, idB, Msg.nums, inB, Bool.and_eq_true, decide_eq_true_eq] at h
  refine ⟨fun x hx => ?_, h.2, h.1.1.2⟩
  simp only [Msg.nums8, List.mem_cons, List.not_mem_nil, or_false] at hx
  rcases hx with rfl | rfl | rfl | rfl | rfl | rfl | rfl | rfl <;> omega

theorem numbers8_is (W : World) (a b c d e f g h : Int) (hb : ∀ x ∈ [a, b, c, d, e, f, g, h], -1 ≤ x ∧ x ≤ 1099511627776) :
    Calls Tryz.prog 20 #[.slice (some ⟨W.heap.size, 0, none⟩) 8 8] (W.alloc (.cells #[.int .i64 a, .int .i64 b, .int .i64 c, .int .i64 d, .int .i64 e, .int .i64 f, .int .i64 g, .int .i64 h] 3)) fun e' w' => ∃ v', e' = .returned v' ∧ Owns W.heap.size w' v' (numsB [a, b, c, d, e, f, g, h]) ∧ Out Zone.no W w' := by
  refine (numbers_is _ (fun _ => False) _ [a, b, c, d, e, f, g, h] (rrow_new (w := W) (e := 3) (cs := [.int .i64 a, .int .i64 b, .int .i64 c, .int .i64 d, .int .i64 e, .int .i64 f, .int .i64 g, .int .i64 h]) (n := 8) (sz := 1) (fun h => h) (by simp) (by omega)) (by simp) hb).mono ?_
  rintro e' w' ⟨v', rfl, h1, h2⟩
  exact ⟨v', rfl, h1.base_le (by simp), ((Out.refl Zone.no W).alloc _).trans h2⟩

set_option maxRecDepth 100000 in
set_option maxHeartbeats 1000000 in
theorem pmsg_is (w : World) (N : Nat → Prop) (m : Msg) (v : Value) (hr : RRow N w v m.log.length 2 (encL m.log)) (hl : m.log.length ≤ 9223372036854775807) (hf : Fits m.log) :
    Calls Tryz.prog 12 #[.agg #[.int .i64 m.kind, .int .i64 m.frm, .int .i64 m.to, .int .i64 m.ep, .int .i64 m.at_, .int .i64 m.last, .int .i64 m.commit, v]] w fun e w' => ∃ vb, e = .returned (.tuple #[vb, .int .i64 (if m.right then 0 else 1)]) ∧ Owns w.heap.size w' vb (if m.right then msgB m else []) ∧ Out Zone.no w w' := by
  obtain ⟨A, c, rfl, hc1, hc2⟩ := hr.form
  obtain ⟨B, hB⟩ : ∃ B, w.heap.size = B := ⟨_, rfl⟩
  have HMR : Hid (∀ W, Out Zone.no w W → Calls Tryz.prog 33 #[.agg #[.int .i64 m.kind, .int .i64 m.frm, .int .i64 m.to, .int .i64 m.ep, .int .i64 m.at_, .int .i64 m.last, .int .i64 m.commit, .slice A m.log.length c]] W fun e w' => e = .returned (.bool m.right) ∧ Out Zone.no W w') := fun W ho => mright_is W N m _ (hr.any ho) hl hf
  have HRN := Lib.hid (@Msg.right_nums m)
  have HMB : msgB m = numsB m.nums8 ++ logB m.log := rfl
  have HN8 : m.nums8 = [m.kind, m.frm, m.to, m.ep, m.at_, m.last, m.commit, (m.log.length : Int)] := rfl
  rw [HMB]
  rw [HN8] at HRN ⊢
  obtain ⟨l, hml⟩ : ∃ l, m.log = l := ⟨_, rfl⟩
  rw [hml] at hr hl HMR HRN ⊢
  obtain ⟨kd, hkd⟩ : ∃ kd, m.kind = kd := ⟨_, rfl⟩
  obtain ⟨fr, hfr⟩ : ∃ fr, m.frm = fr := ⟨_, rfl⟩
  obtain ⟨tt, hto⟩ : ∃ tt, m.to = tt := ⟨_, rfl⟩
  obtain ⟨me, hme⟩ : ∃ me, m.ep = me := ⟨_, rfl⟩
  obtain ⟨ma, hma⟩ : ∃ ma, m.at_ = ma := ⟨_, rfl⟩
  obtain ⟨ml, hml2⟩ : ∃ ml, m.last = ml := ⟨_, rfl⟩
  obtain ⟨mc, hmc⟩ : ∃ mc, m.commit = mc := ⟨_, rfl⟩
  rw [hkd, hfr, hto, hme, hma, hml2, hmc] at HMR HRN ⊢
  obtain ⟨g, hg⟩ : ∃ g, m.right = g := ⟨_, rfl⟩
  rw [hg] at HMR HRN ⊢
  clear HMB HN8 hkd hfr hto hme hma hml2 hmc hg hml hf
  obtain ⟨W0, hW0⟩ : ∃ W0, w.alloc (.cells #[.int .i64 kd, .int .i64 fr, .int .i64 tt, .int .i64 me, .int .i64 ma, .int .i64 ml, .int .i64 mc, .slice A l.length c] 49) = W0 := ⟨_, rfl⟩
  have HB : Hid (W0.heap[B]? = some (.cells #[.int .i64 kd, .int .i64 fr, .int .i64 tt, .int .i64 me, .int .i64 ma, .int .i64 ml, .int .i64 mc, .slice A l.length c] 49 (0, 0))) := by rw [← hW0, ← hB]; exact heap_alloc_new w _
  have HO0 : Hid (Out Zone.no w W0) := by rw [← hW0]; exact (Out.refl _ _).alloc _
  have CS : Hid (∀ W, Out Zone.no W0 W → W.cell? ⟨B, 0, none⟩ = some (.int .i64 kd) ∧ W.cell? ⟨B, 1, none⟩ = some (.int .i64 fr) ∧ W.cell? ⟨B, 2, none⟩ = some (.int .i64 tt) ∧ W.cell? ⟨B, 3, none⟩ = some (.int .i64 me) ∧ W.cell? ⟨B, 4, none⟩ = some (.int .i64 ma) ∧ W.cell? ⟨B, 5, none⟩ = some (.int .i64 ml) ∧ W.cell? ⟨B, 6, none⟩ = some (.int .i64 mc) ∧ W.cell? ⟨B, 7, none⟩ = some (.slice A l.length c)) := fun W ho => by
    have hb := ho.get HB.out id
    exact ⟨cells_all hb 0, cells_all hb 1, cells_all hb 2, cells_all hb 3, cells_all hb 4, cells_all hb 5, cells_all hb 6, cells_all hb 7⟩
  have CS0 := CS.out W0 (Out.refl _ _)
  have HR0 := Lib.hid (HMR.out W0 HO0.out)
  have HRR := Lib.hid (hr.any HO0.out)
  clear hr HMR
  cases g with
  | false =>
    go_enter Tryz.func12, Tryz.ntmps12
    go_wp2_with (go_at_call 33; refine HR0.out.mono ?_; rintro e w1 ⟨rfl, ho⟩; have HO1 := Lib.hid (HO0.out.trans ho); clear ho)
    go_ret2
    exact ⟨_, rfl, owns_nil _ _, HO1.out⟩
  | true =>
    obtain ⟨hb1, hb2, hb3⟩ := HRN.out rfl
    have HAL := Lib.hid hb2
    have N20 : Hid (∀ W, Calls Tryz.prog 20 #[.slice (some ⟨W.heap.size, 0, none⟩) 8 8] (W.alloc (.cells #[.int .i64 kd, .int .i64 fr, .int .i64 tt, .int .i64 me, .int .i64 ma, .int .i64 ml, .int .i64 mc, .int .i64 (l.length : Int)] 3)) fun e w' => ∃ v', e = .returned v' ∧ Owns W.heap.size w' v' (numsB [kd, fr, tt, me, ma, ml, mc, (l.length : Int)]) ∧ Out Zone.no W w') := fun W => numbers8_is W _ _ _ _ _ _ _ _ hb1
    have HXL : Hid ((numsB [kd, fr, tt, me, ma, ml, mc, (l.length : Int)]).length ≤ 100000000000000) := by
      have a := numsB_len hb1
      simp only [List.length_cons, List.length_nil] at a
      show _ ≤ _
      omega
    obtain ⟨X, hX⟩ : ∃ X, numsB [kd, fr, tt, me, ma, ml, mc, (l.length : Int)] = X := ⟨_, rfl⟩
    rw [hX] at N20 HXL
    rw [if_pos rfl, if_pos rfl, hX]
    clear hb1 hb2 hX HRN
    go_enter Tryz.func12, Tryz.ntmps12
    go_wp2_with (first
      | (go_at_call 33; refine HR0.out.mono ?_; rintro e w1 ⟨rfl, ho⟩; have OW := Lib.hid ho; have CS1 := CS.out w1 ho; clear ho)
      | (go_at_call 20; refine (N20.out _).mono ?_; rintro e w2 ⟨v2, rfl, h2, ho2⟩; have H2 := Lib.hid (h2.base_le OW.out.size); have OW := Lib.hid (OW.out.trans ho2); have CS2 := CS.out w2 OW.out; clear h2 ho2)
      | fail)
    clear CS0 CS1 CS2
    go_loopw [4, 32] (fun vb vi wr => ∃ i : Nat, i ≤ l.length ∧ vi = .int .i64 (i : Int) ∧ Hid (Owns W0.heap.size wr vb (X ++ logB (l.take i))) ∧ Hid (Out Zone.no W0 wr)) (fun _ vi _ => l.length - (intOf vi).toNat)
    case atStart => exact ⟨0, by omega, rfl, by show Owns _ _ _ _; simpa [logB] using H2.out, OW.out⟩
    case round =>
      obtain ⟨i, hi, rfl, hown, how⟩ := hrel
      rename_i vb wr
      by_cases hlt : i < l.length
      · obtain ⟨x, hx⟩ : ∃ x, l[i]? = some x := ⟨_, List.getElem?_eq_getElem hlt⟩
        obtain ⟨_, A', c', hv, _, _, hc⟩ := HRR.out
        obtain ⟨e1, e2⟩ := encL_at hx
        obtain ⟨b, o, hA, _, hcc1⟩ := hc _ _ e1
        obtain ⟨b', o', hA', _, hcc2⟩ := hc _ _ e2
        obtain rfl : A = A' := by injection hv
        rw [hA] at hA'
        obtain ⟨rfl, rfl⟩ : b = b' ∧ o = o' := by injection hA' with h; injection h with h1 h2; exact ⟨h1, h2⟩
        subst hA
        have p1 := how.out.cell hcc1 id
        have p2 : wr.cell? ⟨b, o + i * 2 + 1, none⟩ = some (.string (str x.data)) := by rw [Nat.add_assoc]; exact how.out.cell hcc2 id
        have hxr : x.right = true := List.all_eq_true.1 HAL.out x (List.mem_of_getElem? hx)
        obtain ⟨g0, g1, g2, g3⟩ := entB_short hxr
        have N21 : Hid (∀ W, Calls Tryz.prog 21 #[.agg #[.int .i64 x.ep, .string (str x.data)]] W fun e w' => ∃ v, e = .returned v ∧ Owns W.heap.size w' v (entB x) ∧ Out Zone.no W w') := fun W => bytes_is W x g1 g2 g3
        have HX : Hid (X ++ logB (l.take (i + 1)) = X ++ logB (l.take i) ++ entB x) := by show _ = _; rw [logB_snoc hx, List.append_assoc]
        have HLN : Hid ((X ++ logB (l.take i)).length + (entB x).length ≤ 140737488355328) := by
          have h1 := logB_len (l := l.take i) (by
            rw [List.all_eq_true]
            exact fun y hy => List.all_eq_true.1 HAL.out y (List.mem_of_mem_take hy))
          have h2 := HXL.out
          rw [List.length_take] at h1
          have : min i l.length ≤ 2048 := by omega
          have := Nat.mul_le_mul_right 100000 this
          show _ ≤ _
          rw [List.length_append]
          omega
        clear hv hc hcc1 hcc2 e1 e2 hA' hx hxr g0 g1 g2 g3
        obtain ⟨Y, hY⟩ : ∃ Y, entB x = Y := ⟨_, rfl⟩
        rw [hY] at N21 HX HLN
        obtain ⟨xe, hxe⟩ : ∃ xe, x.ep = xe := ⟨_, rfl⟩
        obtain ⟨xd, hxd⟩ : ∃ xd, str x.data = xd := ⟨_, rfl⟩
        rw [hxe] at N21 p1
        rw [hxd] at N21 p2
        clear hY hxe hxd
        have o1 := (Out.refl Zone.no wr).alloc (.cells #[.int .i64 xe, .string xd] 34)
        have HO1 := Lib.hid o1
        clear o1
        go_wp2_with (first
          | (go_at_call 21; refine (N21.out _).mono ?_; rintro e w3 ⟨v3, rfl, h3, ho3⟩; obtain ⟨v4, w4, hrun, h4, ho4⟩ := (hown.out.out (HO1.out.trans ho3) (fun _ _ h => h)).more (Nat.le_trans how.out.size (HO1.out.trans ho3).size) (h3.row (Z := Zone.no) (fun _ _ h => h)) HLN.out 29; have HR2 := Lib.hid hrun; have H4 := Lib.hid h4; have HO4 := Lib.hid (ho4 W0 (how.out.trans (HO1.out.trans ho3)) (Nat.le_refl _)); clear hrun h4 ho4 h3 ho3)
          | (at_builtin; refine wpList_builtin rfl _ _ _ rfl HR2.out ?_))
        go_roundw
        case rel => exact ⟨i + 1, by omega, by go_num, by show Owns _ _ _ _; rw [HX.out]; exact H4.out, HO4.out⟩
        case measure => simp [intOf]; omega
      · obtain rfl : i = l.length := by omega
        go_wp2_with fail
        go_ret2
        have h := hown.out
        rw [List.take_length] at h
        exact ⟨_, rfl, h.base_le HO0.out.size, HO0.out.trans how.out⟩
end Go.Proofs.YtlgoenimjmiapaaGreat
