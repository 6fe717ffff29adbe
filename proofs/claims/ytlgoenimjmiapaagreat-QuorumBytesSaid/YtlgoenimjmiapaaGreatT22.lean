import Derived.Test.YtlgoenimjmiapaaGreatT21
set_option linter.unusedSimpArgs false
set_option linter.unusedVariables false
set_option linter.unusedSectionVars false
/-! The document's RightMessage. -/
set_option linter.unusedVariables false
set_option linter.unusedSectionVars false
namespace Go.Proofs.YtlgoenimjmiapaaGreat
open Go.RowKit Go.Maps

set_option maxRecDepth 100000 in
theorem refin_is (w : World) (n : Int) : Calls Tryz.prog 48 #[.int .i64 n] w fun e w' => e = .returned (.bool (inB n)) ∧ w = w' := by
  by_cases h1 : 0 ≤ n
  · by_cases h2 : n ≤ 1099511627776
    · have hb : inB n = true := by simp [inB]; omega
      rw [hb]
      go_enter Tryz.func48, Tryz.ntmps48
      go_wp2_with fail
      go_ret
      exact ⟨by simp [go_sem] <;> omega, rfl⟩
    · have hb : inB n = false := by simp [inB]; omega
      rw [hb]
      go_enter Tryz.func48, Tryz.ntmps48
      go_wp2_with fail
      go_ret
      exact ⟨by simp [go_sem] <;> omega, rfl⟩
  · have hb : inB n = false := by simp [inB]; omega
    rw [hb]
    go_enter Tryz.func48, Tryz.ntmps48
    go_wp2_with fail
    go_ret
    exact ⟨by simp [go_sem] <;> omega, rfl⟩

set_option maxRecDepth 100000 in
theorem refentry_is (w : World) (y : Ent) (hl : y.data.length ≤ 9223372036854775807) : Calls Tryz.prog 49 #[.agg #[.int .i64 y.ep, .string (str y.data)]] w fun e w' => e = .returned (.bool y.right) ∧ Out Zone.no w w' := by
  have hs2 : (str y.data).size = y.data.length := str_size _
  have HR : Hid (y.right = (inB y.ep && decide (y.data.length ≤ 65536))) := rfl
  obtain ⟨g, hg⟩ : ∃ g, inB y.ep = g := ⟨_, rfl⟩
  have RI := refin_is (w.alloc (.cells #[.int .i64 y.ep, .string (str y.data)] 23)) y.ep
  rw [hg] at RI HR
  have HRI := Lib.hid RI
  obtain ⟨S, hS⟩ : ∃ S, str y.data = S := ⟨_, rfl⟩
  rw [hS] at HRI hs2 ⊢
  have hsz : S.size ≤ 9223372036854775807 := by rw [hs2]; exact hl
  have HS2 := Lib.hid hs2
  clear RI hg hS hs2 hl
  cases g with
  | false =>
    go_enter Tryz.func49, Tryz.ntmps49
    go_wp2_with (go_at_call 48; with_reducible refine HRI.out.mono ?_; rintro e w' ⟨rfl, rfl⟩)
    go_ret
    exact ⟨by rw [HR.out]; simp, (Out.refl _ _).alloc _⟩
  | true =>
    go_enter Tryz.func49, Tryz.ntmps49
    go_wp2_with (go_at_call 48; with_reducible refine HRI.out.mono ?_; rintro e w' ⟨rfl, rfl⟩)
    go_ret
    exact ⟨by rw [HR.out, ← HS2.out]; simp <;> omega, (Out.refl _ _).alloc _⟩

set_option maxRecDepth 100000 in
set_option maxHeartbeats 9000000 in
theorem rmsg_is (w : World) (N : Nat → Prop) (m : Msg) (v : Value) (hr : RRow N w v m.log.length 2 (encL m.log)) (hl : m.log.length ≤ 1152921504606846976) (hf : Fits m.log) :
    Calls Tryz.prog 35 #[.agg (m.cells v).toArray] w fun e w' => e = .returned (.bool m.right) ∧ Out Zone.no w w' := by
  obtain ⟨A, c, rfl, _, _⟩ := hr.form
  have HR : Hid (m.right = (decide (1 ≤ m.kind) && decide (m.kind ≤ 5) && idB m.frm && idB m.to && (inB m.ep && inB m.at_ && inB m.last && inB m.commit) && decide (m.log.length ≤ 2048) && (decide (m.kind = 3) || decide (m.log.length = 0)) && m.log.all Ent.right)) := rfl
  obtain ⟨r, hrr⟩ : ∃ r, m.right = r := ⟨_, rfl⟩
  rw [hrr] at HR ⊢
  unfold Msg.cells
  obtain ⟨kd, hkd⟩ : ∃ kd, m.kind = kd := ⟨_, rfl⟩
  obtain ⟨fr, hfr⟩ : ∃ fr, m.frm = fr := ⟨_, rfl⟩
  obtain ⟨tt, hto⟩ : ∃ tt, m.to = tt := ⟨_, rfl⟩
  obtain ⟨me, hme⟩ : ∃ me, m.ep = me := ⟨_, rfl⟩
  obtain ⟨ma, hma⟩ : ∃ ma, m.at_ = ma := ⟨_, rfl⟩
  obtain ⟨ml, hml2⟩ : ∃ ml, m.last = ml := ⟨_, rfl⟩
  obtain ⟨mc, hmc⟩ : ∃ mc, m.commit = mc := ⟨_, rfl⟩
  obtain ⟨l, hll⟩ : ∃ l, m.log = l := ⟨_, rfl⟩
  rw [hkd, hfr, hto, hme, hma, hml2, hmc, hll] at HR
  rw [hll] at hr hl hf
  rw [hkd, hfr, hto, hme, hma, hml2, hmc, hll]
  obtain ⟨L, hL⟩ : ∃ L, l.length = L := ⟨_, rfl⟩
  have HL := Lib.hid hL
  rw [hL] at hr hl HR ⊢
  have HRW := Lib.hid hr
  have HF := Lib.hid hf
  clear hkd hfr hto hme hma hml2 hmc hll hL hr hf hrr
  have OB : Hid (Out Zone.no w (w.alloc (.cells #[.int .i64 kd, .int .i64 fr, .int .i64 tt, .int .i64 me, .int .i64 ma, .int .i64 ml, .int .i64 mc, .slice A L c] 28))) := (Out.refl _ _).alloc _
  by_cases c0 : kd < 1
  · have d0 : decide (kd < 1) = true := decide_eq_true c0
    have z : r = false := by rw [HR.out]; simp [idB]; omega
    rw [z]
    clear z c0
    clear HR
    go_enter Tryz.func35, Tryz.ntmps35
    go_wp2_with (first
      | (go_at_call 48; with_reducible refine (refin_is _ _).mono ?_; rintro e w' ⟨rfl, rfl⟩))
    all_goals (go_ret; exact ⟨by simp [go_sem], OB.out⟩)
  have d0 : decide (kd < 1) = false := decide_eq_false c0
  have k0 := Lib.hid c0
  clear c0
  by_cases c1 : 5 < kd
  · have d1 : decide (5 < kd) = true := decide_eq_true c1
    have z : r = false := by rw [HR.out]; simp [idB]; have := k0.out; omega
    rw [z]
    clear z c1
    clear HR
    go_enter Tryz.func35, Tryz.ntmps35
    go_wp2_with (first
      | (go_at_call 48; with_reducible refine (refin_is _ _).mono ?_; rintro e w' ⟨rfl, rfl⟩))
    all_goals (go_ret; exact ⟨by simp [go_sem], OB.out⟩)
  have d1 : decide (5 < kd) = false := decide_eq_false c1
  have k1 := Lib.hid c1
  clear c1
  by_cases c2 : fr < 0
  · have d2 : decide (fr < 0) = true := decide_eq_true c2
    have z : r = false := by rw [HR.out]; simp [idB]; have := k0.out; have := k1.out; omega
    rw [z]
    clear z c2
    clear HR
    go_enter Tryz.func35, Tryz.ntmps35
    go_wp2_with (first
      | (go_at_call 48; with_reducible refine (refin_is _ _).mono ?_; rintro e w' ⟨rfl, rfl⟩))
    all_goals (go_ret; exact ⟨by simp [go_sem], OB.out⟩)
  have d2 : decide (fr < 0) = false := decide_eq_false c2
  have k2 := Lib.hid c2
  clear c2
  by_cases c3 : 6 < fr
  · have d3 : decide (6 < fr) = true := decide_eq_true c3
    have z : r = false := by rw [HR.out]; simp [idB]; have := k0.out; have := k1.out; have := k2.out; omega
    rw [z]
    clear z c3
    clear HR
    go_enter Tryz.func35, Tryz.ntmps35
    go_wp2_with (first
      | (go_at_call 48; with_reducible refine (refin_is _ _).mono ?_; rintro e w' ⟨rfl, rfl⟩))
    all_goals (go_ret; exact ⟨by simp [go_sem], OB.out⟩)
  have d3 : decide (6 < fr) = false := decide_eq_false c3
  have k3 := Lib.hid c3
  clear c3
  by_cases c4 : tt < 0
  · have d4 : decide (tt < 0) = true := decide_eq_true c4
    have z : r = false := by rw [HR.out]; simp [idB]; have := k0.out; have := k1.out; have := k2.out; have := k3.out; omega
    rw [z]
    clear z c4
    clear HR
    go_enter Tryz.func35, Tryz.ntmps35
    go_wp2_with (first
      | (go_at_call 48; with_reducible refine (refin_is _ _).mono ?_; rintro e w' ⟨rfl, rfl⟩))
    all_goals (go_ret; exact ⟨by simp [go_sem], OB.out⟩)
  have d4 : decide (tt < 0) = false := decide_eq_false c4
  have k4 := Lib.hid c4
  clear c4
  by_cases c5 : 6 < tt
  · have d5 : decide (6 < tt) = true := decide_eq_true c5
    have z : r = false := by rw [HR.out]; simp [idB]; have := k0.out; have := k1.out; have := k2.out; have := k3.out; have := k4.out; omega
    rw [z]
    clear z c5
    clear HR
    go_enter Tryz.func35, Tryz.ntmps35
    go_wp2_with (first
      | (go_at_call 48; with_reducible refine (refin_is _ _).mono ?_; rintro e w' ⟨rfl, rfl⟩))
    all_goals (go_ret; exact ⟨by simp [go_sem], OB.out⟩)
  have d5 : decide (6 < tt) = false := decide_eq_false c5
  have k5 := Lib.hid c5
  clear c5
  obtain ⟨gme, hgme⟩ : ∃ g, inB me = g := ⟨_, rfl⟩
  have Rme : Hid (∀ W : World, Calls Tryz.prog 48 #[.int .i64 me] W fun e w' => e = .returned (.bool gme) ∧ W = w') := fun W => by rw [← hgme]; exact refin_is W me
  rw [hgme] at HR
  clear hgme
  obtain ⟨gma, hgma⟩ : ∃ g, inB ma = g := ⟨_, rfl⟩
  have Rma : Hid (∀ W : World, Calls Tryz.prog 48 #[.int .i64 ma] W fun e w' => e = .returned (.bool gma) ∧ W = w') := fun W => by rw [← hgma]; exact refin_is W ma
  rw [hgma] at HR
  clear hgma
  obtain ⟨gml, hgml⟩ : ∃ g, inB ml = g := ⟨_, rfl⟩
  have Rml : Hid (∀ W : World, Calls Tryz.prog 48 #[.int .i64 ml] W fun e w' => e = .returned (.bool gml) ∧ W = w') := fun W => by rw [← hgml]; exact refin_is W ml
  rw [hgml] at HR
  clear hgml
  obtain ⟨gmc, hgmc⟩ : ∃ g, inB mc = g := ⟨_, rfl⟩
  have Rmc : Hid (∀ W : World, Calls Tryz.prog 48 #[.int .i64 mc] W fun e w' => e = .returned (.bool gmc) ∧ W = w') := fun W => by rw [← hgmc]; exact refin_is W mc
  rw [hgmc] at HR
  clear hgmc
  cases gme with
  | false =>
    have z : r = false := by rw [HR.out]; simp
    rw [z]
    clear HR z
    go_enter Tryz.func35, Tryz.ntmps35
    go_wp2_with (first
      | (go_at_call 48; with_reducible refine (Rme.out _).mono ?_; rintro e w' ⟨rfl, rfl⟩)
      | (go_at_call 48; with_reducible refine (Rma.out _).mono ?_; rintro e w' ⟨rfl, rfl⟩)
      | (go_at_call 48; with_reducible refine (Rml.out _).mono ?_; rintro e w' ⟨rfl, rfl⟩)
      | (go_at_call 48; with_reducible refine (Rmc.out _).mono ?_; rintro e w' ⟨rfl, rfl⟩))
    all_goals (go_ret; exact ⟨by simp [go_sem], OB.out⟩)
  | true =>
  cases gma with
  | false =>
    have z : r = false := by rw [HR.out]; simp
    rw [z]
    clear HR z
    go_enter Tryz.func35, Tryz.ntmps35
    go_wp2_with (first
      | (go_at_call 48; with_reducible refine (Rme.out _).mono ?_; rintro e w' ⟨rfl, rfl⟩)
      | (go_at_call 48; with_reducible refine (Rma.out _).mono ?_; rintro e w' ⟨rfl, rfl⟩)
      | (go_at_call 48; with_reducible refine (Rml.out _).mono ?_; rintro e w' ⟨rfl, rfl⟩)
      | (go_at_call 48; with_reducible refine (Rmc.out _).mono ?_; rintro e w' ⟨rfl, rfl⟩))
    all_goals (go_ret; exact ⟨by simp [go_sem], OB.out⟩)
  | true =>
  cases gml with
  | false =>
    have z : r = false := by rw [HR.out]; simp
    rw [z]
    clear HR z
    go_enter Tryz.func35, Tryz.ntmps35
    go_wp2_with (first
      | (go_at_call 48; with_reducible refine (Rme.out _).mono ?_; rintro e w' ⟨rfl, rfl⟩)
      | (go_at_call 48; with_reducible refine (Rma.out _).mono ?_; rintro e w' ⟨rfl, rfl⟩)
      | (go_at_call 48; with_reducible refine (Rml.out _).mono ?_; rintro e w' ⟨rfl, rfl⟩)
      | (go_at_call 48; with_reducible refine (Rmc.out _).mono ?_; rintro e w' ⟨rfl, rfl⟩))
    all_goals (go_ret; exact ⟨by simp [go_sem], OB.out⟩)
  | true =>
  cases gmc with
  | false =>
    have z : r = false := by rw [HR.out]; simp
    rw [z]
    clear HR z
    go_enter Tryz.func35, Tryz.ntmps35
    go_wp2_with (first
      | (go_at_call 48; with_reducible refine (Rme.out _).mono ?_; rintro e w' ⟨rfl, rfl⟩)
      | (go_at_call 48; with_reducible refine (Rma.out _).mono ?_; rintro e w' ⟨rfl, rfl⟩)
      | (go_at_call 48; with_reducible refine (Rml.out _).mono ?_; rintro e w' ⟨rfl, rfl⟩)
      | (go_at_call 48; with_reducible refine (Rmc.out _).mono ?_; rintro e w' ⟨rfl, rfl⟩))
    all_goals (go_ret; exact ⟨by simp [go_sem], OB.out⟩)
  | true =>
  by_cases c6 : 2048 < L
  · have d6 : decide (2048 < (L : Int)) = true := by rw [decide_eq_true_eq]; omega
    have z : r = false := by rw [HR.out]; simp; omega
    rw [z]
    clear HR z c6
    go_enter Tryz.func35, Tryz.ntmps35
    go_wp2_with (first
      | (go_at_call 48; with_reducible refine (Rme.out _).mono ?_; rintro e w' ⟨rfl, rfl⟩)
      | (go_at_call 48; with_reducible refine (Rma.out _).mono ?_; rintro e w' ⟨rfl, rfl⟩)
      | (go_at_call 48; with_reducible refine (Rml.out _).mono ?_; rintro e w' ⟨rfl, rfl⟩)
      | (go_at_call 48; with_reducible refine (Rmc.out _).mono ?_; rintro e w' ⟨rfl, rfl⟩))
    all_goals (go_ret; exact ⟨by simp [go_sem], OB.out⟩)
  have d6 : decide (2048 < (L : Int)) = false := by rw [decide_eq_false_iff_not]; omega
  have KB : Hid (∀ W, Out Zone.no (w.alloc (.cells #[.int .i64 kd, .int .i64 fr, .int .i64 tt, .int .i64 me, .int .i64 ma, .int .i64 ml, .int .i64 mc, .slice A L c] 28)) W → W.cell? ⟨w.heap.size, 7, none⟩ = some (.slice A L c)) := fun W ho => by
    have hb := ho.get (heap_alloc_new w (.cells #[.int .i64 kd, .int .i64 fr, .int .i64 tt, .int .i64 me, .int .i64 ma, .int .i64 ml, .int .i64 mc, .slice A L c] 28)) id
    rw [cells_all hb]; rfl
  have RALL : Hid ((kd = 3 ∨ L = 0) → r = l.all Ent.right) := fun e => by
    rw [HR.out]
    have := k0.out; have := k1.out; have := k2.out; have := k3.out; have := k4.out; have := k5.out
    have e1 : decide (1 ≤ kd) = true := decide_eq_true (by omega)
    have e2 : decide (kd ≤ 5) = true := decide_eq_true (by omega)
    have e3 : idB fr = true := by simp [idB]; omega
    have e4 : idB tt = true := by simp [idB]; omega
    have e5 : decide (L ≤ 2048) = true := decide_eq_true (by omega)
    have e6 : (decide (kd = 3) || decide (L = 0)) = true := by simpa using e
    rw [e1, e2, e3, e4, e5, e6]
    simp
  have RNO : Hid (kd ≠ 3 → L ≠ 0 → r = false) := fun e1 e2 => by rw [HR.out]; simp [e1, e2]
  clear HR
  have ls0 : ¬ (1152921504606846976 < L) := by omega
  by_cases hk3 : kd = 3
  · subst hk3
    have HRA := Lib.hid (RALL.out (Or.inl rfl))
    rw [HRA.out]
    clear RNO RALL HRA
    have e3 : ((3 : Int) != 3) = false := rfl
    go_enter Tryz.func35, Tryz.ntmps35
    go_wp2_with (first
      | (go_at_call 48; with_reducible refine (Rme.out _).mono ?_; rintro e w' ⟨rfl, rfl⟩)
      | (go_at_call 48; with_reducible refine (Rma.out _).mono ?_; rintro e w' ⟨rfl, rfl⟩)
      | (go_at_call 48; with_reducible refine (Rml.out _).mono ?_; rintro e w' ⟨rfl, rfl⟩)
      | (go_at_call 48; with_reducible refine (Rmc.out _).mono ?_; rintro e w' ⟨rfl, rfl⟩))
    obtain ⟨W0, hW0⟩ : ∃ W0, w.alloc (.cells #[.int .i64 3, .int .i64 fr, .int .i64 tt, .int .i64 me, .int .i64 ma, .int .i64 ml, .int .i64 mc, .slice A L c] 28) = W0 := ⟨_, rfl⟩
    rw [hW0] at KB OB ⊢
    clear hW0
    go_loopw [3] (fun vi wr => ∃ i : Nat, i ≤ L ∧ vi = .int .i64 (i : Int) ∧ Hid ((l.take i).all Ent.right = true) ∧ Hid (Out Zone.no W0 wr)) (fun vi _ => L - (intOf vi).toNat)
    case atStart => exact ⟨0, by omega, rfl, rfl, Out.refl _ _⟩
    case round =>
      obtain ⟨i, hi, rfl, hall, how⟩ := hrel
      by_cases hlt : i < L
      · obtain ⟨x, hx⟩ : ∃ x, l[i]? = some x := ⟨_, List.getElem?_eq_getElem (by rw [HL.out]; exact hlt)⟩
        obtain ⟨_, A', c', hv, _, _, hc⟩ := HRW.out
        obtain ⟨e1, e2⟩ := encL_at hx
        obtain ⟨b, o, hA, _, hc1⟩ := hc _ _ e1
        obtain ⟨b', o', hA', _, hc2⟩ := hc _ _ e2
        obtain rfl : A = A' := by injection hv
        rw [hA] at hA'
        obtain ⟨rfl, rfl⟩ : b = b' ∧ o = o' := by injection hA' with h; injection h with h1 h2; exact ⟨h1, h2⟩
        subst hA
        have HW := OB.out.trans how.out
        have p1 := HW.cell hc1 id
        have p2 : wr.cell? ⟨b, o + i * 2 + 1, none⟩ = some (.string (str x.data)) := by rw [Nat.add_assoc]; exact HW.cell hc2 id
        have p3 := KB.out _ how.out
        clear hv hc hc1 hc2 e1 e2 hA' HW
        have hta : Hid (x.right = true → (l.take (i + 1)).all Ent.right = true) := fun e => by
          obtain ⟨hi', rfl⟩ := List.getElem?_eq_some_iff.1 hx
          rw [List.take_succ_eq_append_getElem hi', List.all_append, hall.out]
          simp [e]
        have hfa : Hid (x.right = false → l.all Ent.right = false) := fun e => by
          rw [List.all_eq_false]
          exact ⟨x, List.mem_of_getElem? hx, by simp [e]⟩
        have IB := refentry_is wr x (HF.out x (List.mem_of_getElem? hx))
        clear hx
        obtain ⟨g, hg⟩ : ∃ g, x.right = g := ⟨_, rfl⟩
        rw [hg] at IB hta hfa
        have HIB := Lib.hid IB
        clear IB hg
        cases g with
        | true =>
          go_wp2_with (go_at_call 49; refine HIB.out.mono ?_; rintro e w1 ⟨rfl, ho1⟩; have HO1 := Lib.hid (how.out.trans ho1); clear ho1)
          go_roundw
          case rel => exact ⟨i + 1, by omega, by go_num, hta.out (by simp), HO1.out⟩
          case measure => simp [intOf]; omega
        | false =>
          go_wp2_with (go_at_call 49; refine HIB.out.mono ?_; rintro e w1 ⟨rfl, ho1⟩; have HO1 := Lib.hid (how.out.trans ho1); clear ho1)
          go_ret
          rw [hfa.out (by simp)]
          exact ⟨rfl, OB.out.trans HO1.out⟩
      · obtain rfl : i = L := by omega
        have hta : Hid (l.all Ent.right = true) := by have := hall.out; rwa [← HL.out, List.take_length] at this
        have p3 := KB.out _ how.out
        go_wp2_with fail
        go_ret
        rw [hta.out]
        exact ⟨rfl, OB.out.trans how.out⟩
  · have z3 : (kd != 3) = true := by rw [bne_iff_ne]; exact hk3
    have z3b : (kd == 3) = false := by rw [beq_eq_false_iff_ne]; exact hk3
    have z3c : decide (kd = 3) = false := decide_eq_false hk3
    by_cases hL0 : L = 0
    · subst hL0
      have HRA := Lib.hid (RALL.out (Or.inr rfl))
      clear hk3
      rw [HRA.out]
      clear RNO RALL HRA
      go_enter Tryz.func35, Tryz.ntmps35
      go_wp2_with (first
        | (go_at_call 48; with_reducible refine (Rme.out _).mono ?_; rintro e w' ⟨rfl, rfl⟩)
        | (go_at_call 48; with_reducible refine (Rma.out _).mono ?_; rintro e w' ⟨rfl, rfl⟩)
        | (go_at_call 48; with_reducible refine (Rml.out _).mono ?_; rintro e w' ⟨rfl, rfl⟩)
        | (go_at_call 48; with_reducible refine (Rmc.out _).mono ?_; rintro e w' ⟨rfl, rfl⟩))
      obtain ⟨W0, hW0⟩ : ∃ W0, w.alloc (.cells #[.int .i64 kd, .int .i64 fr, .int .i64 tt, .int .i64 me, .int .i64 ma, .int .i64 ml, .int .i64 mc, .slice A 0 c] 28) = W0 := ⟨_, rfl⟩
      rw [hW0] at KB OB ⊢
      clear hW0
      go_loopw [3] (fun vi wr => ∃ i : Nat, i ≤ 0 ∧ vi = .int .i64 (i : Int) ∧ Hid ((l.take i).all Ent.right = true) ∧ Hid (Out Zone.no W0 wr)) (fun vi _ => 0 - (intOf vi).toNat)
      case atStart => exact ⟨0, by omega, rfl, rfl, Out.refl _ _⟩
      case round =>
        obtain ⟨i, hi, rfl, hall, how⟩ := hrel
        by_cases hlt : i < 0
        · omega
        · obtain rfl : i = 0 := by omega
          have hta : Hid (l.all Ent.right = true) := by have := hall.out; rwa [← HL.out, List.take_length] at this
          have p3 := KB.out _ how.out
          go_wp2_with fail
          go_ret
          rw [hta.out]
          exact ⟨rfl, OB.out.trans how.out⟩
    · have z4 : decide ((0 : Int) < (L : Int)) = true := decide_eq_true (by omega)
      have z5 : 0 < L := by omega
      rw [RNO.out hk3 hL0]
      clear RNO RALL hk3 hL0 KB
      go_enter Tryz.func35, Tryz.ntmps35
      go_wp2_with (first
        | (go_at_call 48; with_reducible refine (Rme.out _).mono ?_; rintro e w' ⟨rfl, rfl⟩)
        | (go_at_call 48; with_reducible refine (Rma.out _).mono ?_; rintro e w' ⟨rfl, rfl⟩)
        | (go_at_call 48; with_reducible refine (Rml.out _).mono ?_; rintro e w' ⟨rfl, rfl⟩)
        | (go_at_call 48; with_reducible refine (Rmc.out _).mono ?_; rintro e w' ⟨rfl, rfl⟩))
      all_goals (first | (go_ret; exact ⟨by simp [go_sem], OB.out⟩) | (exfalso; omega))
end Go.Proofs.YtlgoenimjmiapaaGreat
