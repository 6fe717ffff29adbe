import Derived.Test.YtlgoenimjmiapaaGreatT16
set_option linter.unusedSimpArgs false
set_option linter.unusedVariables false
set_option linter.unusedSectionVars false
/-! Step: a message of a lesser epoch. -/
set_option linter.unusedVariables false
set_option linter.unusedSectionVars false
namespace Go.Proofs.YtlgoenimjmiapaaGreat
open Go.RowKit Go.Maps

section
variable [Far] {w w' : World} {x : Nat} {c c' : NS} {V : NV}

set_option maxRecDepth 100000 in
set_option maxHeartbeats 4000000 in
theorem step_low {q : ND} (h : NAt w x ⟨q, [], []⟩ V) (hf : q.Fit) (m : Msg) (v : Value) (hr : RRow (V.own x) w v m.log.length 2 (encL m.log)) (hml : m.log.length ≤ 9223372036854775807) (hfit : Fits m.log)
    (h1 : m.right = true) (h2 : m.to = (q.id : Int)) (h3 : m.frm ≠ (q.id : Int)) (h4 : m.frm < (q.n : Int)) (hlow : m.ep < q.st.ep) :
    Calls Tryz.prog 41 #[.pointer (some ⟨x, 0, none⟩), .agg (m.cells v).toArray] w fun e w' => Answered w x V (if m.kind = 1 ∨ m.kind = 3 then NS.sent ⟨q, [], []⟩ (nackMsg m) else ⟨q, [], []⟩, 0) e w' := by
  have HS := Lib.hid (StepAt.start h hr)
  obtain ⟨Am, cm, hv, _, _⟩ := hr.form
  have HR := Lib.hid hr
  have HN : Hid (∀ W, StepAt w x V ⟨q, [], []⟩ m v w.heap.size (w.heap.size + 1) W → Calls Tryz.prog 61 #[.pointer (some ⟨x, 0, none⟩)] W fun e w' => e = .returned (.bool false) ∧ W = w') := fun W hW => by
    obtain ⟨V', ⟨k, _⟩, _⟩ := hW
    exact none_g k hf.n0 hf.n7
  have HM : Hid (∀ W, StepAt w x V ⟨q, [], []⟩ m v w.heap.size (w.heap.size + 1) W → Calls Tryz.prog 33 #[.agg (m.cells v).toArray] W fun e w' => e = .returned (.bool m.right) ∧ StepAt w x V ⟨q, [], []⟩ m v w.heap.size (w.heap.size + 1) w') := fun W hW => by
    obtain ⟨V', _, _, _, k⟩ := id hW
    refine (mright_is W _ m v k hml hfit).mono ?_
    rintro e w' ⟨rfl, ho⟩
    exact ⟨rfl, hW.any ho⟩
  subst hv
  obtain ⟨L, hL⟩ : ∃ L, m.log.length = L := ⟨_, rfl⟩
  obtain ⟨kd, hkd⟩ : ∃ kd, m.kind = kd := ⟨_, rfl⟩
  obtain ⟨fr, hfr⟩ : ∃ fr, m.frm = fr := ⟨_, rfl⟩
  obtain ⟨tt, hto⟩ : ∃ tt, m.to = tt := ⟨_, rfl⟩
  obtain ⟨me, hme⟩ : ∃ me, m.ep = me := ⟨_, rfl⟩
  obtain ⟨ma, hma⟩ : ∃ ma, m.at_ = ma := ⟨_, rfl⟩
  obtain ⟨ml, hml2⟩ : ∃ ml, m.last = ml := ⟨_, rfl⟩
  obtain ⟨mc, hmc⟩ : ∃ mc, m.commit = mc := ⟨_, rfl⟩
  obtain ⟨D, hD⟩ : ∃ D, q.id = D := ⟨_, rfl⟩
  obtain ⟨N, hN⟩ : ∃ N, q.n = N := ⟨_, rfl⟩
  have hag : (m.cells (.slice Am m.log.length cm)).toArray = #[.int .i64 kd, .int .i64 fr, .int .i64 tt, .int .i64 me, .int .i64 ma, .int .i64 ml, .int .i64 mc, .slice Am L cm] := by
    unfold Msg.cells; rw [hkd, hfr, hto, hme, hma, hml2, hmc, hL]
  obtain ⟨B, hB⟩ : ∃ B, w.heap.size = B := ⟨_, rfl⟩
  rw [hB] at HS HN HM
  obtain ⟨P, hP⟩ : ∃ P : World → Prop, StepAt w x V ⟨q, [], []⟩ m (.slice Am m.log.length cm) B (B + 1) = P := ⟨_, rfl⟩
  have KC : Hid (∀ W, P W → ((W.cell? ⟨B, 0, none⟩ = some (.int .i64 kd) ∧ W.cell? ⟨B, 1, none⟩ = some (.int .i64 fr) ∧ W.cell? ⟨B, 2, none⟩ = some (.int .i64 tt) ∧ W.cell? ⟨B, 3, none⟩ = some (.int .i64 me) ∧ W.cell? ⟨B, 4, none⟩ = some (.int .i64 ma) ∧ W.cell? ⟨B, 5, none⟩ = some (.int .i64 ml) ∧ W.cell? ⟨B, 6, none⟩ = some (.int .i64 mc) ∧ W.cell? ⟨B, 7, none⟩ = some (.slice Am L cm)) ∧ W.cell? ⟨x, 3, none⟩ = some (.int .i64 (D : Int)) ∧ W.cell? ⟨x, 4, none⟩ = some (.int .i64 (N : Int)))) := fun W hW => by
    rw [← hP] at hW
    obtain ⟨_, k3, k4, _⟩ := hW.node
    rw [← hkd, ← hfr, ← hto, ← hme, ← hma, ← hml2, ← hmc, ← hL, ← hD, ← hN]
    exact ⟨⟨hW.box 0, hW.box 1, hW.box 2, hW.box 3, hW.box 4, hW.box 5, hW.box 6, hW.box 7⟩, k3, k4⟩
  have KR : Hid (∀ W, P W → Held w x V ⟨q, [], []⟩ (B + 1) W) := fun W hW => by
    rw [← hP] at hW
    exact hW.held
  have KO : Hid (∀ W W', P W → Out Zone.no W W' → P W') := fun W W' hW ho => by
    rw [← hP] at hW ⊢
    exact hW.any ho
  rw [hag, hP] at HS HM
  rw [hP] at HN
  rw [hag]
  obtain ⟨E, hE⟩ : ∃ E, q.st.ep = E := ⟨_, rfl⟩
  have KE : Hid (∀ W, P W → W.cell? ⟨x, 0, none⟩ = some (.int .i64 E)) := fun W hW => by
    rw [← hP] at hW
    rw [← hE]
    exact hW.node.1
  have SEND : Hid (∀ W, P W → Calls Tryz.prog 66 #[.pointer (some ⟨x, 0, none⟩), .agg #[.int .i64 5, .int .i64 0, .int .i64 fr, .int .i64 0, .int .i64 0, .int .i64 0, .int .i64 0, .slice none 0 0]] W fun e w' => e = .returned (.tuple #[]) ∧ StepAt w x V (NS.sent ⟨q, [], []⟩ (nackMsg m)) m (.slice Am m.log.length cm) B (B + 1) w') := fun W hW => by
    rw [← hP] at hW
    rw [← hfr]
    exact hW.step (fun V' k => send_g k (by show (0 : Nat) ≤ _; omega) (nackMsg m) (.slice none 0 0) (rrow_nil _ _ _))
  have FINH : Hid (∀ (c : NS) W, StepAt w x V c m (.slice Am m.log.length cm) B (B + 1) W → Held w x V c (B + 1) W) := fun c W hW => hW.held
  have PST : Hid (∀ W, P W → StepAt w x V ⟨q, [], []⟩ m (.slice Am m.log.length cm) B (B + 1) W) := fun W hW => by rw [← hP] at hW; exact hW
  rw [hE, hme] at hlow
  have g1 : decide (E < me) = false := by rw [decide_eq_false_iff_not]; omega
  have g2 : decide (me < E) = true := decide_eq_true hlow
  rw [hkd]
  obtain ⟨r, hr2⟩ : ∃ r, m.right = r := ⟨_, rfl⟩
  rw [h1] at hr2
  subst hr2
  rw [hto, hD] at h2
  rw [hfr, hD] at h3
  rw [hfr, hN] at h4
  rw [h1] at HM
  have t1 : (tt == (D : Int)) = true := by rw [beq_iff_eq]; exact h2
  have t1b : (tt != (D : Int)) = false := by rw [bne_eq_false_iff_eq]; exact h2
  have t1c : decide (tt = (D : Int)) = true := decide_eq_true h2
  have t2 : (fr == (D : Int)) = false := by rw [beq_eq_false_iff_ne]; exact h3
  have t2b : (fr != (D : Int)) = true := by rw [bne_iff_ne]; exact h3
  have t2c : decide (fr = (D : Int)) = false := decide_eq_false h3
  have t3 : decide ((N : Int) ≤ fr) = false := by rw [decide_eq_false_iff_not]; omega
  by_cases hk1 : kd = 1
  · rw [if_pos (Or.inl hk1)]
    subst hk1
    clear hL hkd hfr hto hme hma hml2 hmc hD hN hag hP hE h HR hfit hml hr hf h2 h3 h4 hlow
    go_enter Tryz.func41, Tryz.ntmps41
    go_wp2_with fail
    obtain ⟨W0, hW0⟩ : ∃ W0, (w.alloc (.cells #[.int .i64 1, .int .i64 fr, .int .i64 tt, .int .i64 me, .int .i64 ma, .int .i64 ml, .int .i64 mc, .slice Am L cm] 49)).alloc (.cells #[.slice none 0 0, .slice none 0 0] 86) = W0 := ⟨_, rfl⟩
    rw [hW0] at HS ⊢
    clear hW0 hB
    have HSD : Hid (P W0.drew) := KO.out _ _ HS.out ((Out.refl _ _).drew)
    obtain ⟨S, f, hPf, hsur⟩ := class_of P
    haveI : Nonempty S := (hsur _ HSD.out).elim fun s _ => ⟨s⟩
    have N27 : Hid (∀ n : S, Calls Tryz.prog 61 #[.pointer (some ⟨x, 0, none⟩)] (f n) fun e w'' => e = .returned (.bool false) ∧ ∃ k : S, w'' = f k) := fun n => (HN.out (f n) (hPf n)).mono (fun e w' ⟨h1, h2⟩ => ⟨h1, n, h2.symm⟩)
    have N28 : Hid (∀ n : S, Calls Tryz.prog 33 #[.agg #[.int .i64 1, .int .i64 fr, .int .i64 tt, .int .i64 me, .int .i64 ma, .int .i64 ml, .int .i64 mc, .slice Am L cm]] (f n) fun e w'' => e = .returned (.bool true) ∧ ∃ k : S, w'' = f k) := fun n => (HM.out (f n) (hPf n)).mono (fun e w' ⟨h1, h2⟩ => ⟨h1, hsur _ h2⟩)
    have y0 := fun W : S => (show (f W).cell? ⟨B, 0, none⟩ = some (.int .i64 1) from (KC.out (f W) (hPf W)).1.1)
    have y1 := fun W : S => (show (f W).cell? ⟨B, 1, none⟩ = some (.int .i64 fr) from (KC.out (f W) (hPf W)).1.2.1)
    have y2 := fun W : S => (show (f W).cell? ⟨B, 2, none⟩ = some (.int .i64 tt) from (KC.out (f W) (hPf W)).1.2.2.1)
    have y3 := fun W : S => (show (f W).cell? ⟨B, 3, none⟩ = some (.int .i64 me) from (KC.out (f W) (hPf W)).1.2.2.2.1)
    have y4 := fun W : S => (show (f W).cell? ⟨B, 4, none⟩ = some (.int .i64 ma) from (KC.out (f W) (hPf W)).1.2.2.2.2.1)
    have y5 := fun W : S => (show (f W).cell? ⟨B, 5, none⟩ = some (.int .i64 ml) from (KC.out (f W) (hPf W)).1.2.2.2.2.2.1)
    have y6 := fun W : S => (show (f W).cell? ⟨B, 6, none⟩ = some (.int .i64 mc) from (KC.out (f W) (hPf W)).1.2.2.2.2.2.2.1)
    have y7 := fun W : S => (show (f W).cell? ⟨B, 7, none⟩ = some (.slice Am L cm) from (KC.out (f W) (hPf W)).1.2.2.2.2.2.2.2)
    have y8 := fun W : S => (show (f W).cell? ⟨x, 3, none⟩ = some (.int .i64 (D : Int)) from (KC.out (f W) (hPf W)).2.1)
    have y9 := fun W : S => (show (f W).cell? ⟨x, 4, none⟩ = some (.int .i64 (N : Int)) from (KC.out (f W) (hPf W)).2.2)
    refine region_class f (by kernel_rfl) (by kernel_rfl) (hsur _ HSD.out) ?_
    repeat (go_big_quiet_step (first | (go_at_call 61; exact N27.out _) | (go_at_call 33; exact N28.out _)))
    refine wpQuiet_nil ?_
    rintro _ ⟨s2, rfl⟩
    have HP2 := Lib.hid (hPf s2)
    obtain ⟨w2, hw2⟩ : ∃ w2, f s2 = w2 := ⟨_, rfl⟩
    rw [hw2] at HP2 ⊢
    clear hw2 y0 y1 y2 y3 y4 y5 y6 y7 y8 y9
    obtain ⟨⟨b0, b1, b2, b3, b4, b5, b6, b7⟩, k3, k4⟩ := KC.out _ HP2.out
    have k0 := KE.out _ HP2.out
    go_wp2_with fail
    go_quiet (fail)
    go_wp2_with fail
    go_quiet (fail)
    have HPq : Hid (∀ n k, P ((w2.drewN n).drewN k)) := fun n k => KO.out _ _ HP2.out (((Out.refl Zone.no w2).drewN n).drewN k)
    have HPs : Hid (∀ n, P (w2.drewN n)) := fun n => KO.out _ _ HP2.out ((Out.refl Zone.no w2).drewN n)
    go_wp2_with (first
      | (go_at_call 66; first | refine (SEND.out _ (HPq.out _ _)).mono ?_ | refine (SEND.out _ (HPs.out _)).mono ?_; rintro e w5 ⟨rfl, hs5⟩; have FST := Lib.hid hs5; clear hs5)
      | (go_at_call 65; refine ((FINH.out _ _ FST.out).done).mono ?_; rintro e w6 ⟨A1, n1, k1, A2, n2, k2, rfl, hR, hfin⟩; have FIN := Lib.hid hfin; have r0 := cells_all hR 0; have r1 := cells_all hR 1; have f0 := frozen_all hR 0; have f1 := frozen_all hR 1; have BR := Lib.hid hR; clear hfin hR))
    have BB := heap_set (heap_set BR.out 0 (.slice A1 n1 k1)) 1 (.slice A2 n2 k2)
    have q0 := cells_all BB 0
    have q1 := cells_all BB 1
    refine bodyPost_ret (v := .tuple #[.agg #[.slice A1 n1 k1, .slice A2 n2 k2], .int .i64 0]) (by simp [results, Tryz.results41, go_sem, q0, q1]) rfl ?_
    exact ⟨_, rfl, FIN.out _ (((Out.refl _ _).setCell (p := ⟨B + 1, 0, none⟩) (Or.inl (by show B + 1 = B + 1; rfl)) _).setCell (p := ⟨B + 1, 1, none⟩) (Or.inl (by show B + 1 = B + 1; rfl)) _)⟩
  · have u1 : (kd == 1) = false := by rw [beq_eq_false_iff_ne]; exact hk1
    have u1b : (kd != 1) = true := by rw [bne_iff_ne]; exact hk1
    have u1c : decide (kd = 1) = false := decide_eq_false hk1
    by_cases hk3 : kd = 3
    · rw [if_pos (Or.inr hk3)]
      subst hk3
      clear hL hkd hfr hto hme hma hml2 hmc hD hN hag hP hE h HR hfit hml hr hf h2 h3 h4 hlow hk1
      go_enter Tryz.func41, Tryz.ntmps41
      go_wp2_with fail
      obtain ⟨W0, hW0⟩ : ∃ W0, (w.alloc (.cells #[.int .i64 3, .int .i64 fr, .int .i64 tt, .int .i64 me, .int .i64 ma, .int .i64 ml, .int .i64 mc, .slice Am L cm] 49)).alloc (.cells #[.slice none 0 0, .slice none 0 0] 86) = W0 := ⟨_, rfl⟩
      rw [hW0] at HS ⊢
      clear hW0 hB
      have HSD : Hid (P W0.drew) := KO.out _ _ HS.out ((Out.refl _ _).drew)
      obtain ⟨S, f, hPf, hsur⟩ := class_of P
      haveI : Nonempty S := (hsur _ HSD.out).elim fun s _ => ⟨s⟩
      have N27 : Hid (∀ n : S, Calls Tryz.prog 61 #[.pointer (some ⟨x, 0, none⟩)] (f n) fun e w'' => e = .returned (.bool false) ∧ ∃ k : S, w'' = f k) := fun n => (HN.out (f n) (hPf n)).mono (fun e w' ⟨h1, h2⟩ => ⟨h1, n, h2.symm⟩)
      have N28 : Hid (∀ n : S, Calls Tryz.prog 33 #[.agg #[.int .i64 3, .int .i64 fr, .int .i64 tt, .int .i64 me, .int .i64 ma, .int .i64 ml, .int .i64 mc, .slice Am L cm]] (f n) fun e w'' => e = .returned (.bool true) ∧ ∃ k : S, w'' = f k) := fun n => (HM.out (f n) (hPf n)).mono (fun e w' ⟨h1, h2⟩ => ⟨h1, hsur _ h2⟩)
      have y0 := fun W : S => (show (f W).cell? ⟨B, 0, none⟩ = some (.int .i64 3) from (KC.out (f W) (hPf W)).1.1)
      have y1 := fun W : S => (show (f W).cell? ⟨B, 1, none⟩ = some (.int .i64 fr) from (KC.out (f W) (hPf W)).1.2.1)
      have y2 := fun W : S => (show (f W).cell? ⟨B, 2, none⟩ = some (.int .i64 tt) from (KC.out (f W) (hPf W)).1.2.2.1)
      have y3 := fun W : S => (show (f W).cell? ⟨B, 3, none⟩ = some (.int .i64 me) from (KC.out (f W) (hPf W)).1.2.2.2.1)
      have y4 := fun W : S => (show (f W).cell? ⟨B, 4, none⟩ = some (.int .i64 ma) from (KC.out (f W) (hPf W)).1.2.2.2.2.1)
      have y5 := fun W : S => (show (f W).cell? ⟨B, 5, none⟩ = some (.int .i64 ml) from (KC.out (f W) (hPf W)).1.2.2.2.2.2.1)
      have y6 := fun W : S => (show (f W).cell? ⟨B, 6, none⟩ = some (.int .i64 mc) from (KC.out (f W) (hPf W)).1.2.2.2.2.2.2.1)
      have y7 := fun W : S => (show (f W).cell? ⟨B, 7, none⟩ = some (.slice Am L cm) from (KC.out (f W) (hPf W)).1.2.2.2.2.2.2.2)
      have y8 := fun W : S => (show (f W).cell? ⟨x, 3, none⟩ = some (.int .i64 (D : Int)) from (KC.out (f W) (hPf W)).2.1)
      have y9 := fun W : S => (show (f W).cell? ⟨x, 4, none⟩ = some (.int .i64 (N : Int)) from (KC.out (f W) (hPf W)).2.2)
      refine region_class f (by kernel_rfl) (by kernel_rfl) (hsur _ HSD.out) ?_
      repeat (go_big_quiet_step (first | (go_at_call 61; exact N27.out _) | (go_at_call 33; exact N28.out _)))
      refine wpQuiet_nil ?_
      rintro _ ⟨s2, rfl⟩
      have HP2 := Lib.hid (hPf s2)
      obtain ⟨w2, hw2⟩ : ∃ w2, f s2 = w2 := ⟨_, rfl⟩
      rw [hw2] at HP2 ⊢
      clear hw2 y0 y1 y2 y3 y4 y5 y6 y7 y8 y9
      obtain ⟨⟨b0, b1, b2, b3, b4, b5, b6, b7⟩, k3, k4⟩ := KC.out _ HP2.out
      have k0 := KE.out _ HP2.out
      go_wp2_with fail
      go_quiet (fail)
      go_wp2_with fail
      go_quiet (fail)
      have HPq : Hid (∀ n k, P ((w2.drewN n).drewN k)) := fun n k => KO.out _ _ HP2.out (((Out.refl Zone.no w2).drewN n).drewN k)
      have HPs : Hid (∀ n, P (w2.drewN n)) := fun n => KO.out _ _ HP2.out ((Out.refl Zone.no w2).drewN n)
      go_wp2_with (first
        | (go_at_call 66; first | refine (SEND.out _ (HPq.out _ _)).mono ?_ | refine (SEND.out _ (HPs.out _)).mono ?_; rintro e w5 ⟨rfl, hs5⟩; have FST := Lib.hid hs5; clear hs5)
        | (go_at_call 65; refine ((FINH.out _ _ FST.out).done).mono ?_; rintro e w6 ⟨A1, n1, k1, A2, n2, k2, rfl, hR, hfin⟩; have FIN := Lib.hid hfin; have r0 := cells_all hR 0; have r1 := cells_all hR 1; have f0 := frozen_all hR 0; have f1 := frozen_all hR 1; have BR := Lib.hid hR; clear hfin hR))
      have BB := heap_set (heap_set BR.out 0 (.slice A1 n1 k1)) 1 (.slice A2 n2 k2)
      have q0 := cells_all BB 0
      have q1 := cells_all BB 1
      refine bodyPost_ret (v := .tuple #[.agg #[.slice A1 n1 k1, .slice A2 n2 k2], .int .i64 0]) (by simp [results, Tryz.results41, go_sem, q0, q1]) rfl ?_
      exact ⟨_, rfl, FIN.out _ (((Out.refl _ _).setCell (p := ⟨B + 1, 0, none⟩) (Or.inl (by show B + 1 = B + 1; rfl)) _).setCell (p := ⟨B + 1, 1, none⟩) (Or.inl (by show B + 1 = B + 1; rfl)) _)⟩
    · have u3 : (kd == 3) = false := by rw [beq_eq_false_iff_ne]; exact hk3
      have u3b : (kd != 3) = true := by rw [bne_iff_ne]; exact hk3
      have u3c : decide (kd = 3) = false := decide_eq_false hk3
      rw [if_neg (fun e => e.elim hk1 hk3)]
      clear hL hkd hfr hto hme hma hml2 hmc hD hN hag hP hE h HR hfit hml hr hf h2 h3 h4 hlow hk1 hk3
      go_enter Tryz.func41, Tryz.ntmps41
      go_wp2_with fail
      obtain ⟨W0, hW0⟩ : ∃ W0, (w.alloc (.cells #[.int .i64 kd, .int .i64 fr, .int .i64 tt, .int .i64 me, .int .i64 ma, .int .i64 ml, .int .i64 mc, .slice Am L cm] 49)).alloc (.cells #[.slice none 0 0, .slice none 0 0] 86) = W0 := ⟨_, rfl⟩
      rw [hW0] at HS ⊢
      clear hW0 hB
      have HSD : Hid (P W0.drew) := KO.out _ _ HS.out ((Out.refl _ _).drew)
      obtain ⟨S, f, hPf, hsur⟩ := class_of P
      haveI : Nonempty S := (hsur _ HSD.out).elim fun s _ => ⟨s⟩
      have N27 : Hid (∀ n : S, Calls Tryz.prog 61 #[.pointer (some ⟨x, 0, none⟩)] (f n) fun e w'' => e = .returned (.bool false) ∧ ∃ k : S, w'' = f k) := fun n => (HN.out (f n) (hPf n)).mono (fun e w' ⟨h1, h2⟩ => ⟨h1, n, h2.symm⟩)
      have N28 : Hid (∀ n : S, Calls Tryz.prog 33 #[.agg #[.int .i64 kd, .int .i64 fr, .int .i64 tt, .int .i64 me, .int .i64 ma, .int .i64 ml, .int .i64 mc, .slice Am L cm]] (f n) fun e w'' => e = .returned (.bool true) ∧ ∃ k : S, w'' = f k) := fun n => (HM.out (f n) (hPf n)).mono (fun e w' ⟨h1, h2⟩ => ⟨h1, hsur _ h2⟩)
      have y0 := fun W : S => (show (f W).cell? ⟨B, 0, none⟩ = some (.int .i64 kd) from (KC.out (f W) (hPf W)).1.1)
      have y1 := fun W : S => (show (f W).cell? ⟨B, 1, none⟩ = some (.int .i64 fr) from (KC.out (f W) (hPf W)).1.2.1)
      have y2 := fun W : S => (show (f W).cell? ⟨B, 2, none⟩ = some (.int .i64 tt) from (KC.out (f W) (hPf W)).1.2.2.1)
      have y3 := fun W : S => (show (f W).cell? ⟨B, 3, none⟩ = some (.int .i64 me) from (KC.out (f W) (hPf W)).1.2.2.2.1)
      have y4 := fun W : S => (show (f W).cell? ⟨B, 4, none⟩ = some (.int .i64 ma) from (KC.out (f W) (hPf W)).1.2.2.2.2.1)
      have y5 := fun W : S => (show (f W).cell? ⟨B, 5, none⟩ = some (.int .i64 ml) from (KC.out (f W) (hPf W)).1.2.2.2.2.2.1)
      have y6 := fun W : S => (show (f W).cell? ⟨B, 6, none⟩ = some (.int .i64 mc) from (KC.out (f W) (hPf W)).1.2.2.2.2.2.2.1)
      have y7 := fun W : S => (show (f W).cell? ⟨B, 7, none⟩ = some (.slice Am L cm) from (KC.out (f W) (hPf W)).1.2.2.2.2.2.2.2)
      have y8 := fun W : S => (show (f W).cell? ⟨x, 3, none⟩ = some (.int .i64 (D : Int)) from (KC.out (f W) (hPf W)).2.1)
      have y9 := fun W : S => (show (f W).cell? ⟨x, 4, none⟩ = some (.int .i64 (N : Int)) from (KC.out (f W) (hPf W)).2.2)
      refine region_class f (by kernel_rfl) (by kernel_rfl) (hsur _ HSD.out) ?_
      repeat (go_big_quiet_step (first | (go_at_call 61; exact N27.out _) | (go_at_call 33; exact N28.out _)))
      refine wpQuiet_nil ?_
      rintro _ ⟨s2, rfl⟩
      have HP2 := Lib.hid (hPf s2)
      obtain ⟨w2, hw2⟩ : ∃ w2, f s2 = w2 := ⟨_, rfl⟩
      rw [hw2] at HP2 ⊢
      clear hw2 y0 y1 y2 y3 y4 y5 y6 y7 y8 y9
      obtain ⟨⟨b0, b1, b2, b3, b4, b5, b6, b7⟩, k3, k4⟩ := KC.out _ HP2.out
      have k0 := KE.out _ HP2.out
      go_wp2_with fail
      go_quiet (fail)
      go_wp2_with fail
      go_quiet (fail)
      have FST : Hid (∀ n k, StepAt w x V ⟨q, [], []⟩ m (.slice Am m.log.length cm) B (B + 1) ((w2.drewN n).drewN k)) := fun n k => PST.out _ (KO.out _ _ HP2.out (((Out.refl Zone.no w2).drewN n).drewN k))
      have FSS : Hid (∀ n, StepAt w x V ⟨q, [], []⟩ m (.slice Am m.log.length cm) B (B + 1) (w2.drewN n)) := fun n => PST.out _ (KO.out _ _ HP2.out ((Out.refl Zone.no w2).drewN n))
      go_wp2_with (first
        | (go_at_call 65; first | refine ((FINH.out _ _ (FST.out _ _)).done).mono ?_ | refine ((FINH.out _ _ (FSS.out _)).done).mono ?_; rintro e w6 ⟨A1, n1, k1, A2, n2, k2, rfl, hR, hfin⟩; have FIN := Lib.hid hfin; have r0 := cells_all hR 0; have r1 := cells_all hR 1; have f0 := frozen_all hR 0; have f1 := frozen_all hR 1; have BR := Lib.hid hR; clear hfin hR))
      have BB := heap_set (heap_set BR.out 0 (.slice A1 n1 k1)) 1 (.slice A2 n2 k2)
      have q0 := cells_all BB 0
      have q1 := cells_all BB 1
      refine bodyPost_ret (v := .tuple #[.agg #[.slice A1 n1 k1, .slice A2 n2 k2], .int .i64 0]) (by simp [results, Tryz.results41, go_sem, q0, q1]) rfl ?_
      exact ⟨_, rfl, FIN.out _ (((Out.refl _ _).setCell (p := ⟨B + 1, 0, none⟩) (Or.inl (by show B + 1 = B + 1; rfl)) _).setCell (p := ⟨B + 1, 1, none⟩) (Or.inl (by show B + 1 = B + 1; rfl)) _)⟩
end
end Go.Proofs.YtlgoenimjmiapaaGreat

/-! What stays fit. -/
set_option linter.unusedVariables false
set_option linter.unusedSectionVars false
namespace Go.Proofs.YtlgoenimjmiapaaGreat
open Go.RowKit Go.Maps

theorem note_vote {s : St} {t : Nt} (h : t.kind = 1) (hr : t.right = true) (hep : s.ep < t.ep) : s.note t = some { s with ep := t.ep, voted := t.n } := by
  unfold St.note
  rw [hr, h]
  simp only [if_true, Bool.true_eq_false, if_false]
  rw [if_neg]
  rintro (e | e)
  · omega
  · omega
theorem vote_right (ep n : Int) (h1 : 0 ≤ ep) (h2 : ep ≤ 1099511627776) (h3 : -1 ≤ n) (h4 : n ≤ 6) : (Nt.right ⟨1, ep, n, ⟨0, []⟩⟩) = true := by
  unfold Nt.right
  simp [inB]
  omega

theorem right_ep {m : Msg} (h : m.right = true) : 0 ≤ m.ep ∧ m.ep ≤ 1099511627776 := by
  simp [Msg.right, Msg.nums, inB] at h
  omega
theorem right_at {m : Msg} (h : m.right = true) : 0 ≤ m.at_ ∧ m.at_ ≤ 1099511627776 := by
  simp [Msg.right, Msg.nums, inB] at h
  omega
theorem right_frm {m : Msg} (h : m.right = true) : 0 ≤ m.frm ∧ m.frm ≤ 6 := by
  simp [Msg.right, idB] at h
  omega
theorem right_kind {m : Msg} (h : m.right = true) : 1 ≤ m.kind ∧ m.kind ≤ 5 := by
  simp [Msg.right] at h
  omega

/-- The node behind the message's epoch. -/
theorem front_is {q : ND} {m : Msg} (hr : m.right = true) : (q.front m).q = (if q.st.ep < m.ep then { q with st := { q.st with ep := m.ep, voted := -1 }, role := 0 } else q) ∧ (q.front m).ns.length ≤ 1 ∧ (q.front m).ms = [] := by
  unfold ND.front
  by_cases h : q.st.ep < m.ep
  · rw [if_pos h, if_pos h]
    have := right_ep hr
    have hn := note_vote (s := q.st) (t := ⟨1, m.ep, -1, ⟨0, []⟩⟩) rfl (vote_right m.ep (-1) this.1 this.2 (by omega) (by omega)) h
    refine ⟨?_, by simp [NS.note, NS.role0], rfl⟩
    unfold NS.role0 NS.note
    simp only
    rw [hn]
    rfl
  · rw [if_neg h, if_neg h]
    exact ⟨rfl, by simp, rfl⟩
theorem front_fit {q : ND} {m : Msg} (hf : q.Fit) (hr : m.right = true) : (q.front m).q.Fit := by
  rw [(front_is hr).1]
  by_cases h : q.st.ep < m.ep
  · rw [if_pos h]
    have := right_ep hr
    exact ⟨hf.n0, hf.n7, hf.ids, hf.log, this.1, Or.inl rfl, fun e => absurd rfl e, fun e => by cases e⟩
  · rw [if_neg h]; exact hf
theorem front_ep {q : ND} {m : Msg} (hr : m.right = true) (h : ¬ m.ep < q.st.ep) : ¬ m.ep < (q.front m).q.st.ep := by
  rw [(front_is hr).1]
  by_cases h2 : q.st.ep < m.ep
  · rw [if_pos h2]; exact Int.lt_irrefl _
  · rw [if_neg h2]; exact h
theorem front_id {q : ND} {m : Msg} (hr : m.right = true) : (q.front m).q.id = q.id ∧ (q.front m).q.n = q.n ∧ (q.front m).q.st.log = q.st.log := by
  rw [(front_is hr).1]
  by_cases h2 : q.st.ep < m.ep
  · rw [if_pos h2]; exact ⟨rfl, rfl, rfl⟩
  · rw [if_neg h2]; exact ⟨rfl, rfl, rfl⟩
end Go.Proofs.YtlgoenimjmiapaaGreat
