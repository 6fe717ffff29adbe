import Derived.Test.YtlgoenimjmiapaaGreatT18
set_option linter.unusedSimpArgs false
set_option linter.unusedVariables false
set_option linter.unusedSectionVars false
/-! Step: Grant. -/
set_option linter.unusedVariables false
set_option linter.unusedSectionVars false
namespace Go.Proofs.YtlgoenimjmiapaaGreat
open Go.RowKit Go.Maps

theorem votes_len {gs : List Int} {n : Nat} (hn : gs.Nodup) (h : ∀ g ∈ gs, 0 ≤ g ∧ g < (n : Int)) : gs.length ≤ n := by
  have := pigeon n (gs.map Int.toNat) (by
    rw [List.nodup_iff_pairwise_ne, List.pairwise_map]
    refine (List.nodup_iff_pairwise_ne.1 hn).imp_of_mem (fun {a b} ha hb hne e => ?_)
    have := h a ha
    have := h b hb
    exact hne (by omega)) (fun y hy => by
    obtain ⟨g, hg, rfl⟩ := List.mem_map.1 hy
    have := h g hg
    omega)
  rw [List.length_map] at this
  exact this
theorem addV_fit {gs : List Int} {n : Nat} {i : Int} (hn : gs.Nodup) (h : ∀ g ∈ gs, 0 ≤ g ∧ g < (n : Int)) (hi : 0 ≤ i ∧ i < (n : Int)) : (addV gs i).Nodup ∧ ∀ g ∈ addV gs i, 0 ≤ g ∧ g < (n : Int) := by
  unfold addV
  by_cases hm : i ∈ gs
  · rw [if_pos hm]; exact ⟨hn, h⟩
  · rw [if_neg hm]
    refine ⟨?_, fun g hg => ?_⟩
    · rw [List.nodup_append]
      refine ⟨hn, by simp, fun a ha c hc => ?_⟩
      rw [List.mem_singleton.1 hc]
      exact fun e => hm (e ▸ ha)
    · rcases List.mem_append.1 hg with e | e
      · exact h g e
      · rw [List.mem_singleton.1 e]; exact hi

section
variable [Far] {w w' : World} {x : Nat} {c c' : NS} {V : NV} {m : Msg} {v : Value} {B R : Nat}
/-- A vote more, within Step. -/
theorem StepAt.vote {W : World} (h : StepAt w x V c m v B R W) {gs : List Int} (hg : c.q.granted = some gs) {i : Nat} (hi : i ≤ 7) (hl : gs.length ≤ 100) :
    ∃ b W', W.cell? ⟨x, 7, none⟩ = some (.map (some b)) ∧ (Instr.mapUpdate 109 (.map (some b)) (.int .i64 (i : Int)) (.bool true)).run Tryz.prog W = .ok () W' ∧ StepAt w x V (c.vote (i : Int)) m v B R W' := by
  obtain ⟨V', ⟨⟨ss, e1, e2⟩, k2⟩, k3, k4, k5⟩ := h
  have hv := e2.votes
  rw [hg] at hv
  obtain ⟨b, hb, hvt⟩ := hv
  obtain ⟨W', hrun, hv', hgr⟩ := hvt.add hi hl
  refine ⟨b, W', by rw [e2.c7, hb], hrun, ?_⟩
  obtain ⟨j1, j2⟩ := e2.vote hg hb hv' hgr
  refine StepAt.gone ⟨ss, e1, e2⟩ k2 k3 k4 k5 ⟨V', ⟨ss, e1, ?_⟩, j2⟩
  unfold NS.vote
  rw [hg]
  exact j1
end

section
variable [Far] {w w' : World} {x : Nat} {c c' : NS} {V : NV}

set_option maxRecDepth 100000 in
set_option maxHeartbeats 4000000 in
theorem step_grant {q : ND} (h : NAt w x ⟨q, [], []⟩ V) (hf : q.Fit) (m : Msg) (v : Value) (hr : RRow (V.own x) w v m.log.length 2 (encL m.log)) (hml : m.log.length ≤ 9223372036854775807) (hfit : Fits m.log)
    (h1 : m.right = true) (h2 : m.to = (q.id : Int)) (h3 : m.frm ≠ (q.id : Int)) (h4 : m.frm < (q.n : Int)) (hge : ¬ m.ep < q.st.ep) (hkk : m.kind = 2) :
    Calls Tryz.prog 41 #[.pointer (some ⟨x, 0, none⟩), .agg (m.cells v).toArray] w fun e w' => Answered w x V ((q.front m).grants m, 0) e w' := by
  have HS := Lib.hid (StepAt.start h hr)
  obtain ⟨Am, cm, hv, _, _⟩ := hr.form
  have HR := Lib.hid hr
  have HN : Hid (∀ W, StepAt w x V ⟨q, [], []⟩ m v w.heap.size (w.heap.size + 1) W → Calls Tryz.prog 61 #[.pointer (some ⟨x, 0, none⟩)] W fun e w' => e = .returned (.bool false) ∧ W = w') := fun W hW => by
    obtain ⟨V', ⟨k, _⟩, _⟩ := hW
    exact none_g k hf.n0 hf.n7
  have HM : Hid (∀ W, StepAt w x V ⟨q, [], []⟩ m v w.heap.size (w.heap.size + 1) W → Calls Tryz.prog 33 #[.agg (m.cells v).toArray] W fun e w' => e = .returned (.bool m.right) ∧ StepAt w x V ⟨q, [], []⟩ m v w.heap.size (w.heap.size + 1) w') := fun W hW => by
    obtain ⟨V', _, _, _, k⟩ := id hW
    refine (mright_is W _ m v k hml hfit).mono ?_
    rintro e w' ⟨rfl, ho⟩
    exact ⟨rfl, hW.any ho⟩
  subst hv
  obtain ⟨L, hL⟩ : ∃ L, m.log.length = L := ⟨_, rfl⟩
  obtain ⟨kd, hkd⟩ : ∃ kd, m.kind = kd := ⟨_, rfl⟩
  obtain ⟨fr, hfr⟩ : ∃ fr, m.frm = fr := ⟨_, rfl⟩
  obtain ⟨tt, hto⟩ : ∃ tt, m.to = tt := ⟨_, rfl⟩
  obtain ⟨me, hme⟩ : ∃ me, m.ep = me := ⟨_, rfl⟩
  obtain ⟨ma, hma⟩ : ∃ ma, m.at_ = ma := ⟨_, rfl⟩
  obtain ⟨ml, hml2⟩ : ∃ ml, m.last = ml := ⟨_, rfl⟩
  obtain ⟨mc, hmc⟩ : ∃ mc, m.commit = mc := ⟨_, rfl⟩
  obtain ⟨D, hD⟩ : ∃ D, q.id = D := ⟨_, rfl⟩
  obtain ⟨N, hN⟩ : ∃ N, q.n = N := ⟨_, rfl⟩
  have hag : (m.cells (.slice Am m.log.length cm)).toArray = #[.int .i64 kd, .int .i64 fr, .int .i64 tt, .int .i64 me, .int .i64 ma, .int .i64 ml, .int .i64 mc, .slice Am L cm] := by
    unfold Msg.cells; rw [hkd, hfr, hto, hme, hma, hml2, hmc, hL]
  obtain ⟨B, hB⟩ : ∃ B, w.heap.size = B := ⟨_, rfl⟩
  rw [hB] at HS HN HM
  obtain ⟨P, hP⟩ : ∃ P : World → Prop, StepAt w x V ⟨q, [], []⟩ m (.slice Am m.log.length cm) B (B + 1) = P := ⟨_, rfl⟩
  have KC : Hid (∀ W, P W → ((W.cell? ⟨B, 0, none⟩ = some (.int .i64 kd) ∧ W.cell? ⟨B, 1, none⟩ = some (.int .i64 fr) ∧ W.cell? ⟨B, 2, none⟩ = some (.int .i64 tt) ∧ W.cell? ⟨B, 3, none⟩ = some (.int .i64 me) ∧ W.cell? ⟨B, 4, none⟩ = some (.int .i64 ma) ∧ W.cell? ⟨B, 5, none⟩ = some (.int .i64 ml) ∧ W.cell? ⟨B, 6, none⟩ = some (.int .i64 mc) ∧ W.cell? ⟨B, 7, none⟩ = some (.slice Am L cm)) ∧ W.cell? ⟨x, 3, none⟩ = some (.int .i64 (D : Int)) ∧ W.cell? ⟨x, 4, none⟩ = some (.int .i64 (N : Int)))) := fun W hW => by
    rw [← hP] at hW
    obtain ⟨_, k3, k4, _⟩ := hW.node
    rw [← hkd, ← hfr, ← hto, ← hme, ← hma, ← hml2, ← hmc, ← hL, ← hD, ← hN]
    exact ⟨⟨hW.box 0, hW.box 1, hW.box 2, hW.box 3, hW.box 4, hW.box 5, hW.box 6, hW.box 7⟩, k3, k4⟩
  have KR : Hid (∀ W, P W → Held w x V ⟨q, [], []⟩ (B + 1) W) := fun W hW => by
    rw [← hP] at hW
    exact hW.held
  have KO : Hid (∀ W W', P W → Out Zone.no W W' → P W') := fun W W' hW ho => by
    rw [← hP] at hW ⊢
    exact hW.any ho
  rw [hag, hP] at HS HM
  rw [hP] at HN
  rw [hag]
  obtain ⟨E, hE⟩ : ∃ E, q.st.ep = E := ⟨_, rfl⟩
  have hfi := front_is (q := q) h1
  have hff := front_fit hf h1
  have hfe := front_ep (q := q) h1 hge
  have hfd := front_id (q := q) h1
  have hfr6 := right_frm h1
  have hat6 := right_at h1
  have h1' := h1
  obtain ⟨c1, hc1⟩ : ∃ c1, q.front m = c1 := ⟨_, rfl⟩
  obtain ⟨P2, hP2⟩ : ∃ P2 : World → Prop, StepAt w x V c1 m (.slice Am m.log.length cm) B (B + 1) = P2 := ⟨_, rfl⟩
  obtain ⟨gg, hgg⟩ : ∃ gg, decide (E < me) = gg := ⟨_, rfl⟩
  have KE : Hid (∀ W, P W → W.cell? ⟨x, 0, none⟩ = some (.int .i64 E) ∧ (∃ r, W.cell? ⟨x, 5, none⟩ = some (.int .i64 r)) ∧ W.frozen? ⟨x, 5, none⟩ = false) := fun W hW => by
    rw [← hP] at hW
    rw [← hE]
    exact ⟨hW.node.1, ⟨_, hW.node.2.2.2.1⟩, hW.node.2.2.2.2⟩
  have SAME : Hid (gg = false → ∀ W, P W → P2 W) := fun hg W hW => by
    rw [← hP] at hW
    rw [← hP2, ← hc1]
    have : q.front m = ⟨q, [], []⟩ := by
      unfold ND.front
      rw [if_neg]
      rw [hE, hme]
      rw [hg] at hgg
      exact of_decide_eq_false hgg
    rw [this]
    exact hW
  have NOTE : Hid (gg = true → ∀ W, P W → Calls Tryz.prog 62 #[.pointer (some ⟨x, 0, none⟩), .agg #[.int .i64 1, .int .i64 me, .int .i64 (-1), .int .i64 0, .string ⟨#[]⟩]] W fun e w' => e = .returned (.tuple #[]) ∧ (∃ r, w'.cell? ⟨x, 5, none⟩ = some (.int .i64 r)) ∧ w'.frozen? ⟨x, 5, none⟩ = false ∧ P2 (w'.setCell ⟨x, 5, none⟩ (.int .i64 0))) := fun hg W hW => by
    rw [← hP] at hW
    rw [← hP2, ← hc1, ← hme]
    have : q.front m = (NS.note ⟨q, [], []⟩ ⟨1, m.ep, -1, ⟨0, []⟩⟩).role0 := by
      unfold ND.front
      rw [if_pos]
      rw [hE, hme]
      rw [hg] at hgg
      exact of_decide_eq_true hgg
    rw [this]
    refine (hW.step (c' := NS.note ⟨q, [], []⟩ ⟨1, m.ep, -1, ⟨0, []⟩⟩) (fun V' k => noted_g k (Nat.le_trans hf.log (by omega)) (by show (0 : Nat) ≤ _; omega) ⟨1, m.ep, -1, ⟨0, []⟩⟩ (by show (0 : Nat) ≤ _; omega))).mono ?_
    rintro e w' ⟨rfl, hs⟩
    refine ⟨rfl, ⟨_, hs.node.2.2.2.1⟩, hs.node.2.2.2.2, ?_⟩
    obtain ⟨V', ⟨k1, k2⟩, k3, k4, k5⟩ := hs
    have := k1.role 0
    exact StepAt.gone k1 k2 k3 k4 k5 ⟨V', this.1, this.2⟩
  have FINH : Hid (∀ (c : NS) W, StepAt w x V c m (.slice Am m.log.length cm) B (B + 1) W → Held w x V c (B + 1) W) := fun c W hW => hW.held
  have KO2 : Hid (∀ W W', P2 W → Out Zone.no W W' → P2 W') := fun W W' hW ho => by
    rw [← hP2] at hW ⊢
    exact hW.any ho
  obtain ⟨E1, hE1⟩ : ∃ E1, c1.q.st.ep = E1 := ⟨_, rfl⟩
  obtain ⟨ro, hro⟩ : ∃ ro, c1.q.role = ro := ⟨_, rfl⟩
  have KC2 : Hid (∀ W, P2 W → ((W.cell? ⟨B, 0, none⟩ = some (.int .i64 kd) ∧ W.cell? ⟨B, 1, none⟩ = some (.int .i64 fr) ∧ W.cell? ⟨B, 2, none⟩ = some (.int .i64 tt) ∧ W.cell? ⟨B, 3, none⟩ = some (.int .i64 me) ∧ W.cell? ⟨B, 4, none⟩ = some (.int .i64 ma) ∧ W.cell? ⟨B, 5, none⟩ = some (.int .i64 ml) ∧ W.cell? ⟨B, 6, none⟩ = some (.int .i64 mc) ∧ W.cell? ⟨B, 7, none⟩ = some (.slice Am L cm))) ∧ W.cell? ⟨x, 0, none⟩ = some (.int .i64 E1) ∧ W.cell? ⟨x, 5, none⟩ = some (.int .i64 ro)) := fun W hW => by
    rw [← hP2] at hW
    obtain ⟨k0, _, _, k5, _⟩ := hW.node
    rw [← hkd, ← hfr, ← hto, ← hme, ← hma, ← hml2, ← hmc, ← hL, ← hE1, ← hro]
    exact ⟨⟨hW.box 0, hW.box 1, hW.box 2, hW.box 3, hW.box 4, hW.box 5, hW.box 6, hW.box 7⟩, k0, k5⟩
  have VOTE : Hid (ro = 1 → ∀ W, P2 W → ∃ b W', W.cell? ⟨x, 7, none⟩ = some (.map (some b)) ∧ (Instr.mapUpdate 109 (.map (some b)) (.int .i64 fr) (.bool true)).run Tryz.prog W = .ok () W' ∧ StepAt w x V (c1.vote fr) m (.slice Am m.log.length cm) B (B + 1) W') := fun hr1 W hW => by
    rw [← hP2] at hW
    have hff' := hff
    rw [hc1] at hff'
    obtain ⟨gs, hgs, hn, hb⟩ := hff'.run (by rw [hro, hr1]; decide)
    have hl := votes_len hn hb
    have h7 := hff'.n7
    rw [hfr] at hfr6
    have e : (fr.toNat : Int) = fr := by omega
    have := hW.vote hgs (i := fr.toNat) (by omega) (by omega)
    rw [e] at this
    exact this
  have COUNT : Hid (ro = 1 → ∀ W, StepAt w x V (c1.vote fr) m (.slice Am m.log.length cm) B (B + 1) W → Calls Tryz.prog 64 #[.pointer (some ⟨x, 0, none⟩)] W fun e w' => e = .returned (.tuple #[]) ∧ StepAt w x V (c1.vote fr).count m (.slice Am m.log.length cm) B (B + 1) w') := fun hr1 W hW => by
    have hff' := hff
    rw [hc1] at hff'
    obtain ⟨gs, hgs, hn, hb⟩ := hff'.run (by rw [hro, hr1]; decide)
    have h7 := hff'.n7
    have hfd' := hfd
    rw [hc1] at hfd'
    have ha := addV_fit hn hb (i := fr) (by rw [hfr] at hfr6; have := hfd'.2.1; omega)
    have hl := votes_len ha.1 ha.2
    have hns := hfi.2.1
    have hms := hfi.2.2
    rw [hc1] at hns hms
    exact hW.step (fun V' k => count_is k (gs := addV gs fr) (by show some (addV (c1.q.granted.getD []) fr) = _; rw [hgs]; rfl) (by omega) hff'.log (by show c1.ns.length ≤ _; omega) (by show c1.ms.length ≤ _; rw [hms]; simp) hff'.ids h7)
  have HX1 : Hid (ro = 1 → c1.grants m = (c1.vote fr).count) := fun h => by unfold NS.grants; rw [hro, hfr]; exact if_pos h
  have HX2 : Hid (ro ≠ 1 → c1.grants m = c1) := fun h => by unfold NS.grants; rw [hro]; exact if_neg h
  have PST : Hid (∀ W, P2 W → StepAt w x V c1 m (.slice Am m.log.length cm) B (B + 1) W) := fun W hW => by rw [← hP2] at hW; exact hW
  rw [hc1] at hfi hff hfe hfd
  rw [hE1, hme] at hfe
  have g2 : decide (me < E1) = false := by rw [decide_eq_false_iff_not]; exact hfe
  rw [hkd] at hkk
  subst hkk
  rw [hc1]
  obtain ⟨r, hr2⟩ : ∃ r, m.right = r := ⟨_, rfl⟩
  rw [h1'] at hr2
  subst hr2
  rw [hto, hD] at h2
  rw [hfr, hD] at h3
  rw [hfr, hN] at h4
  rw [h1'] at HM
  have t1 : (tt == (D : Int)) = true := by rw [beq_iff_eq]; exact h2
  have t1b : (tt != (D : Int)) = false := by rw [bne_eq_false_iff_eq]; exact h2
  have t1c : decide (tt = (D : Int)) = true := decide_eq_true h2
  have t2 : (fr == (D : Int)) = false := by rw [beq_eq_false_iff_ne]; exact h3
  have t2b : (fr != (D : Int)) = true := by rw [bne_iff_ne]; exact h3
  have t2c : decide (fr = (D : Int)) = false := decide_eq_false h3
  have t3 : decide ((N : Int) ≤ fr) = false := by rw [decide_eq_false_iff_not]; omega
  clear hL hkd hfr hto hme hma hml2 hmc hD hN hag hP hP2 hE hE1 h HR hfit hml hr hf h2 h3 h4 hge hfi hff hfe hfd hc1 h1' hfr6 hat6
  go_enter Tryz.func41, Tryz.ntmps41
  go_wp2_with fail
  obtain ⟨W0, hW0⟩ : ∃ W0, (w.alloc (.cells #[.int .i64 2, .int .i64 fr, .int .i64 tt, .int .i64 me, .int .i64 ma, .int .i64 ml, .int .i64 mc, .slice Am L cm] 49)).alloc (.cells #[.slice none 0 0, .slice none 0 0] 86) = W0 := ⟨_, rfl⟩
  rw [hW0] at HS ⊢
  clear hW0 hB
  have HSD : Hid (P W0.drew) := KO.out _ _ HS.out ((Out.refl _ _).drew)
  obtain ⟨S, f, hPf, hsur⟩ := class_of P
  haveI : Nonempty S := (hsur _ HSD.out).elim fun s _ => ⟨s⟩
  have N27 : Hid (∀ n : S, Calls Tryz.prog 61 #[.pointer (some ⟨x, 0, none⟩)] (f n) fun e w'' => e = .returned (.bool false) ∧ ∃ k : S, w'' = f k) := fun n => (HN.out (f n) (hPf n)).mono (fun e w' ⟨h1, h2⟩ => ⟨h1, n, h2.symm⟩)
  have N28 : Hid (∀ n : S, Calls Tryz.prog 33 #[.agg #[.int .i64 2, .int .i64 fr, .int .i64 tt, .int .i64 me, .int .i64 ma, .int .i64 ml, .int .i64 mc, .slice Am L cm]] (f n) fun e w'' => e = .returned (.bool true) ∧ ∃ k : S, w'' = f k) := fun n => (HM.out (f n) (hPf n)).mono (fun e w' ⟨h1, h2⟩ => ⟨h1, hsur _ h2⟩)
  have y0 := fun W : S => (show (f W).cell? ⟨B, 0, none⟩ = some (.int .i64 2) from (KC.out (f W) (hPf W)).1.1)
  have y1 := fun W : S => (show (f W).cell? ⟨B, 1, none⟩ = some (.int .i64 fr) from (KC.out (f W) (hPf W)).1.2.1)
  have y2 := fun W : S => (show (f W).cell? ⟨B, 2, none⟩ = some (.int .i64 tt) from (KC.out (f W) (hPf W)).1.2.2.1)
  have y3 := fun W : S => (show (f W).cell? ⟨B, 3, none⟩ = some (.int .i64 me) from (KC.out (f W) (hPf W)).1.2.2.2.1)
  have y4 := fun W : S => (show (f W).cell? ⟨B, 4, none⟩ = some (.int .i64 ma) from (KC.out (f W) (hPf W)).1.2.2.2.2.1)
  have y5 := fun W : S => (show (f W).cell? ⟨B, 5, none⟩ = some (.int .i64 ml) from (KC.out (f W) (hPf W)).1.2.2.2.2.2.1)
  have y6 := fun W : S => (show (f W).cell? ⟨B, 6, none⟩ = some (.int .i64 mc) from (KC.out (f W) (hPf W)).1.2.2.2.2.2.2.1)
  have y7 := fun W : S => (show (f W).cell? ⟨B, 7, none⟩ = some (.slice Am L cm) from (KC.out (f W) (hPf W)).1.2.2.2.2.2.2.2)
  have y8 := fun W : S => (show (f W).cell? ⟨x, 3, none⟩ = some (.int .i64 (D : Int)) from (KC.out (f W) (hPf W)).2.1)
  have y9 := fun W : S => (show (f W).cell? ⟨x, 4, none⟩ = some (.int .i64 (N : Int)) from (KC.out (f W) (hPf W)).2.2)
  refine region_class f (by kernel_rfl) (by kernel_rfl) (hsur _ HSD.out) ?_
  repeat (go_big_quiet_step (first | (go_at_call 61; exact N27.out _) | (go_at_call 33; exact N28.out _)))
  refine wpQuiet_nil ?_
  rintro _ ⟨s2, rfl⟩
  have HP2 := Lib.hid (hPf s2)
  obtain ⟨w2, hw2⟩ : ∃ w2, f s2 = w2 := ⟨_, rfl⟩
  rw [hw2] at HP2 ⊢
  clear hw2 y0 y1 y2 y3 y4 y5 y6 y7 y8 y9
  obtain ⟨⟨b0, b1, b2, b3, b4, b5, b6, b7⟩, k3, k4⟩ := KC.out _ HP2.out
  obtain ⟨k0, ⟨r5, k5⟩, f5⟩ := KE.out _ HP2.out
  go_wp2_with fail
  go_quiet (fail)
  have HPn := Lib.hid (KO.out _ _ HP2.out ((Out.refl Zone.no w2).drewN nq))
  obtain ⟨w3, hw3⟩ : ∃ w3, w2.drewN nq = w3 := ⟨_, rfl⟩
  rw [hw3] at HPn ⊢
  obtain ⟨⟨b0', b1', b2', b3', b4', b5', b6', b7'⟩, k3', k4'⟩ := KC.out _ HPn.out
  clear hw3 b0 b1 b2 b3 b4 b5 b6 b7 k3 k4 k0 k5 f5
  go_upto_if 49 with fail
  go_cut [] (fun wx => Hid (P2 wx))
  case first =>
    cases gg
    · go_wp2_with fail
      go_meet
      exact SAME.out (by first | rfl | trivial) _ HPn.out
    · go_wp2_with (first
        | (go_at_call 62; refine (NOTE.out (by first | rfl | trivial) _ HPn.out).mono ?_; rintro e w4 ⟨rfl, ⟨r6, hc5⟩, hf5, hp4⟩; have HP4 := Lib.hid hp4; clear hp4))
      go_meet
      exact HP4.out
  case rest =>
    have HQ := Lib.hid hcut.out
    clear hcut
    obtain ⟨w5, hw5⟩ : ∃ w5, wc = w5 := ⟨_, rfl⟩
    rw [hw5] at HQ ⊢
    obtain ⟨⟨b0, b1, b2, b3, b4, b5, b6, b7⟩, k0, k5⟩ := KC2.out _ HQ.out
    go_wp2_with fail
    go_quiet (fail)
    have HQn := Lib.hid (KO2.out _ _ HQ.out ((Out.refl Zone.no w5).drewN nq))
    obtain ⟨w6, hw6⟩ : ∃ w6, w5.drewN nq = w6 := ⟨_, rfl⟩
    rw [hw6] at HQn ⊢
    clear hw6 b0 b1 b2 b3 b4 b5 b6 b7 k0 k5
    obtain ⟨⟨b0, b1, b2, b3, b4, b5, b6, b7⟩, k0, k5⟩ := KC2.out _ HQn.out
    by_cases hro1 : ro = 1
    · have HX := Lib.hid (HX1.out hro1)
      have HQd : Hid (P2 w6.drew) := KO2.out _ _ HQn.out ((Out.refl _ _).drew)
      obtain ⟨b, W7, c7, hup, hs7⟩ := VOTE.out hro1 _ HQd.out
      have HS7 := Lib.hid hs7
      obtain ⟨⟨d0, d1, d2, d3, d4, d5, d6, d7⟩, _, _⟩ := KC2.out _ HQd.out
      have CNT := Lib.hid (COUNT.out hro1)
      subst hro1
      clear hs7
      go_wp2_with fail
      go_region
      go_wp2_with (first
        | (go_at_call 64; refine (CNT.out _ HS7.out).mono ?_; rintro e w7 ⟨rfl, hs8⟩; have FST := Lib.hid hs8; clear hs8)
        | (go_at_call 65; refine ((FINH.out _ _ FST.out).done).mono ?_; rintro e w8 ⟨A1, n1, k1, A2, n2, k2, rfl, hR, hfin⟩; have FIN := Lib.hid hfin; have r0 := cells_all hR 0; have r1 := cells_all hR 1; have f0 := frozen_all hR 0; have f1 := frozen_all hR 1; have BR := Lib.hid hR; clear hfin hR))
      rw [HX.out]
      have BB := heap_set (heap_set BR.out 0 (.slice A1 n1 k1)) 1 (.slice A2 n2 k2)
      have q0 := cells_all BB 0
      have q1 := cells_all BB 1
      refine bodyPost_ret (v := .tuple #[.agg #[.slice A1 n1 k1, .slice A2 n2 k2], .int .i64 0]) (by simp [results, Tryz.results41, go_sem, q0, q1]) rfl ?_
      exact ⟨_, rfl, FIN.out _ (((Out.refl _ _).setCell (p := ⟨B + 1, 0, none⟩) (Or.inl (by show B + 1 = B + 1; rfl)) _).setCell (p := ⟨B + 1, 1, none⟩) (Or.inl (by show B + 1 = B + 1; rfl)) _)⟩
    · have HX := Lib.hid (HX2.out hro1)
      have z1 : (ro == 1) = false := by rw [beq_eq_false_iff_ne]; exact hro1
      have z1b : (ro != 1) = true := by rw [bne_iff_ne]; exact hro1
      have z1c : decide (ro = 1) = false := decide_eq_false hro1
      have FST := Lib.hid (PST.out _ HQn.out)
      clear hro1
      go_wp2_with (first
        | (go_at_call 65; refine ((FINH.out _ _ FST.out).done).mono ?_; rintro e w8 ⟨A1, n1, k1, A2, n2, k2, rfl, hR, hfin⟩; have FIN := Lib.hid hfin; have r0 := cells_all hR 0; have r1 := cells_all hR 1; have f0 := frozen_all hR 0; have f1 := frozen_all hR 1; have BR := Lib.hid hR; clear hfin hR))
      rw [HX.out]
      have BB := heap_set (heap_set BR.out 0 (.slice A1 n1 k1)) 1 (.slice A2 n2 k2)
      have q0 := cells_all BB 0
      have q1 := cells_all BB 1
      refine bodyPost_ret (v := .tuple #[.agg #[.slice A1 n1 k1, .slice A2 n2 k2], .int .i64 0]) (by simp [results, Tryz.results41, go_sem, q0, q1]) rfl ?_
      exact ⟨_, rfl, FIN.out _ (((Out.refl _ _).setCell (p := ⟨B + 1, 0, none⟩) (Or.inl (by show B + 1 = B + 1; rfl)) _).setCell (p := ⟨B + 1, 1, none⟩) (Or.inl (by show B + 1 = B + 1; rfl)) _)⟩
end
end Go.Proofs.YtlgoenimjmiapaaGreat
