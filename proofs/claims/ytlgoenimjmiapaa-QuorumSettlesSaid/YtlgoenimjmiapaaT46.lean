import Derived.Test.YtlgoenimjmiapaaT45
set_option linter.unusedSimpArgs false
set_option linter.unusedVariables false
set_option linter.unusedSectionVars false
/-! Settles, plain: an answer comes to the one that is promoted. -/
namespace Go.Proofs.Ytlgoenimjmiapaa

theorem getD_set (l : List Int) (i j : Nat) (v : Int) : (l.set i v).getD j 0 = if i = j ∧ i < l.length then v else l.getD j 0 := by
  rw [List.getD_eq_getElem?_getD, List.getD_eq_getElem?_getD, List.getElem?_set]
  by_cases h : i = j
  · subst h
    by_cases h2 : i < l.length
    · rw [if_pos rfl, if_pos h2, if_pos ⟨rfl, h2⟩]; rfl
    · rw [if_pos rfl, if_neg h2, if_neg (fun e => h2 e.2), List.getElem?_eq_none (by omega)]
  · rw [if_neg h, if_neg (fun e => h e.1)]
theorem risen_is (q : ND) : ∃ cm, q.risen = { q with commit := cm } ∧ q.commit ≤ cm ∧ (q.mid ≤ (cm : Int) ∨ q.st.last q.mid.toNat ≠ q.st.ep) := by
  unfold ND.risen
  split
  · next h => exact ⟨q.mid.toNat, rfl, by omega, Or.inl (by omega)⟩
  · next h =>
    refine ⟨q.commit, rfl, Nat.le_refl _, ?_⟩
    by_cases h1 : (q.commit : Int) < q.mid
    · exact Or.inr (fun e => h ⟨h1, e⟩)
    · exact Or.inl (by omega)
theorem mem_addV (gs : List Int) (i : Int) : i ∈ addV gs i ∧ ∀ z ∈ gs, z ∈ addV gs i := by
  unfold addV
  split
  · next h => exact ⟨h, fun z hz => hz⟩
  · exact ⟨by simp, fun z hz => List.mem_append.2 (Or.inl hz)⟩

section
variable {N T b L : Nat} {E : Int} {X : Nat → ND} {net rest : List Msg} {m : Msg} {q q' : ND}
theorem wt_mono {x : Msg} (h1 : q'.role = q.role) (h2 : q'.st.ep = q.st.ep) (h3 : ∀ j, q.acked.getD j 0 ≤ q'.acked.getD j 0) : wt q' x ≤ wt q x := by
  unfold wt
  split
  · exact Nat.le_refl _
  · split
    · rw [h1, h2]
      split
      · split
        · exact Nat.le_refl _
        · omega
      · next hn =>
        rw [if_neg (fun e => hn ⟨e.1, e.2.1, Int.le_trans e.2.2 (h3 _)⟩)]
        exact Nat.le_refl _
    · exact Nat.le_refl _
/-- One that leads. -/
theorem lead_spec (hr : q.role = 1) (hep : 0 ≤ q.st.ep) (hep2 : q.st.ep ≤ 1099511627776) (hl : q.st.last q.st.log.length ≤ q.st.ep) (h7 : q.n ≤ 7) (hg : ¬ (2 * (q.granted.getD []).length ≤ q.n ∨ 2048 ≤ q.st.log.length)) :
    ∃ cm, (NS.count ⟨q, [], []⟩).q = { q with role := 2, has := List.replicate q.n (q.st.log.length : Int), acked := List.replicate q.n 0, st := { q.st with log := q.st.log ++ [⟨q.st.ep, []⟩] }, commit := cm } ∧ (NS.count ⟨q, [], []⟩).ms.length ≤ 7 ∧
      (({ q with role := 2, has := List.replicate q.n (q.st.log.length : Int), acked := List.replicate q.n 0, st := { q.st with log := q.st.log ++ [⟨q.st.ep, []⟩] } } : ND).mid ≤ (cm : Int) ∨ ({ q with role := 2, has := List.replicate q.n (q.st.log.length : Int), acked := List.replicate q.n 0, st := { q.st with log := q.st.log ++ [⟨q.st.ep, []⟩] } } : ND).st.last ({ q with role := 2, has := List.replicate q.n (q.st.log.length : Int), acked := List.replicate q.n 0, st := { q.st with log := q.st.log ++ [⟨q.st.ep, []⟩] } } : ND).mid.toNat ≠ q.st.ep) := by
  unfold NS.count
  rw [if_neg hg]
  have hn := note_put (s := q.st) (d := []) hep hep2 (by simp) hl
  have hq := NS.note_q (c := NS.lead ⟨q, [], []⟩) hn
  obtain ⟨cm, k1, k2, k3⟩ := risen_is ((NS.lead ⟨q, [], []⟩).note ⟨3, 0, 0, ⟨q.st.ep, []⟩⟩).q
  rw [hq] at k1 k3
  refine ⟨cm, ?_, ?_, k3⟩
  · show ((NS.lead ⟨q, [], []⟩).note ⟨3, 0, 0, ⟨q.st.ep, []⟩⟩).q.risen = _
    rw [hq, k1]
    rfl
  · show ([] ++ ((NS.lead ⟨q, [], []⟩).note ⟨3, 0, 0, ⟨q.st.ep, []⟩⟩).q.ships ((NS.lead ⟨q, [], []⟩).note ⟨3, 0, 0, ⟨q.st.ep, []⟩⟩).q.n).length ≤ 7
    rw [List.nil_append]
    refine Nat.le_trans (ships_len _ _) ?_
    rw [hq]
    exact h7

/-- An answer that makes nothing. -/
theorem Set2.idle (h : Set2 N b E X (m :: rest)) (h1 : (X b).role = 1 → m.kind = 2 → m.ep ≠ E) (h2 : m.kind ≠ 1) (h3 : m.kind ≠ 3)
    (h4 : (X b).role = 2 → m.kind = 4 → m.ep ≠ E) (h5 : (X b).role = 2 → m.kind = 5 → ∀ j : Nat, m.frm = (j : Int) → m.ep = E → (X b).has.getD j 0 ≤ m.at_) : Keeps N b E L X (m :: rest) X rest := by
  refine ⟨⟨h.s0.tail, h.top, h.role, h.votes, h.cand, h.last, h.acks, h.comm⟩, ?_, fun hr _ j hj hjb hv => ?_, fun hr => ⟨hr, rfl, Nat.le_refl _⟩, fun hr j hj hjb hf => ?_, fun _ j => Int.le_refl _, fun j _ _ => Nat.le_refl _⟩
  · unfold Phi
    rw [wsum_cons]
    have := (wt_pos (X b) m).1
    omega
  · exact hv.of (fun z hz => hz) (fun x hx => hx) (fun hk => absurd hk h2) (fun hk _ _ he => absurd he (h1 hr hk))
  · exact hf.of rfl (Int.le_refl _) (fun e => e) (fun x hx => hx) (fun hk => absurd hk h3) (fun hk hfj _ he ha => by have := h5 hr hk j hfj he; omega) (fun hk _ _ he => absurd he (h4 hr hk))

set_option maxHeartbeats 1000000 in
/-- An answer arrives. -/
theorem Set2.answer (h : Set2 N b E X (m :: rest)) (hF : Facts N T X (m :: rest)) (hT : T ≤ 2047) (hTL : T ≤ L) (hb : b < N) (h7 : N ≤ 7) (hrest : rest.length ≤ 299) (d1 : m.to = (b : Int)) (d2 : m.kind = 2 ∨ m.kind = 4 ∨ m.kind = 5) :
    Keeps N b E L X (m :: rest) (upd X b ((X b).step m).1.q) (rest ++ ((X b).step m).1.ms.take (300 - rest.length)) := by
  have hs0 := h.s0.recv (cap := 300 - rest.length) hF (by omega) hb
  obtain ⟨f, k, e1, e2, e3, e4, e5⟩ := hF.ends m (List.mem_cons_self ..)
  have hr := hF.right m (List.mem_cons_self ..)
  obtain rfl : k = b := by omega
  have ek : m.to.toNat = k := by omega
  rw [ek] at hs0
  have hid := hF.id k e4
  have hn := hF.n k e4
  have hlen := hF.len k e4
  have hfit := hF.fit k e4
  have hto : m.to = ((X k).id : Int) := by rw [hid]; exact e2
  have hfr : m.frm ≠ ((X k).id : Int) := by rw [hid, e1]; omega
  have hfn : m.frm < ((X k).n : Int) := by rw [hn, e1]; omega
  have hfb : f ≠ k := e5
  have hmE : m.ep ≤ E := by have := h.s0.mep m (List.mem_cons_self ..); rw [h.top] at this; omega
  have htop := h.top
  by_cases hlo : m.ep < (X k).st.ep
  · obtain ⟨k1, k2⟩ := atB_lo hr hto hfr hfn d2 hlo
    rw [k1, k2, List.take_nil, List.append_nil, upd_same]
    exact h.idle (fun _ _ => by omega) (by omega) (by omega) (fun _ _ => by omega) (fun _ _ j _ he => by omega)
  have heq : m.ep = (X k).st.ep := by omega
  have hst := atB_eq hr hto hfr hfn heq
  rw [hst] at hs0 ⊢
  have mE : m.ep = E := heq.trans htop
  have none : NS.act ⟨X k, [], []⟩ m = ⟨X k, [], []⟩ → ((X k).role = 1 → m.kind ≠ 2) → ((X k).role = 2 → m.kind ≠ 4) → ((X k).role = 2 → m.kind = 5 → (X k).has.getD f 0 ≤ m.at_) → Keeps N k E L X (m :: rest) (upd X k (NS.act ⟨X k, [], []⟩ m).q) (rest ++ (NS.act ⟨X k, [], []⟩ m).ms.take (300 - rest.length)) := fun e n1 n2 n3 => by
    rw [e, List.take_nil, List.append_nil, upd_same]
    exact h.idle (fun a b => absurd b (n1 a)) (by omega) (by omega) (fun a b => absurd b (n2 a)) (fun a b j hj he => by
      obtain rfl : j = f := by omega
      exact n3 a b)
  rcases d2 with d2 | d2 | d2
  ·
    have ea : NS.act ⟨X k, [], []⟩ m = NS.grants ⟨X k, [], []⟩ m := by unfold NS.act; rw [if_neg (by omega), if_pos d2]
    by_cases hr1 : (X k).role = 1
    · obtain ⟨c1, c2⟩ := h.cand hr1
      obtain ⟨qv, hqv⟩ : ∃ qv, ({ X k with granted := some (addV ((X k).granted.getD []) m.frm) } : ND) = qv := ⟨_, rfl⟩
      have eg : NS.grants ⟨X k, [], []⟩ m = NS.count ⟨qv, [], []⟩ := by
        unfold NS.grants
        rw [if_pos hr1, ← hqv]
        rfl
      rw [ea, eg] at hs0 ⊢
      have v1 : qv.granted.getD [] = addV ((X k).granted.getD []) m.frm := by rw [← hqv]; rfl
      have v2 : qv.st = (X k).st := by rw [← hqv]
      have v3 : qv.role = 1 := by rw [← hqv]; exact hr1
      have v4 : qv.n = N := by rw [← hqv]; exact hn
      obtain ⟨mv1, mv2⟩ := mem_addV ((X k).granted.getD []) m.frm
      by_cases hg : 2 * (qv.granted.getD []).length ≤ qv.n ∨ 2048 ≤ qv.st.log.length
      · have ec : NS.count ⟨qv, [], []⟩ = ⟨qv, [], []⟩ := by unfold NS.count; rw [if_pos hg]
        rw [ec] at hs0 ⊢
        have hs0 : Set0 N k (E - 1) (upd X k qv) (rest ++ ([] : List Msg).take (300 - rest.length)) := hs0
        show Keeps N k E L X (m :: rest) (upd X k qv) (rest ++ ([] : List Msg).take (300 - rest.length))
        rw [List.take_nil, List.append_nil] at hs0 ⊢
        have hg2 : 2 * (qv.granted.getD []).length ≤ N := by
          rcases hg with e | e
          · omega
          · rw [v2] at e; omega
        refine ⟨⟨hs0, by rw [upd_self, v2]; exact htop, by rw [upd_self]; exact Or.inl v3, fun j hj hne => by rw [upd_ne _ _ _ hne]; exact h.votes j hj hne, fun _ => ?_, fun e => by rw [upd_self] at e; omega, fun e => by rw [upd_self] at e; omega, fun e => by rw [upd_self] at e; omega⟩, ?_, fun _ _ j hj hjb hv => ?_, fun e => by omega, fun e => by omega, fun e => by omega, fun j _ hne => by rw [upd_ne _ _ _ hne]; exact Nat.le_refl _⟩
        · rw [upd_self, v1] at *
          exact ⟨mv2 _ c1, hg2⟩
        · rw [upd_self]
          unfold Phi
          rw [if_pos hr1, if_pos v3, wsum_cons]
          have h1 : wsum qv rest ≤ wsum (X k) rest := wsum_le (fun x _ => by
            unfold wt
            rw [if_neg (show ¬ (qv.role = 2 ∧ _) from fun e => by omega), if_neg (show ¬ ((X k).role = 2 ∧ _) from fun e => by omega)]
            exact Nat.le_refl _)
          have := (wt_pos (X k) m).1
          omega
        · refine hv.of (fun z hz => by rw [upd_self, v1]; exact mv2 z hz) (fun x hx => hx) (fun hk => by omega) (fun _ hfj _ _ => ?_)
          left
          rw [upd_self, v1, ← hfj]
          exact mv1
      · have hep := hfit.ep
        have hlast : qv.st.last qv.st.log.length ≤ qv.st.ep := by
          rw [v2]
          exact lastAt_le hfit.ep (fun x hx => (hF.ents k e4 x hx).2) _
        have hepT := hF.ep k e4
        obtain ⟨cm, k1, k2, k3⟩ := lead_spec v3 (by rw [v2]; exact hep) (by rw [v2]; omega) hlast (by omega) hg
        obtain ⟨ql, hql⟩ : ∃ ql, (NS.count ⟨qv, [], []⟩).q = ql := ⟨_, rfl⟩
        rw [hql] at hs0 k1 ⊢
        have w1 : ql.role = 2 := by rw [k1]
        have w2 : ql.st.ep = E := by rw [k1]; show qv.st.ep = E; rw [v2]; exact htop
        have w3 : ql.st.log = (X k).st.log ++ [⟨(X k).st.ep, []⟩] := by rw [k1]; show qv.st.log ++ [⟨qv.st.ep, []⟩] = _; rw [v2]
        have w4 : ql.has = List.replicate N ((X k).st.log.length : Int) := by rw [k1]; show List.replicate qv.n _ = _; rw [v4, v2]
        have w5 : ql.acked = List.replicate N 0 := by rw [k1]; show List.replicate qv.n 0 = _; rw [v4]
        have w6 : ql.mid ≤ (ql.commit : Int) ∨ ql.st.last ql.mid.toNat ≠ E := by
          have e9 : qv.st.ep = E := by rw [v2]; exact htop
          rw [k1, ← e9]
          exact k3
        have a0 : ∀ j, ql.acked.getD j 0 = 0 := fun j => by
          rw [w5, List.getD_eq_getElem?_getD, List.getElem?_replicate]
          split <;> rfl
        have h0 : ∀ j, 0 ≤ ql.has.getD j 0 ∧ ql.has.getD j 0 ≤ ((X k).st.log.length : Int) := fun j => by
          rw [w4, List.getD_eq_getElem?_getD, List.getElem?_replicate]
          split
          · exact ⟨by show (0 : Int) ≤ ((X k).st.log.length : Int); omega, Int.le_refl _⟩
          · exact ⟨Int.le_refl _, by show (0 : Int) ≤ _; omega⟩
        refine ⟨⟨hs0, by rw [upd_self]; exact w2, by rw [upd_self]; exact Or.inr w1, fun j hj hne => by rw [upd_ne _ _ _ hne]; exact h.votes j hj hne, fun e => by rw [upd_self] at e; omega, fun _ => ?_, fun _ j => ?_, fun _ => by rw [upd_self]; exact w6⟩, ?_, fun _ e => by rw [upd_self] at e; omega, fun e => by omega, fun e => by omega, fun e => by omega, fun j _ hne => by rw [upd_ne _ _ _ hne]; exact Nat.le_refl _⟩
        · rw [upd_self, w3, List.length_append]
          rw [← htop]
          exact lastAt_succ (x := ⟨(X k).st.ep, []⟩) (by rw [List.getElem?_append_right (Nat.le_refl _), Nat.sub_self]; rfl)
        · rw [upd_self, a0]
          exact (h0 j).1
        · rw [upd_self]
          unfold Phi
          rw [if_pos hr1, if_neg (show ¬ ql.role = 1 by omega), if_pos w1, wsum_app, wsum_cons]
          have p1 : wsum ql rest ≤ wsum (X k) rest := wsum_le (fun x _ => by
            unfold wt
            rw [if_neg (show ¬ ((X k).role = 2 ∧ _) from fun e => by omega)]
            split
            · exact Nat.le_refl _
            · split
              · split <;> omega
              · exact Nat.le_refl _)
          have p2 := Nat.le_trans (wsum_take ql (NS.count ⟨qv, [], []⟩).ms (300 - rest.length)) (wsum_bound ql _)
          have p3 : gaps ql k N ≤ N * (4 * L) := gaps_bound (fun j => by
            unfold gap
            have := (h0 j).2
            rw [a0 j]
            omega) N
          have p4 : N * (4 * L) ≤ 7 * (4 * L) := Nat.mul_le_mul_right _ h7
          have := (wt_pos (X k) m).1
          omega
    · have e : NS.grants ⟨X k, [], []⟩ m = ⟨X k, [], []⟩ := by unfold NS.grants; rw [if_neg hr1]
      exact none (ea.trans e) (fun a => absurd a hr1) (fun _ => by omega) (fun _ b => by omega)
  ·
    have ea : NS.act ⟨X k, [], []⟩ m = NS.acks ⟨X k, [], []⟩ m := by unfold NS.act; rw [if_neg (by omega), if_neg (by omega), if_neg (by omega), if_pos d2]
    by_cases hr2 : (X k).role = 2
    · obtain ⟨p1, p2, p3, p4⟩ := hfit.prim hr2
      rw [hn] at p1 p2
      obtain ⟨av, hav⟩ : ∃ av, max ((X k).acked.getD f 0) (min m.at_ ((X k).st.log.length : Int)) = av := ⟨_, rfl⟩
      obtain ⟨hv, hhv⟩ : ∃ hv, max ((X k).has.getD f 0) (min m.at_ ((X k).st.log.length : Int)) = hv := ⟨_, rfl⟩
      obtain ⟨q1, hq1⟩ : ∃ q1, ({ X k with acked := (X k).acked.set f av, has := (X k).has.set f hv } : ND) = q1 := ⟨_, rfl⟩
      have ef : m.frm.toNat = f := by omega
      have ec : (NS.acks ⟨X k, [], []⟩ m).q = q1.risen ∧ (NS.acks ⟨X k, [], []⟩ m).ms = [] := by
        unfold NS.acks
        rw [if_pos hr2, ← hq1, ← hav, ← hhv, ← ef]
        exact ⟨rfl, rfl⟩
      obtain ⟨cm, r1, r2, r3⟩ := risen_is q1
      rw [ea, ec.1, ec.2, r1, List.take_nil, List.append_nil] at hs0 ⊢
      have u1 : q1.acked = (X k).acked.set f av := by rw [← hq1]
      have u2 : q1.has = (X k).has.set f hv := by rw [← hq1]
      have u3 : q1.st = (X k).st := by rw [← hq1]
      have u4 : q1.role = 2 := by rw [← hq1]; exact hr2
      have u5 : q1.commit = (X k).commit := by rw [← hq1]
      have hac := h.acks hr2
      have ga : ∀ j, q1.acked.getD j 0 = if f = j then av else (X k).acked.getD j 0 := fun j => by
        rw [u1, getD_set]
        by_cases hj : f = j
        · rw [if_pos ⟨hj, by omega⟩, if_pos hj]
        · rw [if_neg (fun e => hj e.1), if_neg hj]
      have gh : ∀ j, q1.has.getD j 0 = if f = j then hv else (X k).has.getD j 0 := fun j => by
        rw [u2, getD_set]
        by_cases hj : f = j
        · rw [if_pos ⟨hj, by omega⟩, if_pos hj]
        · rw [if_neg (fun e => hj e.1), if_neg hj]
      have up : ∀ j, (X k).acked.getD j 0 ≤ q1.acked.getD j 0 ∧ (X k).has.getD j 0 ≤ q1.has.getD j 0 ∧ q1.acked.getD j 0 ≤ q1.has.getD j 0 ∧ gap q1 j ≤ gap (X k) j := fun j => by
        unfold gap
        rw [ga, gh]
        have := hac j
        split
        · next e => subst e; omega
        · omega
      refine ⟨⟨hs0, by rw [upd_self]; show q1.st.ep = E; rw [u3]; exact htop, by rw [upd_self]; exact Or.inr u4, fun j hj hne => by rw [upd_ne _ _ _ hne]; exact h.votes j hj hne, fun e => by rw [upd_self] at e; have e : q1.role = 1 := e; omega, fun _ => by rw [upd_self]; show lastAt q1.st.log q1.st.log.length = E; rw [u3]; exact h.last hr2, fun _ j => by rw [upd_self]; exact (up j).2.2.1, fun _ => by rw [upd_self]; have e3 := r3; rw [show q1.st.ep = E by rw [u3]; exact htop] at e3; exact e3⟩, ?_, fun e => by omega, fun _ => by rw [upd_self]; exact ⟨u4, by show q1.st.log = _; rw [u3], by show (X k).commit ≤ cm; omega⟩, fun _ j hj hjb hf => ?_, fun _ j => by rw [upd_self]; exact (up j).1, fun j _ hne => by rw [upd_ne _ _ _ hne]; exact Nat.le_refl _⟩
      · rw [upd_self]
        unfold Phi
        rw [if_neg (show ¬ (X k).role = 1 by omega), if_pos hr2, if_neg (show ¬ ({ q1 with commit := cm } : ND).role = 1 from fun e => by have e : q1.role = 1 := e; omega), if_pos (show ({ q1 with commit := cm } : ND).role = 2 from u4), wsum_cons, wt_small _ (Or.inr d2)]
        have s1 : wsum ({ q1 with commit := cm } : ND) rest ≤ wsum (X k) rest := wsum_le (fun x _ => wt_mono (q' := { q1 with commit := cm }) (show q1.role = _ by omega) (show q1.st.ep = _ by rw [u3]) (fun j => (up j).1))
        have s2 : gaps ({ q1 with commit := cm } : ND) k N ≤ gaps (X k) k N := gaps_le (q' := { q1 with commit := cm }) N (fun j _ _ => (up j).2.2.2)
        omega
      · refine hf.of (by rw [upd_self]; show q1.st.log.length = _; rw [u3]) (by rw [upd_self]; exact (up j).2.1) (fun e => ?_) (fun x hx => hx) (fun hk => by omega) (fun hk => by omega) (fun _ hfj _ _ ha => ?_)
        · rw [upd_self]
          show q1.acked.getD j 0 = _
          rw [ga]
          split
          · next e6 => subst e6; omega
          · exact e
        · obtain rfl : j = f := by omega
          refine Or.inr (Or.inr (Or.inr ?_))
          rw [upd_self]
          show q1.acked.getD j 0 = (q1.st.log.length : Int)
          rw [ga, if_pos rfl, u3]
          have : (X k).acked.getD j 0 ≤ ((X k).st.log.length : Int) := (p4 _ (List.mem_of_getElem? (getD_is (by omega)))).2
          omega
    · have e : NS.acks ⟨X k, [], []⟩ m = ⟨X k, [], []⟩ := by unfold NS.acks; rw [if_neg hr2]
      exact none (ea.trans e) (fun _ => by omega) (fun a => absurd a hr2) (fun _ b => by omega)
  ·
    have ea : NS.act ⟨X k, [], []⟩ m = NS.nacks ⟨X k, [], []⟩ m := by unfold NS.act; rw [if_neg (by omega), if_neg (by omega), if_neg (by omega), if_neg (by omega), if_pos d2]
    have ef : m.frm.toNat = f := by omega
    by_cases hcond : (X k).role = 2 ∧ m.at_ < (X k).has.getD f 0
    · obtain ⟨hr2, hlt⟩ := hcond
      obtain ⟨p1, p2, p3, p4⟩ := hfit.prim hr2
      rw [hn] at p1 p2
      have hat := right_at hr
      obtain ⟨hv, hhv⟩ : ∃ hv, max m.at_ ((X k).acked.getD f 0) = hv := ⟨_, rfl⟩
      obtain ⟨q1, hq1⟩ : ∃ q1, ({ X k with has := (X k).has.set f hv } : ND) = q1 := ⟨_, rfl⟩
      have u1 : q1.acked = (X k).acked := by rw [← hq1]
      have u2 : q1.has = (X k).has.set f hv := by rw [← hq1]
      have u3 : q1.st = (X k).st := by rw [← hq1]
      have u4 : q1.role = 2 := by rw [← hq1]; exact hr2
      have u5 : q1.commit = (X k).commit := by rw [← hq1]
      have u6 : q1.id = k := by rw [← hq1]; exact hid
      have hac := h.acks hr2
      have gh : ∀ j, q1.has.getD j 0 = if f = j then hv else (X k).has.getD j 0 := fun j => by
        rw [u2, getD_set]
        by_cases hj : f = j
        · rw [if_pos ⟨hj, by omega⟩, if_pos hj]
        · rw [if_neg (fun e => hj e.1), if_neg hj]
      have hvb : 0 ≤ hv ∧ hv ≤ ((X k).st.log.length : Int) := by
        have h1 := p3 _ (List.mem_of_getElem? (getD_is (l := (X k).has) (j := f) (by omega)))
        have h2 := p4 _ (List.mem_of_getElem? (getD_is (l := (X k).acked) (j := f) (by omega)))
        omega
      have hgf : q1.has.getD f 0 = hv := by rw [gh, if_pos rfl]
      obtain ⟨sm, hsm⟩ : ∃ sm, shipMsg q1 f hv.toNat = sm := ⟨_, rfl⟩
      have ec : (NS.nacks ⟨X k, [], []⟩ m).q = q1 ∧ (NS.nacks ⟨X k, [], []⟩ m).ms = [sm] := by
        unfold NS.nacks
        rw [ef, if_pos ⟨hr2, hlt⟩]
        have e : ((⟨X k, [], []⟩ : NS).setHas f (max m.at_ ((X k).acked.getD f 0))).q = q1 := by rw [hhv, ← hq1]; rfl
        refine ⟨e, ?_⟩
        show [] ++ [shipMsg ((⟨X k, [], []⟩ : NS).setHas f (max m.at_ ((X k).acked.getD f 0))).q f ((((⟨X k, [], []⟩ : NS).setHas f (max m.at_ ((X k).acked.getD f 0))).q.has.getD f 0)).toNat] = [sm]
        rw [e, hgf, ← hsm]
        rfl
      rw [ea, ec.1, ec.2] at hs0 ⊢
      have tk : ([sm] : List Msg).take (300 - rest.length) = [sm] := List.take_of_length_le (by simp; omega)
      rw [tk] at hs0 ⊢
      have s1 : sm.kind = 3 ∧ sm.frm = (k : Int) ∧ sm.to = (f : Int) ∧ sm.ep = E ∧ sm.at_ = hv ∧ sm.at_ + (sm.log.length : Int) = ((X k).st.log.length : Int) := by
        rw [← hsm]
        refine ⟨rfl, by show (q1.id : Int) = _; rw [u6], rfl, by show q1.st.ep = _; rw [u3]; exact htop, by show ((hv.toNat : Nat) : Int) = hv; omega, ?_⟩
        show ((hv.toNat : Nat) : Int) + ((q1.st.log.drop hv.toNat).length : Int) = _
        rw [List.length_drop, u3]
        omega
      refine ⟨⟨hs0, by rw [upd_self, u3]; exact htop, by rw [upd_self]; exact Or.inr u4, fun j hj hne => by rw [upd_ne _ _ _ hne]; exact h.votes j hj hne, fun e => by rw [upd_self] at e; omega, fun _ => by rw [upd_self, u3]; exact h.last hr2, fun _ j => ?_, fun _ => ?_⟩, ?_, fun e => by omega, fun _ => by rw [upd_self]; exact ⟨u4, by rw [u3], by rw [u5]; exact Nat.le_refl _⟩, fun _ j hj hjb hf => ?_, fun _ j => by rw [upd_self, u1]; exact Int.le_refl _, fun j _ hne => by rw [upd_ne _ _ _ hne]; exact Nat.le_refl _⟩
      · rw [upd_self, u1, gh]
        have := hac j
        split
        · next e => subst e; omega
        · exact this
      · rw [upd_self]
        have := h.comm hr2
        have em : q1.mid = (X k).mid := by unfold ND.mid; rw [u1, u3]; rw [← hq1]
        rw [em, u5, u3]
        exact this
      · rw [upd_self]
        unfold Phi
        rw [if_neg (show ¬ (X k).role = 1 by omega), if_pos hr2, if_neg (show ¬ q1.role = 1 by omega), if_pos u4, wsum_app, wsum_cons, wsum_cons, wsum_nil]
        have s2 : wsum q1 rest ≤ wsum (X k) rest := wsum_le (fun x _ => wt_mono (by omega) (by rw [u3]) (fun j => by rw [u1]; exact Int.le_refl _))
        have s3 : wt (X k) m = 4 := by unfold wt; rw [if_neg (by omega), if_neg (by omega), if_pos d2]
        have s4 : ∀ j, j < N → j ≠ k → gap q1 j ≤ gap (X k) j := fun j _ _ => by
          unfold gap
          rw [u1, gh]
          split
          · next e => subst e; have := hac f; omega
          · exact Nat.le_refl _
        by_cases hg : (X k).acked.getD f 0 < (X k).has.getD f 0
        · have s5 := gaps_lt (b := k) (f := f) (q := X k) (q' := q1) N e3 hfb (by unfold gap; rw [u1, gh, if_pos rfl]; omega) s4
          have s6 := (wt_pos q1 sm).2
          omega
        · have s5 := gaps_le (b := k) (q := X k) (q' := q1) N s4
          have s6 : wt q1 sm = 2 := by
            unfold wt
            rw [if_neg (by omega), if_pos s1.1, if_pos]
            refine ⟨u4, by rw [u3, s1.2.2.2.1]; exact htop.symm, ?_⟩
            rw [s1.2.2.1, Int.toNat_natCast, s1.2.2.2.2.1, u1]
            have := hac f
            omega
          omega
      · by_cases hjf : j = f
        · subst hjf
          refine Or.inl ⟨sm, List.mem_append.2 (Or.inr (List.mem_cons_self ..)), s1.1, s1.2.1, s1.2.2.1, s1.2.2.2.1, ?_, ?_⟩
          · rw [upd_self, u3]; exact s1.2.2.2.2.2
          · rw [upd_self, hgf, s1.2.2.2.2.1]; exact Int.le_refl _
        · refine hf.of (by rw [upd_self, u3]) (by rw [upd_self, gh, if_neg (Ne.symm hjf)]; exact Int.le_refl _) (fun e => by rw [upd_self, u1]; exact e) (fun x hx => List.mem_append.2 (Or.inl hx)) (fun hk => by omega) (fun _ hfj => by omega) (fun hk => by omega)
    · have e : NS.nacks ⟨X k, [], []⟩ m = ⟨X k, [], []⟩ := by unfold NS.nacks; rw [ef, if_neg hcond]
      exact none (ea.trans e) (fun _ => by omega) (fun _ => by omega) (fun a _ => Classical.byContradiction (fun hh => hcond ⟨a, by omega⟩))

/-- A message arrives. -/
theorem Set2.recv (h : Set2 N b E X (m :: rest)) (hF : Facts N T X (m :: rest)) (hX : Extra N b X (m :: rest)) (hT : T ≤ 2047) (hTL : T ≤ L) (hb : b < N) (h7 : N ≤ 7) (hrest : rest.length ≤ 299) :
    Keeps N b E L X (m :: rest) (upd X m.to.toNat ((X m.to.toNat).step m).1.q) (rest ++ ((X m.to.toNat).step m).1.ms.take (300 - rest.length)) := by
  rcases h.s0.dir m (List.mem_cons_self ..) with ⟨d1, d2⟩ | ⟨d1, d2⟩
  · exact h.standby hF hX (by omega) hb hrest d1 d2
  · have e : m.to.toNat = b := by omega
    rw [e]
    exact h.answer hF hT hTL hb h7 hrest d1 d2
end
end Go.Proofs.Ytlgoenimjmiapaa

/-! Settles, plain: the town's deeds there; a tick, an entry, a promotion. -/
namespace Go.Proofs.Ytlgoenimjmiapaa

def d3 : Deed := ⟨3, 0, 0, 0, false⟩
def dP (b : Nat) : Deed := ⟨0, (b : Int), 0, 0, false⟩
def dA (b : Nat) : Deed := ⟨1, (b : Int), 0, 0, false⟩
def dT (b : Nat) : Deed := ⟨2, (b : Int), 0, 0, false⟩
theorem modN_zero {n : Nat} (h : 0 < n) : modN 0 n = 0 := by
  unfold modN
  rw [Int.zero_tmod, Int.zero_add, Int.tmod_self]
  rfl
theorem modN_self {b n : Nat} (h : b < n) : modN (b : Int) n = b := by
  unfold modN
  have e1 : (b : Int).tmod (n : Int) = (b : Int) := Int.tmod_eq_of_lt (by omega) (by omega)
  rw [e1]
  have e2 : ((b : Int) + (n : Int)).tmod (n : Int) = (b : Int) := by
    rw [Int.tmod_eq_emod_of_nonneg (by omega), Int.add_emod_right]
    exact Int.emod_eq_of_lt (by omega) (by omega)
  rw [e2]
  omega

section
variable {t : Town} {T b L : Nat} {E : Int} {m : Msg} {rest : List Msg}
theorem after_net (t : Town) (i : Nat) (c : NS) (a : Deed) (ha : a.falls = false) : (t.after i c a).net = t.net ++ c.ms.take (300 - t.net.length) ∧ (t.after i c a).X = upd t.X i c.q ∧ (t.after i c a).n = t.n := by
  unfold Town.after
  obtain ⟨h1, h2, h3, h4, h5⟩ := safe_n (t.works i c a) t.n
  rw [h4, h2, h1]
  unfold Town.works
  rw [if_neg (by rw [ha]; decide)]
  exact ⟨rfl, rfl, rfl⟩
/-- The first message arrives. -/
theorem act3_is (hn : t.net = m :: rest) : (t.act d3).net = rest ++ ((t.X m.to.toNat).step m).1.ms.take (300 - rest.length) ∧ (t.act d3).X = upd t.X m.to.toNat ((t.X m.to.toNat).step m).1.q ∧ (t.act d3).n = t.n := by
  have hk : modN d3.k t.net.length = 0 := modN_zero (by rw [hn]; simp)
  have hm : t.net[modN d3.k t.net.length]? = some m := by rw [hk, hn]; rfl
  have e : t.act d3 = Town.after { t with net := t.net.eraseIdx 0 } m.to.toNat ((t.X m.to.toNat).step m).1 d3 := by
    unfold Town.act
    rw [if_neg (by decide), if_neg (by decide), if_neg (by decide), if_pos (by decide), hm]
    show t.deliver d3 (modN d3.k t.net.length) m = _
    rw [hk]
    unfold Town.deliver
    rw [if_neg (by decide), if_neg (by decide)]
  have e2 : t.net.eraseIdx 0 = rest := by rw [hn]; rfl
  rw [e, e2]
  obtain ⟨h1, h2, h3⟩ := after_net { t with net := rest } m.to.toNat ((t.X m.to.toNat).step m).1 d3 rfl
  exact ⟨h1, h2, h3⟩
theorem actT_is (hb : b < t.n) : (t.act (dT b)).net = t.net ++ (t.X b).tick.ms.take (300 - t.net.length) ∧ (t.act (dT b)).X = upd t.X b (t.X b).tick.q ∧ (t.act (dT b)).n = t.n := by
  have hi : modN (dT b).i t.n = b := modN_self hb
  have e : t.act (dT b) = t.after b (t.X b).tick (dT b) := by
    unfold Town.act
    rw [if_neg (show ¬ ((dT b).kind = 0) from (by decide : ¬ ((2 : Int) = 0))), if_neg (show ¬ ((dT b).kind = 1) from (by decide : ¬ ((2 : Int) = 1))), if_pos (show (dT b).kind = 2 from rfl), hi]
  rw [e]
  exact after_net t b _ _ rfl
theorem actP_is (hb : b < t.n) : (t.act (dP b)).net = t.net ++ (t.X b).promote.1.ms.take (300 - t.net.length) ∧ (t.act (dP b)).X = upd t.X b (t.X b).promote.1.q ∧ (t.act (dP b)).n = t.n := by
  have hi : modN (dP b).i t.n = b := modN_self hb
  have e : t.act (dP b) = t.after b (t.X b).promote.1 (dP b) := by
    unfold Town.act
    rw [if_pos (show (dP b).kind = 0 from rfl), hi]
  rw [e]
  exact after_net t b _ _ rfl
theorem actA_is (hb : b < t.n) : (t.act (dA b)).net = t.net ++ ((t.X b).append t.data).1.ms.take (300 - t.net.length) ∧ (t.act (dA b)).X = upd t.X b ((t.X b).append t.data).1.q ∧ (t.act (dA b)).n = t.n := by
  have hi : modN (dA b).i t.n = b := modN_self hb
  have e : t.act (dA b) = Town.after { t with asked := t.asked + 1 } b ((t.X b).append t.data).1 (dA b) := by
    unfold Town.act
    rw [if_neg (show ¬ ((dA b).kind = 0) from (by decide : ¬ ((1 : Int) = 0))), if_pos (show (dA b).kind = 1 from rfl), hi]
  rw [e]
  exact after_net { t with asked := t.asked + 1 } b _ _ rfl
end

/-- A message arrives where no log is full: the bounds stay. -/
theorem run_step' {D : Mem} {N T i : Nat} {X : Nat → ND} {S : Msg → Prop} {m : Msg} (h : Ok D N T X S) (hi : i < N) (hN : N % 2 = 1) (h7 : N ≤ 7) (hT : T ≤ 2048) (hl0 : (X i).st.log.length < T) (hs : S m) (hto : m.to = (i : Int)) : ∃ c, (X i).step m = (c, 0) ∧ Run D N T X S i c := by
  obtain ⟨⟨g0, h1, hd⟩, h2, h3⟩ := id h
  have hM := h1.2.2 m hs
  have hmb := h3 m hs
  obtain ⟨f, t, hf, ht, hfN, htN, hft⟩ := hM.ends
  have hr := hM.right' hmb h7 hT
  have hq0 := h1.2.1 i hi
  obtain ⟨hid, hnn⟩ := hq0.ids
  have hfi : f ≠ i := fun e => hft (by omega)
  have r0 := Run.front h hi (by omega) hmb
  have hfr := (front_is (q := X i) hr).1
  have hlog := (front_id (q := X i) hr).2.2
  unfold ND.step
  rw [if_neg (by rw [hid, hnn]; rintro (e | e | e | e); exact absurd e (by rw [hr]; decide); exact e hto; omega; omega)]
  by_cases hlow : m.ep < ((X i).front m).q.st.ep
  · rw [if_pos hlow]
    refine ⟨_, rfl, ?_⟩
    split
    · have := r0.small hi (k := 5) (a := 0) hfN hfi (Or.inr (Or.inr rfl)) ⟨by omega, by omega⟩ (fun h => by omega) (by omega)
      rw [← hf] at this
      exact this
    · exact r0
  · rw [if_neg hlow]
    refine ⟨_, rfl, ?_⟩
    have hep : m.ep = ((X i).front m).q.st.ep := by
      rw [hfr] at hlow ⊢
      split at hlow
      · next h4 => rw [if_pos h4]
      · next h4 => rw [if_neg h4]; omega
    have hc : Came N T i S ((X i).front m) m := ⟨hs, hto, hep, hmb⟩
    have hl : ((X i).front m).q.st.log.length < T := by rw [hlog]; omega
    unfold NS.act
    split
    · next hk => exact run_asked r0 hi h7 (by omega) hc hk
    · split
      · next hk => exact run_grants r0 hi hN (by omega) hc hk hl
      · split
        · next hk => exact run_shipped r0 hi (by omega) hc hk
        · split
          · next hk => exact run_acks r0 hi hN hc hk
          · split
            · exact run_nacks r0 hi hc
            · exact r0
theorem TI.act3 {t : Town} {T : Nat} (h : TI t T) (h0 : 0 < t.n) (hN : t.n % 2 = 1) (h7 : t.n ≤ 7) (hT : T ≤ 2048) (hl : ∀ i, i < t.n → (t.X i).st.log.length < T) : TI (t.act d3) T := by
  obtain ⟨S, h1, h2, h3⟩ := h.ok
  cases hnet : t.net with
  | nil =>
    have e : t.act d3 = t := by
      unfold Town.act
      rw [if_neg (by decide), if_neg (by decide), if_neg (by decide), if_pos (by decide), hnet]
      rfl
    rw [e]; exact h
  | cons m rest =>
    have hk : modN d3.k t.net.length = 0 := modN_zero (by rw [hnet]; simp)
    have hm : t.net[modN d3.k t.net.length]? = some m := by rw [hk, hnet]; rfl
    have e : t.act d3 = Town.after { t with net := t.net.eraseIdx 0 } m.to.toNat ((t.X m.to.toNat).step m).1 d3 := by
      unfold Town.act
      rw [if_neg (by decide), if_neg (by decide), if_neg (by decide), if_pos (by decide), hm]
      show t.deliver d3 (modN d3.k t.net.length) m = _
      rw [hk]
      unfold Town.deliver
      rw [if_neg (by decide), if_neg (by decide)]
    have hSm := h2 m (by rw [hnet]; exact List.mem_cons_self ..)
    obtain ⟨g, hI, _⟩ := h1.1
    obtain ⟨f, k, e1, e2, e3, e4, e5⟩ := (hI.2.2 m hSm).ends
    have ek : m.to.toNat = k := by omega
    obtain ⟨c, hc, hr⟩ := run_step' h1 (i := k) e4 hN h7 hT (hl k e4) hSm e2
    rw [e, ek, hc]
    exact (TI.after (t := { t with net := t.net.eraseIdx 0 }) (a := d3) hr e4 h7 hT (fun x hx => h2 x (List.mem_of_mem_eraseIdx hx)) h3).1
theorem TI.act2 {t : Town} {T b : Nat} (h : TI t T) (hb : b < t.n) (h7 : t.n ≤ 7) (hT : T ≤ 2048) : TI (t.act (dT b)) T := by
  obtain ⟨S, h1, h2, h3⟩ := h.ok
  have hi : modN (dT b).i t.n = b := modN_self hb
  have e : t.act (dT b) = t.after b (t.X b).tick (dT b) := by
    unfold Town.act
    rw [if_neg (show ¬ ((dT b).kind = 0) from (by decide : ¬ ((2 : Int) = 0))), if_neg (show ¬ ((dT b).kind = 1) from (by decide : ¬ ((2 : Int) = 1))), if_pos (show (dT b).kind = 2 from rfl), hi]
  rw [e]
  exact (TI.after (a := dT b) (run_tick h1 hb) hb h7 hT h2 h3).1

section
variable {N T b L : Nat} {E : Int} {X : Nat → ND} {net : List Msg} {c : NS}
theorem mem_ships' {q : ND} {n j : Nat} (hj : j < n) (hne : j ≠ q.id) : shipMsg q j (q.has.getD j 0).toNat ∈ q.ships n := by
  unfold ND.ships
  refine List.mem_map.2 ⟨j, List.mem_filter.2 ⟨List.mem_range.2 hj, by simpa using hne⟩, rfl⟩
theorem mem_asks' {q : ND} {gs : List Int} {n j : Nat} (hj : j < n) (hne : j ≠ q.id) (hg : (j : Int) ∉ gs) : askMsg q j ∈ q.asks gs n := by
  unfold ND.asks
  refine List.mem_map.2 ⟨j, List.mem_filter.2 ⟨List.mem_range.2 hj, by simpa using ⟨hne, hg⟩⟩, rfl⟩
/-- A tick. -/
theorem Set2.tick (h : Set2 N b E X net) (hF : Facts N T X net) (hb : b < N) (h7 : N ≤ 7) : Set2 N b E X (net ++ (X b).tick.ms.take (300 - net.length)) ∧ (X b).tick.q = X b ∧ Phi L N b (X b) (net ++ (X b).tick.ms.take (300 - net.length)) ≤ Phi L N b (X b) net + 35 ∧
    (net = [] → (X b).role = 1 → ∀ j, j < N → j ≠ b → Vj b E X (net ++ (X b).tick.ms.take (300 - net.length)) j) ∧ (net = [] → (X b).role = 2 → ∀ j, j < N → j ≠ b → Fj b E X (net ++ (X b).tick.ms.take (300 - net.length)) j) := by
  have hfit := hF.fit b hb
  obtain ⟨hA, hq⟩ := atB_tick hfit
  have hid := hF.id b hb
  have hn := hF.n b hb
  have hs0 := h.s0.own (cap := 300 - net.length) hF hb hA (by rw [hq, h.top]; omega)
  rw [hq, upd_same] at hs0
  have hlen : (X b).tick.ms.length ≤ 7 := by
    unfold ND.tick
    split
    · show ([] ++ (X b).ships (X b).n).length ≤ 7
      have := ships_len (X b) (X b).n
      simp; omega
    · split
      · show ([] ++ (X b).asks _ (X b).n).length ≤ 7
        have := asks_len (X b) ((X b).granted.getD []) (X b).n
        simp; omega
      · exact Nat.zero_le _
  refine ⟨⟨hs0, h.top, h.role, h.votes, h.cand, h.last, h.acks, h.comm⟩, hq, ?_, fun hnet hr j hj hjb => ?_, fun hnet hr j hj hjb => ?_⟩
  · unfold Phi
    rw [wsum_app]
    have := Nat.le_trans (wsum_take (X b) (X b).tick.ms (300 - net.length)) (wsum_bound (X b) _)
    omega
  · have et : (X b).tick.ms.take (300 - net.length) = (X b).tick.ms := List.take_of_length_le (by rw [hnet]; simp; omega)
    rw [et]
    by_cases hg : (j : Int) ∈ (X b).granted.getD []
    · exact Or.inl hg
    · right; left
      have em : (X b).tick.ms = (X b).asks ((X b).granted.getD []) (X b).n := by unfold ND.tick; rw [if_neg (by omega), if_pos hr]; rfl
      refine ⟨askMsg (X b) j, List.mem_append.2 (Or.inr (by rw [em]; exact mem_asks' (by omega) (by omega) hg)), rfl, by show ((X b).id : Int) = _; rw [hid], rfl, h.top⟩
  · have et : (X b).tick.ms.take (300 - net.length) = (X b).tick.ms := List.take_of_length_le (by rw [hnet]; simp; omega)
    rw [et]
    have em : (X b).tick.ms = (X b).ships (X b).n := by unfold ND.tick; rw [if_pos hr]; rfl
    obtain ⟨p1, p2, p3, p4⟩ := hfit.prim hr
    have h1 := p3 _ (List.mem_of_getElem? (getD_is (l := (X b).has) (j := j) (by omega)))
    refine Or.inl ⟨shipMsg (X b) j ((X b).has.getD j 0).toNat, List.mem_append.2 (Or.inr (by rw [em]; exact mem_ships' (by omega) (by omega))), rfl, by show ((X b).id : Int) = _; rw [hid], rfl, h.top, ?_, ?_⟩
    · show ((((X b).has.getD j 0).toNat : Nat) : Int) + (((X b).st.log.drop ((X b).has.getD j 0).toNat).length : Int) = _
      rw [List.length_drop]; omega
    · show ((((X b).has.getD j 0).toNat : Nat) : Int) ≤ _
      omega
/-- One's own entry. -/
theorem Set2.append (h : Set2 N b E X net) (hF : Facts N T X net) (hT : T ≤ 2000) (hb : b < N) (h7 : N ≤ 7) (hr : (X b).role = 2) (hnet : net = []) {d : List UInt8} (hd : d ≠ []) (hd2 : d.length ≤ 2) :
    Set2 N b E (upd X b ((X b).append d).1.q) (net ++ ((X b).append d).1.ms.take (300 - net.length)) ∧ ((X b).append d).1.q.role = 2 ∧ ((X b).append d).1.q.st.log = (X b).st.log ++ [⟨E, d⟩] ∧ ((X b).append d).1.q.has = (X b).has ∧ ((X b).append d).1.q.acked = (X b).acked ∧
    Phi L N b ((X b).append d).1.q (net ++ ((X b).append d).1.ms.take (300 - net.length)) ≤ gaps (X b) b N + 35 ∧
    ∀ j, j < N → j ≠ b → Fj b E (upd X b ((X b).append d).1.q) (net ++ ((X b).append d).1.ms.take (300 - net.length)) j := by
  have hfit := hF.fit b hb
  have hid := hF.id b hb
  have hn := hF.n b hb
  have hlen := hF.len b hb
  have hep := hfit.ep
  have hepT := hF.ep b hb
  obtain ⟨p1, p2, p3, p4⟩ := hfit.prim hr
  have hlast : (X b).st.last (X b).st.log.length ≤ (X b).st.ep := lastAt_le hep (fun x hx => (hF.ents b hb x hx).2) _
  have hnt := note_put (s := (X b).st) (d := d) hep (by omega) (by omega) hlast
  have hq := NS.note_q (c := ⟨X b, [], []⟩) hnt
  have ea : ((X b).append d).1 = ((NS.note ⟨X b, [], []⟩ ⟨3, 0, 0, ⟨(X b).st.ep, d⟩⟩).ships).rise := by
    unfold ND.append
    rw [if_neg (by rintro (e | e); exact hd e; omega), if_neg (fun e => e hr), if_neg (by omega)]
  obtain ⟨q1, hq1⟩ : ∃ q1, ({ X b with st := { (X b).st with log := (X b).st.log ++ [⟨(X b).st.ep, d⟩] } } : ND) = q1 := ⟨_, rfl⟩
  have eq1 : (NS.note ⟨X b, [], []⟩ ⟨3, 0, 0, ⟨(X b).st.ep, d⟩⟩).q = q1 := by rw [hq, ← hq1]
  obtain ⟨cm, k1, k2, k3⟩ := risen_is q1
  have ec : ((X b).append d).1.q = { q1 with commit := cm } ∧ ((X b).append d).1.ms = q1.ships q1.n := by
    rw [ea]
    refine ⟨?_, ?_⟩
    · show (NS.note ⟨X b, [], []⟩ ⟨3, 0, 0, ⟨(X b).st.ep, d⟩⟩).q.risen = _
      rw [eq1, k1]
    · show [] ++ (NS.note ⟨X b, [], []⟩ ⟨3, 0, 0, ⟨(X b).st.ep, d⟩⟩).q.ships (NS.note ⟨X b, [], []⟩ ⟨3, 0, 0, ⟨(X b).st.ep, d⟩⟩).q.n = _
      rw [eq1, List.nil_append]
  have u1 : q1.st.log = (X b).st.log ++ [⟨E, d⟩] := by rw [← hq1, ← h.top]
  have u2 : q1.has = (X b).has := by rw [← hq1]
  have u3 : q1.acked = (X b).acked := by rw [← hq1]
  have u4 : q1.role = 2 := by rw [← hq1]; exact hr
  have u5 : q1.st.ep = E := by rw [← hq1]; exact h.top
  have u6 : q1.id = b ∧ q1.n = N := by rw [← hq1]; exact ⟨hid, hn⟩
  have ul : q1.st.log.length = (X b).st.log.length + 1 := by rw [u1]; simp
  have hA : AtB (X b) ((X b).append d).1 := by
    rw [ea]
    obtain ⟨a1, a2, a3⟩ := (AtB.idle (X b)).put (c := ⟨X b, [], []⟩) rfl rfl (d := d)
    refine (a1.ships (fun j => ?_)).rise
    rw [a2]
    exact Nat.le_trans (has_le' hfit hr j) a3
  have hs0 := h.s0.own (cap := 300 - net.length) hF hb hA (by rw [ec.1]; show q1.st.ep ≤ _; omega)
  have et : ((X b).append d).1.ms.take (300 - net.length) = ((X b).append d).1.ms := List.take_of_length_le (by
    rw [ec.2, hnet]
    have := ships_len q1 q1.n
    simp; omega)
  rw [et, ec.2, ec.1] at hs0 ⊢
  have hac := h.acks hr
  refine ⟨⟨hs0, by rw [upd_self]; exact u5, by rw [upd_self]; exact Or.inr u4, fun j hj hne => by rw [upd_ne _ _ _ hne]; exact h.votes j hj hne, fun e => by rw [upd_self] at e; have e : q1.role = 1 := e; omega, fun _ => ?_, fun _ j => ?_, fun _ => ?_⟩, u4, u1, u2, u3, ?_, fun j hj hjb => ?_⟩
  · rw [upd_self]
    show lastAt q1.st.log q1.st.log.length = E
    rw [ul, u1]
    exact lastAt_succ (x := ⟨E, d⟩) (by rw [List.getElem?_append_right (Nat.le_refl _), Nat.sub_self]; rfl)
  · rw [upd_self]
    show q1.acked.getD j 0 ≤ q1.has.getD j 0
    rw [u2, u3]; exact hac j
  · rw [upd_self]
    rw [u5] at k3
    exact k3
  · unfold Phi
    rw [if_neg (show ¬ ({ q1 with commit := cm } : ND).role = 1 from fun e => by have e : q1.role = 1 := e; omega), if_pos (show ({ q1 with commit := cm } : ND).role = 2 from u4), hnet, List.nil_append]
    have h1 := wsum_bound ({ q1 with commit := cm } : ND) (q1.ships q1.n)
    have h2 := ships_len q1 q1.n
    have h3 : gaps ({ q1 with commit := cm } : ND) b N ≤ gaps (X b) b N := gaps_le (q' := { q1 with commit := cm }) N (fun j _ _ => by
      show gap q1 j ≤ gap (X b) j
      unfold gap
      rw [u2, u3]
      exact Nat.le_refl _)
    omega
  · have h1 := p3 _ (List.mem_of_getElem? (getD_is (l := (X b).has) (j := j) (by omega)))
    refine Or.inl ⟨shipMsg q1 j (q1.has.getD j 0).toNat, List.mem_append.2 (Or.inr (mem_ships' (by omega) (by omega))), rfl, by show (q1.id : Int) = _; rw [u6.1], rfl, u5, ?_, ?_⟩
    · rw [upd_self]
      show (((q1.has.getD j 0).toNat : Nat) : Int) + ((q1.st.log.drop (q1.has.getD j 0).toNat).length : Int) = (q1.st.log.length : Int)
      rw [List.length_drop, u2]; omega
    · rw [upd_self]
      show (((q1.has.getD j 0).toNat : Nat) : Int) ≤ q1.has.getD j 0
      rw [u2]; omega
theorem count_q (c : NS) : c.count.q = (NS.count ⟨c.q, [], []⟩).q := by
  unfold NS.count
  split <;> rfl
/-- The promotion into the last epoch. -/
theorem Set0.last (h : Set0 N b (E - 1) X net) (hF : Facts N T X net) (hT : T ≤ 2047) (hb : b < N) (h7 : N ≤ 7) (hep : (X b).st.ep + 1 = E) (cap : Nat) :
    Set2 N b E (upd X b (X b).promote.1.q) (net ++ (X b).promote.1.ms.take cap) := by
  have hfit := hF.fit b hb
  have hid := hF.id b hb
  have hn := hF.n b hb
  have hlen := hF.len b hb
  have hepT := hF.ep b hb
  have hep0 := hfit.ep
  obtain ⟨hA, he⟩ := atB_promote (q := X b) hep0 (by omega) (by omega)
  have hs0 := h.own (cap := cap) hF hb hA (by rw [he]; omega)
  have hnt := note_vote (s := (X b).st) (t := ⟨1, (X b).st.ep + 1, ((X b).id : Int), ⟨0, []⟩⟩) rfl (vote_right ((X b).st.ep + 1) ((X b).id : Int) (by omega) (by omega) (by omega) (by omega)) (by show (X b).st.ep < (X b).st.ep + 1; omega)
  have hq := NS.note_q (c := ⟨X b, [], []⟩) hnt
  obtain ⟨qc, hqc⟩ : ∃ qc, ({ X b with st := { (X b).st with ep := (X b).st.ep + 1, voted := ((X b).id : Int) }, role := 1, granted := some [((X b).id : Int)] } : ND) = qc := ⟨_, rfl⟩
  have ep : (X b).promote.1.q = (NS.count ⟨qc, [], []⟩).q := by
    unfold ND.promote
    rw [if_neg (by omega), count_q]
    have e : ((NS.note ⟨X b, [], []⟩ ⟨1, (X b).st.ep + 1, ((X b).id : Int), ⟨0, []⟩⟩).cand.asks).q = qc := by
      show (NS.cand _).q = qc
      unfold NS.cand
      simp only
      rw [hq, ← hqc]
    rw [e]
  have v0 : qc.st.ep = E := by rw [← hqc]; exact hep
  have v1 : qc.granted.getD [] = [(b : Int)] := by rw [← hqc]; show [((X b).id : Int)] = _; rw [hid]
  have v2 : qc.st.log = (X b).st.log := by rw [← hqc]
  have v3 : qc.role = 1 := by rw [← hqc]
  have v4 : qc.n = N := by rw [← hqc]; exact hn
  have votes : ∀ j, j < N → j ≠ b → ¬ (X j).st.ep = E := fun j hj hne => by
    have := h.ep j hj
    omega
  by_cases hg : 2 * (qc.granted.getD []).length ≤ qc.n ∨ 2048 ≤ qc.st.log.length
  · have ec : NS.count ⟨qc, [], []⟩ = ⟨qc, [], []⟩ := by unfold NS.count; rw [if_pos hg]
    rw [ep, ec] at hs0 ⊢
    refine ⟨hs0, by rw [upd_self]; exact v0, by rw [upd_self]; exact Or.inl v3, fun j hj hne => by rw [upd_ne _ _ _ hne]; exact fun e => absurd e (votes j hj hne), fun _ => ?_, fun e => by rw [upd_self] at e; have e : qc.role = 2 := e; omega, fun e => by rw [upd_self] at e; have e : qc.role = 2 := e; omega, fun e => by rw [upd_self] at e; have e : qc.role = 2 := e; omega⟩
    rw [upd_self]
    show (b : Int) ∈ qc.granted.getD [] ∧ 2 * (qc.granted.getD []).length ≤ N
    refine ⟨by rw [v1]; exact List.mem_singleton.2 rfl, ?_⟩
    rcases hg with e | e
    · omega
    · rw [v2] at e; omega
  · have hlast : qc.st.last qc.st.log.length ≤ qc.st.ep := by
      show lastAt qc.st.log _ ≤ _
      rw [v2, v0, ← hep]
      exact Int.le_trans (lastAt_le hep0 (fun x hx => (hF.ents b hb x hx).2) _) (by omega)
    obtain ⟨cm, k1, k2, k3⟩ := lead_spec v3 (by rw [v0]; omega) (by rw [v0]; omega) hlast (by omega) hg
    obtain ⟨ql, hql⟩ : ∃ ql, (NS.count ⟨qc, [], []⟩).q = ql := ⟨_, rfl⟩
    rw [ep, hql] at hs0 ⊢
    rw [hql] at k1
    have w1 : ql.role = 2 := by rw [k1]
    have w2 : ql.st.ep = E := by rw [k1]; exact v0
    have w3 : ql.st.log = qc.st.log ++ [⟨E, []⟩] := by rw [k1]; show qc.st.log ++ [⟨qc.st.ep, []⟩] = _; rw [v0]
    have w4 : ql.has = List.replicate qc.n (qc.st.log.length : Int) := by rw [k1]
    have w5 : ql.acked = List.replicate qc.n 0 := by rw [k1]
    have w6 : ql.mid ≤ (ql.commit : Int) ∨ ql.st.last ql.mid.toNat ≠ E := by
      rw [k1, ← v0]
      exact k3
    refine ⟨hs0, by rw [upd_self]; exact w2, by rw [upd_self]; exact Or.inr w1, fun j hj hne => by rw [upd_ne _ _ _ hne]; exact fun e => absurd e (votes j hj hne), fun e => by rw [upd_self] at e; omega, fun _ => ?_, fun _ j => ?_, fun _ => by rw [upd_self]; exact w6⟩
    · rw [upd_self, w3, List.length_append]
      exact lastAt_succ (x := ⟨E, []⟩) (by rw [List.getElem?_append_right (Nat.le_refl _), Nat.sub_self]; rfl)
    · rw [upd_self, w4, w5, List.getD_eq_getElem?_getD, List.getD_eq_getElem?_getD, List.getElem?_replicate, List.getElem?_replicate]
      split
      · show (0 : Int) ≤ (qc.st.log.length : Int); omega
      · exact Int.le_refl _
end
end Go.Proofs.Ytlgoenimjmiapaa

/-! Settles, plain: the town runs till nothing is on its way. -/
namespace Go.Proofs.Ytlgoenimjmiapaa

/-- No log is longer than C; where b asks, there is room for one entry more. -/
structure Cap (b C N : Nat) (X : Nat → ND) : Prop where
  other : ∀ j, j < N → j ≠ b → (X j).st.log.length ≤ C
  own : (X b).st.log.length + (if (X b).role = 1 then 1 else 0) ≤ C
theorem Cap.all {b C N : Nat} {X : Nat → ND} (h : Cap b C N X) {j : Nat} (hj : j < N) : (X j).st.log.length ≤ C := by
  by_cases e : j = b
  · subst e; have := h.own; omega
  · exact h.other j hj e
theorem count_len (c : NS) (hr : c.q.role = 1) : c.count.q.st.log.length + (if c.count.q.role = 1 then 1 else 0) ≤ c.q.st.log.length + 1 := by
  unfold NS.count
  split
  · exact Nat.le_refl _
  · have e := risen_log (c.lead.note ⟨3, 0, 0, ⟨c.q.st.ep, []⟩⟩).ships.q
    obtain ⟨r, h1, h2⟩ := note3_log c.lead ⟨c.q.st.ep, []⟩
    have e1 : (((c.lead.note ⟨3, 0, 0, ⟨c.q.st.ep, []⟩⟩).ships).rise).q.st = (c.lead.note ⟨3, 0, 0, ⟨c.q.st.ep, []⟩⟩).q.st := e.1
    have e2 : (((c.lead.note ⟨3, 0, 0, ⟨c.q.st.ep, []⟩⟩).ships).rise).q.role = (c.lead.note ⟨3, 0, 0, ⟨c.q.st.ep, []⟩⟩).q.role := e.2
    rw [e1, e2, h1]
    have hl : r.length ≤ 1 := by rcases h2 with rfl | rfl <;> simp
    have hrole : ({ c.lead.q with st := { c.lead.q.st with log := c.lead.q.st.log ++ r } } : ND).role = 2 := rfl
    rw [if_neg (by rw [hrole]; decide)]
    show (c.q.st.log ++ r).length + 0 ≤ _
    rw [List.length_append]
    omega
theorem act_len {q : ND} {m : Msg} (hk : m.kind = 2 ∨ m.kind = 4 ∨ m.kind = 5) : (NS.act ⟨q, [], []⟩ m).q.st.log.length + (if (NS.act ⟨q, [], []⟩ m).q.role = 1 then 1 else 0) ≤ q.st.log.length + (if q.role = 1 then 1 else 0) := by
  unfold NS.act
  rcases hk with hk | hk | hk
  · rw [if_neg (by omega), if_pos hk]
    unfold NS.grants
    split
    · next hr =>
      have := count_len (NS.vote ⟨q, [], []⟩ m.frm) hr
      exact this
    · exact Nat.le_refl _
  · rw [if_neg (by omega), if_neg (by omega), if_neg (by omega), if_pos hk]
    unfold NS.acks
    split
    · obtain ⟨cm, h1, _⟩ := risen_is (((NS.setAcked ⟨q, [], []⟩ m.frm.toNat (max (q.acked.getD m.frm.toNat 0) (min m.at_ (q.st.log.length : Int)))).setHas m.frm.toNat (max (q.has.getD m.frm.toNat 0) (min m.at_ (q.st.log.length : Int))))).q
      show ((((NS.setAcked ⟨q, [], []⟩ m.frm.toNat (max (q.acked.getD m.frm.toNat 0) (min m.at_ (q.st.log.length : Int)))).setHas m.frm.toNat (max (q.has.getD m.frm.toNat 0) (min m.at_ (q.st.log.length : Int))))).q.risen).st.log.length + (if ((((NS.setAcked ⟨q, [], []⟩ m.frm.toNat (max (q.acked.getD m.frm.toNat 0) (min m.at_ (q.st.log.length : Int)))).setHas m.frm.toNat (max (q.has.getD m.frm.toNat 0) (min m.at_ (q.st.log.length : Int))))).q.risen).role = 1 then 1 else 0) ≤ _
      rw [h1]
      exact Nat.le_refl _
    · exact Nat.le_refl _
  · rw [if_neg (by omega), if_neg (by omega), if_neg (by omega), if_neg (by omega), if_pos hk]
    unfold NS.nacks
    split <;> exact Nat.le_refl _
theorem Cap.recv {N T b C : Nat} {E0 : Int} {X : Nat → ND} {rest : List Msg} {m : Msg} (hc : Cap b C N X) (h : Set0 N b E0 X (m :: rest)) (hF : Facts N T X (m :: rest)) (hT : T ≤ 2048) (hb : b < N) : Cap b C N (upd X m.to.toNat ((X m.to.toNat).step m).1.q) ∧ (X b).st.ep ≤ (upd X m.to.toNat ((X m.to.toNat).step m).1.q b).st.ep ∧ ((X b).st.ep ≤ E0 → (upd X m.to.toNat ((X m.to.toNat).step m).1.q b).st.ep ≤ E0) := by
  obtain ⟨f, k, e1, e2, e3, e4, e5⟩ := hF.ends m (List.mem_cons_self ..)
  have hr := hF.right m (List.mem_cons_self ..)
  have ek : m.to.toNat = k := by omega
  rw [ek]
  have hid := hF.id k e4
  have hn := hF.n k e4
  have hlen := hF.len k e4
  have hto : m.to = ((X k).id : Int) := by rw [hid]; exact e2
  have hfr : m.frm ≠ ((X k).id : Int) := by rw [hid, e1]; omega
  have hfn : m.frm < ((X k).n : Int) := by rw [hn, e1]; omega
  rcases h.dir m (List.mem_cons_self ..) with ⟨d1, d2⟩ | ⟨d1, d2⟩
  · have hkb : k ≠ b := by omega
    have hJ := atJ hr (h.stand k e4 hkb) (by omega) hto hfr hfn d2
    rw [upd_ne _ _ _ (Ne.symm hkb)]
    refine ⟨⟨fun j hj hjb => ?_, by rw [upd_ne _ _ _ (Ne.symm hkb)]; exact hc.own⟩, Int.le_refl _, fun e => e⟩
    by_cases hjk : j = k
    · subst hjk
      rw [upd_self]
      obtain ⟨p, r, k1, k2, k3⟩ := hJ.log
      rw [k1, List.length_append]
      have ho := hc.other j hj hjb
      have hown := hc.own
      rcases k3 with k3 | ⟨k3, k4⟩
      · rw [k3, List.length_take]
        show min p (X j).st.log.length + 0 ≤ C
        omega
      · obtain ⟨a, s1, s2, _⟩ := h.seg m (List.mem_cons_self ..) k3
        omega
    · rw [upd_ne _ _ _ hjk]; exact hc.other j hj hjb
  · obtain rfl : k = b := by omega
    have hown := hc.own
    rw [upd_self]
    by_cases hhi : (X k).st.ep < m.ep
    · obtain ⟨k1, k2⟩ := atB_hi hr hto hfr hfn d2 hhi
      rw [k1]
      refine ⟨⟨fun j hj hjb => by rw [upd_ne _ _ _ hjb]; exact hc.other j hj hjb, ?_⟩, by show (X k).st.ep ≤ m.ep; omega, fun e => by have := h.mep m (List.mem_cons_self ..); show m.ep ≤ E0; omega⟩
      rw [upd_self, if_neg (show ¬ ({ X k with st := { (X k).st with ep := m.ep, voted := -1 }, role := 0 } : ND).role = 1 from (by decide : ¬ ((0 : Int) = 1)))]
      show (X k).st.log.length + 0 ≤ C
      omega
    · by_cases hlo : m.ep < (X k).st.ep
      · obtain ⟨k1, k2⟩ := atB_lo hr hto hfr hfn d2 hlo
        rw [k1, upd_same]
        exact ⟨hc, Int.le_refl _, fun e => e⟩
      · rw [atB_eq hr hto hfr hfn (by omega)]
        have := act_len (q := X k) d2
        refine ⟨⟨fun j hj hjb => by rw [upd_ne _ _ _ hjb]; exact hc.other j hj hjb, ?_⟩, by rw [act_ep d2]; exact Int.le_refl _, fun e => by rw [act_ep d2]; exact e⟩
        rw [upd_self]
        omega

/-- A town of which b alone asks. -/
structure Town0 (t : Town) (b C T : Nat) : Prop where
  n0 : 0 < t.n
  odd : t.n % 2 = 1
  n7 : t.n ≤ 7
  hb : b < t.n
  ti : TI t T
  cap : Cap b C t.n t.X
  lt : C < T
  le : T ≤ 1000
  net : t.net.length ≤ 300
theorem Town0.facts {t : Town} {b C T : Nat} (h : Town0 t b C T) : Facts t.n T t.X t.net := h.ti.facts h.n7 (by have := h.le; omega)
theorem Town0.deliver {t : Town} {b C T : Nat} {E0 : Int} {m : Msg} {rest : List Msg} (h : Town0 t b C T) (hnet : t.net = m :: rest) (hs : Set0 t.n b E0 t.X t.net) : Town0 (t.act d3) b C T ∧ Set0 (t.act d3).n b E0 (t.act d3).X (t.act d3).net ∧ (t.X b).st.ep ≤ ((t.act d3).X b).st.ep ∧ ((t.X b).st.ep ≤ E0 → ((t.act d3).X b).st.ep ≤ E0) := by
  obtain ⟨a1, a2, a3⟩ := act3_is hnet
  have hF := h.facts
  have hle := h.le
  have hnl := h.net
  rw [hnet] at hF hs hnl
  have hT := h.ti.act3 h.n0 h.odd h.n7 (by omega) (fun i hi => by have := h.cap.all hi; have := h.lt; omega)
  obtain ⟨c1, c2, c3⟩ := h.cap.recv hs hF (by omega) h.hb
  refine ⟨⟨by rw [a3]; exact h.n0, by rw [a3]; exact h.odd, by rw [a3]; exact h.n7, by rw [a3]; exact h.hb, hT, by rw [a3, a2]; exact c1, h.lt, h.le, ?_⟩, ?_, by rw [a2]; exact c2, by rw [a2]; exact c3⟩
  · rw [a1, List.length_append, List.length_take]
    simp at hnl
    omega
  · rw [a1, a2, a3]
    exact hs.recv hF (by omega) h.hb

/-- All that is on its way arrives, so many at most. -/
def Town.rush : Nat → Town → Town
  | 0, t => t
  | k + 1, t => if t.net = [] then t else (t.act d3).rush k
theorem rush_n : ∀ (k : Nat) (t : Town), (t.rush k).n = t.n
  | 0, t => rfl
  | k + 1, t => by
    unfold Town.rush
    split
    · rfl
    · rw [rush_n k, act_n]
theorem Town0.rush {b C T : Nat} {E0 : Int} : ∀ (k : Nat) {t : Town}, Town0 t b C T → Set0 t.n b E0 t.X t.net → Town0 (t.rush k) b C T ∧ Set0 (t.rush k).n b E0 (t.rush k).X (t.rush k).net ∧ (t.X b).st.ep ≤ ((t.rush k).X b).st.ep ∧ ((t.X b).st.ep ≤ E0 → ((t.rush k).X b).st.ep ≤ E0)
  | 0, t, h, hs => ⟨h, hs, Int.le_refl _, fun e => e⟩
  | k + 1, t, h, hs => by
    unfold Town.rush
    cases hnet : t.net with
    | nil => rw [if_pos rfl]; rw [hnet] at hs; exact ⟨h, by rw [hnet]; exact hs, Int.le_refl _, fun e => e⟩
    | cons m rest =>
      rw [if_neg (by simp)]
      obtain ⟨h1, h2, h3, h4⟩ := h.deliver hnet hs
      obtain ⟨k1, k2, k3, k4⟩ := Town0.rush k h1 h2
      exact ⟨k1, k2, Int.le_trans h3 k3, fun e => k4 (h4 e)⟩

/-- What a rush keeps in the last epoch. -/
structure Goes (t t' : Town) (b L : Nat) (E : Int) : Prop where
  n : t'.n = t.n
  less : Phi L t.n b (t'.X b) t'.net ≤ Phi L t.n b (t.X b) t.net
  vote : (t.X b).role = 1 → (t'.X b).role = 1 → ∀ j, j < t.n → j ≠ b → Vj b E t.X t.net j → Vj b E t'.X t'.net j
  prim : (t.X b).role = 2 → (t'.X b).role = 2 ∧ (t'.X b).st.log = (t.X b).st.log
  log : (t.X b).role = 2 → ∀ j, j < t.n → j ≠ b → Fj b E t.X t.net j → Fj b E t'.X t'.net j
  up : (t.X b).role = 2 → ∀ j, (t.X b).acked.getD j 0 ≤ (t'.X b).acked.getD j 0
  com : ∀ j, j < t.n → j ≠ b → (t.X j).commit ≤ (t'.X j).commit
  comb : (t.X b).role = 2 → (t.X b).commit ≤ (t'.X b).commit
theorem Goes.refl (t : Town) (b L : Nat) (E : Int) : Goes t t b L E := ⟨rfl, Nat.le_refl _, fun _ _ _ _ _ h => h, fun h => ⟨h, rfl⟩, fun _ _ _ _ h => h, fun _ _ => Int.le_refl _, fun _ _ _ => Nat.le_refl _, fun _ => Nat.le_refl _⟩
theorem Goes.trans {t t1 t2 : Town} {b L : Nat} {E : Int} (h : Goes t t1 b L E) (k : Goes t1 t2 b L E) (hr : (t1.X b).role = 1 ∨ (t1.X b).role = 2) : Goes t t2 b L E := by
  refine ⟨k.n.trans h.n, by have := k.less; rw [h.n] at this; exact Nat.le_trans this h.less, fun r1 r2 j hj hjb hv => ?_, fun r => ?_, fun r j hj hjb hf => ?_, fun r j => ?_, fun j hj hjb => Nat.le_trans (h.com j hj hjb) (k.com j (by rw [h.n]; exact hj) hjb), fun r => Nat.le_trans (h.comb r) (k.comb (h.prim r).1)⟩
  · have r3 : (t1.X b).role = 1 := by
      rcases hr with e | e
      · exact e
      · have := (k.prim e).1; omega
    exact k.vote r3 r2 j (by rw [h.n]; exact hj) hjb (h.vote r1 r3 j hj hjb hv)
  · obtain ⟨a1, a2⟩ := h.prim r
    obtain ⟨b1, b2⟩ := k.prim a1
    exact ⟨b1, b2.trans a2⟩
  · exact k.log (h.prim r).1 j (by rw [h.n]; exact hj) hjb (h.log r j hj hjb hf)
  · exact Int.le_trans (h.up r j) (k.up (h.prim r).1 j)

theorem Town0.deliver2 {t : Town} {b C T L : Nat} {E : Int} {m : Msg} {rest : List Msg} (h : Town0 t b C T) (hL : T ≤ L) (hnet : t.net = m :: rest) (hs : Set2 t.n b E t.X t.net) : Town0 (t.act d3) b C T ∧ Set2 (t.act d3).n b E (t.act d3).X (t.act d3).net ∧ Goes t (t.act d3) b L E ∧ Phi L t.n b ((t.act d3).X b) (t.act d3).net + 1 ≤ Phi L t.n b (t.X b) t.net := by
  have h0 := (h.deliver hnet hs.s0).1
  obtain ⟨a1, a2, a3⟩ := act3_is hnet
  have hF := h.facts
  have hX := h.ti.extra h.hb
  have hle := h.le
  have hnl := h.net
  rw [hnet] at hF hs hnl hX
  simp at hnl
  have k := hs.recv (L := L) hF hX (by omega) hL h.hb h.n7 (by omega)
  rw [← a1, ← a2] at k
  refine ⟨h0, by rw [a3]; exact k.set, ⟨a3, ?_, ?_, fun r => ⟨(k.prim r).1, (k.prim r).2.1⟩, ?_, k.up, k.com, fun r => (k.prim r).2.2⟩, by rw [hnet]; exact k.less⟩
  · rw [hnet]; have := k.less; omega
  · rw [hnet]; exact k.vote
  · rw [hnet]; exact k.log
theorem Town0.rush2 {b C T L : Nat} {E : Int} (hL : T ≤ L) : ∀ (k : Nat) {t : Town}, Town0 t b C T → Set2 t.n b E t.X t.net → Town0 (t.rush k) b C T ∧ Set2 (t.rush k).n b E (t.rush k).X (t.rush k).net ∧ Goes t (t.rush k) b L E ∧ ((t.rush k).net = [] ∨ Phi L t.n b ((t.rush k).X b) (t.rush k).net + k ≤ Phi L t.n b (t.X b) t.net)
  | 0, t, h, hs => ⟨h, hs, Goes.refl _ _ _ _, Or.inr (Nat.le_refl _)⟩
  | k + 1, t, h, hs => by
    unfold Town.rush
    cases hnet : t.net with
    | nil => rw [if_pos rfl]; exact ⟨h, hs, Goes.refl _ _ _ _, Or.inl hnet⟩
    | cons m rest =>
      rw [if_neg (by simp)]
      obtain ⟨h1, h2, h3, h4⟩ := h.deliver2 hL hnet hs
      obtain ⟨k1, k2, k3, k4⟩ := Town0.rush2 hL k h1 h2
      refine ⟨k1, k2, h3.trans k3 h2.role, ?_⟩
      rcases k4 with k4 | k4
      · exact Or.inl k4
      · right
        rw [h3.n] at k4
        rw [hnet] at h4
        omega
end Go.Proofs.Ytlgoenimjmiapaa
