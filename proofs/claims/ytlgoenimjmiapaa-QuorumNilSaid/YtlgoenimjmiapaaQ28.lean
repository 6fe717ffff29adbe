import Derived.Test.YtlgoenimjmiapaaQ27
/-! Promote. -/
set_option linter.unusedVariables false
namespace Go.Proofs.Ytlgoenimjmiapaa
open Go.RowKit Go.Maps

theorem vote_log (s : St) (t : Nt) (h : t.kind = 1) : ((s.note t).getD s).log = s.log := by
  unfold St.note
  rw [h]
  simp only [if_true]
  split
  · rfl
  split
  · rfl
  · rfl
theorem asks_len (q : ND) (gs : List Int) (i : Nat) : (q.asks gs i).length ≤ i := by
  unfold ND.asks
  rw [List.length_map]
  refine Nat.le_trans (List.length_filter_le _ _) ?_
  rw [List.length_range]
  exact Nat.le_refl _
theorem ships_len (q : ND) (i : Nat) : (q.ships i).length ≤ i := by
  unfold ND.ships
  rw [List.length_map]
  refine Nat.le_trans (List.length_filter_le _ _) ?_
  rw [List.length_range]
  exact Nat.le_refl _

section
variable {w w' : World} {x : Nat} {c c' : NS} {V : NV}

theorem none_g (h : NAt w x c V) (hn : 0 < c.q.n) (hn2 : c.q.n ≤ 7) : Calls Try.prog 27 #[.pointer (some ⟨x, 0, none⟩)] w fun e w' => e = .returned (.bool false) ∧ w = w' := by
  obtain ⟨ss, _, h⟩ := h
  exact none_is h hn hn2

/-- The role and a new map of one vote. -/
theorem Held.runs {R : Nat} {W : World} (h : Held w x V c R W) {i : Nat} (hi : c.q.id = i) (hi7 : i ≤ 7) :
    ∃ W3, (Instr.mapUpdate 51 (.map (some W.heap.size)) (.int .i64 (i : Int)) (.bool true)).run Try.prog (W.alloc (.map #[] 0)) = .ok () W3 ∧
      W3.cell? ⟨x, 5, none⟩ = W.cell? ⟨x, 5, none⟩ ∧ W3.cell? ⟨x, 7, none⟩ = W.cell? ⟨x, 7, none⟩ ∧ W3.frozen? ⟨x, 5, none⟩ = false ∧ W3.frozen? ⟨x, 7, none⟩ = false ∧
      Held w x V c.cand R ((W3.setCell ⟨x, 5, none⟩ (.int .i64 1)).setCell ⟨x, 7, none⟩ (.map (some W.heap.size))) := by
  obtain ⟨V', ⟨ss, e1, e2⟩, h2, h3, h4⟩ := h
  obtain ⟨W3, k1, k2, k3⟩ := (VotesAt.made W).add hi7 (by simp)
  have ho : Out Zone.no W W3 := ((Out.refl Zone.no W).alloc (.map #[] 0)).grown k3 (fun k hk => by injection hk with hk; subst hk; exact Or.inr (Nat.le_refl _))
  have e3 := e2.any ho
  obtain ⟨j1, j2⟩ := e2.runs ho 1 k2 (Nat.le_refl _)
  refine ⟨W3, k1, by rw [e2.c5, e3.c5], by rw [e2.c7, e3.c7], frozen_all e3.blk 5, frozen_all e3.blk 7, Held.gone ⟨ss, e1, e2⟩ h2 h3 h4 ⟨_, ⟨ss, e1, ?_⟩, j2⟩⟩
  unfold NS.cand
  rw [hi]
  exact j1

theorem Held.cells {R : Nat} {W : World} (h : Held w x V c R W) : W.cell? ⟨R, 0, none⟩ = some (.slice none 0 0) ∧ W.cell? ⟨R, 1, none⟩ = some (.slice none 0 0) ∧ W.frozen? ⟨R, 0, none⟩ = false ∧ W.frozen? ⟨R, 1, none⟩ = false := by
  obtain ⟨V', _, _, h3, _⟩ := h
  have h3' : W.heap[R]? = some (.cells #[.slice none 0 0, .slice none 0 0] 32 (0, 0)) := h3
  exact ⟨by rw [cells_all h3']; rfl, by rw [cells_all h3']; rfl, frozen_all h3' 0, frozen_all h3' 1⟩

set_option maxRecDepth 100000 in
set_option maxHeartbeats 4000000 in
theorem promote_is {q : ND} (h : NAt w x ⟨q, [], []⟩ V) (h1 : 0 < q.n) (h7 : q.n ≤ 7) (hid : q.id < q.n) (hl : q.st.log.length ≤ 2048) (hep : 0 ≤ q.st.ep) :
    Calls Try.prog 12 #[.pointer (some ⟨x, 0, none⟩)] w fun e w' => Answered w x V q.promote e w' := by
  have HS := Lib.hid (Held.start h)
  obtain ⟨R, hR⟩ : ∃ R, w.heap.size = R := ⟨_, rfl⟩
  rw [hR] at HS
  have HN : Hid (∀ W, Held w x V ⟨q, [], []⟩ R W → Calls Try.prog 27 #[.pointer (some ⟨x, 0, none⟩)] W fun e w' => e = .returned (.bool false) ∧ W = w') := fun W hW => by
    obtain ⟨V', k, _⟩ := hW
    exact none_g k h1 h7
  have KC : Hid (∀ W, Held w x V ⟨q, [], []⟩ R W → W.cell? ⟨x, 0, none⟩ = some (.int .i64 q.st.ep) ∧ W.cell? ⟨x, 3, none⟩ = some (.int .i64 (q.id : Int))) := fun W hW => by
    obtain ⟨V', ⟨ss, _, k⟩, _⟩ := hW
    exact ⟨k.blk.c0, k.c3⟩
  have HD := Lib.hid hid
  have HL := Lib.hid hl
  have H7 := Lib.hid h7
  obtain ⟨D, hD⟩ : ∃ D, q.id = D := ⟨_, rfl⟩
  obtain ⟨E, hE⟩ : ∃ E, q.st.ep = E := ⟨_, rfl⟩
  have HDD := Lib.hid hD
  have HEE := Lib.hid hE
  rw [hD, hE] at KC
  rw [hE] at hep
  by_cases hb : 1099511627776 ≤ E
  · have HX : Hid (q.promote = (⟨q, [], []⟩, 6)) := by unfold ND.promote; rw [hE]; exact if_pos hb
    obtain ⟨X, hX⟩ : ∃ X, q.promote = X := ⟨_, rfl⟩
    rw [hX] at HX ⊢
    clear h hl h7 hid hX hD hE h1
    go_enter Try.func12, Try.ntmps12
    go_wp2_with fail
    obtain ⟨W0, hW0⟩ : ∃ W0, w.alloc (.cells #[.slice none 0 0, .slice none 0 0] 32) = W0 := ⟨_, rfl⟩
    rw [hW0] at HS ⊢
    obtain ⟨r0, r1, f0, f1⟩ := HS.out.cells
    obtain ⟨c0, c3⟩ := KC.out _ HS.out
    clear hW0 hR
    go_wp2_with (go_at_call 27; refine (HN.out _ HS.out).mono ?_; rintro e w' ⟨rfl, rfl⟩)
    refine bodyPost_ret (v := .tuple #[.agg #[.slice none 0 0, .slice none 0 0], .int .i64 6]) (by simp [results, Try.results12, go_sem, *]) rfl ?_
    rw [HX.out]
    refine ⟨_, rfl, HS.out.idle ?_⟩
    first
    | exact Out.refl _ _
    | exact ((Out.refl _ _).setCell (Or.inl (by show R = R; rfl)) _).setCell (Or.inl (by show R = R; rfl)) _
  · have HX : Hid (q.promote = (((NS.note ⟨q, [], []⟩ ⟨1, E + 1, (D : Int), ⟨0, []⟩⟩).cand.asks).count, 0)) := by unfold ND.promote; rw [hE, hD]; exact if_neg hb
    obtain ⟨X, hX⟩ : ∃ X, q.promote = X := ⟨_, rfl⟩
    rw [hX] at HX ⊢
    have we : IntKind.i64.wrap (E + 1) = E + 1 := IntWalk.i64_in _ (by omega)
    obtain ⟨c1, hc1⟩ : ∃ c1, NS.note ⟨q, [], []⟩ ⟨1, E + 1, (D : Int), ⟨0, []⟩⟩ = c1 := ⟨_, rfl⟩
    have HX2 : Hid (X = (c1.cand.asks.count, 0)) := by rw [HX.out, hc1]; exact rfl
    have hlog : c1.q.st.log = q.st.log := by rw [← hc1]; exact vote_log q.st ⟨1, E + 1, (D : Int), ⟨0, []⟩⟩ rfl
    have hq1 : c1.q.n = q.n ∧ c1.q.id = D ∧ c1.ns.length = 1 ∧ c1.ms.length = 0 := by rw [← hc1]; exact ⟨rfl, hD, rfl, rfl⟩
    have NOTE : Hid (∀ W, Held w x V ⟨q, [], []⟩ R W → Calls Try.prog 29 #[.pointer (some ⟨x, 0, none⟩), .agg #[.int .i64 1, .int .i64 (E + 1), .int .i64 (D : Int), .int .i64 0, .string ⟨#[]⟩]] W fun e w' => e = .returned (.tuple #[]) ∧ Held w x V c1 R w') := fun W hW => by
      rw [← hc1]
      exact hW.step (fun V' k => noted_g k (Nat.le_trans hl (by omega)) (by show (0 : Nat) ≤ _; omega) ⟨1, E + 1, (D : Int), ⟨0, []⟩⟩ (by show (0 : Nat) ≤ _; omega))
    have ASK : Hid (∀ W, Held w x V c1.cand R W → Calls Try.prog 37 #[.pointer (some ⟨x, 0, none⟩)] W fun e w' => e = .returned (.tuple #[]) ∧ Held w x V c1.cand.asks R w') := fun W hW =>
      hW.step (fun V' k => ask_g k rfl (by show c1.ms.length ≤ _; omega) (by show c1.q.n ≤ 7; omega) (by show c1.q.id ≤ 7; omega) (by show c1.q.st.log.length ≤ _; rw [hlog]; omega))
    have COUNT : Hid (∀ W, Held w x V c1.cand.asks R W → Calls Try.prog 33 #[.pointer (some ⟨x, 0, none⟩)] W fun e w' => e = .returned (.tuple #[]) ∧ Held w x V c1.cand.asks.count R w') := fun W hW =>
      hW.step (fun V' k => count_is k (gs := [(c1.q.id : Int)]) rfl (by simp) (by show c1.q.st.log.length ≤ _; rw [hlog]; exact hl) (by show c1.ns.length ≤ _; omega) (by
        show (c1.ms ++ c1.cand.q.asks [(c1.q.id : Int)] c1.q.n).length ≤ _
        have := asks_len c1.cand.q [(c1.q.id : Int)] c1.q.n
        rw [List.length_append]; omega) (by show c1.q.id < c1.q.n; omega) (by show c1.q.n ≤ 7; omega))
    have HQ1 := Lib.hid hq1
    have KC1 : Hid (∀ W, Held w x V c1 R W → W.cell? ⟨x, 3, none⟩ = some (.int .i64 (D : Int)) ∧ (∃ u, W.cell? ⟨x, 5, none⟩ = some (.int .i64 u)) ∧ (∃ b, W.cell? ⟨x, 7, none⟩ = some (.map b))) := fun W hW => by
      obtain ⟨V', ⟨ss, _, k⟩, _⟩ := hW
      refine ⟨by rw [← hq1.2.1]; exact k.c3, ⟨_, k.c5⟩, ?_⟩
      have hv := k.votes
      cases hg : c1.q.granted with
      | none => rw [hg] at hv; exact ⟨none, by rw [k.c7, show V'.gv = _ from hv]⟩
      | some gs => rw [hg] at hv; obtain ⟨b, hv, _⟩ := hv; exact ⟨some b, by rw [k.c7, hv]⟩
    clear h hl h7 hid hX hD hE h1 hlog hq1 hc1
    go_enter Try.func12, Try.ntmps12
    go_wp2_with fail
    obtain ⟨W0, hW0⟩ : ∃ W0, w.alloc (.cells #[.slice none 0 0, .slice none 0 0] 32) = W0 := ⟨_, rfl⟩
    rw [hW0] at HS ⊢
    obtain ⟨c0, c3⟩ := KC.out _ HS.out
    clear hW0 hR
    go_wp2_with (go_at_call 27; refine (HN.out _ HS.out).mono ?_; rintro e w' ⟨rfl, rfl⟩)
    have HSD : Hid (Held w x V ⟨q, [], []⟩ R W0.drew) := HS.out.any ((Out.refl _ _).drew)
    obtain ⟨c0', c3'⟩ := KC.out _ HSD.out
    clear c0 c3
    go_region_with (first
        | (go_at_call 29; refine (NOTE.out _ HSD.out).mono ?_; rintro e w2 ⟨rfl, hh⟩; have HH := Lib.hid hh; clear hh)
        | fail)
    all_goals
      clear c0' c3'
      obtain ⟨c3, ⟨u5, c5⟩, ⟨b7, c7⟩⟩ := KC1.out _ HH.out
      have c3a : (w2.alloc (.map #[] 0)).cell? ⟨x, 3, none⟩ = some (.int .i64 (D : Int)) := ((Out.refl Zone.no _).alloc _).cell c3 id
      obtain ⟨W3, hins, d5, d7, f5, f7, hh⟩ := HH.out.runs HQ1.out.2.1 (by have := HD.out; have := H7.out; have := HDD.out; omega)
      rw [c5] at d5
      rw [c7] at d7
      have HH2 := Lib.hid hh
      have hmm : (Instr.makeMap 51 none).run Try.prog w2 = .ok (.map (some w2.heap.size)) (w2.alloc (.map #[] 0)) := rfl
      clear hh c5 c7
      go_wp2_with (first
        | (go_at_call 37; refine (ASK.out _ HH2.out).mono ?_; rintro e w4 ⟨rfl, hh⟩; have HH3 := Lib.hid hh; clear hh)
        | (go_at_call 33; refine (COUNT.out _ HH3.out).mono ?_; rintro e w5 ⟨rfl, hh⟩; have HH4 := Lib.hid hh; clear hh)
        | (go_at_call 31; refine (HH4.out.done).mono ?_; rintro e w6 ⟨A1, n1, k1, A2, n2, k2, rfl, hR, hfin⟩; have FIN := Lib.hid hfin; have r0 := cells_all hR 0; have r1 := cells_all hR 1; have f0 := frozen_all hR 0; have f1 := frozen_all hR 1; have BR := Lib.hid hR; clear hfin hR))
      have BB := heap_set (heap_set BR.out 0 (.slice A1 n1 k1)) 1 (.slice A2 n2 k2)
      have q0 := cells_all BB 0
      have q1 := cells_all BB 1
      refine bodyPost_ret (v := .tuple #[.agg #[.slice A1 n1 k1, .slice A2 n2 k2], .int .i64 0]) (by simp [results, Try.results12, go_sem, q0, q1]) rfl ?_
      rw [HX2.out]
      exact ⟨_, rfl, FIN.out _ (((Out.refl _ _).setCell (p := ⟨R, 0, none⟩) (Or.inl (by show R = R; rfl)) _).setCell (p := ⟨R, 1, none⟩) (Or.inl (by show R = R; rfl)) _)⟩
end
end Go.Proofs.Ytlgoenimjmiapaa
