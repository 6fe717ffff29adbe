import Derived.Test.YtlgoenimjmiapaaQ16
/-! ask, and others with it. -/
set_option linter.unusedVariables false
namespace Go.Proofs.Ytlgoenimjmiapaa
open Go.RowKit Go.Maps

def votesV (gs : List Int) : Int → Option Value := fun k => if k ∈ gs then some (.bool true) else none
theorem VotesAt.mapv {w : World} {b : Nat} {gs : List Int} (h : VotesAt w b gs) : MapV Try.prog 3 w b gs.length (votesV gs) := by
  obtain ⟨D, h1, h2, h3, h4⟩ := h
  refine ⟨D, h1, fun key => ?_⟩
  have := h4 key
  unfold votesV
  by_cases hm : key ∈ gs
  · rw [if_pos hm] at this ⊢; exact this
  · rw [if_neg hm] at this ⊢; exact this
theorem zero4 : ∀ W, (zeroValue 4).run Try.prog W = .ok (.bool false) W := fun W => by kernel_rfl
theorem VotesAt.look {w : World} {b : Nat} {gs : List Int} (h : VotesAt w b gs) {i : Nat} (hi : i ≤ 7) : (Instr.lookup 51 (.map (some b)) (.int .i64 (i : Int)) false).run Try.prog w = .ok (.bool (decide ((i : Int) ∈ gs))) w := by
  have := h.mapv.look1 Try.underlying3 Try.underlying51 zero4 (WalkArith.wf_i64 (n := (i : Int)) (by omega))
  rw [this]
  unfold votesV
  by_cases hm : (i : Int) ∈ gs
  · rw [if_pos hm]; simp [hm]
  · rw [if_neg hm]; simp [hm]

def askMsg (q : ND) (id : Nat) : Msg := ⟨1, (q.id : Int), (id : Int), q.st.ep, (q.st.log.length : Int), q.st.last q.st.log.length, 0, []⟩

section
variable {w w' : World} {x : Nat} {q : ND} {ns : List Nt} {ss : List (Msg × Value)} {V : NV}

set_option maxRecDepth 100000 in
set_option maxHeartbeats 1000000 in
theorem ask1_is (h : NodeAt w x q ns ss V) (hss : ss.length ≤ 1000000) (gs : List Int) (hgs : q.granted = some gs) (id : Nat) (hid : id ≤ 7) (hl : q.st.log.length ≤ 1000000) (a b : Nat) (ha : w.cell? ⟨a, 0, none⟩ = some (.pointer (some ⟨x, 0, none⟩))) (hb : w.cell? ⟨b, 0, none⟩ = some (.int .i64 (q.st.log.length : Int))) (hna : ¬ V.own x a) (hnb : ¬ V.own x b) :
    Calls Try.prog 56 #[.int .i64 (id : Int), .pointer (some ⟨a, 0, none⟩), .pointer (some ⟨b, 0, none⟩)] w fun e w' => e = .returned (.tuple #[]) ∧ if (id : Int) ∈ gs then w = w' else ∃ sv' v, NodeAt w' x q ns (ss ++ [(askMsg q id, v)]) { V with sv := sv' } ∧ Next (V.own x) w (NV.own x { V with sv := sv' }) w' := by
  have c7 := h.c7
  have hv := h.votes
  rw [hgs] at hv
  obtain ⟨m, hm, hv⟩ := hv
  rw [hm] at c7
  have hlk := hv.look hid
  obtain ⟨P1, hP1⟩ : ∃ P1 : World → Prop, (fun w' => ∃ sv' v, NodeAt w' x q ns (ss ++ [(askMsg q id, v)]) { V with sv := sv' } ∧ Next (V.own x) w (NV.own x { V with sv := sv' }) w') = P1 := ⟨_, rfl⟩
  have hpost : ∀ w', P1 w' = (∃ sv' v, NodeAt w' x q ns (ss ++ [(askMsg q id, v)]) { V with sv := sv' } ∧ Next (V.own x) w (NV.own x { V with sv := sv' }) w') := fun w' => by rw [← hP1]
  have HLA : Hid (∀ W, Out Zone.no w W → Calls Try.prog 52 #[.pointer (some ⟨x, 0, none⟩), .int .i64 (q.st.log.length : Int)] W fun e w' => e = .returned (.int .i64 (q.st.last q.st.log.length)) ∧ W = w') := fun W ho => last_is W x 54 q.st V.lv _ (h.any ho).blk (h.any ho).log q.st.log.length (Nat.le_refl _) hl
  have HSE : Hid (∀ W, Out Zone.no w W →
      Calls Try.prog 30 #[.pointer (some ⟨x, 0, none⟩), .agg #[.int .i64 1, .int .i64 0, .int .i64 (id : Int), .int .i64 0, .int .i64 (q.st.log.length : Int), .int .i64 (q.st.last q.st.log.length), .int .i64 0, .slice none 0 0]] W fun e w' => (e = .returned (.tuple #[]) ∧ P1 w') ∧ w'.cell? ⟨a, 0, none⟩ = some (.pointer (some ⟨x, 0, none⟩)) ∧ w'.cell? ⟨b, 0, none⟩ = some (.int .i64 (q.st.log.length : Int))) := fun W ho => by
    refine (send_is (h.any ho) hss ⟨1, 0, (id : Int), 0, (q.st.log.length : Int), q.st.last q.st.log.length, 0, []⟩ _ (rrow_nil _ _ 2)).mono ?_
    rintro e w' ⟨rfl, V', k1, k2⟩
    refine ⟨⟨rfl, ?_⟩, k2.out.cell (ho.cell ha (fun h => h)) hna, k2.out.cell (ho.cell hb (fun h => h)) hnb⟩
    rw [hpost]
    exact ⟨V', _, k1, (Next.of_out ho).trans k2⟩
  obtain ⟨la, hla⟩ : ∃ la, q.st.last q.st.log.length = la := ⟨_, rfl⟩
  rw [hla] at HLA HSE
  obtain ⟨L, hL⟩ : ∃ L, q.st.log.length = L := ⟨_, rfl⟩
  rw [hL] at HLA HSE hb
  have OW : Hid (Out Zone.no w w.drew) := (Out.refl Zone.no w).drew
  have hpost2 : ∀ w', (if (id : Int) ∈ gs then w = w' else ∃ sv' v, NodeAt w' x q ns (ss ++ [(askMsg q id, v)]) { V with sv := sv' } ∧ Next (V.own x) w (NV.own x { V with sv := sv' }) w') = (if (id : Int) ∈ gs then w = w' else P1 w') := fun w' => by rw [hpost]
  simp only [hpost2]
  clear hpost2 hpost hP1 hla hL h hv hm hgs
  by_cases hmem : (id : Int) ∈ gs
  · simp only [if_pos hmem]
    simp only [decide_eq_true hmem] at hlk
    clear hmem HLA HSE
    go_enter Try.func56, Try.ntmps56
    go_wp2_with fail
    go_end0
    exact ⟨rfl, rfl⟩
  · simp only [if_neg hmem]
    simp only [decide_eq_false hmem] at hlk
    have CSD : w.drew.cell? ⟨a, 0, none⟩ = some (.pointer (some ⟨x, 0, none⟩)) ∧ w.drew.cell? ⟨b, 0, none⟩ = some (.int .i64 (L : Int)) := ⟨ha, hb⟩
    clear hmem
    go_enter Try.func56, Try.ntmps56
    go_wp2_with fail
    go_region_held3 (fun W' => W'.cell? ⟨a, 0, none⟩ = some (.pointer (some ⟨x, 0, none⟩)) ∧ W'.cell? ⟨b, 0, none⟩ = some (.int .i64 (L : Int)))
      (first | assumption)
      (first
        | (go_at_call 52; refine (HLA.out _ OW.out).mono ?_; rintro e w2 ⟨rfl, rfl⟩)
        | (go_at_call 30; refine (HSE.out _ OW.out).mono ?_; rintro e w4 ⟨⟨rfl, hfin⟩, s1, s2⟩; have CS4 := (show w4.cell? ⟨a, 0, none⟩ = some (.pointer (some ⟨x, 0, none⟩)) ∧ w4.cell? ⟨b, 0, none⟩ = some (.int .i64 (L : Int)) from ⟨s1, s2⟩); have FIN := Lib.hid hfin; clear hfin))
    all_goals
      go_wp2_with fail
      go_end0
      exact ⟨rfl, FIN.out⟩
end
end Go.Proofs.Ytlgoenimjmiapaa
