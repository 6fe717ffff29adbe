import Derived.Test.YtlgoenimjmiapaaGreatT20
set_option linter.unusedSimpArgs false
set_option linter.unusedVariables false
set_option linter.unusedSectionVars false
/-! The document's first days of a node, plain: promoted, granted, an entry, acknowledged. -/
set_option linter.unusedVariables false
set_option linter.unusedSectionVars false
namespace Go.Proofs.YtlgoenimjmiapaaGreat
open Go.RowKit Go.Maps

def kq0 : ND := newND ⟨0, -1, []⟩ 0 3
def kq1 : ND := ⟨⟨1, 0, []⟩, 0, 3, 1, 0, some [0], [], []⟩
def kq2 : ND := ⟨⟨1, 0, [⟨1, []⟩]⟩, 0, 3, 2, 0, some [0, 2], [0, 0, 0], [0, 0, 0]⟩
def kq3 : ND := ⟨⟨1, 0, [⟨1, []⟩, ⟨1, [97]⟩]⟩, 0, 3, 2, 0, some [0, 2], [0, 0, 0], [0, 0, 0]⟩
def kq4 : ND := ⟨⟨1, 0, [⟨1, []⟩, ⟨1, [97]⟩]⟩, 0, 3, 2, 2, some [0, 2], [0, 2, 0], [0, 2, 0]⟩
def kgrant : Msg := ⟨2, 2, 0, 1, 0, 0, 0, []⟩
def kack : Msg := ⟨4, 1, 0, 1, 2, 0, 0, []⟩

theorem sort3 (a : Int) (h : 0 ≤ a) : (sortI [a, 0, 0]).getD 1 0 = 0 := by
  unfold sortI
  by_cases h0 : a = 0
  · subst h0; simp [List.mergeSort, List.MergeSort.Internal.splitInTwo, List.splitAt, List.splitAt.go, List.merge]
  · have : ¬ a ≤ 0 := by omega
    simp [List.mergeSort, List.MergeSort.Internal.splitInTwo, List.splitAt, List.splitAt.go, List.merge, this, h]
theorem sort220 : (sortI [2, 2, 0]).getD 1 0 = 2 := by
  unfold sortI
  simp [List.mergeSort, List.MergeSort.Internal.splitInTwo, List.splitAt, List.splitAt.go, List.merge]

theorem ns_ex (c : NS) {q : ND} (h : c.q = q) : ∃ ns ms, c = ⟨q, ns, ms⟩ := ⟨c.ns, c.ms, by cases c; cases h; rfl⟩
theorem k1 : ∃ ns ms, kq0.promote = (⟨kq1, ns, ms⟩, 0) ∧ ms.length = 2 := by
  refine ⟨_, _, rfl, ?_⟩
  decide
theorem kgrant_right : kgrant.right = true := by decide
theorem kack_right : kack.right = true := by decide
theorem k2 : ∃ ns ms, (kq1.front kgrant).grants kgrant = ⟨kq2, ns, ms⟩ := by
  have e : kq1.front kgrant = ⟨kq1, [], []⟩ := rfl
  rw [e]
  have h1 : (NS.grants ⟨kq1, [], []⟩ kgrant) = (((((NS.vote ⟨kq1, [], []⟩ 2).lead.note ⟨3, 0, 0, ⟨1, []⟩⟩).ships).rise)) := rfl
  rw [h1]
  have h2 : ((NS.vote ⟨kq1, [], []⟩ 2).lead.note ⟨3, 0, 0, ⟨1, []⟩⟩).q = kq2 := rfl
  have h3 : (((NS.vote ⟨kq1, [], []⟩ 2).lead.note ⟨3, 0, 0, ⟨1, []⟩⟩).ships).q.risen = kq2 := by
    show ND.risen kq2 = kq2
    unfold ND.risen
    have : kq2.mid = 0 := sort3 1 (by omega)
    rw [this]
    rfl
  exact ns_ex _ h3
theorem k3 : ∃ ns ms, kq2.append [97] = (⟨kq3, ns, ms⟩, 2, 0) := by
  have h1 : kq2.append [97] = (((NS.note ⟨kq2, [], []⟩ ⟨3, 0, 0, ⟨1, [97]⟩⟩).ships).rise, ((((NS.note ⟨kq2, [], []⟩ ⟨3, 0, 0, ⟨1, [97]⟩⟩).ships).rise).q.st.log.length : Int), 0) := rfl
  rw [h1]
  have h3 : ((NS.note ⟨kq2, [], []⟩ ⟨3, 0, 0, ⟨1, [97]⟩⟩).ships).q.risen = kq3 := by
    show ND.risen kq3 = kq3
    unfold ND.risen
    have : kq3.mid = 0 := sort3 2 (by omega)
    rw [this]
    rfl
  obtain ⟨ns, ms, e⟩ := ns_ex (((NS.note ⟨kq2, [], []⟩ ⟨3, 0, 0, ⟨1, [97]⟩⟩).ships).rise) h3
  rw [e]
  exact ⟨ns, ms, rfl⟩
theorem k4 : ∃ ns ms, (kq3.front kack).acks kack = ⟨kq4, ns, ms⟩ := by
  have e : kq3.front kack = ⟨kq3, [], []⟩ := rfl
  rw [e]
  have h1 : NS.acks ⟨kq3, [], []⟩ kack = ((NS.setAcked ⟨kq3, [], []⟩ 1 2).setHas 1 2).rise := rfl
  rw [h1]
  have h3 : ((NS.setAcked ⟨kq3, [], []⟩ 1 2).setHas 1 2).q.risen = kq4 := by
    show ND.risen ⟨⟨1, 0, [⟨1, []⟩, ⟨1, [97]⟩]⟩, 0, 3, 2, 0, some [0, 2], [0, 2, 0], [0, 2, 0]⟩ = kq4
    unfold ND.risen
    have : ND.mid ⟨⟨1, 0, [⟨1, []⟩, ⟨1, [97]⟩]⟩, 0, 3, 2, 0, some [0, 2], [0, 2, 0], [0, 2, 0]⟩ = 2 := sort220
    rw [this]
    rfl
  exact ns_ex _ h3
theorem fit0 : kq0.Fit := ⟨by decide, by decide, by decide, by decide, by decide, by decide, fun h => absurd rfl h, fun h => by cases h⟩
theorem fit1 : kq1.Fit := ⟨by decide, by decide, by decide, by decide, by decide, by decide, fun h => ⟨[0], rfl, by decide, by decide⟩, fun h => by cases h⟩
theorem fit2 : kq2.Fit := ⟨by decide, by decide, by decide, by decide, by decide, by decide, fun h => ⟨[0, 2], rfl, by decide, by decide⟩, fun h => by decide⟩
theorem fit3 : kq3.Fit := ⟨by decide, by decide, by decide, by decide, by decide, by decide, fun h => ⟨[0, 2], rfl, by decide, by decide⟩, fun h => by decide⟩
theorem good0 : St.Good ⟨0, -1, []⟩ := ⟨by decide, by decide, by decide, by decide, fun i x y h => by cases h⟩
theorem fits_nil : Fits ([] : List Ent) := fun x h => by cases h
end Go.Proofs.YtlgoenimjmiapaaGreat

/-! knows. -/
set_option linter.unusedVariables false
set_option linter.unusedSectionVars false
namespace Go.Proofs.YtlgoenimjmiapaaGreat
open Go.RowKit Go.Maps

set_option maxRecDepth 100000 in
theorem num_is (w : World) (n : Int) : Calls Tryz.prog 10 #[.int .i64 n] w fun e w' => e = .returned (.int .i64 n) ∧ w = w' := by
  go_enter Tryz.func10, Tryz.ntmps10
  go_wp2_with fail
  go_ret
  exact ⟨rfl, rfl⟩

section
variable [Far] {w w' : World} {x : Nat} {c c' : NS} {V : NV}
theorem role_g (h : NAt w x c V) (h0 : 0 < c.q.n) (h7 : c.q.n ≤ 7) : Calls Tryz.prog 40 #[.pointer (some ⟨x, 0, none⟩)] w fun e w' => e = .returned (.int .i64 c.q.role) ∧ w = w' := by
  obtain ⟨ss, _, k⟩ := h
  exact role_is k h0 h7
theorem commit_g (h : NAt w x c V) (h0 : 0 < c.q.n) (h7 : c.q.n ≤ 7) : Calls Tryz.prog 43 #[.pointer (some ⟨x, 0, none⟩)] w fun e w' => e = .returned (.int .i64 (c.q.commit : Int)) ∧ w = w' := by
  obtain ⟨ss, _, k⟩ := h
  exact commit_is k h0 h7
theorem Handed.open {v : Value} (h : Handed w x V c v w') : ∃ A1 c1 A2 c2 ss V', v = .agg #[.slice A1 c.ns.length c1, .slice A2 c.ms.length c2] ∧ ss.map Prod.fst = c.ms ∧ WorkAt (V'.shun x) w' (.slice A1 c.ns.length c1) (.slice A2 c.ms.length c2) c.ns ss ∧ NAt w' x ⟨c.q, [], []⟩ V' ∧ Next (V.own x) w (V'.own x) w' := by
  obtain ⟨V', h1, h2, nv, sv, ss, rfl, h3, h4⟩ := h
  obtain ⟨A1, c1, rfl⟩ := GRow.form h4.notes
  obtain ⟨A2, c2, rfl⟩ := GRow.form h4.send
  have e : ss.length = c.ms.length := by rw [← h3, List.length_map]
  rw [e] at h4 ⊢
  exact ⟨A1, c1, A2, c2, ss, V', rfl, h3, h4, h1, h2⟩

/-- A node of the call's own. -/
def Kn [Far] (w0 : World) (x : Nat) (q : ND) (W : World) : Prop := ∃ V, NAt W x ⟨q, [], []⟩ V ∧ Out Zone.no w0 W ∧ ∀ k, V.own x k → w0.heap.size ≤ k
theorem Kn.any {w0 W W' : World} {q : ND} (h : Kn w0 x q W) (ho : Out Zone.no W W') : Kn w0 x q W' := by
  obtain ⟨V, h1, h2, h3⟩ := h
  exact ⟨V, h1.any ho, h2.trans ho, h3⟩
theorem fresh_next {w0 W W' : World} {V V' : NV} (h2 : Out Zone.no w0 W) (h3 : ∀ k, V.own x k → w0.heap.size ≤ k) (hn : Next (V.own x) W (V'.own x) W') : Out Zone.no w0 W' ∧ ∀ k, V'.own x k → w0.heap.size ≤ k := by
  have hs := h2.size
  refine ⟨⟨hn.out.os.trans h2.os, hn.out.tape.trans h2.tape, hn.out.output.trans h2.output, Nat.le_trans h2.size hn.out.size, fun k hk _ => ?_⟩, fun k hk => ?_⟩
  · exact (hn.out.block k (by omega) (fun e => by have := h3 k e; omega)).trans (h2.block k hk id)
  · rcases hn.sub k hk with e | e
    · exact h3 k e
    · omega
theorem Answered.worked {w0 : World} {c : NS} {e : Ending} (h2 : Out Zone.no w0 w) (h3 : ∀ k, V.own x k → w0.heap.size ≤ k) (h : Answered w x V (c, 0) e w') : ∃ A1 c1 A2 c2, e = .returned (.tuple #[.agg #[.slice A1 c.ns.length c1, .slice A2 c.ms.length c2], .int .i64 0]) ∧ Kn w0 x c.q w' := by
  obtain ⟨v, rfl, h⟩ := h
  obtain ⟨A1, c1, A2, c2, ss, V', rfl, _, _, k, n⟩ := h.open
  have := fresh_next h2 h3 n
  exact ⟨A1, c1, A2, c2, rfl, V', k, this.1, this.2⟩

end

set_option maxRecDepth 100000 in
set_option maxHeartbeats 2000000 in
theorem knows_is (w : World) : Calls Tryz.prog 18 #[] w fun e w' => e = .returned (.bool true) ∧ Out Zone.no w w' := by
  letI : Far := ⟨fun _ => False⟩
  have NEW : Hid (∀ W, Out Zone.no w W → Calls Tryz.prog 38 #[.int .i64 0, .int .i64 3, .agg #[.int .i64 0, .int .i64 (-1), .slice none 0 0]] W fun e w' => ∃ x, e = .returned (.tuple #[.pointer (some ⟨x, 0, none⟩), .int .i64 0]) ∧ Hid (Kn w x kq0 w')) := fun W hW => by
    refine (new_is W (fun k (h : False) => h.elim) (fun _ => False) ⟨0, -1, []⟩ (.slice none 0 0) (rrow_nil _ _ _) good0 3 0 (by omega) (by omega) (by omega)).mono ?_
    rintro e w' ⟨x, V, rfl, h, ho, hb⟩
    exact ⟨x, rfl, V, h, hW.trans ho, fun k hk => Nat.le_trans hW.size (hb k hk)⟩
  have PRO : Hid (∀ W x, Kn w x kq0 W → Calls Tryz.prog 39 #[.pointer (some ⟨x, 0, none⟩)] W fun e w' => ∃ A1 n1 c1 A2 c2, e = .returned (.tuple #[.agg #[.slice A1 n1 c1, .slice A2 2 c2], .int .i64 0]) ∧ Hid (Kn w x kq1 w')) := fun W x hW => by
    obtain ⟨V, h, ho, hb⟩ := hW
    refine (promote_is h (by decide) (by decide) (by decide) (by decide) (by decide)).mono ?_
    intro e w' h
    obtain ⟨ns, ms, hk, hm⟩ := k1
    rw [hk] at h
    obtain ⟨A1, c1, A2, c2, rfl, k⟩ := h.worked ho hb
    rw [hm]
    exact ⟨A1, _, c1, A2, c2, rfl, k⟩
  have GRA : Hid (∀ W x, Kn w x kq1 W → Calls Tryz.prog 41 #[.pointer (some ⟨x, 0, none⟩), .agg #[.int .i64 2, .int .i64 2, .int .i64 0, .int .i64 1, .int .i64 0, .int .i64 0, .int .i64 0, .slice none 0 0]] W fun e w' => ∃ A1 n1 c1 A2 n2 c2, e = .returned (.tuple #[.agg #[.slice A1 n1 c1, .slice A2 n2 c2], .int .i64 0]) ∧ Hid (Kn w x kq2 w')) := fun W x hW => by
    obtain ⟨V, h, ho, hb⟩ := hW
    refine (step_grant h fit1 kgrant (.slice none 0 0) (rrow_nil _ _ _) (by decide) fits_nil kgrant_right (by decide) (by decide) (by decide) (by decide) rfl).mono ?_
    intro e w' h
    obtain ⟨ns, ms, hk⟩ := k2
    rw [hk] at h
    obtain ⟨A1, c1, A2, c2, rfl, k⟩ := h.worked ho hb
    exact ⟨A1, _, c1, A2, _, c2, rfl, k⟩
  have APP : Hid (∀ W x, Kn w x kq2 W → Calls Tryz.prog 42 #[.pointer (some ⟨x, 0, none⟩), .string ⟨#[97]⟩] W fun e w' => ∃ A1 n1 c1 A2 n2 c2, e = .returned (.tuple #[.int .i64 2, .agg #[.slice A1 n1 c1, .slice A2 n2 c2], .int .i64 0]) ∧ Hid (Kn w x kq3 w')) := fun W x hW => by
    obtain ⟨V, h, ho, hb⟩ := hW
    refine (append_is h fit2 [97] (by decide)).mono ?_
    intro e w' h
    obtain ⟨ns, ms, hk⟩ := k3
    rw [hk] at h
    obtain ⟨v, rfl, h⟩ := h
    obtain ⟨A1, c1, A2, c2, ss, V', rfl, _, _, k, n⟩ := h.open
    have := fresh_next ho hb n
    exact ⟨A1, _, c1, A2, _, c2, rfl, V', k, this.1, this.2⟩
  have ACK : Hid (∀ W x, Kn w x kq3 W → Calls Tryz.prog 41 #[.pointer (some ⟨x, 0, none⟩), .agg #[.int .i64 4, .int .i64 1, .int .i64 0, .int .i64 1, .int .i64 2, .int .i64 0, .int .i64 0, .slice none 0 0]] W fun e w' => ∃ A1 n1 c1 A2 n2 c2, e = .returned (.tuple #[.agg #[.slice A1 n1 c1, .slice A2 n2 c2], .int .i64 0]) ∧ Hid (Kn w x kq4 w')) := fun W x hW => by
    obtain ⟨V, h, ho, hb⟩ := hW
    refine (step_ack h fit3 kack (.slice none 0 0) (rrow_nil _ _ _) (by decide) fits_nil kack_right (by decide) (by decide) (by decide) (by decide) rfl).mono ?_
    intro e w' h
    obtain ⟨ns, ms, hk⟩ := k4
    rw [hk] at h
    obtain ⟨A1, c1, A2, c2, rfl, k⟩ := h.worked ho hb
    exact ⟨A1, _, c1, A2, _, c2, rfl, k⟩
  have ROL1 : Hid (∀ W x, Kn w x kq1 W → Calls Tryz.prog 40 #[.pointer (some ⟨x, 0, none⟩)] W fun e w' => e = .returned (.int .i64 1) ∧ W = w') := fun W x hW => by
    obtain ⟨V, h, ho, hb⟩ := hW
    exact role_g h (by decide) (by decide)
  have ROL4 : Hid (∀ W x, Kn w x kq4 W → Calls Tryz.prog 40 #[.pointer (some ⟨x, 0, none⟩)] W fun e w' => e = .returned (.int .i64 2) ∧ W = w') := fun W x hW => by
    obtain ⟨V, h, ho, hb⟩ := hW
    exact role_g h (by decide) (by decide)
  have COM4 : Hid (∀ W x, Kn w x kq4 W → Calls Tryz.prog 43 #[.pointer (some ⟨x, 0, none⟩)] W fun e w' => e = .returned (.int .i64 2) ∧ W = w') := fun W x hW => by
    obtain ⟨V, h, ho, hb⟩ := hW
    exact commit_g h (by decide) (by decide)
  have ANY : Hid (∀ (W W' : World) (x : Nat) (q : ND), Kn w x q W → Out Zone.no W W' → Kn w x q W') := fun W W' x q h ho => h.any ho
  go_enter Tryz.func18, Tryz.ntmps18
  go_wp2_with (first
    | (go_at_call 38; refine (NEW.out _ (Out.refl _ _)).mono ?_; rintro e w1 ⟨x, rfl, h1⟩)
    | (go_at_call 39; refine (PRO.out _ _ h1.out).mono ?_; rintro e w2 ⟨A1, n1, c1, A2, c2, rfl, h2⟩))
  obtain ⟨W3, hW3⟩ : ∃ W3, w2.alloc (.cells #[.slice A1 n1 c1, .slice A2 2 c2] 86) = W3 := ⟨_, rfl⟩
  have h3 := Lib.hid (ANY.out _ _ _ _ h2.out ((Out.refl Zone.no w2).alloc (.cells #[.slice A1 n1 c1, .slice A2 2 c2] 86)))
  have b1 := cell_new w2 #[.slice A1 n1 c1, .slice A2 2 c2] 86 1
  rw [hW3] at h3 b1 ⊢
  have b1' : W3.cell? ⟨w2.heap.size, 1, none⟩ = some (.slice A2 2 c2) := b1
  clear hW3 b1
  go_wp2_with (first
    | (go_at_call 10; refine (num_is _ _).mono ?_; rintro e w' ⟨rfl, rfl⟩)
    | (go_at_call 40; refine (ROL1.out _ _ h3.out).mono ?_; rintro e w' ⟨rfl, rfl⟩)
    | (go_at_call 41; refine (GRA.out _ _ h3.out).mono ?_; rintro e w4 ⟨B1, m1, d1, B2, m2, d2, rfl, h4⟩))
  have h5 := Lib.hid (ANY.out _ _ _ _ h4.out ((Out.refl Zone.no w4).alloc (.cells #[.slice B1 m1 d1, .slice B2 m2 d2] 86)))
  go_wp2_with (first
    | (go_at_call 42; refine (APP.out _ _ h5.out).mono ?_; rintro e w6 ⟨C1, l1, e1, C2, l2, e2, rfl, h6⟩))
  have h7 := Lib.hid (ANY.out _ _ _ _ h6.out ((Out.refl Zone.no w6).alloc (.cells #[.slice C1 l1 e1, .slice C2 l2 e2] 86)))
  go_wp2_with (first
    | (go_at_call 41; refine (ACK.out _ _ h7.out).mono ?_; rintro e w8 ⟨D1, o1, g1, D2, o2, g2, rfl, h8⟩))
  have h9 := Lib.hid (ANY.out _ _ _ _ h8.out ((Out.refl Zone.no w8).alloc (.cells #[.slice D1 o1 g1, .slice D2 o2 g2] 86)))
  go_wp2_with (first
    | (go_at_call 10; refine (num_is _ _).mono ?_; rintro e w' ⟨rfl, rfl⟩)
    | (go_at_call 43; refine (COM4.out _ _ h9.out).mono ?_; rintro e w' ⟨rfl, rfl⟩)
    | (go_at_call 40; refine (ROL4.out _ _ h9.out).mono ?_; rintro e w' ⟨rfl, rfl⟩))
  go_ret
  obtain ⟨V9, _, ho9, _⟩ := h9.out
  exact ⟨rfl, ho9⟩
end Go.Proofs.YtlgoenimjmiapaaGreat

/-! The law's Log: the document's entries as the program's. -/
set_option linter.unusedVariables false
set_option linter.unusedSectionVars false
namespace Go.Proofs.YtlgoenimjmiapaaGreat
open Go.RowKit Go.Maps

set_option maxRecDepth 100000 in
set_option maxHeartbeats 2000000 in
theorem log_is (w : World) (N : Nat → Prop) (v : Value) (l : List Ent) (hr : RRow N w v l.length 2 (encL l)) (hl : (l.length + 1) * 24 ≤ 140737488355328) :
    Calls Tryz.prog 34 #[v] w fun e w' => ∃ v', e = .returned v' ∧ GR w' 34 2 v' l.length (encL l) ∧ Out Zone.no w w' ∧ ∀ k, v'.ownBlock = some k → w.heap.size ≤ k := by
  obtain ⟨A, c, rfl, hc1, hc2⟩ := hr.form
  have HR := Lib.hid hr
  have hl2 : l.length ≤ 9223372036854775807 := by omega
  obtain ⟨L, hL⟩ : ∃ L, l.length = L := ⟨_, rfl⟩
  have HL := Lib.hid hL
  rw [hL] at hl hl2 hc1 ⊢
  clear hr hL
  go_enter Tryz.func34, Tryz.ntmps34
  go_wp2_with fail
  go_loopw [4, 3] (fun vi vo wr => ∃ i : Nat, i ≤ L ∧ vi = .int .i64 (i : Int) ∧ ∃ Ao co, vo = .slice Ao i co ∧ Hid (GR wr 34 2 (.slice Ao i co) i (encL (l.take i)) ∧ Out Zone.no w wr ∧ ∀ k, (Value.slice Ao i co).ownBlock = some k → w.heap.size ≤ k)) (fun vi _ _ => L - (intOf vi).toNat)
  case atStart => exact ⟨0, by omega, rfl, none, 0, rfl, grow_nil _ _ _ _, Out.refl _ _, fun k hk => by cases hk⟩
  case round =>
    obtain ⟨i, hi, rfl, Ao, co, rfl, hinv⟩ := hrel
    by_cases hlt : i < L
    · obtain ⟨y, hy⟩ : ∃ y, l[i]? = some y := ⟨_, List.getElem?_eq_getElem (by rw [HL.out]; exact hlt)⟩
      obtain ⟨_, A', c', hv, _, _, hc⟩ := HR.out
      obtain ⟨e1, e2⟩ := encL_at hy
      obtain ⟨b, o, hA, _, hcc1⟩ := hc _ _ e1
      obtain ⟨b', o', hA', _, hcc2⟩ := hc _ _ e2
      obtain rfl : A = A' := by injection hv
      rw [hA] at hA'
      obtain ⟨rfl, rfl⟩ : b = b' ∧ o = o' := by injection hA' with h; injection h with h1 h2; exact ⟨h1, h2⟩
      subst hA
      have HP : Hid (∀ W, Out Zone.no wr W → W.cell? ⟨b, o + i * 2, none⟩ = some (.int .i64 y.ep) ∧ W.cell? ⟨b, o + i * 2 + 1, none⟩ = some (.string (str y.data))) := fun W ho => by
        have ho2 := hinv.out.2.1.trans ho
        exact ⟨ho2.cell hcc1 id, by rw [Nat.add_assoc]; exact ho2.cell hcc2 id⟩
      have hnext : Hid (encL (l.take (i + 1)) = encL (l.take i) ++ [.int .i64 y.ep, .string (str y.data)]) := by
        obtain ⟨hi', rfl⟩ := List.getElem?_eq_some_iff.1 hy
        show _ = _
        rw [List.take_succ_eq_append_getElem hi', encL_append]
        rfl
      clear hv hc hcc1 hcc2 e1 e2 hA' hy
      obtain ⟨ye, hye⟩ : ∃ ye, y.ep = ye := ⟨_, rfl⟩
      obtain ⟨yd, hyd⟩ : ∃ yd, str y.data = yd := ⟨_, rfl⟩
      rw [hye, hyd] at HP hnext
      clear hye hyd
      have o0 : Out Zone.no wr wr.drew := (Out.refl _ _).drew
      have o1 : Out Zone.no wr (wr.drew.alloc (.cells #[.int .i64 ye, .string yd] 34)) := o0.alloc _
      obtain ⟨p1, p2⟩ := HP.out _ (Out.refl Zone.no wr)
      obtain ⟨q1, q2⟩ := HP.out _ o0
      obtain ⟨r1, r2⟩ := HP.out _ o1
      have HGA : Hid (GR (wr.drew.alloc (.cells #[.int .i64 ye, .string yd] 34)) 34 2 (.slice Ao i co) i (encL (l.take i))) := GRow.any hinv.out.1 o1
      have HNW : Hid (∀ (j : Nat) (u : Value), [Value.int .i64 ye, Value.string yd][j]? = some u → (wr.drew.alloc (.cells #[.int .i64 ye, .string yd] 34)).cell? ⟨wr.heap.size, j, none⟩ = some u) := fun j u hu => by
        have h := heap_alloc_new wr.drew (.cells #[.int .i64 ye, .string yd] 34)
        rw [cell_of_row _ wr.heap.size j _ _ _ h]
        simpa using hu
      have hlm : i + 1 ≤ maxLen := le_maxLen (by omega)
      have hlb : (i + 1) * 24 ≤ 140737488355328 := by omega
      have HO1 := Lib.hid o1
      clear o0 o1
      go_wp2_with fail
      go_region_law (refine step_gappend rfl _ _ 47 rfl elem47 i (encL (l.take i)) (by exact HGA.out) wr.heap.size 1 [.int .i64 ye, .string yd] (by rfl) rfl (by exact HNW.out) (by simp [Value.oneCell']) hlm hlb ?_; intro v' w' hg1 hgr hat; obtain ⟨A2, x2, rfl⟩ := GRow.form hg1; have HG1 := Lib.hid hg1; have HGR := Lib.hid hgr; have HAT := Lib.hid hat; clear hg1 hgr hat)
      all_goals
        go_wp2_with fail
        go_roundw
        case rel =>
          refine ⟨i + 1, by omega, by go_num, A2, x2, rfl, ?_⟩
          have hfr : ∀ k, (Value.slice A2 (i + 1) x2).ownBlock = some k → w.heap.size ≤ k := fun k hk => by
            rcases HAT.out with e | e
            · have e' : (Value.slice A2 (i + 1) x2).ownBlock = (Value.slice Ao i co).ownBlock := e
              exact hinv.out.2.2 k (by rw [← e', hk])
            · have e' : (Value.slice A2 (i + 1) x2).ownBlock = some (wr.drew.alloc (.cells #[.int .i64 ye, .string yd] 34)).heap.size := e
              rw [hk] at e'
              injection e' with e'
              have h1 := hinv.out.2.1.size
              have h2 := HO1.out.size
              omega
          refine ⟨by rw [hnext.out]; exact HG1.out, ?_, hfr⟩
          exact (hinv.out.2.1.trans HO1.out).grown HGR.out (fun k hk => Or.inr (hinv.out.2.2 k hk))
        case measure => simp [intOf]; omega
    · obtain rfl : i = L := by omega
      go_wp2_with fail
      go_ret
      refine ⟨_, rfl, ?_, hinv.out.2.1, hinv.out.2.2⟩
      have := hinv.out.1
      rw [List.take_of_length_le (by rw [HL.out]; exact Nat.le_refl _)] at this
      exact this
end Go.Proofs.YtlgoenimjmiapaaGreat

/-! The law's Message. -/
set_option linter.unusedVariables false
set_option linter.unusedSectionVars false
namespace Go.Proofs.YtlgoenimjmiapaaGreat
open Go.RowKit Go.Maps

theorem out8 {w W : World} {R : Nat} (ho : Out Zone.no w W) (hR : w.heap.size ≤ R) (a b c d e f g h : Value) :
    Out Zone.no w ((((((((W.setCell ⟨R, 0, none⟩ a).setCell ⟨R, 1, none⟩ b).setCell ⟨R, 2, none⟩ c).setCell ⟨R, 3, none⟩ d).setCell ⟨R, 4, none⟩ e).setCell ⟨R, 5, none⟩ f).setCell ⟨R, 6, none⟩ g).setCell ⟨R, 7, none⟩ h) :=
  (((((((ho.setCell (p := ⟨R, 0, none⟩) (Or.inr hR) _).setCell (p := ⟨R, 1, none⟩) (Or.inr hR) _).setCell (p := ⟨R, 2, none⟩) (Or.inr hR) _).setCell (p := ⟨R, 3, none⟩) (Or.inr hR) _).setCell (p := ⟨R, 4, none⟩) (Or.inr hR) _).setCell (p := ⟨R, 5, none⟩) (Or.inr hR) _).setCell (p := ⟨R, 6, none⟩) (Or.inr hR) _).setCell (p := ⟨R, 7, none⟩) (Or.inr hR) _
theorem set8 {W : World} {R : Nat} {T : TypeId} {a' b' c' d' e' f' g' h' : Value} (hW : W.heap[R]? = some (.cells #[a', b', c', d', e', f', g', h'] T (0, 0))) (a b c d e f g h : Value) :
    ((((((((W.setCell ⟨R, 0, none⟩ a).setCell ⟨R, 1, none⟩ b).setCell ⟨R, 2, none⟩ c).setCell ⟨R, 3, none⟩ d).setCell ⟨R, 4, none⟩ e).setCell ⟨R, 5, none⟩ f).setCell ⟨R, 6, none⟩ g).setCell ⟨R, 7, none⟩ h).heap[R]? = some (.cells #[a, b, c, d, e, f, g, h] T (0, 0)) := by
  have := heap_set (heap_set (heap_set (heap_set (heap_set (heap_set (heap_set (heap_set hW 0 a) 1 b) 2 c) 3 d) 4 e) 5 f) 6 g) 7 h
  simpa using this

set_option maxRecDepth 100000 in
set_option maxHeartbeats 2000000 in
theorem msg_is (w : World) (N : Nat → Prop) (m : Msg) (v : Value) (hr : RRow N w v m.log.length 2 (encL m.log)) (hl : (m.log.length + 1) * 24 ≤ 140737488355328) :
    Calls Tryz.prog 13 #[.agg (m.cells v).toArray] w fun e w' => ∃ A c, e = .returned (.agg (m.cells (.slice A m.log.length c)).toArray) ∧ GR w' 34 2 (.slice A m.log.length c) m.log.length (encL m.log) ∧ Out Zone.no w w' ∧ ∀ k, (Value.slice A m.log.length c).ownBlock = some k → w.heap.size ≤ k := by
  obtain ⟨Am, cm, rfl, _, _⟩ := hr.form
  have HLOG : Hid (∀ W, Out Zone.no w W → Calls Tryz.prog 34 #[.slice Am m.log.length cm] W fun e w' => ∃ A c, e = .returned (.slice A m.log.length c) ∧ GR w' 34 2 (.slice A m.log.length c) m.log.length (encL m.log) ∧ Out Zone.no W w' ∧ ∀ k, (Value.slice A m.log.length c).ownBlock = some k → W.heap.size ≤ k) := fun W ho => by
    refine (log_is W N _ m.log (hr.any ho) hl).mono ?_
    rintro e w' ⟨v', rfl, h1, h2, h3⟩
    obtain ⟨A, c, rfl⟩ := GRow.form h1
    exact ⟨A, c, rfl, h1, h2, h3⟩
  obtain ⟨L, hL⟩ : ∃ L, m.log.length = L := ⟨_, rfl⟩
  obtain ⟨en, hen⟩ : ∃ en, encL m.log = en := ⟨_, rfl⟩
  unfold Msg.cells
  obtain ⟨kd, hkd⟩ : ∃ kd, m.kind = kd := ⟨_, rfl⟩
  obtain ⟨fr, hfr⟩ : ∃ fr, m.frm = fr := ⟨_, rfl⟩
  obtain ⟨tt, hto⟩ : ∃ tt, m.to = tt := ⟨_, rfl⟩
  obtain ⟨me, hme⟩ : ∃ me, m.ep = me := ⟨_, rfl⟩
  obtain ⟨ma, hma⟩ : ∃ ma, m.at_ = ma := ⟨_, rfl⟩
  obtain ⟨ml, hml2⟩ : ∃ ml, m.last = ml := ⟨_, rfl⟩
  obtain ⟨mc, hmc⟩ : ∃ mc, m.commit = mc := ⟨_, rfl⟩
  rw [hL, hen] at HLOG
  rw [hL, hen, hkd, hfr, hto, hme, hma, hml2, hmc]
  clear hkd hfr hto hme hma hml2 hmc hL hen hr hl
  obtain ⟨B, hB⟩ : ∃ B, w.heap.size = B := ⟨_, rfl⟩
  have OA : Hid (Out Zone.no w (w.alloc (.cells #[.int .i64 kd, .int .i64 fr, .int .i64 tt, .int .i64 me, .int .i64 ma, .int .i64 ml, .int .i64 mc, .slice Am L cm] 28))) := (Out.refl _ _).alloc _
  have KB : Hid (∀ W, Out Zone.no (w.alloc (.cells #[.int .i64 kd, .int .i64 fr, .int .i64 tt, .int .i64 me, .int .i64 ma, .int .i64 ml, .int .i64 mc, .slice Am L cm] 28)) W → (W.cell? ⟨B, 0, none⟩ = some (.int .i64 kd) ∧ W.cell? ⟨B, 1, none⟩ = some (.int .i64 fr) ∧ W.cell? ⟨B, 2, none⟩ = some (.int .i64 tt) ∧ W.cell? ⟨B, 3, none⟩ = some (.int .i64 me) ∧ W.cell? ⟨B, 4, none⟩ = some (.int .i64 ma) ∧ W.cell? ⟨B, 5, none⟩ = some (.int .i64 ml) ∧ W.cell? ⟨B, 6, none⟩ = some (.int .i64 mc) ∧ W.cell? ⟨B, 7, none⟩ = some (.slice Am L cm))) := fun W ho => by
    have hb := ho.get (heap_alloc_new w (.cells #[.int .i64 kd, .int .i64 fr, .int .i64 tt, .int .i64 me, .int .i64 ma, .int .i64 ml, .int .i64 mc, .slice Am L cm] 28)) id
    rw [hB] at hb
    refine ⟨?_, ?_, ?_, ?_, ?_, ?_, ?_, ?_⟩ <;> (rw [cells_all hb]; rfl)
  have hs1 : (w.alloc (.cells #[.int .i64 kd, .int .i64 fr, .int .i64 tt, .int .i64 me, .int .i64 ma, .int .i64 ml, .int .i64 mc, .slice Am L cm] 28)).heap.size = B + 1 := by simp [hB]
  obtain ⟨W0, hW0⟩ : ∃ W0, w.alloc (.cells #[.int .i64 kd, .int .i64 fr, .int .i64 tt, .int .i64 me, .int .i64 ma, .int .i64 ml, .int .i64 mc, .slice Am L cm] 28) = W0 := ⟨_, rfl⟩
  have hRb := heap_alloc_new W0 (.cells #[.int .i64 0, .int .i64 0, .int .i64 0, .int .i64 0, .int .i64 0, .int .i64 0, .int .i64 0, .slice none 0 0] 49)
  rw [hW0] at OA KB hs1
  rw [hs1] at hRb
  have HS1 := Lib.hid hs1
  have HRB := Lib.hid hRb
  have HB := Lib.hid hB
  clear hRb
  go_enter Tryz.func13, Tryz.ntmps13
  go_wp2_with fail
  clear hW0 hB hs1
  obtain ⟨W1, hW1⟩ : ∃ W1, W0.alloc (.cells #[.int .i64 0, .int .i64 0, .int .i64 0, .int .i64 0, .int .i64 0, .int .i64 0, .int .i64 0, .slice none 0 0] 49) = W1 := ⟨_, rfl⟩
  have OC : Hid (Out Zone.no W0 W1.drew) := by rw [← hW1]; exact ((Out.refl _ _).alloc _).drew
  rw [hW1] at HRB ⊢
  clear hW1
  have CSD := KB.out _ OC.out
  have HRBd : Hid (W1.drew.heap[B + 1]? = some (.cells #[.int .i64 0, .int .i64 0, .int .i64 0, .int .i64 0, .int .i64 0, .int .i64 0, .int .i64 0, .slice none 0 0] 49 (0, 0))) := HRB.out
  have HLD := Lib.hid (HLOG.out _ (OA.out.trans OC.out))
  have HRs : Hid (W0.heap.size ≤ B + 1) := Nat.le_of_eq HS1.out
  go_region_held3 (fun W => (W.cell? ⟨B, 0, none⟩ = some (.int .i64 kd) ∧ W.cell? ⟨B, 1, none⟩ = some (.int .i64 fr) ∧ W.cell? ⟨B, 2, none⟩ = some (.int .i64 tt) ∧ W.cell? ⟨B, 3, none⟩ = some (.int .i64 me) ∧ W.cell? ⟨B, 4, none⟩ = some (.int .i64 ma) ∧ W.cell? ⟨B, 5, none⟩ = some (.int .i64 ml) ∧ W.cell? ⟨B, 6, none⟩ = some (.int .i64 mc) ∧ W.cell? ⟨B, 7, none⟩ = some (.slice Am L cm)))
    (first | with_reducible assumption | with_reducible exact KB.out _ (out8 OW.out HRs.out _ _ _ _ _ _ _ _))
    (first
      | (go_at_call 34; with_reducible refine HLD.out.mono ?_; rintro e w3 ⟨A3, c3, rfl, hg3, ho3, hk3⟩; have OW := Lib.hid (OC.out.trans ho3); have CS3 := KB.out _ OW.out; have hRw := ho3.get HRBd.out id; have r0 : w3.cell? ⟨B + 1, 0, none⟩ = some (.int .i64 0) := (by simp [cells_all hRw 0]); have f0 := frozen_all hRw 0; have r1 : w3.cell? ⟨B + 1, 1, none⟩ = some (.int .i64 0) := (by simp [cells_all hRw 1]); have f1 := frozen_all hRw 1; have r2 : w3.cell? ⟨B + 1, 2, none⟩ = some (.int .i64 0) := (by simp [cells_all hRw 2]); have f2 := frozen_all hRw 2; have r3 : w3.cell? ⟨B + 1, 3, none⟩ = some (.int .i64 0) := (by simp [cells_all hRw 3]); have f3 := frozen_all hRw 3; have r4 : w3.cell? ⟨B + 1, 4, none⟩ = some (.int .i64 0) := (by simp [cells_all hRw 4]); have f4 := frozen_all hRw 4; have r5 : w3.cell? ⟨B + 1, 5, none⟩ = some (.int .i64 0) := (by simp [cells_all hRw 5]); have f5 := frozen_all hRw 5; have r6 : w3.cell? ⟨B + 1, 6, none⟩ = some (.int .i64 0) := (by simp [cells_all hRw 6]); have f6 := frozen_all hRw 6; have r7 : w3.cell? ⟨B + 1, 7, none⟩ = some (.slice none 0 0) := (by simp [cells_all hRw 7]); have f7 := frozen_all hRw 7; have HRW := Lib.hid hRw; have HG3 := Lib.hid hg3; have HK3 := Lib.hid hk3; clear hg3 hk3 hRw ho3))
  all_goals
    have B8 := set8 HRW.out (.int .i64 kd) (.int .i64 fr) (.int .i64 tt) (.int .i64 me) (.int .i64 ma) (.int .i64 ml) (.int .i64 mc) (.slice A3 L c3)
    have q0 := cells_all B8 0
    have q1 := cells_all B8 1
    have q2 := cells_all B8 2
    have q3 := cells_all B8 3
    have q4 := cells_all B8 4
    have q5 := cells_all B8 5
    have q6 := cells_all B8 6
    have q7 := cells_all B8 7
    go_wp2_with fail
    have hsz : B + 1 < W1.drew.heap.size := heap_lt HRBd.out
    have hne : ∀ k, (Value.slice A3 L c3).ownBlock = some k → k ≠ B + 1 := fun k hk => by have := HK3.out k hk; omega
    have gfin := (gr_set (gr_set (gr_set (gr_set (gr_set (gr_set (gr_set (gr_set HG3.out (a := ⟨B + 1, 0, none⟩) (fun e => hne _ e rfl) (.int .i64 kd)) (a := ⟨B + 1, 1, none⟩) (fun e => hne _ e rfl) (.int .i64 fr)) (a := ⟨B + 1, 2, none⟩) (fun e => hne _ e rfl) (.int .i64 tt)) (a := ⟨B + 1, 3, none⟩) (fun e => hne _ e rfl) (.int .i64 me)) (a := ⟨B + 1, 4, none⟩) (fun e => hne _ e rfl) (.int .i64 ma)) (a := ⟨B + 1, 5, none⟩) (fun e => hne _ e rfl) (.int .i64 ml)) (a := ⟨B + 1, 6, none⟩) (fun e => hne _ e rfl) (.int .i64 mc)) (a := ⟨B + 1, 7, none⟩) (fun e => hne _ e rfl) (.slice A3 L c3))
    have ofin := out8 (OA.out.trans OW.out) (show w.heap.size ≤ B + 1 by rw [HB.out]; omega) (.int .i64 kd) (.int .i64 fr) (.int .i64 tt) (.int .i64 me) (.int .i64 ma) (.int .i64 ml) (.int .i64 mc) (.slice A3 L c3)
    refine bodyPost_ret (v := .agg #[.int .i64 kd, .int .i64 fr, .int .i64 tt, .int .i64 me, .int .i64 ma, .int .i64 ml, .int .i64 mc, .slice A3 L c3]) ?_ rfl ⟨A3, c3, rfl, gfin, ofin, fun k hk => by have := HK3.out k hk; have := HB.out; omega⟩
    clear CSD CS3
    simp at q0 q1 q2 q3 q4 q5 q6 q7
    simp [results, Tryz.results13, go_sem, q0, q1, q2, q3, q4, q5, q6, q7]
end Go.Proofs.YtlgoenimjmiapaaGreat
