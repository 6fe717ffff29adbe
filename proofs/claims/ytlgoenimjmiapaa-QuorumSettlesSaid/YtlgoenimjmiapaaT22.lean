import Derived.Test.YtlgoenimjmiapaaT21
set_option linter.unusedSimpArgs false
set_option linter.unusedVariables false
set_option linter.unusedSectionVars false
/-! The document's first days of a node, plain: promoted, granted, an entry, acknowledged. -/
namespace Go.Proofs.Ytlgoenimjmiapaa
open Go.RowKit Go.Maps

def kq0 : ND := newND ⟨0, -1, []⟩ 0 3
def kq1 : ND := ⟨⟨1, 0, []⟩, 0, 3, 1, 0, some [0], [], []⟩
def kq2 : ND := ⟨⟨1, 0, [⟨1, []⟩]⟩, 0, 3, 2, 0, some [0, 2], [0, 0, 0], [0, 0, 0]⟩
def kq3 : ND := ⟨⟨1, 0, [⟨1, []⟩, ⟨1, [97]⟩]⟩, 0, 3, 2, 0, some [0, 2], [0, 0, 0], [0, 0, 0]⟩
def kq4 : ND := ⟨⟨1, 0, [⟨1, []⟩, ⟨1, [97]⟩]⟩, 0, 3, 2, 2, some [0, 2], [0, 2, 0], [0, 2, 0]⟩
def kgrant : Msg := ⟨2, 2, 0, 1, 0, 0, 0, []⟩
def kack : Msg := ⟨4, 1, 0, 1, 2, 0, 0, []⟩

theorem sort3 (a : Int) (h : 0 ≤ a) : (sortI [a, 0, 0]).getD 1 0 = 0 := by
  unfold sortI
  by_cases h0 : a = 0
  · subst h0; simp [List.mergeSort, List.MergeSort.Internal.splitInTwo, List.splitAt, List.splitAt.go, List.merge]
  · have : ¬ a ≤ 0 := by omega
    simp [List.mergeSort, List.MergeSort.Internal.splitInTwo, List.splitAt, List.splitAt.go, List.merge, this, h]
theorem sort220 : (sortI [2, 2, 0]).getD 1 0 = 2 := by
  unfold sortI
  simp [List.mergeSort, List.MergeSort.Internal.splitInTwo, List.splitAt, List.splitAt.go, List.merge]

theorem ns_ex (c : NS) {q : ND} (h : c.q = q) : ∃ ns ms, c = ⟨q, ns, ms⟩ := ⟨c.ns, c.ms, by cases c; cases h; rfl⟩
theorem k1 : ∃ ns ms, kq0.promote = (⟨kq1, ns, ms⟩, 0) ∧ ms.length = 2 := by
  refine ⟨_, _, rfl, ?_⟩
  decide
theorem kgrant_right : kgrant.right = true := by decide
theorem kack_right : kack.right = true := by decide
theorem k2 : ∃ ns ms, (kq1.front kgrant).grants kgrant = ⟨kq2, ns, ms⟩ := by
  have e : kq1.front kgrant = ⟨kq1, [], []⟩ := rfl
  rw [e]
  have h1 : (NS.grants ⟨kq1, [], []⟩ kgrant) = (((((NS.vote ⟨kq1, [], []⟩ 2).lead.note ⟨3, 0, 0, ⟨1, []⟩⟩).ships).rise)) := rfl
  rw [h1]
  have h2 : ((NS.vote ⟨kq1, [], []⟩ 2).lead.note ⟨3, 0, 0, ⟨1, []⟩⟩).q = kq2 := rfl
  have h3 : (((NS.vote ⟨kq1, [], []⟩ 2).lead.note ⟨3, 0, 0, ⟨1, []⟩⟩).ships).q.risen = kq2 := by
    show ND.risen kq2 = kq2
    unfold ND.risen
    have : kq2.mid = 0 := sort3 1 (by omega)
    rw [this]
    rfl
  exact ns_ex _ h3
theorem k3 : ∃ ns ms, kq2.append [97] = (⟨kq3, ns, ms⟩, 2, 0) := by
  have h1 : kq2.append [97] = (((NS.note ⟨kq2, [], []⟩ ⟨3, 0, 0, ⟨1, [97]⟩⟩).ships).rise, ((((NS.note ⟨kq2, [], []⟩ ⟨3, 0, 0, ⟨1, [97]⟩⟩).ships).rise).q.st.log.length : Int), 0) := rfl
  rw [h1]
  have h3 : ((NS.note ⟨kq2, [], []⟩ ⟨3, 0, 0, ⟨1, [97]⟩⟩).ships).q.risen = kq3 := by
    show ND.risen kq3 = kq3
    unfold ND.risen
    have : kq3.mid = 0 := sort3 2 (by omega)
    rw [this]
    rfl
  obtain ⟨ns, ms, e⟩ := ns_ex (((NS.note ⟨kq2, [], []⟩ ⟨3, 0, 0, ⟨1, [97]⟩⟩).ships).rise) h3
  rw [e]
  exact ⟨ns, ms, rfl⟩
theorem k4 : ∃ ns ms, (kq3.front kack).acks kack = ⟨kq4, ns, ms⟩ := by
  have e : kq3.front kack = ⟨kq3, [], []⟩ := rfl
  rw [e]
  have h1 : NS.acks ⟨kq3, [], []⟩ kack = ((NS.setAcked ⟨kq3, [], []⟩ 1 2).setHas 1 2).rise := rfl
  rw [h1]
  have h3 : ((NS.setAcked ⟨kq3, [], []⟩ 1 2).setHas 1 2).q.risen = kq4 := by
    show ND.risen ⟨⟨1, 0, [⟨1, []⟩, ⟨1, [97]⟩]⟩, 0, 3, 2, 0, some [0, 2], [0, 2, 0], [0, 2, 0]⟩ = kq4
    unfold ND.risen
    have : ND.mid ⟨⟨1, 0, [⟨1, []⟩, ⟨1, [97]⟩]⟩, 0, 3, 2, 0, some [0, 2], [0, 2, 0], [0, 2, 0]⟩ = 2 := sort220
    rw [this]
    rfl
  exact ns_ex _ h3
theorem fit1 : kq1.Fit := ⟨by decide, by decide, by decide, by decide, by decide, by decide, fun h => ⟨[0], rfl, by decide, by decide⟩, fun h => by cases h⟩
theorem fit2 : kq2.Fit := ⟨by decide, by decide, by decide, by decide, by decide, by decide, fun h => ⟨[0, 2], rfl, by decide, by decide⟩, fun h => by decide⟩
theorem fit3 : kq3.Fit := ⟨by decide, by decide, by decide, by decide, by decide, by decide, fun h => ⟨[0, 2], rfl, by decide, by decide⟩, fun h => by decide⟩
theorem good0 : St.Good ⟨0, -1, []⟩ := ⟨by decide, by decide, by decide, by decide, fun i x y h => by cases h⟩
theorem fits_nil : Fits ([] : List Ent) := fun x h => by cases h
end Go.Proofs.Ytlgoenimjmiapaa

/-! knows. -/
namespace Go.Proofs.Ytlgoenimjmiapaa
open Go.RowKit Go.Maps

set_option maxRecDepth 100000 in
theorem num_is (w : World) (n : Int) : Calls Try.prog 9 #[.int .i64 n] w fun e w' => e = .returned (.int .i64 n) ∧ w = w' := by
  go_enter Try.func9, Try.ntmps9
  go_wp2_with fail
  go_ret
  exact ⟨rfl, rfl⟩

section
variable [Far] {w w' : World} {x : Nat} {c c' : NS} {V : NV}
theorem role_g (h : NAt w x c V) (h0 : 0 < c.q.n) (h7 : c.q.n ≤ 7) : Calls Try.prog 16 #[.pointer (some ⟨x, 0, none⟩)] w fun e w' => e = .returned (.int .i64 c.q.role) ∧ w = w' := by
  obtain ⟨ss, _, k⟩ := h
  exact role_is k h0 h7
theorem commit_g (h : NAt w x c V) (h0 : 0 < c.q.n) (h7 : c.q.n ≤ 7) : Calls Try.prog 17 #[.pointer (some ⟨x, 0, none⟩)] w fun e w' => e = .returned (.int .i64 (c.q.commit : Int)) ∧ w = w' := by
  obtain ⟨ss, _, k⟩ := h
  exact commit_is k h0 h7
theorem Handed.open {v : Value} (h : Handed w x V c v w') : ∃ A1 c1 A2 c2 ss V', v = .agg #[.slice A1 c.ns.length c1, .slice A2 c.ms.length c2] ∧ ss.map Prod.fst = c.ms ∧ WorkAt (V'.shun x) w' (.slice A1 c.ns.length c1) (.slice A2 c.ms.length c2) c.ns ss ∧ NAt w' x ⟨c.q, [], []⟩ V' ∧ Next (V.own x) w (V'.own x) w' := by
  obtain ⟨V', h1, h2, nv, sv, ss, rfl, h3, h4⟩ := h
  obtain ⟨A1, c1, rfl⟩ := GRow.form h4.notes
  obtain ⟨A2, c2, rfl⟩ := GRow.form h4.send
  have e : ss.length = c.ms.length := by rw [← h3, List.length_map]
  rw [e] at h4 ⊢
  exact ⟨A1, c1, A2, c2, ss, V', rfl, h3, h4, h1, h2⟩

/-- A node of the call's own. -/
def Kn [Far] (w0 : World) (x : Nat) (q : ND) (W : World) : Prop := ∃ V, NAt W x ⟨q, [], []⟩ V ∧ Out Zone.no w0 W ∧ ∀ k, V.own x k → w0.heap.size ≤ k
theorem Kn.any {w0 W W' : World} {q : ND} (h : Kn w0 x q W) (ho : Out Zone.no W W') : Kn w0 x q W' := by
  obtain ⟨V, h1, h2, h3⟩ := h
  exact ⟨V, h1.any ho, h2.trans ho, h3⟩
theorem fresh_next {w0 W W' : World} {V V' : NV} (h2 : Out Zone.no w0 W) (h3 : ∀ k, V.own x k → w0.heap.size ≤ k) (hn : Next (V.own x) W (V'.own x) W') : Out Zone.no w0 W' ∧ ∀ k, V'.own x k → w0.heap.size ≤ k := by
  have hs := h2.size
  refine ⟨⟨hn.out.os.trans h2.os, hn.out.tape.trans h2.tape, hn.out.output.trans h2.output, Nat.le_trans h2.size hn.out.size, fun k hk _ => ?_⟩, fun k hk => ?_⟩
  · exact (hn.out.block k (by omega) (fun e => by have := h3 k e; omega)).trans (h2.block k hk id)
  · rcases hn.sub k hk with e | e
    · exact h3 k e
    · omega
theorem Answered.worked {w0 : World} {c : NS} {e : Ending} (h2 : Out Zone.no w0 w) (h3 : ∀ k, V.own x k → w0.heap.size ≤ k) (h : Answered w x V (c, 0) e w') : ∃ A1 c1 A2 c2, e = .returned (.tuple #[.agg #[.slice A1 c.ns.length c1, .slice A2 c.ms.length c2], .int .i64 0]) ∧ Kn w0 x c.q w' := by
  obtain ⟨v, rfl, h⟩ := h
  obtain ⟨A1, c1, A2, c2, ss, V', rfl, _, _, k, n⟩ := h.open
  have := fresh_next h2 h3 n
  exact ⟨A1, c1, A2, c2, rfl, V', k, this.1, this.2⟩

end

set_option maxRecDepth 100000 in
set_option maxHeartbeats 2000000 in
theorem knows_is (w : World) : Calls Try.prog 11 #[] w fun e w' => e = .returned (.bool true) ∧ Out Zone.no w w' := by
  letI : Far := ⟨fun _ => False⟩
  have NEW : Hid (∀ W, Out Zone.no w W → Calls Try.prog 7 #[.int .i64 0, .int .i64 3, .agg #[.int .i64 0, .int .i64 (-1), .slice none 0 0]] W fun e w' => ∃ x, e = .returned (.tuple #[.pointer (some ⟨x, 0, none⟩), .int .i64 0]) ∧ Hid (Kn w x kq0 w')) := fun W hW => by
    refine (new_is W (fun k (h : False) => h.elim) (fun _ => False) ⟨0, -1, []⟩ (.slice none 0 0) (rrow_nil _ _ _) good0 3 0 (by omega) (by omega) (by omega)).mono ?_
    rintro e w' ⟨x, V, rfl, h, ho, hb⟩
    exact ⟨x, rfl, V, h, hW.trans ho, fun k hk => Nat.le_trans hW.size (hb k hk)⟩
  have PRO : Hid (∀ W x, Kn w x kq0 W → Calls Try.prog 12 #[.pointer (some ⟨x, 0, none⟩)] W fun e w' => ∃ A1 n1 c1 A2 c2, e = .returned (.tuple #[.agg #[.slice A1 n1 c1, .slice A2 2 c2], .int .i64 0]) ∧ Hid (Kn w x kq1 w')) := fun W x hW => by
    obtain ⟨V, h, ho, hb⟩ := hW
    refine (promote_is h (by decide) (by decide) (by decide) (by decide) (by decide)).mono ?_
    intro e w' h
    obtain ⟨ns, ms, hk, hm⟩ := k1
    rw [hk] at h
    obtain ⟨A1, c1, A2, c2, rfl, k⟩ := h.worked ho hb
    rw [hm]
    exact ⟨A1, _, c1, A2, c2, rfl, k⟩
  have GRA : Hid (∀ W x, Kn w x kq1 W → Calls Try.prog 8 #[.pointer (some ⟨x, 0, none⟩), .agg #[.int .i64 2, .int .i64 2, .int .i64 0, .int .i64 1, .int .i64 0, .int .i64 0, .int .i64 0, .slice none 0 0]] W fun e w' => ∃ A1 n1 c1 A2 n2 c2, e = .returned (.tuple #[.agg #[.slice A1 n1 c1, .slice A2 n2 c2], .int .i64 0]) ∧ Hid (Kn w x kq2 w')) := fun W x hW => by
    obtain ⟨V, h, ho, hb⟩ := hW
    refine (step_grant h fit1 kgrant (.slice none 0 0) (rrow_nil _ _ _) (by decide) fits_nil kgrant_right (by decide) (by decide) (by decide) (by decide) rfl).mono ?_
    intro e w' h
    obtain ⟨ns, ms, hk⟩ := k2
    rw [hk] at h
    obtain ⟨A1, c1, A2, c2, rfl, k⟩ := h.worked ho hb
    exact ⟨A1, _, c1, A2, _, c2, rfl, k⟩
  have APP : Hid (∀ W x, Kn w x kq2 W → Calls Try.prog 13 #[.pointer (some ⟨x, 0, none⟩), .string ⟨#[97]⟩] W fun e w' => ∃ A1 n1 c1 A2 n2 c2, e = .returned (.tuple #[.int .i64 2, .agg #[.slice A1 n1 c1, .slice A2 n2 c2], .int .i64 0]) ∧ Hid (Kn w x kq3 w')) := fun W x hW => by
    obtain ⟨V, h, ho, hb⟩ := hW
    refine (append_is h fit2 [97] (by decide)).mono ?_
    intro e w' h
    obtain ⟨ns, ms, hk⟩ := k3
    rw [hk] at h
    obtain ⟨v, rfl, h⟩ := h
    obtain ⟨A1, c1, A2, c2, ss, V', rfl, _, _, k, n⟩ := h.open
    have := fresh_next ho hb n
    exact ⟨A1, _, c1, A2, _, c2, rfl, V', k, this.1, this.2⟩
  have ACK : Hid (∀ W x, Kn w x kq3 W → Calls Try.prog 8 #[.pointer (some ⟨x, 0, none⟩), .agg #[.int .i64 4, .int .i64 1, .int .i64 0, .int .i64 1, .int .i64 2, .int .i64 0, .int .i64 0, .slice none 0 0]] W fun e w' => ∃ A1 n1 c1 A2 n2 c2, e = .returned (.tuple #[.agg #[.slice A1 n1 c1, .slice A2 n2 c2], .int .i64 0]) ∧ Hid (Kn w x kq4 w')) := fun W x hW => by
    obtain ⟨V, h, ho, hb⟩ := hW
    refine (step_ack h fit3 kack (.slice none 0 0) (rrow_nil _ _ _) (by decide) fits_nil kack_right (by decide) (by decide) (by decide) (by decide) rfl).mono ?_
    intro e w' h
    obtain ⟨ns, ms, hk⟩ := k4
    rw [hk] at h
    obtain ⟨A1, c1, A2, c2, rfl, k⟩ := h.worked ho hb
    exact ⟨A1, _, c1, A2, _, c2, rfl, k⟩
  have ROL1 : Hid (∀ W x, Kn w x kq1 W → Calls Try.prog 16 #[.pointer (some ⟨x, 0, none⟩)] W fun e w' => e = .returned (.int .i64 1) ∧ W = w') := fun W x hW => by
    obtain ⟨V, h, ho, hb⟩ := hW
    exact role_g h (by decide) (by decide)
  have ROL4 : Hid (∀ W x, Kn w x kq4 W → Calls Try.prog 16 #[.pointer (some ⟨x, 0, none⟩)] W fun e w' => e = .returned (.int .i64 2) ∧ W = w') := fun W x hW => by
    obtain ⟨V, h, ho, hb⟩ := hW
    exact role_g h (by decide) (by decide)
  have COM4 : Hid (∀ W x, Kn w x kq4 W → Calls Try.prog 17 #[.pointer (some ⟨x, 0, none⟩)] W fun e w' => e = .returned (.int .i64 2) ∧ W = w') := fun W x hW => by
    obtain ⟨V, h, ho, hb⟩ := hW
    exact commit_g h (by decide) (by decide)
  have ANY : Hid (∀ (W W' : World) (x : Nat) (q : ND), Kn w x q W → Out Zone.no W W' → Kn w x q W') := fun W W' x q h ho => h.any ho
  go_enter Try.func11, Try.ntmps11
  go_wp2_with (first
    | (go_at_call 7; refine (NEW.out _ (Out.refl _ _)).mono ?_; rintro e w1 ⟨x, rfl, h1⟩)
    | (go_at_call 12; refine (PRO.out _ _ h1.out).mono ?_; rintro e w2 ⟨A1, n1, c1, A2, c2, rfl, h2⟩))
  obtain ⟨W3, hW3⟩ : ∃ W3, w2.alloc (.cells #[.slice A1 n1 c1, .slice A2 2 c2] 32) = W3 := ⟨_, rfl⟩
  have h3 := Lib.hid (ANY.out _ _ _ _ h2.out ((Out.refl Zone.no w2).alloc (.cells #[.slice A1 n1 c1, .slice A2 2 c2] 32)))
  have b1 := cell_new w2 #[.slice A1 n1 c1, .slice A2 2 c2] 32 1
  rw [hW3] at h3 b1 ⊢
  have b1' : W3.cell? ⟨w2.heap.size, 1, none⟩ = some (.slice A2 2 c2) := b1
  clear hW3 b1
  go_wp2_with (first
    | (go_at_call 9; refine (num_is _ _).mono ?_; rintro e w' ⟨rfl, rfl⟩)
    | (go_at_call 16; refine (ROL1.out _ _ h3.out).mono ?_; rintro e w' ⟨rfl, rfl⟩)
    | (go_at_call 8; refine (GRA.out _ _ h3.out).mono ?_; rintro e w4 ⟨B1, m1, d1, B2, m2, d2, rfl, h4⟩))
  have h5 := Lib.hid (ANY.out _ _ _ _ h4.out ((Out.refl Zone.no w4).alloc (.cells #[.slice B1 m1 d1, .slice B2 m2 d2] 32)))
  go_wp2_with (first
    | (go_at_call 13; refine (APP.out _ _ h5.out).mono ?_; rintro e w6 ⟨C1, l1, e1, C2, l2, e2, rfl, h6⟩))
  have h7 := Lib.hid (ANY.out _ _ _ _ h6.out ((Out.refl Zone.no w6).alloc (.cells #[.slice C1 l1 e1, .slice C2 l2 e2] 32)))
  go_wp2_with (first
    | (go_at_call 8; refine (ACK.out _ _ h7.out).mono ?_; rintro e w8 ⟨D1, o1, g1, D2, o2, g2, rfl, h8⟩))
  have h9 := Lib.hid (ANY.out _ _ _ _ h8.out ((Out.refl Zone.no w8).alloc (.cells #[.slice D1 o1 g1, .slice D2 o2 g2] 32)))
  go_wp2_with (first
    | (go_at_call 9; refine (num_is _ _).mono ?_; rintro e w' ⟨rfl, rfl⟩)
    | (go_at_call 17; refine (COM4.out _ _ h9.out).mono ?_; rintro e w' ⟨rfl, rfl⟩)
    | (go_at_call 16; refine (ROL4.out _ _ h9.out).mono ?_; rintro e w' ⟨rfl, rfl⟩))
  go_ret
  obtain ⟨V9, _, ho9, _⟩ := h9.out
  exact ⟨rfl, ho9⟩
end Go.Proofs.Ytlgoenimjmiapaa

/-! No node, and one that nobody made. -/
namespace Go.Proofs.Ytlgoenimjmiapaa
open Go.RowKit Go.Maps

set_option maxRecDepth 100000 in
theorem none_nil (w : World) : Calls Try.prog 27 #[.pointer none] w fun e w' => e = .returned (.bool true) ∧ w = w' := by
  go_enter Try.func27, Try.ntmps27
  go_wp2_with fail
  go_ret
  exact ⟨rfl, rfl⟩
set_option maxRecDepth 100000 in
theorem none_zero (w : World) (x : Nat) (h : w.cell? ⟨x, 4, none⟩ = some (.int .i64 0)) : Calls Try.prog 27 #[.pointer (some ⟨x, 0, none⟩)] w fun e w' => e = .returned (.bool true) ∧ w = w' := by
  go_enter Try.func27, Try.ntmps27
  go_wp2_with fail
  go_ret
  exact ⟨rfl, rfl⟩

/-- No node at p. -/
def NoNode (w : World) (p : Value) : Prop := ∀ W, Out Zone.no w W → Calls Try.prog 27 #[p] W fun e w' => e = .returned (.bool true) ∧ W = w'
theorem NoNode.nil (w : World) : NoNode w (.pointer none) := fun W _ => none_nil W
theorem NoNode.zero {w : World} {x : Nat} (h : w.cell? ⟨x, 4, none⟩ = some (.int .i64 0)) : NoNode w (.pointer (some ⟨x, 0, none⟩)) := fun W ho => none_zero W x (ho.cell h id)

section
variable {w : World} {p : Value}
end
end Go.Proofs.Ytlgoenimjmiapaa
