import Derived.Test.YtlgoenimjmiapaaQ46
/-! QuorumNil, walked. -/
set_option linter.unusedVariables false
namespace Go.Proofs.Ytlgoenimjmiapaa
open Go.RowKit Go.Maps

theorem NoNode.any {w W : World} {p : Value} (h : NoNode w p) (ho : Out Zone.no w W) : NoNode W p := fun W' ho' => h W' (ho.trans ho')
/-- No node at p, W0 left as it was. -/
def ZZ (W0 : World) (p : Value) (W : World) : Prop := NoNode W p ∧ Out Zone.no W0 W
theorem ZZ.any {W0 W W' : World} {p : Value} (h : ZZ W0 p W) (ho : Out Zone.no W W') : ZZ W0 p W' := ⟨h.1.any ho, h.2.trans ho⟩
def zq : ND := newND ⟨0, -1, []⟩ 1 3
theorem zfit : zq.Fit := ⟨by decide, by decide, by decide, by decide, by decide, by decide, by decide, by decide⟩

/-- What lies apart from a node may turn. -/
theorem NAt.apart {w w' : World} {x : Nat} {c : NS} {V : NV} (h : NAt w x c V) {M : Nat → Prop} (ho : Out (Zone.m M) w w') (hM : ∀ k, M k → ¬ V.own x k) (hms : c.ms = []) : NAt w' x c V := by
  obtain ⟨ss, h1, h⟩ := h
  refine ⟨ss, h1, ?_⟩
  rw [hms] at h1
  obtain rfl : ss = [] := List.map_eq_nil_iff.1 h1
  have far : ∀ k, V.own x k → w'.heap[k]? = w.heap[k]? := fun k hk => ho.block k (h.lt hk) (fun e => hM k e hk)
  have own : ∀ (i k : Nat), (V.blks x)[i]? = some (some k) → V.own x k := fun i k hk => List.mem_of_getElem? hk
  exact ⟨(far x (NodeAt.own_x x V)).trans h.blk, GRow.keep h.log (fun k hk => far k (own 1 k (by show some _ = _; rw [hk]))) (fun _ _ => trivial), votes_keep h (fun k hk => far k (own 2 k (by show some _ = _; rw [hk]))),
    GRow.keep h.has (fun k hk => far k (own 3 k (by show some _ = _; rw [hk]))) (fun _ _ => trivial), GRow.keep h.acked (fun k hk => far k (own 4 k (by show some _ = _; rw [hk]))) (fun _ _ => trivial),
    GRow.keep h.notes (fun k hk => far k (own 5 k (by show some _ = _; rw [hk]))) (fun _ _ => trivial), GRow.keep h.send (fun k hk => far k (own 6 k (by show some _ = _; rw [hk]))) (fun _ _ => trivial), fun p hp => (by cases hp), h.sep⟩

/-- A node of the call's own, and a message's log beside it. -/
def KnL (w0 : World) (x : Nat) (q : ND) (l : List Ent) (v : Value) (W : World) : Prop := ∃ V, NAt W x ⟨q, [], []⟩ V ∧ RRow (V.own x) W v l.length 2 (encL l) ∧ Out Zone.no w0 W ∧ ∀ k, V.own x k → w0.heap.size ≤ k
theorem Kn.out {w0 W : World} {x : Nat} {q : ND} (h : Kn w0 x q W) : Out Zone.no w0 W := by
  obtain ⟨V, _, h2, _⟩ := h; exact h2

set_option maxRecDepth 100000 in
set_option maxHeartbeats 2000000 in
theorem nil_is (w : World) (m : Msg) (v : Value) (hr : RRow (fun _ => False) w v m.log.length 2 (encL m.log)) (hl : (m.log.length + 1) * 24 ≤ 140737488355328) (hf : Fits m.log) (d : List UInt8) (hd : d.length ≤ 9223372036854775807) :
    Calls Try.prog 4 #[.agg (m.cells v).toArray, .string (str d)] w fun e w' => e = .returned (.bool true) ∧ Out Zone.no w w' := by
  obtain ⟨A, c, rfl, _, _⟩ := hr.form
  obtain ⟨B, hB⟩ : ∃ B, w.heap.size = B := ⟨_, rfl⟩
  obtain ⟨W0, hW0⟩ : ∃ W0, w.alloc (.cells (m.cells (.slice A m.log.length c)).toArray 45) = W0 := ⟨_, rfl⟩
  have OB : Hid (Out Zone.no w W0) := by rw [← hW0]; exact (Out.refl _ _).alloc _
  have HR0 := hr.any OB.out
  have hl1 : m.log.length ≤ 1152921504606846976 := by omega
  have hl2 : m.log.length ≤ 9223372036854775807 := by omega
  -- the node that is none
  have ZA : Hid (∀ (p : Value) (W W' : World), ZZ W0 p W → Out Zone.no W W' → ZZ W0 p W') := fun p W W' h ho => h.any ho
  have ZO : Hid (∀ (p : Value) (W : World), ZZ W0 p W → Out Zone.no W0 W) := fun p W h => h.2
  have PROZ : Hid (∀ p W, ZZ W0 p W → Calls Try.prog 12 #[p] W fun e w' => e = .returned (.tuple #[.agg #[.slice none 0 0, .slice none 0 0], .int .i64 1]) ∧ Hid (ZZ W0 p (w'.alloc (.cells #[.slice none 0 0, .slice none 0 0] 32)))) := fun p W h => (promote_z h.1).mono (fun e w' ⟨h1, h2⟩ => ⟨h1, (h.any h2).any ((Out.refl _ _).alloc _)⟩)
  have APPZ : Hid (∀ p W, ZZ W0 p W → Calls Try.prog 13 #[p, .string ⟨#[97]⟩] W fun e w' => e = .returned (.tuple #[.int .i64 0, .agg #[.slice none 0 0, .slice none 0 0], .int .i64 1]) ∧ Hid (ZZ W0 p (w'.alloc (.cells #[.slice none 0 0, .slice none 0 0] 32)))) := fun p W h => (append_z h.1 _).mono (fun e w' ⟨h1, h2⟩ => ⟨h1, (h.any h2).any ((Out.refl _ _).alloc _)⟩)
  have TICZ : Hid (∀ p W, ZZ W0 p W → Calls Try.prog 14 #[p] W fun e w' => e = .returned (.tuple #[.agg #[.slice none 0 0, .slice none 0 0], .int .i64 1]) ∧ Hid (ZZ W0 p (w'.alloc (.cells #[.slice none 0 0, .slice none 0 0] 32)))) := fun p W h => (tick_z h.1).mono (fun e w' ⟨h1, h2⟩ => ⟨h1, (h.any h2).any ((Out.refl _ _).alloc _)⟩)
  have MSGZ : Hid (∀ p W, ZZ W0 p W → Calls Try.prog 15 #[.agg (m.cells (.slice A m.log.length c)).toArray] W fun e w' => ∃ A9 c9, e = .returned (.agg (m.cells (.slice A9 m.log.length c9)).toArray) ∧ Hid (ZZ W0 p w')) := fun p W h => by
    refine (msg_is W _ m _ (HR0.any h.2) hl).mono ?_
    rintro e w' ⟨A9, c9, rfl, _, ho, _⟩
    exact ⟨A9, c9, rfl, h.any ho⟩
  have STEZ : Hid (∀ p W A9 c9, ZZ W0 p W → Calls Try.prog 8 #[p, .agg (m.cells (.slice A9 m.log.length c9)).toArray] W fun e w' => e = .returned (.tuple #[.agg #[.slice none 0 0, .slice none 0 0], .int .i64 1]) ∧ Hid (ZZ W0 p (w'.alloc (.cells #[.slice none 0 0, .slice none 0 0] 32)))) := fun p W A9 c9 h => (step_z h.1 m A9 _ c9).mono (fun e w' ⟨h1, h2⟩ => ⟨h1, (h.any h2).any ((Out.refl _ _).alloc _)⟩)
  have ROLZ : Hid (∀ p W, ZZ W0 p W → Calls Try.prog 16 #[p] W fun e w' => e = .returned (.int .i64 0) ∧ W = w') := fun p W h => role_z h.1
  have COMZ : Hid (∀ p W, ZZ W0 p W → Calls Try.prog 17 #[p] W fun e w' => e = .returned (.int .i64 0) ∧ W = w') := fun p W h => commit_z h.1
  have STAZ : Hid (∀ p W, ZZ W0 p W → Calls Try.prog 10 #[p] W fun e w' => e = .returned (.agg #[.int .i64 0, .int .i64 0, .slice none 0 0]) ∧ Hid (ZZ W0 p w')) := fun p W h => (state_z h.1).mono (fun e w' ⟨h1, h2⟩ => ⟨h1, h.any h2⟩)
  have FLD2 : Hid (∀ W : World, Sem.run Try.prog (Instr.field 28 (.agg #[.int .i64 0, .int .i64 0, .slice none 0 0]) 2) W = Result.ok (.slice none 0 0) W) := fun W => rfl
  have FLD0 : Hid (∀ W : World, Sem.run Try.prog (Instr.field 28 (.agg #[.int .i64 0, .int .i64 0, .slice none 0 0]) 0) W = Result.ok (.int .i64 0) W) := fun W => rfl
  -- the node that is one
  have NEW : Hid (∀ W, Out Zone.no W0 W → Calls Try.prog 7 #[.int .i64 1, .int .i64 3, .agg #[.int .i64 0, .int .i64 (-1), .slice none 0 0]] W fun e w' => ∃ x, e = .returned (.tuple #[.pointer (some ⟨x, 0, none⟩), .int .i64 0]) ∧ Hid (Kn W0 x zq w')) := fun W hW => by
    refine (new_is W (fun _ => False) ⟨0, -1, []⟩ (.slice none 0 0) (rrow_nil _ _ _) good0 3 1 (by omega) (by omega) (by omega)).mono ?_
    rintro e w' ⟨x, V, rfl, h, ho, hb⟩
    exact ⟨x, rfl, V, h, hW.trans ho, fun k hk => Nat.le_trans hW.size (hb k hk)⟩
  obtain ⟨want, hwant⟩ : ∃ want, (zq.append d).2.2 = want := ⟨_, rfl⟩
  have APP : Hid (∀ W x, Kn W0 x zq W → Calls Try.prog 13 #[.pointer (some ⟨x, 0, none⟩), .string (str d)] W fun e w' => ∃ A1 c1 A2 c2, e = .returned (.tuple #[.int .i64 0, .agg #[.slice A1 0 c1, .slice A2 0 c2], .int .i64 want]) ∧ Hid (Kn W0 x zq (w'.alloc (.cells #[.slice A1 0 c1, .slice A2 0 c2] 32)))) := fun W x hW => by
    obtain ⟨V, h, ho, hb⟩ := hW
    have e1 : ∃ k, zq.append d = (⟨zq, [], []⟩, 0, k) := by
      unfold ND.append
      split
      · exact ⟨_, rfl⟩
      · rw [if_pos (by decide)]; exact ⟨_, rfl⟩
    obtain ⟨k, e1⟩ := e1
    rw [e1] at hwant
    obtain rfl : k = want := hwant
    refine (append_is h zfit d hd).mono ?_
    intro e w' h
    rw [e1] at h
    obtain ⟨v, rfl, h⟩ := h
    obtain ⟨A1, c1, A2, c2, ss, V', rfl, _, _, k, n⟩ := h.open
    have := fresh_next ho hb n
    exact ⟨A1, c1, A2, c2, rfl, V', k.any ((Out.refl _ _).alloc _), this.1.alloc _, this.2⟩
  have RMS : Hid (∀ W x, Kn W0 x zq W → Calls Try.prog 18 #[.agg (m.cells (.slice A m.log.length c)).toArray] W fun e w' => e = .returned (.bool m.right) ∧ Hid (Kn W0 x zq w')) := fun W x hW => by
    refine (rmsg_is W _ m _ (HR0.any hW.out) hl1 hf).mono ?_
    rintro e w' ⟨rfl, ho⟩
    exact ⟨rfl, hW.any ho⟩
  have MSG : Hid (∀ W x (t : Int), Kn w x zq W → Calls Try.prog 15 #[.agg #[.int .i64 m.kind, .int .i64 m.frm, .int .i64 t, .int .i64 m.ep, .int .i64 m.at_, .int .i64 m.last, .int .i64 m.commit, .slice A m.log.length c]] W fun e w' => ∃ A9 c9, e = .returned (.agg #[.int .i64 m.kind, .int .i64 m.frm, .int .i64 t, .int .i64 m.ep, .int .i64 m.at_, .int .i64 m.last, .int .i64 m.commit, .slice A9 m.log.length c9]) ∧ Hid (KnL w x zq m.log (.slice A9 m.log.length c9) w')) := fun W x t hW => by
    obtain ⟨V, h, ho, hb⟩ := hW
    refine (msg_is W _ ⟨m.kind, m.frm, t, m.ep, m.at_, m.last, m.commit, m.log⟩ _ (hr.any ho) hl).mono ?_
    rintro e w' ⟨A9, c9, rfl, hg, ho2, hk⟩
    refine ⟨A9, c9, rfl, V, h.any ho2, hg.reads' (fun k h1 h2 => ?_), ho.trans ho2, hb⟩
    have := own_lt h h2
    have := hk k h1
    omega
  have STE : Hid (∀ W x (t : Int) A9 c9, KnL w x zq m.log (.slice A9 m.log.length c9) W → ((Msg.right ⟨m.kind, m.frm, t, m.ep, m.at_, m.last, m.commit, m.log⟩ = false) ∨ t ≠ 1 ∨ m.frm = 1 ∨ 3 ≤ m.frm) → Calls Try.prog 8 #[.pointer (some ⟨x, 0, none⟩), .agg #[.int .i64 m.kind, .int .i64 m.frm, .int .i64 t, .int .i64 m.ep, .int .i64 m.at_, .int .i64 m.last, .int .i64 m.commit, .slice A9 m.log.length c9]] W fun e w' => ∃ A1 c1 A2 c2, e = .returned (.tuple #[.agg #[.slice A1 0 c1, .slice A2 0 c2], .int .i64 1]) ∧ Hid (Kn w x zq (w'.alloc (.cells #[.slice A1 0 c1, .slice A2 0 c2] 32)))) := fun W x t A9 c9 hW hbad => by
    obtain ⟨V, h, hrr, ho, hb⟩ := hW
    refine (step_bad h (by decide) (by decide) ⟨m.kind, m.frm, t, m.ep, m.at_, m.last, m.commit, m.log⟩ _ hrr hl2 hf hbad).mono ?_
    intro e w' h
    obtain ⟨v, rfl, h⟩ := h
    obtain ⟨A1, c1, A2, c2, ss, V', rfl, _, _, k, n⟩ := h.open
    have := fresh_next ho hb n
    exact ⟨A1, c1, A2, c2, rfl, V', k.any ((Out.refl _ _).alloc _), this.1.alloc _, this.2⟩
  have STA : Hid (∀ W x, Kn w x zq W → Calls Try.prog 10 #[.pointer (some ⟨x, 0, none⟩)] W fun e w' => ∃ A c, e = .returned (.agg #[.int .i64 0, .int .i64 (-1), .slice A 0 c]) ∧ Hid (Kn w x zq w')) := fun W x hW => by
    obtain ⟨V, ⟨ss, e, h⟩, ho, hb⟩ := id hW
    refine (state_is h (by show 0 < 3; decide) (by show 3 ≤ 7; decide) (by show (0 : Nat) ≤ _; decide)).mono ?_
    rintro e w' ⟨lv, rfl, hg, _, ho2⟩
    obtain ⟨A, c, rfl⟩ := GRow.form hg
    exact ⟨A, c, rfl, hW.any ho2⟩
  have FLDS : Hid (∀ (A : Option Addr) (c : Nat) (W : World), Sem.run Try.prog (Instr.field 28 (.agg #[.int .i64 0, .int .i64 (-1), .slice A 0 c]) 0) W = Result.ok (.int .i64 0) W) := fun A c W => rfl
  have KNO : Hid (∀ W, Calls Try.prog 11 #[] W fun e w' => e = .returned (.bool true) ∧ Hid (Out Zone.no W w')) := fun W => knows_is W
  have KW : Hid (∀ x W, Kn W0 x zq W → Kn w x zq W) := fun x W h => by
    obtain ⟨V, h1, h2, h3⟩ := h
    exact ⟨V, h1, OB.out.trans h2, fun k hk => Nat.le_trans OB.out.size (h3 k hk)⟩
  have KST : Hid (∀ x W (u : Value), Kn W0 x zq W → B < W0.heap.size → Kn w x zq (W.setCell ⟨B, 2, none⟩ u)) := fun x W u h hlt => by
    obtain ⟨V, h1, h2, h3⟩ := h
    have ho : Out (Zone.m (fun k => k = B)) W (W.setCell ⟨B, 2, none⟩ u) := (Out.refl _ _).setCell (p := ⟨B, 2, none⟩) (Or.inl rfl) u
    refine ⟨V, h1.apart ho (fun k hk hown => ?_) rfl, ?_, fun k hk => Nat.le_trans OB.out.size (h3 k hk)⟩
    · have := h3 k hown
      have hk : k = B := hk
      omega
    · exact (OB.out.trans h2).setCell (p := ⟨B, 2, none⟩) (Or.inr (by show w.heap.size ≤ B; omega)) u
  have KOW : Hid (∀ x W, Kn w x zq W → Out Zone.no w W) := fun x W h => h.out
  have KO : Hid (∀ x W, Kn W0 x zq W → Out Zone.no W0 W) := fun x W h => h.out
  have KA : Hid (∀ x W W', Kn W0 x zq W → Out Zone.no W W' → Kn W0 x zq W') := fun x W W' h ho => h.any ho
  -- what it wants
  have hs1 : (str d).toList.isEmpty = decide (d = []) := by rw [str_toList]; cases d <;> simp
  have hs2 : (str d).size = d.length := by show (str d).data.size = _; simp [str]
  obtain ⟨G, hG⟩ : ∃ G, decide (d = [] ∨ 65536 < d.length) = G := ⟨_, rfl⟩
  have HG := Lib.hid hG
  have hwant2 : want = if G = true then 1 else 52 := by
    rw [← hwant, ← hG]
    unfold ND.append
    by_cases hb : d = [] ∨ 65536 < d.length
    · rw [if_pos hb, if_pos (decide_eq_true hb)]
    · rw [if_neg hb, if_pos (by decide), if_neg (by simpa using hb)]
  clear hG
  have WANT := Lib.hid hwant2
  clear hwant2
  obtain ⟨S, hS⟩ : ∃ S, str d = S := ⟨_, rfl⟩
  rw [hS] at hs1 hs2 APP ⊢
  -- names
  have MR : Hid (∀ t, (m.right = true → t = 2 ∨ m.to = t ∧ (m.to ≠ 1 ∨ m.frm = 1 ∨ 3 ≤ m.frm)) → (m.right = false → m.to = t) → (Msg.right ⟨m.kind, m.frm, t, m.ep, m.at_, m.last, m.commit, m.log⟩ = false) ∨ t ≠ 1 ∨ m.frm = 1 ∨ 3 ≤ m.frm) := fun t h1 h2 => by
    cases hx : m.right with
    | true =>
      rcases h1 hx with rfl | ⟨rfl, h | h | h⟩
      · exact Or.inr (Or.inl (by decide))
      · exact Or.inr (Or.inl h)
      · exact Or.inr (Or.inr (Or.inl h))
      · exact Or.inr (Or.inr (Or.inr h))
    | false =>
      have e := h2 hx
      subst e
      exact Or.inl hx
  obtain ⟨r, hrr⟩ : ∃ r, m.right = r := ⟨_, rfl⟩
  unfold Msg.cells at *
  obtain ⟨kd, hkd⟩ : ∃ kd, m.kind = kd := ⟨_, rfl⟩
  obtain ⟨fr, hfr⟩ : ∃ fr, m.frm = fr := ⟨_, rfl⟩
  obtain ⟨tt, hto⟩ : ∃ tt, m.to = tt := ⟨_, rfl⟩
  obtain ⟨me, hme⟩ : ∃ me, m.ep = me := ⟨_, rfl⟩
  obtain ⟨ma, hma⟩ : ∃ ma, m.at_ = ma := ⟨_, rfl⟩
  obtain ⟨ml, hml2⟩ : ∃ ml, m.last = ml := ⟨_, rfl⟩
  obtain ⟨mc, hmc⟩ : ∃ mc, m.commit = mc := ⟨_, rfl⟩
  obtain ⟨L, hL⟩ : ∃ L, m.log.length = L := ⟨_, rfl⟩
  rw [hrr] at MR RMS
  have MR2 : Hid (∀ t, (r = true → t = 2 ∨ tt = t ∧ (tt ≠ 1 ∨ fr = 1 ∨ 3 ≤ fr)) → (r = false → tt = t) → (Msg.right ⟨kd, fr, t, me, ma, ml, mc, m.log⟩ = false) ∨ t ≠ 1 ∨ fr = 1 ∨ 3 ≤ fr) := by
    rw [← hkd, ← hfr, ← hto, ← hme, ← hma, ← hml2, ← hmc]; exact MR
  obtain ⟨Lg, hLg⟩ : ∃ Lg, m.log = Lg := ⟨_, rfl⟩
  rw [hkd, hfr, hto, hme, hma, hml2, hmc, hL] at MSGZ STEZ RMS hW0 ⊢
  rw [hkd, hfr, hme, hma, hml2, hmc, hL] at MSG STE
  rw [hLg] at MSG STE MR2
  have KBX : Hid (∀ W, Out Zone.no W0 W → (W.cell? ⟨B, 0, none⟩ = some (.int .i64 kd) ∧ W.cell? ⟨B, 1, none⟩ = some (.int .i64 fr) ∧ W.cell? ⟨B, 2, none⟩ = some (.int .i64 tt) ∧ W.cell? ⟨B, 3, none⟩ = some (.int .i64 me) ∧ W.cell? ⟨B, 4, none⟩ = some (.int .i64 ma) ∧ W.cell? ⟨B, 5, none⟩ = some (.int .i64 ml) ∧ W.cell? ⟨B, 6, none⟩ = some (.int .i64 mc) ∧ W.cell? ⟨B, 7, none⟩ = some (.slice A L c))) := fun W ho => by
    have hb := heap_alloc_new w (.cells #[.int .i64 kd, .int .i64 fr, .int .i64 tt, .int .i64 me, .int .i64 ma, .int .i64 ml, .int .i64 mc, .slice A L c] 45)
    rw [hW0, hB] at hb
    have hb := ho.get hb id
    refine ⟨?_, ?_, ?_, ?_, ?_, ?_, ?_, ?_⟩ <;> (rw [cells_all hb]; rfl)
  have KBH : Hid (∀ W, Out Zone.no W0 W → W.heap[B]? = some (.cells #[.int .i64 kd, .int .i64 fr, .int .i64 tt, .int .i64 me, .int .i64 ma, .int .i64 ml, .int .i64 mc, .slice A L c] 45 (0, 0))) := fun W ho => by
    have hb := heap_alloc_new w (.cells #[.int .i64 kd, .int .i64 fr, .int .i64 tt, .int .i64 me, .int .i64 ma, .int .i64 ml, .int .i64 mc, .slice A L c] 45)
    rw [hW0, hB] at hb
    exact ho.get hb id
  have hbw : B < W0.heap.size := by rw [← hB, ← hW0]; simp
  have HBW := Lib.hid hbw
  clear hbw
  clear MR hkd hfr hto hme hma hml2 hmc hL hLg hr HR0 hl hl1 hl2 hf hd hrr hwant hS
  have Hs1 := Lib.hid hs1
  have Hs2 := Lib.hid hs2
  clear hs1 hs2
  go_enter Try.func4, Try.ntmps4
  go_wp2_with fail
  clear hW0 hB
  go_loopw [5, 6] (fun p vi wr => ∃ k : Nat, k ≤ 2 ∧ vi = .int .i64 (k : Int) ∧ Hid (ZZ W0 p wr)) (fun _ vi _ => 2 - (intOf vi).toNat)
  case atStart => exact ⟨0, by omega, rfl, NoNode.nil _, Out.refl _ _⟩
  case round =>
    rename_i p vi wr
    obtain ⟨k, hk, rfl, hz⟩ := hrel
    by_cases hlt : k < 2
    · go_wp2_with (first
        | (go_at_call 12; with_reducible refine (PROZ.out _ _ hz.out).mono ?_; rintro e w1 ⟨rfl, z1⟩)
        | (go_at_call 13; with_reducible refine (APPZ.out _ _ z1.out).mono ?_; rintro e w2 ⟨rfl, z2⟩)
        | (go_at_call 14; with_reducible refine (TICZ.out _ _ z2.out).mono ?_; rintro e w3 ⟨rfl, z3⟩; obtain ⟨b0, b1, b2, b3, b4, b5, b6, b7⟩ := KBX.out _ (ZO.out _ _ z3.out))
        | (go_at_call 15; with_reducible refine (MSGZ.out _ _ z3.out).mono ?_; rintro e w4 ⟨A9, c9, rfl, z4⟩)
        | (go_at_call 8; with_reducible refine (STEZ.out _ _ _ _ z4.out).mono ?_; rintro e w5 ⟨rfl, z5⟩))
      go_wp2_with (first
        | (go_at_call 9; with_reducible refine (num_is _ _).mono ?_; rintro e w' ⟨rfl, rfl⟩)
        | (go_at_call 16; with_reducible refine (ROLZ.out _ _ z5.out).mono ?_; rintro e w' ⟨rfl, rfl⟩)
        | (go_at_call 17; with_reducible refine (COMZ.out _ _ z5.out).mono ?_; rintro e w' ⟨rfl, rfl⟩)
        | (go_at_call 10; with_reducible refine (STAZ.out _ _ z5.out).mono ?_; rintro e w6 ⟨rfl, z6⟩; replace z5 := z6; clear z6; have q2 := FLD2.out w6; have q0 := FLD0.out w6))
      go_roundw
      case rel => exact ⟨k + 1, by omega, by go_num, NoNode.zero (cell_new w6 _ 54 4), (ZO.out _ _ z5.out).alloc _⟩
      case measure => simp [intOf]; omega
    · obtain rfl : k = 2 := by omega
      clear PROZ APPZ TICZ MSGZ STEZ ROLZ COMZ STAZ FLD2 FLD0
      go_upto_region 17 with (first
        | (go_at_call 7; with_reducible refine (NEW.out _ (ZO.out _ _ hz.out)).mono ?_; rintro e w1 ⟨x, rfl, n1⟩)
        | (go_at_call 9; with_reducible refine (num_is _ _).mono ?_; rintro e w' ⟨rfl, rfl⟩)
        | (go_at_call 13; with_reducible refine (APP.out _ _ n1.out).mono ?_; rintro e w2 ⟨A1, c1, A2, c2, rfl, n2⟩; have y0 := cell_new w2 #[.slice A1 0 c1, .slice A2 0 c2] 32 0; have y1 := cell_new w2 #[.slice A1 0 c1, .slice A2 0 c2] 32 1))
      obtain ⟨W3, hW3⟩ : ∃ W3, w2.alloc (.cells #[.slice A1 0 c1, .slice A2 0 c2] 32) = W3 := ⟨_, rfl⟩
      rw [hW3] at n2 y0 y1 ⊢
      clear hW3
      go_cut [109] (fun s109 wx => s109 = .bool G ∧ wx = W3)
      case first =>
        by_cases h0 : d = []
        · have e1 : S.toList.isEmpty = true := by rw [Hs1.out]; exact decide_eq_true h0
          have e2 : G = true := by rw [← HG.out, decide_eq_true_eq]; exact Or.inl h0
          subst e2
          clear h0
          go_wp2_with fail
          go_meet
          exact ⟨rfl, rfl⟩
        · have e1 : S.toList.isEmpty = false := by rw [Hs1.out]; exact decide_eq_false h0
          by_cases h1 : 65536 < d.length
          · have e3 : decide ((65536 : Int) < (S.size : Int)) = true := by rw [Hs2.out, decide_eq_true_eq]; omega
            have e2 : G = true := by rw [← HG.out, decide_eq_true_eq]; exact Or.inr h1
            subst e2
            clear h0 h1
            go_wp2_with fail
            go_meet
            exact ⟨rfl, rfl⟩
          · have e3 : decide ((65536 : Int) < (S.size : Int)) = false := by rw [Hs2.out, decide_eq_false_iff_not]; omega
            have e2 : G = false := by rw [← HG.out, decide_eq_false_iff_not]; intro h; rcases h with h | h; exact h0 h; exact h1 h
            subst e2
            clear h0 h1
            go_wp2_with fail
            go_meet
            exact ⟨rfl, rfl⟩
      case rest =>
      obtain ⟨rfl, hwx⟩ := hcut
      replace hwx := hwx.symm
      subst hwx
      go_upto_if 109 with fail
      go_cut [21] (fun s21 wx => s21 = .int .i64 want ∧ wx = W3)
      case first =>
        cases G with
        | true =>
          have e2 := Lib.hid (show want = 1 by rw [WANT.out]; rfl)
          go_wp2_with fail
          go_meet
          exact ⟨by rw [e2.out], rfl⟩
        | false =>
          have e2 := Lib.hid (show want = 52 by rw [WANT.out]; rfl)
          go_wp2_with fail
          go_meet
          exact ⟨by rw [e2.out], rfl⟩
      case rest =>
      obtain ⟨rfl, hwx⟩ := hcut
      replace hwx := hwx.symm
      subst hwx
      go_upto_region 21 with (first
        | (go_at_call 9; with_reducible refine (num_is _ _).mono ?_; rintro e w' ⟨rfl, rfl⟩))
      obtain ⟨b0, b1, b2, b3, b4, b5, b6, b7⟩ := KBX.out _ (KO.out _ _ n2.out)
      obtain ⟨HH, hHH⟩ : ∃ HH, (r && decide (tt = 1) && decide (fr ≠ 1) && decide (fr < 3)) = HH := ⟨_, rfl⟩
      have HHH := Lib.hid hHH
      clear hHH y0 y1
      go_cut [144] (fun s144 wx => s144 = .bool HH ∧ Hid (Kn W0 x zq wx))
      case first =>
        cases r with
        | false =>
          have e2 : HH = false := by rw [← HHH.out]; simp
          subst e2
          clear MR2
          go_wp2_with (first
            | (go_at_call 18; with_reducible refine (RMS.out _ _ n2.out).mono ?_; rintro e w5 ⟨rfl, n5⟩; obtain ⟨a0, a1, a2, a3, a4, a5, a6, a7⟩ := KBX.out _ (KO.out _ _ n5.out)))
          go_meet
          exact ⟨rfl, n5⟩
        | true =>
          by_cases t1 : tt = 1
          · subst t1
            by_cases f1 : fr = 1
            · subst f1
              have e2 : HH = false := by rw [← HHH.out]; simp
              subst e2
              clear MR2
              go_wp2_with (first
                | (go_at_call 18; with_reducible refine (RMS.out _ _ n2.out).mono ?_; rintro e w5 ⟨rfl, n5⟩; obtain ⟨a0, a1, a2, a3, a4, a5, a6, a7⟩ := KBX.out _ (KO.out _ _ n5.out)))
              go_meet
              exact ⟨rfl, n5⟩
            · have f2 : (fr != 1) = true := by rw [bne_iff_ne]; exact f1
              have f2b : (fr == 1) = false := by rw [beq_eq_false_iff_ne]; exact f1
              by_cases f3 : fr < 3
              · have f4 : decide (fr < 3) = true := decide_eq_true f3
                have e2 : HH = true := by rw [← HHH.out]; simp [f1, f3]
                subst e2
                clear f1 f3
                clear MR2
                go_wp2_with (first
                  | (go_at_call 18; with_reducible refine (RMS.out _ _ n2.out).mono ?_; rintro e w5 ⟨rfl, n5⟩; obtain ⟨a0, a1, a2, a3, a4, a5, a6, a7⟩ := KBX.out _ (KO.out _ _ n5.out)))
                go_meet
                exact ⟨rfl, n5⟩
              · have f4 : decide (fr < 3) = false := decide_eq_false f3
                have e2 : HH = false := by rw [← HHH.out]; simp [f3]
                subst e2
                clear f1 f3
                clear MR2
                go_wp2_with (first
                  | (go_at_call 18; with_reducible refine (RMS.out _ _ n2.out).mono ?_; rintro e w5 ⟨rfl, n5⟩; obtain ⟨a0, a1, a2, a3, a4, a5, a6, a7⟩ := KBX.out _ (KO.out _ _ n5.out)))
                go_meet
                exact ⟨rfl, n5⟩
          · have t2 : (tt == 1) = false := by rw [beq_eq_false_iff_ne]; exact t1
            have t3 : decide (tt = 1) = false := decide_eq_false t1
            have e2 : HH = false := by rw [← HHH.out]; simp [t1]
            subst e2
            clear t1
            clear MR2
            go_wp2_with (first
              | (go_at_call 18; with_reducible refine (RMS.out _ _ n2.out).mono ?_; rintro e w5 ⟨rfl, n5⟩; obtain ⟨a0, a1, a2, a3, a4, a5, a6, a7⟩ := KBX.out _ (KO.out _ _ n5.out)))
            go_meet
            exact ⟨rfl, n5⟩
      case rest =>
      obtain ⟨rfl, n5⟩ := hcut
      obtain ⟨a0, a1, a2, a3, a4, a5, a6, a7⟩ := KBX.out _ (KO.out _ _ n5.out)
      have fB := frozen_all (KBH.out _ (KO.out _ _ n5.out)) 2
      have HB5 := Lib.hid (KBH.out _ (KO.out _ _ n5.out))
      have BX5 := Lib.hid (KBX.out _ (KO.out _ _ n5.out))
      go_upto_if 144 with fail
      obtain ⟨w5, hw5⟩ : ∃ w5, wc = w5 := ⟨_, rfl⟩
      subst hw5
      go_cut [] (fun wx => Exists fun t : Int => Hid (wx.cell? ⟨B, 0, none⟩ = some (.int .i64 kd) ∧ wx.cell? ⟨B, 1, none⟩ = some (.int .i64 fr) ∧ wx.cell? ⟨B, 2, none⟩ = some (.int .i64 t) ∧ wx.cell? ⟨B, 3, none⟩ = some (.int .i64 me) ∧ wx.cell? ⟨B, 4, none⟩ = some (.int .i64 ma) ∧ wx.cell? ⟨B, 5, none⟩ = some (.int .i64 ml) ∧ wx.cell? ⟨B, 6, none⟩ = some (.int .i64 mc) ∧ wx.cell? ⟨B, 7, none⟩ = some (.slice A L c)) ∧ Hid (Kn w x zq wx) ∧ Hid ((Msg.right ⟨kd, fr, t, me, ma, ml, mc, Lg⟩ = false) ∨ t ≠ 1 ∨ fr = 1 ∨ 3 ≤ fr))
      case first =>
        cases HH with
        | true =>
          have hh : r = true := by
            have := HHH.out
            cases r with
            | true => rfl
            | false => simp at this
          have hbad := Lib.hid (MR2.out 2 (fun _ => Or.inl rfl) (fun e => by rw [hh] at e; cases e))
          have hkn := Lib.hid (KST.out x _ (.int .i64 2) n5.out HBW.out)
          have h2 := heap_set HB5.out 2 (.int .i64 2)
          have hset := Lib.hid h2
          clear h2 hh
          go_wp2_with fail
          go_meet
          refine ⟨2, ?_, hkn, hbad⟩
          refine ⟨?_, ?_, ?_, ?_, ?_, ?_, ?_, ?_⟩ <;> (rw [cells_all hset.out]; rfl)
        | false =>
          have hbad : Hid ((Msg.right ⟨kd, fr, tt, me, ma, ml, mc, Lg⟩ = false) ∨ tt ≠ 1 ∨ fr = 1 ∨ 3 ≤ fr) := MR2.out tt (fun e => Or.inr ⟨rfl, by
            have := HHH.out
            subst e
            by_cases q1 : tt = 1
            · by_cases q2 : fr = 1
              · exact Or.inr (Or.inl q2)
              · refine Or.inr (Or.inr ?_)
                simp [q1, q2] at this
                exact this
            · exact Or.inl q1⟩) (fun _ => rfl)
          go_wp2_with fail
          go_meet
          exact ⟨tt, BX5, KW.out _ _ n5.out, hbad⟩
      case rest =>
      clear BX5 HB5 fB a0 a1 a2 a3 a4 a5 a6 a7
      obtain ⟨t, hcl, n6, hbad⟩ := hcut
      obtain ⟨a0, a1, a2, a3, a4, a5, a6, a7⟩ := hcl.out
      go_upto_region 24 with (first
        | (go_at_call 15; with_reducible refine (MSG.out _ _ t n6.out).mono ?_; rintro e w7 ⟨A9, c9, rfl, n7⟩)
        | (go_at_call 8; with_reducible refine (STE.out _ _ t _ _ n7.out hbad.out).mono ?_; rintro e w8 ⟨B1, d1, B2, d2, rfl, n8⟩; have y0 := cell_new w8 #[.slice B1 0 d1, .slice B2 0 d2] 32 0; have y1 := cell_new w8 #[.slice B1 0 d1, .slice B2 0 d2] 32 1))
      clear a0 a1 a2 a3 a4 a5 a6 a7 hcl n6 n7 hbad
      go_wp2_with (first
        | (go_at_call 9; with_reducible refine (num_is _ _).mono ?_; rintro e w' ⟨rfl, rfl⟩)
        | (go_at_call 10; with_reducible refine (STA.out _ _ n8.out).mono ?_; rintro e w9 ⟨A8, c8, rfl, n9⟩; have q0 := FLDS.out A8 c8 w9)
        | (go_at_call 11; with_reducible refine (KNO.out _).mono ?_; rintro e w10 ⟨rfl, o10⟩))
      go_ret
      exact ⟨rfl, (KOW.out _ _ n9.out).trans o10.out⟩
end Go.Proofs.Ytlgoenimjmiapaa
