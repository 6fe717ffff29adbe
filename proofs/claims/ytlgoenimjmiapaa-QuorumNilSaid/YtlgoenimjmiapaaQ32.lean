import Derived.Test.YtlgoenimjmiapaaQ31
/-! Within Step: the message's block, the answer's, the node; cells of has, acked, granted. -/
set_option linter.unusedVariables false
namespace Go.Proofs.Ytlgoenimjmiapaa
open Go.RowKit Go.Maps

section
variable {w w' : World} {x : Nat} {q : ND} {ns : List Nt} {ss : List (Msg × Value)} {V : NV}

theorem slice_some {g n c : Nat} {A : Option Addr} {n' c' : Nat} (h : Value.slice (some ⟨g, 0, none⟩) n c = .slice A n' c') : A = some ⟨g, 0, none⟩ ∧ n = n' ∧ c = c' := by
  injection h with h1 h2 h3
  exact ⟨h1.symm, h2, h3⟩

/-- A cell of has has turned. -/
theorem NodeAt.setHas (h : NodeAt w x q ns ss V) {g n c i : Nat} (hv : V.hv = .slice (some ⟨g, 0, none⟩) n c) (hi : i < q.has.length) (a : Int) :
    NodeAt (w.setCell ⟨g, i, none⟩ (.int .i64 a)) x { q with has := q.has.set i a } ns ss V ∧ Next (V.own x) w (V.own x) (w.setCell ⟨g, i, none⟩ (.int .i64 a)) := by
  have hgb : V.hv.ownBlock = some g := by rw [hv]; rfl
  have hblk : (V.blks x)[3]? = some (some g) := by show some _ = _; rw [hgb]
  have ho : Out (Zone.m (fun k => k = g)) w (w.setCell ⟨g, i, none⟩ (.int .i64 a)) := (Out.refl _ _).setCell (Or.inl (by show g = g; rfl)) _
  obtain ⟨far, hn, hrows, hsep⟩ := h.rest ho 3 (by omega) (by omega) (fun k hk _ => Or.inr (by rw [show k = g from hk]; exact hblk)) (V' := V) (o := V.hv.ownBlock) rfl (fun k hk => Or.inl (by show some _ = _; rw [hk]))
  have hgx : x ≠ g := fun e => h.apart 0 3 (by omega) (by omega) x rfl (by rw [hblk, e])
  refine ⟨⟨(Below.heap_setCell w ⟨g, i, none⟩ _ x hgx).trans h.blk, ?_, ?_, ?_, ?_, ?_, ?_, hrows, h.sep⟩, hn⟩
  · exact GRow.keep h.log (fun k hk => far 1 k (by omega) (by omega) (by omega) (by show some _ = _; rw [hk])) (fun _ _ => trivial)
  · have hv := votes_keep (w' := w.setCell ⟨g, i, none⟩ (.int .i64 a)) h (fun k hk => far 2 k (by omega) (by omega) (by omega) (by show some _ = _; rw [hk]))
    exact hv
  · have hh := h.has
    rw [hv] at hh ⊢
    obtain ⟨A, c', hf⟩ := GRow.form hh
    obtain ⟨_, rfl, rfl⟩ := slice_some hf
    rw [List.length_set]
    exact GR.setI hh i hi a
  · exact GRow.keep h.acked (fun k hk => far 4 k (by omega) (by omega) (by omega) (by show some _ = _; rw [hk])) (fun _ _ => trivial)
  · exact GRow.keep h.notes (fun k hk => far 5 k (by omega) (by omega) (by omega) (by show some _ = _; rw [hk])) (fun _ _ => trivial)
  · exact GRow.keep h.send (fun k hk => far 6 k (by omega) (by omega) (by omega) (by show some _ = _; rw [hk])) (fun _ _ => trivial)

/-- A cell of acked has turned. -/
theorem NodeAt.setAcked (h : NodeAt w x q ns ss V) {g n c i : Nat} (hv : V.av = .slice (some ⟨g, 0, none⟩) n c) (hi : i < q.acked.length) (a : Int) :
    NodeAt (w.setCell ⟨g, i, none⟩ (.int .i64 a)) x { q with acked := q.acked.set i a } ns ss V ∧ Next (V.own x) w (V.own x) (w.setCell ⟨g, i, none⟩ (.int .i64 a)) := by
  have hgb : V.av.ownBlock = some g := by rw [hv]; rfl
  have hblk : (V.blks x)[4]? = some (some g) := by show some _ = _; rw [hgb]
  have ho : Out (Zone.m (fun k => k = g)) w (w.setCell ⟨g, i, none⟩ (.int .i64 a)) := (Out.refl _ _).setCell (Or.inl (by show g = g; rfl)) _
  obtain ⟨far, hn, hrows, hsep⟩ := h.rest ho 4 (by omega) (by omega) (fun k hk _ => Or.inr (by rw [show k = g from hk]; exact hblk)) (V' := V) (o := V.av.ownBlock) rfl (fun k hk => Or.inl (by show some _ = _; rw [hk]))
  have hgx : x ≠ g := fun e => h.apart 0 4 (by omega) (by omega) x rfl (by rw [hblk, e])
  refine ⟨⟨(Below.heap_setCell w ⟨g, i, none⟩ _ x hgx).trans h.blk, ?_, ?_, ?_, ?_, ?_, ?_, hrows, h.sep⟩, hn⟩
  · exact GRow.keep h.log (fun k hk => far 1 k (by omega) (by omega) (by omega) (by show some _ = _; rw [hk])) (fun _ _ => trivial)
  · have hv := votes_keep (w' := w.setCell ⟨g, i, none⟩ (.int .i64 a)) h (fun k hk => far 2 k (by omega) (by omega) (by omega) (by show some _ = _; rw [hk]))
    exact hv
  · exact GRow.keep h.has (fun k hk => far 3 k (by omega) (by omega) (by omega) (by show some _ = _; rw [hk])) (fun _ _ => trivial)
  · have hh := h.acked
    rw [hv] at hh ⊢
    obtain ⟨A, c', hf⟩ := GRow.form hh
    obtain ⟨_, rfl, rfl⟩ := slice_some hf
    rw [List.length_set]
    exact GR.setI hh i hi a
  · exact GRow.keep h.notes (fun k hk => far 5 k (by omega) (by omega) (by omega) (by show some _ = _; rw [hk])) (fun _ _ => trivial)
  · exact GRow.keep h.send (fun k hk => far 6 k (by omega) (by omega) (by omega) (by show some _ = _; rw [hk])) (fun _ _ => trivial)

/-- A vote more. -/
theorem NodeAt.vote (h : NodeAt w x q ns ss V) {gs : List Int} (hgs : q.granted = some gs) {b : Nat} (hb : V.gv = .map (some b)) {gs' : List Int} (hv : VotesAt w' b gs') (hgr : w.grownBy w' (some b)) :
    NodeAt w' x { q with granted := some gs' } ns ss V ∧ Next (V.own x) w (V.own x) w' := by
  have hblk : (V.blks x)[2]? = some (some b) := by show some (mapBlock V.gv) = _; rw [hb]; rfl
  have ho : Out (Zone.m (fun k => k = b)) w w' := (Out.refl _ _).grown hgr (fun k hk => by injection hk with hk; subst hk; exact Or.inl rfl)
  obtain ⟨far, hn, hrows, hsep⟩ := h.rest ho 2 (by omega) (by omega) (fun k hk _ => Or.inr (by rw [show k = b from hk]; exact hblk)) (V' := V) (o := mapBlock V.gv) rfl (fun k hk => Or.inl (by show some _ = _; rw [hk]))
  have hgx : x ≠ b := fun e => h.apart 0 2 (by omega) (by omega) x rfl (by rw [hblk, e])
  refine ⟨⟨(ho.block x (heap_lt h.blk) hgx).trans h.blk, ?_, ⟨b, hb, hv⟩, ?_, ?_, ?_, ?_, hrows, h.sep⟩, hn⟩
  · exact GRow.keep h.log (fun k hk => far 1 k (by omega) (by omega) (by omega) (by show some _ = _; rw [hk])) (fun _ _ => trivial)
  · exact GRow.keep h.has (fun k hk => far 3 k (by omega) (by omega) (by omega) (by show some _ = _; rw [hk])) (fun _ _ => trivial)
  · exact GRow.keep h.acked (fun k hk => far 4 k (by omega) (by omega) (by omega) (by show some _ = _; rw [hk])) (fun _ _ => trivial)
  · exact GRow.keep h.notes (fun k hk => far 5 k (by omega) (by omega) (by omega) (by show some _ = _; rw [hk])) (fun _ _ => trivial)
  · exact GRow.keep h.send (fun k hk => far 6 k (by omega) (by omega) (by omega) (by show some _ = _; rw [hk])) (fun _ _ => trivial)
end

section
variable {w w' : World} {x : Nat} {c c' : NS} {V : NV} {m : Msg} {v : Value} {B R : Nat}

/-- Within Step. -/
def StepAt (w : World) (x : Nat) (V : NV) (c : NS) (m : Msg) (v : Value) (B R : Nat) (W : World) : Prop :=
  ∃ V', (NAt W x c V' ∧ Next (V.own x) w (V'.own x) W) ∧ (W.heap[R]? = some resB ∧ w.heap.size ≤ R) ∧ (W.heap[B]? = some (.cells (m.cells v).toArray 36 (0, 0)) ∧ ¬ V'.own x B ∧ w.heap.size ≤ B) ∧ RRow (V'.own x) W v m.log.length 2 (encL m.log)

theorem StepAt.held {W : World} (h : StepAt w x V c m v B R W) : Held w x V c R W := by
  obtain ⟨V', ⟨h1, h2⟩, ⟨h3, h4⟩, _⟩ := h
  exact ⟨V', h1, h2, h3, h4⟩
theorem StepAt.any {W W' : World} (h : StepAt w x V c m v B R W) (ho : Out Zone.no W W') : StepAt w x V c m v B R W' := by
  obtain ⟨V', ⟨h1, h2⟩, ⟨h3, h4⟩, ⟨h5, h6, h7⟩, h8⟩ := h
  exact ⟨V', ⟨h1.any ho, h2.trans (Next.of_out ho)⟩, ⟨ho.get h3 id, h4⟩, ⟨ho.get h5 id, h6, h7⟩, h8.any ho⟩
theorem StepAt.gone {W W' : World} {V' : NV} (h1 : NAt W x c V') (h2 : Next (V.own x) w (V'.own x) W) (h3 : W.heap[R]? = some resB ∧ w.heap.size ≤ R) (h5 : W.heap[B]? = some (.cells (m.cells v).toArray 36 (0, 0)) ∧ ¬ V'.own x B ∧ w.heap.size ≤ B)
    (h8 : RRow (V'.own x) W v m.log.length 2 (encL m.log)) (hg : Gone W x V' c' W') : StepAt w x V c' m v B R W' := by
  obtain ⟨V2, k1, k2⟩ := hg
  refine ⟨V2, ⟨k1, h2.trans k2⟩, ⟨(k2.out.block R (heap_lt h3.1) (h1.not32 h3.1)).trans h3.1, h3.2⟩, ⟨(k2.out.block B (heap_lt h5.1) h5.2.1).trans h5.1, fun e => ?_, h5.2.2⟩, ?_⟩
  · rcases k2.sub B e with e | e
    · exact h5.2.1 e
    · have := heap_lt h5.1; omega
  · exact h8.next k2.out (fun k hk _ => hk) (fun k hk hlt => by
      rcases k2.sub k hk with e | e
      · exact e
      · omega)
theorem StepAt.step {W : World} (h : StepAt w x V c m v B R W) {f : FuncId} {args : Array Value} {u : Value} (hc : ∀ V', NAt W x c V' → Calls Try.prog f args W fun e w' => e = .returned u ∧ Gone W x V' c' w') :
    Calls Try.prog f args W fun e w' => e = .returned u ∧ StepAt w x V c' m v B R w' := by
  obtain ⟨V', ⟨h1, h2⟩, h3, h5, h8⟩ := h
  refine (hc V' h1).mono ?_
  rintro e w' ⟨rfl, hg⟩
  exact ⟨rfl, StepAt.gone h1 h2 h3 h5 h8 hg⟩
theorem StepAt.start (h : NAt w x c V) (hr : RRow (V.own x) w v m.log.length 2 (encL m.log)) : StepAt w x V c m v w.heap.size (w.heap.size + 1) ((w.alloc (.cells (m.cells v).toArray 36)).alloc (.cells #[.slice none 0 0, .slice none 0 0] 32)) := by
  have o1 := (Out.refl Zone.no w).alloc (.cells (m.cells v).toArray 36)
  have o2 := o1.alloc (.cells #[.slice none 0 0, .slice none 0 0] 32)
  have hs : (w.alloc (.cells (m.cells v).toArray 36)).heap.size = w.heap.size + 1 := by simp
  have hR := heap_alloc_new (w.alloc (.cells (m.cells v).toArray 36)) (.cells #[.slice none 0 0, .slice none 0 0] 32)
  rw [hs] at hR
  exact ⟨V, ⟨h.any o2, Next.of_out o2⟩, ⟨hR, by omega⟩, ⟨((Out.refl Zone.no _).alloc _).get (heap_alloc_new w _) id, fun e => Nat.lt_irrefl _ (own_lt h e), Nat.le_refl _⟩, hr.any o2⟩

theorem StepAt.box {W : World} (h : StepAt w x V c m v B R W) (i : Nat) : W.cell? ⟨B, i, none⟩ = (m.cells v)[i]? := by
  obtain ⟨V', _, _, ⟨h5, _⟩, _⟩ := h
  rw [cells_all h5]
  simp
theorem StepAt.node {W : World} (h : StepAt w x V c m v B R W) : W.cell? ⟨x, 0, none⟩ = some (.int .i64 c.q.st.ep) ∧ W.cell? ⟨x, 3, none⟩ = some (.int .i64 (c.q.id : Int)) ∧ W.cell? ⟨x, 4, none⟩ = some (.int .i64 (c.q.n : Int)) ∧ W.cell? ⟨x, 5, none⟩ = some (.int .i64 c.q.role) ∧ W.frozen? ⟨x, 5, none⟩ = false := by
  obtain ⟨V', ⟨⟨ss, _, k⟩, _⟩, _⟩ := h
  exact ⟨k.blk.c0, k.c3, k.c4, k.c5, frozen_all k.blk 5⟩
end
end Go.Proofs.Ytlgoenimjmiapaa
