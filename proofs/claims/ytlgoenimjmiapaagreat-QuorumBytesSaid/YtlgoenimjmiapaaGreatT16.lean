import Derived.Test.YtlgoenimjmiapaaGreatT15
set_option linter.unusedSimpArgs false
set_option linter.unusedVariables false
set_option linter.unusedSectionVars false
/-! Within Step: the message's block, the answer's, the node; cells of has, acked, granted. -/
set_option linter.unusedVariables false
set_option linter.unusedSectionVars false
namespace Go.Proofs.YtlgoenimjmiapaaGreat
open Go.RowKit Go.Maps

section
variable [Far] {w w' : World} {x : Nat} {q : ND} {ns : List Nt} {ss : List (Msg × Value)} {V : NV}

theorem slice_some {g n c : Nat} {A : Option Addr} {n' c' : Nat} (h : Value.slice (some ⟨g, 0, none⟩) n c = .slice A n' c') : A = some ⟨g, 0, none⟩ ∧ n = n' ∧ c = c' := by
  injection h with h1 h2 h3
  exact ⟨h1.symm, h2, h3⟩

/-- A cell of has has turned. -/
theorem NodeAt.setHas (h : NodeAt w x q ns ss V) {g n c i : Nat} (hv : V.hv = .slice (some ⟨g, 0, none⟩) n c) (hi : i < q.has.length) (a : Int) :
    NodeAt (w.setCell ⟨g, i, none⟩ (.int .i64 a)) x { q with has := q.has.set i a } ns ss V ∧ Next (V.own x) w (V.own x) (w.setCell ⟨g, i, none⟩ (.int .i64 a)) := by
  have hgb : V.hv.ownBlock = some g := by rw [hv]; rfl
  have hblk : (V.blks x)[3]? = some (some g) := by show some _ = _; rw [hgb]
  have ho : Out (Zone.m (fun k => k = g)) w (w.setCell ⟨g, i, none⟩ (.int .i64 a)) := (Out.refl _ _).setCell (Or.inl (by show g = g; rfl)) _
  obtain ⟨far, hn, hrows, hsep⟩ := h.rest ho 3 (by omega) (by omega) (fun k hk _ => Or.inr (by rw [show k = g from hk]; exact hblk)) (V' := V) (o := V.hv.ownBlock) rfl (fun k hk => Or.inl (by show some _ = _; rw [hk]))
  have hgx : x ≠ g := fun e => h.apart 0 3 (by omega) (by omega) x rfl (by rw [hblk, e])
  refine ⟨⟨(Below.heap_setCell w ⟨g, i, none⟩ _ x hgx).trans h.blk, ?_, ?_, ?_, ?_, ?_, ?_, hrows, h.sep, h.far.next hn⟩, hn⟩
  · exact GRow.keep h.log (fun k hk => far 1 k (by omega) (by omega) (by omega) (by show some _ = _; rw [hk])) (fun _ _ => trivial)
  · have hv := votes_keep (w' := w.setCell ⟨g, i, none⟩ (.int .i64 a)) h (fun k hk => far 2 k (by omega) (by omega) (by omega) (by show some _ = _; rw [hk]))
    exact hv
  · have hh := h.has
    rw [hv] at hh ⊢
    obtain ⟨A, c', hf⟩ := GRow.form hh
    obtain ⟨_, rfl, rfl⟩ := slice_some hf
    rw [List.length_set]
    exact GR.setI hh i hi a
  · exact GRow.keep h.acked (fun k hk => far 4 k (by omega) (by omega) (by omega) (by show some _ = _; rw [hk])) (fun _ _ => trivial)
  · exact GRow.keep h.notes (fun k hk => far 5 k (by omega) (by omega) (by omega) (by show some _ = _; rw [hk])) (fun _ _ => trivial)
  · exact GRow.keep h.send (fun k hk => far 6 k (by omega) (by omega) (by omega) (by show some _ = _; rw [hk])) (fun _ _ => trivial)

/-- A cell of acked has turned. -/
theorem NodeAt.setAcked (h : NodeAt w x q ns ss V) {g n c i : Nat} (hv : V.av = .slice (some ⟨g, 0, none⟩) n c) (hi : i < q.acked.length) (a : Int) :
    NodeAt (w.setCell ⟨g, i, none⟩ (.int .i64 a)) x { q with acked := q.acked.set i a } ns ss V ∧ Next (V.own x) w (V.own x) (w.setCell ⟨g, i, none⟩ (.int .i64 a)) := by
  have hgb : V.av.ownBlock = some g := by rw [hv]; rfl
  have hblk : (V.blks x)[4]? = some (some g) := by show some _ = _; rw [hgb]
  have ho : Out (Zone.m (fun k => k = g)) w (w.setCell ⟨g, i, none⟩ (.int .i64 a)) := (Out.refl _ _).setCell (Or.inl (by show g = g; rfl)) _
  obtain ⟨far, hn, hrows, hsep⟩ := h.rest ho 4 (by omega) (by omega) (fun k hk _ => Or.inr (by rw [show k = g from hk]; exact hblk)) (V' := V) (o := V.av.ownBlock) rfl (fun k hk => Or.inl (by show some _ = _; rw [hk]))
  have hgx : x ≠ g := fun e => h.apart 0 4 (by omega) (by omega) x rfl (by rw [hblk, e])
  refine ⟨⟨(Below.heap_setCell w ⟨g, i, none⟩ _ x hgx).trans h.blk, ?_, ?_, ?_, ?_, ?_, ?_, hrows, h.sep, h.far.next hn⟩, hn⟩
  · exact GRow.keep h.log (fun k hk => far 1 k (by omega) (by omega) (by omega) (by show some _ = _; rw [hk])) (fun _ _ => trivial)
  · have hv := votes_keep (w' := w.setCell ⟨g, i, none⟩ (.int .i64 a)) h (fun k hk => far 2 k (by omega) (by omega) (by omega) (by show some _ = _; rw [hk]))
    exact hv
  · exact GRow.keep h.has (fun k hk => far 3 k (by omega) (by omega) (by omega) (by show some _ = _; rw [hk])) (fun _ _ => trivial)
  · have hh := h.acked
    rw [hv] at hh ⊢
    obtain ⟨A, c', hf⟩ := GRow.form hh
    obtain ⟨_, rfl, rfl⟩ := slice_some hf
    rw [List.length_set]
    exact GR.setI hh i hi a
  · exact GRow.keep h.notes (fun k hk => far 5 k (by omega) (by omega) (by omega) (by show some _ = _; rw [hk])) (fun _ _ => trivial)
  · exact GRow.keep h.send (fun k hk => far 6 k (by omega) (by omega) (by omega) (by show some _ = _; rw [hk])) (fun _ _ => trivial)

/-- A vote more. -/
theorem NodeAt.vote (h : NodeAt w x q ns ss V) {gs : List Int} (hgs : q.granted = some gs) {b : Nat} (hb : V.gv = .map (some b)) {gs' : List Int} (hv : VotesAt w' b gs') (hgr : w.grownBy w' (some b)) :
    NodeAt w' x { q with granted := some gs' } ns ss V ∧ Next (V.own x) w (V.own x) w' := by
  have hblk : (V.blks x)[2]? = some (some b) := by show some (mapBlock V.gv) = _; rw [hb]; rfl
  have ho : Out (Zone.m (fun k => k = b)) w w' := (Out.refl _ _).grown hgr (fun k hk => by injection hk with hk; subst hk; exact Or.inl rfl)
  obtain ⟨far, hn, hrows, hsep⟩ := h.rest ho 2 (by omega) (by omega) (fun k hk _ => Or.inr (by rw [show k = b from hk]; exact hblk)) (V' := V) (o := mapBlock V.gv) rfl (fun k hk => Or.inl (by show some _ = _; rw [hk]))
  have hgx : x ≠ b := fun e => h.apart 0 2 (by omega) (by omega) x rfl (by rw [hblk, e])
  refine ⟨⟨(ho.block x (heap_lt h.blk) hgx).trans h.blk, ?_, ⟨b, hb, hv⟩, ?_, ?_, ?_, ?_, hrows, h.sep, h.far.next hn⟩, hn⟩
  · exact GRow.keep h.log (fun k hk => far 1 k (by omega) (by omega) (by omega) (by show some _ = _; rw [hk])) (fun _ _ => trivial)
  · exact GRow.keep h.has (fun k hk => far 3 k (by omega) (by omega) (by omega) (by show some _ = _; rw [hk])) (fun _ _ => trivial)
  · exact GRow.keep h.acked (fun k hk => far 4 k (by omega) (by omega) (by omega) (by show some _ = _; rw [hk])) (fun _ _ => trivial)
  · exact GRow.keep h.notes (fun k hk => far 5 k (by omega) (by omega) (by omega) (by show some _ = _; rw [hk])) (fun _ _ => trivial)
  · exact GRow.keep h.send (fun k hk => far 6 k (by omega) (by omega) (by omega) (by show some _ = _; rw [hk])) (fun _ _ => trivial)
end

section
variable [Far] {w w' : World} {x : Nat} {c c' : NS} {V : NV} {m : Msg} {v : Value} {B R : Nat}

/-- Within Step. -/
def StepAt (w : World) (x : Nat) (V : NV) (c : NS) (m : Msg) (v : Value) (B R : Nat) (W : World) : Prop :=
  ∃ V', (NAt W x c V' ∧ Next (V.own x) w (V'.own x) W) ∧ (W.heap[R]? = some resB ∧ w.heap.size ≤ R) ∧ (W.heap[B]? = some (.cells (m.cells v).toArray 49 (0, 0)) ∧ ¬ V'.own x B ∧ w.heap.size ≤ B) ∧ RRow (V'.own x) W v m.log.length 2 (encL m.log)

theorem StepAt.held {W : World} (h : StepAt w x V c m v B R W) : Held w x V c R W := by
  obtain ⟨V', ⟨h1, h2⟩, ⟨h3, h4⟩, _⟩ := h
  exact ⟨V', h1, h2, h3, h4⟩
theorem StepAt.any {W W' : World} (h : StepAt w x V c m v B R W) (ho : Out Zone.no W W') : StepAt w x V c m v B R W' := by
  obtain ⟨V', ⟨h1, h2⟩, ⟨h3, h4⟩, ⟨h5, h6, h7⟩, h8⟩ := h
  exact ⟨V', ⟨h1.any ho, h2.trans (Next.of_out ho)⟩, ⟨ho.get h3 id, h4⟩, ⟨ho.get h5 id, h6, h7⟩, h8.any ho⟩
theorem StepAt.gone {W W' : World} {V' : NV} (h1 : NAt W x c V') (h2 : Next (V.own x) w (V'.own x) W) (h3 : W.heap[R]? = some resB ∧ w.heap.size ≤ R) (h5 : W.heap[B]? = some (.cells (m.cells v).toArray 49 (0, 0)) ∧ ¬ V'.own x B ∧ w.heap.size ≤ B)
    (h8 : RRow (V'.own x) W v m.log.length 2 (encL m.log)) (hg : Gone W x V' c' W') : StepAt w x V c' m v B R W' := by
  obtain ⟨V2, k1, k2⟩ := hg
  refine ⟨V2, ⟨k1, h2.trans k2⟩, ⟨(k2.out.block R (heap_lt h3.1) (h1.not32 h3.1)).trans h3.1, h3.2⟩, ⟨(k2.out.block B (heap_lt h5.1) h5.2.1).trans h5.1, fun e => ?_, h5.2.2⟩, ?_⟩
  · rcases k2.sub B e with e | e
    · exact h5.2.1 e
    · have := heap_lt h5.1; omega
  · exact h8.next k2.out (fun k hk _ => hk) (fun k hk hlt => by
      rcases k2.sub k hk with e | e
      · exact e
      · omega)
theorem StepAt.step {W : World} (h : StepAt w x V c m v B R W) {f : FuncId} {args : Array Value} {u : Value} (hc : ∀ V', NAt W x c V' → Calls Tryz.prog f args W fun e w' => e = .returned u ∧ Gone W x V' c' w') :
    Calls Tryz.prog f args W fun e w' => e = .returned u ∧ StepAt w x V c' m v B R w' := by
  obtain ⟨V', ⟨h1, h2⟩, h3, h5, h8⟩ := h
  refine (hc V' h1).mono ?_
  rintro e w' ⟨rfl, hg⟩
  exact ⟨rfl, StepAt.gone h1 h2 h3 h5 h8 hg⟩
theorem StepAt.start (h : NAt w x c V) (hr : RRow (V.own x) w v m.log.length 2 (encL m.log)) : StepAt w x V c m v w.heap.size (w.heap.size + 1) ((w.alloc (.cells (m.cells v).toArray 49)).alloc (.cells #[.slice none 0 0, .slice none 0 0] 86)) := by
  have o1 := (Out.refl Zone.no w).alloc (.cells (m.cells v).toArray 49)
  have o2 := o1.alloc (.cells #[.slice none 0 0, .slice none 0 0] 86)
  have hs : (w.alloc (.cells (m.cells v).toArray 49)).heap.size = w.heap.size + 1 := by simp
  have hR := heap_alloc_new (w.alloc (.cells (m.cells v).toArray 49)) (.cells #[.slice none 0 0, .slice none 0 0] 86)
  rw [hs] at hR
  exact ⟨V, ⟨h.any o2, Next.of_out o2⟩, ⟨hR, by omega⟩, ⟨((Out.refl Zone.no _).alloc _).get (heap_alloc_new w _) id, fun e => Nat.lt_irrefl _ (own_lt h e), Nat.le_refl _⟩, hr.any o2⟩

theorem StepAt.box {W : World} (h : StepAt w x V c m v B R W) (i : Nat) : W.cell? ⟨B, i, none⟩ = (m.cells v)[i]? := by
  obtain ⟨V', _, _, ⟨h5, _⟩, _⟩ := h
  rw [cells_all h5]
  simp
theorem StepAt.node {W : World} (h : StepAt w x V c m v B R W) : W.cell? ⟨x, 0, none⟩ = some (.int .i64 c.q.st.ep) ∧ W.cell? ⟨x, 3, none⟩ = some (.int .i64 (c.q.id : Int)) ∧ W.cell? ⟨x, 4, none⟩ = some (.int .i64 (c.q.n : Int)) ∧ W.cell? ⟨x, 5, none⟩ = some (.int .i64 c.q.role) ∧ W.frozen? ⟨x, 5, none⟩ = false := by
  obtain ⟨V', ⟨⟨ss, _, k⟩, _⟩, _⟩ := h
  exact ⟨k.blk.c0, k.c3, k.c4, k.c5, frozen_all k.blk 5⟩
end
end Go.Proofs.YtlgoenimjmiapaaGreat

/-! Step, plain; messages that are refused. -/
set_option linter.unusedVariables false
set_option linter.unusedSectionVars false
namespace Go.Proofs.YtlgoenimjmiapaaGreat
open Go.RowKit Go.Maps

def NS.role0 (c : NS) : NS := { c with q := { c.q with role := 0 } }
def ND.front (q : ND) (m : Msg) : NS := if q.st.ep < m.ep then (NS.note ⟨q, [], []⟩ ⟨1, m.ep, -1, ⟨0, []⟩⟩).role0 else ⟨q, [], []⟩
def nackMsg (m : Msg) : Msg := ⟨5, 0, m.frm, 0, 0, 0, 0, []⟩
def NS.vote (c : NS) (i : Int) : NS := { c with q := { c.q with granted := some (addV (c.q.granted.getD []) i) } }
def NS.grants (c : NS) (m : Msg) : NS := if c.q.role = 1 then (c.vote m.frm).count else c
def NS.setAcked (c : NS) (i : Nat) (a : Int) : NS := { c with q := { c.q with acked := c.q.acked.set i a } }
def NS.setHas (c : NS) (i : Nat) (a : Int) : NS := { c with q := { c.q with has := c.q.has.set i a } }
def NS.acks (c : NS) (m : Msg) : NS :=
  if c.q.role = 2 then (((c.setAcked m.frm.toNat (max (c.q.acked.getD m.frm.toNat 0) (min m.at_ (c.q.st.log.length : Int)))).setHas m.frm.toNat (max (c.q.has.getD m.frm.toNat 0) (min m.at_ (c.q.st.log.length : Int))))).rise
  else c
def NS.nacks (c : NS) (m : Msg) : NS :=
  if c.q.role = 2 ∧ m.at_ < c.q.has.getD m.frm.toNat 0 then (c.setHas m.frm.toNat (max m.at_ (c.q.acked.getD m.frm.toNat 0))).ship m.frm.toNat
  else c
/-- How many entries of l are in the log behind i already. -/
def sameN : List Ent → List Ent → Nat
  | a :: r, b :: s => if a.ep = b.ep then sameN r s + 1 else 0
  | _, _ => 0
def NS.puts (c : NS) (l : List Ent) : NS := l.foldl (fun c y => c.note ⟨3, 0, 0, y⟩) c
def NS.rises (c : NS) (k : Int) : NS := { c with q := { c.q with commit := (max (c.q.commit : Int) k).toNat } }
def NS.stands (c : NS) : NS := if c.q.role = 1 then c.role0 else c
def NS.takes (c : NS) (m : Msg) : NS :=
  let i := sameN (c.q.st.log.drop m.at_.toNat) m.log
  let c2 := if i < m.log.length ∧ m.at_ + (i : Int) < (c.q.st.log.length : Int) then c.note ⟨2, 0, m.at_ + (i : Int), ⟨0, []⟩⟩ else c
  ((c2.puts (m.log.drop i)).rises (min m.commit (m.at_ + (m.log.length : Int)))).sent ⟨4, 0, m.frm, 0, m.at_ + (m.log.length : Int), 0, 0, []⟩
def NS.shipped (c : NS) (m : Msg) : NS :=
  if (c.q.st.log.length : Int) < m.at_ ∨ c.q.st.last m.at_.toNat ≠ m.last then c.stands.sent ⟨5, 0, m.frm, 0, max 0 (min (c.q.st.log.length : Int) (m.at_ - 1)), 0, 0, []⟩
  else if 2048 < m.at_ + (m.log.length : Int) ∨ c.q.role = 2 then c.stands
  else c.stands.takes m
def NS.act (c : NS) (m : Msg) : NS :=
  if m.kind = 1 then c.asked m else if m.kind = 2 then c.grants m else if m.kind = 3 then c.shipped m else if m.kind = 4 then c.acks m else if m.kind = 5 then c.nacks m else c
def ND.step (q : ND) (m : Msg) : NS × Int :=
  if m.right = false ∨ m.to ≠ (q.id : Int) ∨ m.frm = (q.id : Int) ∨ (q.n : Int) ≤ m.frm then (⟨q, [], []⟩, 1)
  else if m.ep < (q.front m).q.st.ep then (if m.kind = 1 ∨ m.kind = 3 then (q.front m).sent (nackMsg m) else q.front m, 0)
  else ((q.front m).act m, 0)

/-- A region that reads, whose calls stay within a class of worlds: one walk. -/
theorem region_class {P : Program} {id : Nat} {Q : Exit → Act → World → Prop} {a : Act} {w : World} {l : List Oper} {S : Type} (f : S → World) (hm : P.follows .mixedOrders = true) (hB : Region.lexB .any l.toArray = true) (hC : ∃ s, w.drew = f s)
    (h : wpQuiet P l.toArray (fun w' => ∃ n : S, w' = f n) (fun a' => ∀ w', (∃ n : S, w' = f n) → Q .normal a' w') l a) : (Code.region id l.toArray true).wp P Q a w :=
  wp_region_quiet (C := fun w' => ∃ n : S, w' = f n) hm hB hC (by simpa using h)
theorem class_of (C : World → Prop) : ∃ (S : Type) (f : S → World), (∀ s, C (f s)) ∧ ∀ W, C W → ∃ s, W = f s :=
  ⟨{W : World // C W}, Subtype.val, fun s => s.2, fun W h => ⟨⟨W, h⟩, rfl⟩⟩

section
variable [Far] {w w' : World} {x : Nat} {c c' : NS} {V : NV}

set_option maxRecDepth 100000 in
set_option maxHeartbeats 4000000 in
theorem step_bad {q : ND} (h : NAt w x ⟨q, [], []⟩ V) (h0 : 0 < q.n) (h7 : q.n ≤ 7) (m : Msg) (v : Value) (hr : RRow (V.own x) w v m.log.length 2 (encL m.log)) (hml : m.log.length ≤ 9223372036854775807) (hfit : Fits m.log)
    (hbad : m.right = false ∨ m.to ≠ (q.id : Int) ∨ m.frm = (q.id : Int) ∨ (q.n : Int) ≤ m.frm) :
    Calls Tryz.prog 41 #[.pointer (some ⟨x, 0, none⟩), .agg (m.cells v).toArray] w fun e w' => Answered w x V (⟨q, [], []⟩, 1) e w' := by
  have HS := Lib.hid (StepAt.start h hr)
  obtain ⟨Am, cm, hv, _, _⟩ := hr.form
  have HR := Lib.hid hr
  have HN : Hid (∀ W, StepAt w x V ⟨q, [], []⟩ m v w.heap.size (w.heap.size + 1) W → Calls Tryz.prog 61 #[.pointer (some ⟨x, 0, none⟩)] W fun e w' => e = .returned (.bool false) ∧ W = w') := fun W hW => by
    obtain ⟨V', ⟨k, _⟩, _⟩ := hW
    exact none_g k h0 h7
  have HM : Hid (∀ W, StepAt w x V ⟨q, [], []⟩ m v w.heap.size (w.heap.size + 1) W → Calls Tryz.prog 33 #[.agg (m.cells v).toArray] W fun e w' => e = .returned (.bool m.right) ∧ StepAt w x V ⟨q, [], []⟩ m v w.heap.size (w.heap.size + 1) w') := fun W hW => by
    obtain ⟨V', _, _, _, k⟩ := id hW
    refine (mright_is W _ m v k hml hfit).mono ?_
    rintro e w' ⟨rfl, ho⟩
    exact ⟨rfl, hW.any ho⟩
  subst hv
  obtain ⟨L, hL⟩ : ∃ L, m.log.length = L := ⟨_, rfl⟩
  obtain ⟨kd, hkd⟩ : ∃ kd, m.kind = kd := ⟨_, rfl⟩
  obtain ⟨fr, hfr⟩ : ∃ fr, m.frm = fr := ⟨_, rfl⟩
  obtain ⟨tt, hto⟩ : ∃ tt, m.to = tt := ⟨_, rfl⟩
  obtain ⟨me, hme⟩ : ∃ me, m.ep = me := ⟨_, rfl⟩
  obtain ⟨ma, hma⟩ : ∃ ma, m.at_ = ma := ⟨_, rfl⟩
  obtain ⟨ml, hml2⟩ : ∃ ml, m.last = ml := ⟨_, rfl⟩
  obtain ⟨mc, hmc⟩ : ∃ mc, m.commit = mc := ⟨_, rfl⟩
  obtain ⟨D, hD⟩ : ∃ D, q.id = D := ⟨_, rfl⟩
  obtain ⟨N, hN⟩ : ∃ N, q.n = N := ⟨_, rfl⟩
  have hag : (m.cells (.slice Am m.log.length cm)).toArray = #[.int .i64 kd, .int .i64 fr, .int .i64 tt, .int .i64 me, .int .i64 ma, .int .i64 ml, .int .i64 mc, .slice Am L cm] := by
    unfold Msg.cells; rw [hkd, hfr, hto, hme, hma, hml2, hmc, hL]
  obtain ⟨B, hB⟩ : ∃ B, w.heap.size = B := ⟨_, rfl⟩
  rw [hB] at HS HN HM
  obtain ⟨P, hP⟩ : ∃ P : World → Prop, StepAt w x V ⟨q, [], []⟩ m (.slice Am m.log.length cm) B (B + 1) = P := ⟨_, rfl⟩
  have KC : Hid (∀ W, P W → ((W.cell? ⟨B, 0, none⟩ = some (.int .i64 kd) ∧ W.cell? ⟨B, 1, none⟩ = some (.int .i64 fr) ∧ W.cell? ⟨B, 2, none⟩ = some (.int .i64 tt) ∧ W.cell? ⟨B, 3, none⟩ = some (.int .i64 me) ∧ W.cell? ⟨B, 4, none⟩ = some (.int .i64 ma) ∧ W.cell? ⟨B, 5, none⟩ = some (.int .i64 ml) ∧ W.cell? ⟨B, 6, none⟩ = some (.int .i64 mc) ∧ W.cell? ⟨B, 7, none⟩ = some (.slice Am L cm)) ∧ W.cell? ⟨x, 3, none⟩ = some (.int .i64 (D : Int)) ∧ W.cell? ⟨x, 4, none⟩ = some (.int .i64 (N : Int)))) := fun W hW => by
    rw [← hP] at hW
    obtain ⟨_, k3, k4, _⟩ := hW.node
    rw [← hkd, ← hfr, ← hto, ← hme, ← hma, ← hml2, ← hmc, ← hL, ← hD, ← hN]
    exact ⟨⟨hW.box 0, hW.box 1, hW.box 2, hW.box 3, hW.box 4, hW.box 5, hW.box 6, hW.box 7⟩, k3, k4⟩
  have KR : Hid (∀ W, P W → Held w x V ⟨q, [], []⟩ (B + 1) W) := fun W hW => by
    rw [← hP] at hW
    exact hW.held
  have KO : Hid (∀ W W', P W → Out Zone.no W W' → P W') := fun W W' hW ho => by
    rw [← hP] at hW ⊢
    exact hW.any ho
  rw [hag, hP] at HS HM
  rw [hP] at HN
  rw [hag]
  obtain ⟨r, hr2⟩ : ∃ r, m.right = r := ⟨_, rfl⟩
  rw [hr2] at HM hbad
  rw [hto, hD, hfr, hN] at hbad
  cases r with
  | false =>
    clear hL hkd hfr hto hme hma hml2 hmc hD hN hag hP hr2 h HR hfit hml hr h0 h7 hbad
    go_enter Tryz.func41, Tryz.ntmps41
    go_wp2_with fail
    obtain ⟨W0, hW0⟩ : ∃ W0, (w.alloc (.cells #[.int .i64 kd, .int .i64 fr, .int .i64 tt, .int .i64 me, .int .i64 ma, .int .i64 ml, .int .i64 mc, .slice Am L cm] 49)).alloc (.cells #[.slice none 0 0, .slice none 0 0] 86) = W0 := ⟨_, rfl⟩
    rw [hW0] at HS ⊢
    clear hW0 hB
    have HSD : Hid (P W0.drew) := KO.out _ _ HS.out ((Out.refl _ _).drew)
    obtain ⟨S, f, hPf, hsur⟩ := class_of P
    haveI : Nonempty S := (hsur _ HSD.out).elim fun s _ => ⟨s⟩
    have N27 : Hid (∀ n : S, Calls Tryz.prog 61 #[.pointer (some ⟨x, 0, none⟩)] (f n) fun e w'' => e = .returned (.bool false) ∧ ∃ k : S, w'' = f k) := fun n => (HN.out (f n) (hPf n)).mono (fun e w' ⟨h1, h2⟩ => ⟨h1, n, h2.symm⟩)
    have N28 : Hid (∀ n : S, Calls Tryz.prog 33 #[.agg #[.int .i64 kd, .int .i64 fr, .int .i64 tt, .int .i64 me, .int .i64 ma, .int .i64 ml, .int .i64 mc, .slice Am L cm]] (f n) fun e w'' => e = .returned (.bool false) ∧ ∃ k : S, w'' = f k) := fun n => (HM.out (f n) (hPf n)).mono (fun e w' ⟨h1, h2⟩ => ⟨h1, hsur _ h2⟩)
    have y0 := fun W : S => (show (f W).cell? ⟨B, 0, none⟩ = some (.int .i64 kd) from (KC.out (f W) (hPf W)).1.1)
    have y1 := fun W : S => (show (f W).cell? ⟨B, 1, none⟩ = some (.int .i64 fr) from (KC.out (f W) (hPf W)).1.2.1)
    have y2 := fun W : S => (show (f W).cell? ⟨B, 2, none⟩ = some (.int .i64 tt) from (KC.out (f W) (hPf W)).1.2.2.1)
    have y3 := fun W : S => (show (f W).cell? ⟨B, 3, none⟩ = some (.int .i64 me) from (KC.out (f W) (hPf W)).1.2.2.2.1)
    have y4 := fun W : S => (show (f W).cell? ⟨B, 4, none⟩ = some (.int .i64 ma) from (KC.out (f W) (hPf W)).1.2.2.2.2.1)
    have y5 := fun W : S => (show (f W).cell? ⟨B, 5, none⟩ = some (.int .i64 ml) from (KC.out (f W) (hPf W)).1.2.2.2.2.2.1)
    have y6 := fun W : S => (show (f W).cell? ⟨B, 6, none⟩ = some (.int .i64 mc) from (KC.out (f W) (hPf W)).1.2.2.2.2.2.2.1)
    have y7 := fun W : S => (show (f W).cell? ⟨B, 7, none⟩ = some (.slice Am L cm) from (KC.out (f W) (hPf W)).1.2.2.2.2.2.2.2)
    have y8 := fun W : S => (show (f W).cell? ⟨x, 3, none⟩ = some (.int .i64 (D : Int)) from (KC.out (f W) (hPf W)).2.1)
    have y9 := fun W : S => (show (f W).cell? ⟨x, 4, none⟩ = some (.int .i64 (N : Int)) from (KC.out (f W) (hPf W)).2.2)
    refine region_class f (by kernel_rfl) (by kernel_rfl) (hsur _ HSD.out) ?_
    repeat (go_big_quiet_step (first | (go_at_call 61; exact N27.out _) | (go_at_call 33; exact N28.out _)))
    refine wpQuiet_nil ?_
    rintro _ ⟨s2, rfl⟩
    have HP2 := Lib.hid (hPf s2)
    obtain ⟨w2, hw2⟩ : ∃ w2, f s2 = w2 := ⟨_, rfl⟩
    rw [hw2] at HP2 ⊢
    clear hw2 y0 y1 y2 y3 y4 y5 y6 y7 y8 y9
    all_goals
      obtain ⟨r0, r1, f0, f1⟩ := (KR.out _ HP2.out).cells
      go_wp2_with fail
      refine bodyPost_ret (v := .tuple #[.agg #[.slice none 0 0, .slice none 0 0], .int .i64 1]) (by simp [results, Tryz.results41, go_sem, *]) rfl ?_
      refine ⟨_, rfl, (KR.out _ HP2.out).idle ?_⟩
      first
      | exact Out.refl _ _
      | exact ((Out.refl _ _).setCell (p := ⟨B + 1, 0, none⟩) (Or.inl (by show B + 1 = B + 1; rfl)) _).setCell (p := ⟨B + 1, 1, none⟩) (Or.inl (by show B + 1 = B + 1; rfl)) _
  | true =>
    by_cases e1 : tt = (D : Int)
    · have t1 : (tt == (D : Int)) = true := by rw [beq_iff_eq]; exact e1
      have t1b : (tt != (D : Int)) = false := by rw [bne_eq_false_iff_eq]; exact e1
      have t1c : decide (tt = (D : Int)) = true := decide_eq_true e1
      by_cases e2 : fr = (D : Int)
      · have t2 : (fr == (D : Int)) = true := by rw [beq_iff_eq]; exact e2
        have t2b : (fr != (D : Int)) = false := by rw [bne_eq_false_iff_eq]; exact e2
        have t2c : decide (fr = (D : Int)) = true := decide_eq_true e2
        clear hL hkd hfr hto hme hma hml2 hmc hD hN hag hP hr2 h HR hfit hml hr h0 h7 hbad e1 e2
        go_enter Tryz.func41, Tryz.ntmps41
        go_wp2_with fail
        obtain ⟨W0, hW0⟩ : ∃ W0, (w.alloc (.cells #[.int .i64 kd, .int .i64 fr, .int .i64 tt, .int .i64 me, .int .i64 ma, .int .i64 ml, .int .i64 mc, .slice Am L cm] 49)).alloc (.cells #[.slice none 0 0, .slice none 0 0] 86) = W0 := ⟨_, rfl⟩
        rw [hW0] at HS ⊢
        clear hW0 hB
        have HSD : Hid (P W0.drew) := KO.out _ _ HS.out ((Out.refl _ _).drew)
        obtain ⟨S, f, hPf, hsur⟩ := class_of P
        haveI : Nonempty S := (hsur _ HSD.out).elim fun s _ => ⟨s⟩
        have N27 : Hid (∀ n : S, Calls Tryz.prog 61 #[.pointer (some ⟨x, 0, none⟩)] (f n) fun e w'' => e = .returned (.bool false) ∧ ∃ k : S, w'' = f k) := fun n => (HN.out (f n) (hPf n)).mono (fun e w' ⟨h1, h2⟩ => ⟨h1, n, h2.symm⟩)
        have N28 : Hid (∀ n : S, Calls Tryz.prog 33 #[.agg #[.int .i64 kd, .int .i64 fr, .int .i64 tt, .int .i64 me, .int .i64 ma, .int .i64 ml, .int .i64 mc, .slice Am L cm]] (f n) fun e w'' => e = .returned (.bool true) ∧ ∃ k : S, w'' = f k) := fun n => (HM.out (f n) (hPf n)).mono (fun e w' ⟨h1, h2⟩ => ⟨h1, hsur _ h2⟩)
        have y0 := fun W : S => (show (f W).cell? ⟨B, 0, none⟩ = some (.int .i64 kd) from (KC.out (f W) (hPf W)).1.1)
        have y1 := fun W : S => (show (f W).cell? ⟨B, 1, none⟩ = some (.int .i64 fr) from (KC.out (f W) (hPf W)).1.2.1)
        have y2 := fun W : S => (show (f W).cell? ⟨B, 2, none⟩ = some (.int .i64 tt) from (KC.out (f W) (hPf W)).1.2.2.1)
        have y3 := fun W : S => (show (f W).cell? ⟨B, 3, none⟩ = some (.int .i64 me) from (KC.out (f W) (hPf W)).1.2.2.2.1)
        have y4 := fun W : S => (show (f W).cell? ⟨B, 4, none⟩ = some (.int .i64 ma) from (KC.out (f W) (hPf W)).1.2.2.2.2.1)
        have y5 := fun W : S => (show (f W).cell? ⟨B, 5, none⟩ = some (.int .i64 ml) from (KC.out (f W) (hPf W)).1.2.2.2.2.2.1)
        have y6 := fun W : S => (show (f W).cell? ⟨B, 6, none⟩ = some (.int .i64 mc) from (KC.out (f W) (hPf W)).1.2.2.2.2.2.2.1)
        have y7 := fun W : S => (show (f W).cell? ⟨B, 7, none⟩ = some (.slice Am L cm) from (KC.out (f W) (hPf W)).1.2.2.2.2.2.2.2)
        have y8 := fun W : S => (show (f W).cell? ⟨x, 3, none⟩ = some (.int .i64 (D : Int)) from (KC.out (f W) (hPf W)).2.1)
        have y9 := fun W : S => (show (f W).cell? ⟨x, 4, none⟩ = some (.int .i64 (N : Int)) from (KC.out (f W) (hPf W)).2.2)
        refine region_class f (by kernel_rfl) (by kernel_rfl) (hsur _ HSD.out) ?_
        repeat (go_big_quiet_step (first | (go_at_call 61; exact N27.out _) | (go_at_call 33; exact N28.out _)))
        refine wpQuiet_nil ?_
        rintro _ ⟨s2, rfl⟩
        have HP2 := Lib.hid (hPf s2)
        obtain ⟨w2, hw2⟩ : ∃ w2, f s2 = w2 := ⟨_, rfl⟩
        rw [hw2] at HP2 ⊢
        clear hw2 y0 y1 y2 y3 y4 y5 y6 y7 y8 y9
        all_goals
          obtain ⟨r0, r1, f0, f1⟩ := (KR.out _ HP2.out).cells
          go_wp2_with fail
          refine bodyPost_ret (v := .tuple #[.agg #[.slice none 0 0, .slice none 0 0], .int .i64 1]) (by simp [results, Tryz.results41, go_sem, *]) rfl ?_
          refine ⟨_, rfl, (KR.out _ HP2.out).idle ?_⟩
          first
          | exact Out.refl _ _
          | exact ((Out.refl _ _).setCell (p := ⟨B + 1, 0, none⟩) (Or.inl (by show B + 1 = B + 1; rfl)) _).setCell (p := ⟨B + 1, 1, none⟩) (Or.inl (by show B + 1 = B + 1; rfl)) _
      · have t2 : (fr == (D : Int)) = false := by rw [beq_eq_false_iff_ne]; exact e2
        have t2b : (fr != (D : Int)) = true := by rw [bne_iff_ne]; exact e2
        have t2c : decide (fr = (D : Int)) = false := decide_eq_false e2
        have t3 : decide ((N : Int) ≤ fr) = true := by
          rw [decide_eq_true_eq]
          rcases hbad with h | h | h | h
          · cases h
          · exact absurd e1 h
          · exact absurd h e2
          · exact h
        clear hL hkd hfr hto hme hma hml2 hmc hD hN hag hP hr2 h HR hfit hml hr h0 h7 hbad e1 e2
        go_enter Tryz.func41, Tryz.ntmps41
        go_wp2_with fail
        obtain ⟨W0, hW0⟩ : ∃ W0, (w.alloc (.cells #[.int .i64 kd, .int .i64 fr, .int .i64 tt, .int .i64 me, .int .i64 ma, .int .i64 ml, .int .i64 mc, .slice Am L cm] 49)).alloc (.cells #[.slice none 0 0, .slice none 0 0] 86) = W0 := ⟨_, rfl⟩
        rw [hW0] at HS ⊢
        clear hW0 hB
        have HSD : Hid (P W0.drew) := KO.out _ _ HS.out ((Out.refl _ _).drew)
        obtain ⟨S, f, hPf, hsur⟩ := class_of P
        haveI : Nonempty S := (hsur _ HSD.out).elim fun s _ => ⟨s⟩
        have N27 : Hid (∀ n : S, Calls Tryz.prog 61 #[.pointer (some ⟨x, 0, none⟩)] (f n) fun e w'' => e = .returned (.bool false) ∧ ∃ k : S, w'' = f k) := fun n => (HN.out (f n) (hPf n)).mono (fun e w' ⟨h1, h2⟩ => ⟨h1, n, h2.symm⟩)
        have N28 : Hid (∀ n : S, Calls Tryz.prog 33 #[.agg #[.int .i64 kd, .int .i64 fr, .int .i64 tt, .int .i64 me, .int .i64 ma, .int .i64 ml, .int .i64 mc, .slice Am L cm]] (f n) fun e w'' => e = .returned (.bool true) ∧ ∃ k : S, w'' = f k) := fun n => (HM.out (f n) (hPf n)).mono (fun e w' ⟨h1, h2⟩ => ⟨h1, hsur _ h2⟩)
        have y0 := fun W : S => (show (f W).cell? ⟨B, 0, none⟩ = some (.int .i64 kd) from (KC.out (f W) (hPf W)).1.1)
        have y1 := fun W : S => (show (f W).cell? ⟨B, 1, none⟩ = some (.int .i64 fr) from (KC.out (f W) (hPf W)).1.2.1)
        have y2 := fun W : S => (show (f W).cell? ⟨B, 2, none⟩ = some (.int .i64 tt) from (KC.out (f W) (hPf W)).1.2.2.1)
        have y3 := fun W : S => (show (f W).cell? ⟨B, 3, none⟩ = some (.int .i64 me) from (KC.out (f W) (hPf W)).1.2.2.2.1)
        have y4 := fun W : S => (show (f W).cell? ⟨B, 4, none⟩ = some (.int .i64 ma) from (KC.out (f W) (hPf W)).1.2.2.2.2.1)
        have y5 := fun W : S => (show (f W).cell? ⟨B, 5, none⟩ = some (.int .i64 ml) from (KC.out (f W) (hPf W)).1.2.2.2.2.2.1)
        have y6 := fun W : S => (show (f W).cell? ⟨B, 6, none⟩ = some (.int .i64 mc) from (KC.out (f W) (hPf W)).1.2.2.2.2.2.2.1)
        have y7 := fun W : S => (show (f W).cell? ⟨B, 7, none⟩ = some (.slice Am L cm) from (KC.out (f W) (hPf W)).1.2.2.2.2.2.2.2)
        have y8 := fun W : S => (show (f W).cell? ⟨x, 3, none⟩ = some (.int .i64 (D : Int)) from (KC.out (f W) (hPf W)).2.1)
        have y9 := fun W : S => (show (f W).cell? ⟨x, 4, none⟩ = some (.int .i64 (N : Int)) from (KC.out (f W) (hPf W)).2.2)
        refine region_class f (by kernel_rfl) (by kernel_rfl) (hsur _ HSD.out) ?_
        repeat (go_big_quiet_step (first | (go_at_call 61; exact N27.out _) | (go_at_call 33; exact N28.out _)))
        refine wpQuiet_nil ?_
        rintro _ ⟨s2, rfl⟩
        have HP2 := Lib.hid (hPf s2)
        obtain ⟨w2, hw2⟩ : ∃ w2, f s2 = w2 := ⟨_, rfl⟩
        rw [hw2] at HP2 ⊢
        clear hw2 y0 y1 y2 y3 y4 y5 y6 y7 y8 y9
        all_goals
          obtain ⟨r0, r1, f0, f1⟩ := (KR.out _ HP2.out).cells
          go_wp2_with fail
          refine bodyPost_ret (v := .tuple #[.agg #[.slice none 0 0, .slice none 0 0], .int .i64 1]) (by simp [results, Tryz.results41, go_sem, *]) rfl ?_
          refine ⟨_, rfl, (KR.out _ HP2.out).idle ?_⟩
          first
          | exact Out.refl _ _
          | exact ((Out.refl _ _).setCell (p := ⟨B + 1, 0, none⟩) (Or.inl (by show B + 1 = B + 1; rfl)) _).setCell (p := ⟨B + 1, 1, none⟩) (Or.inl (by show B + 1 = B + 1; rfl)) _
    · have t1 : (tt == (D : Int)) = false := by rw [beq_eq_false_iff_ne]; exact e1
      have t1b : (tt != (D : Int)) = true := by rw [bne_iff_ne]; exact e1
      have t1c : decide (tt = (D : Int)) = false := decide_eq_false e1
      clear hL hkd hfr hto hme hma hml2 hmc hD hN hag hP hr2 h HR hfit hml hr h0 h7 hbad e1
      go_enter Tryz.func41, Tryz.ntmps41
      go_wp2_with fail
      obtain ⟨W0, hW0⟩ : ∃ W0, (w.alloc (.cells #[.int .i64 kd, .int .i64 fr, .int .i64 tt, .int .i64 me, .int .i64 ma, .int .i64 ml, .int .i64 mc, .slice Am L cm] 49)).alloc (.cells #[.slice none 0 0, .slice none 0 0] 86) = W0 := ⟨_, rfl⟩
      rw [hW0] at HS ⊢
      clear hW0 hB
      have HSD : Hid (P W0.drew) := KO.out _ _ HS.out ((Out.refl _ _).drew)
      obtain ⟨S, f, hPf, hsur⟩ := class_of P
      haveI : Nonempty S := (hsur _ HSD.out).elim fun s _ => ⟨s⟩
      have N27 : Hid (∀ n : S, Calls Tryz.prog 61 #[.pointer (some ⟨x, 0, none⟩)] (f n) fun e w'' => e = .returned (.bool false) ∧ ∃ k : S, w'' = f k) := fun n => (HN.out (f n) (hPf n)).mono (fun e w' ⟨h1, h2⟩ => ⟨h1, n, h2.symm⟩)
      have N28 : Hid (∀ n : S, Calls Tryz.prog 33 #[.agg #[.int .i64 kd, .int .i64 fr, .int .i64 tt, .int .i64 me, .int .i64 ma, .int .i64 ml, .int .i64 mc, .slice Am L cm]] (f n) fun e w'' => e = .returned (.bool true) ∧ ∃ k : S, w'' = f k) := fun n => (HM.out (f n) (hPf n)).mono (fun e w' ⟨h1, h2⟩ => ⟨h1, hsur _ h2⟩)
      have y0 := fun W : S => (show (f W).cell? ⟨B, 0, none⟩ = some (.int .i64 kd) from (KC.out (f W) (hPf W)).1.1)
      have y1 := fun W : S => (show (f W).cell? ⟨B, 1, none⟩ = some (.int .i64 fr) from (KC.out (f W) (hPf W)).1.2.1)
      have y2 := fun W : S => (show (f W).cell? ⟨B, 2, none⟩ = some (.int .i64 tt) from (KC.out (f W) (hPf W)).1.2.2.1)
      have y3 := fun W : S => (show (f W).cell? ⟨B, 3, none⟩ = some (.int .i64 me) from (KC.out (f W) (hPf W)).1.2.2.2.1)
      have y4 := fun W : S => (show (f W).cell? ⟨B, 4, none⟩ = some (.int .i64 ma) from (KC.out (f W) (hPf W)).1.2.2.2.2.1)
      have y5 := fun W : S => (show (f W).cell? ⟨B, 5, none⟩ = some (.int .i64 ml) from (KC.out (f W) (hPf W)).1.2.2.2.2.2.1)
      have y6 := fun W : S => (show (f W).cell? ⟨B, 6, none⟩ = some (.int .i64 mc) from (KC.out (f W) (hPf W)).1.2.2.2.2.2.2.1)
      have y7 := fun W : S => (show (f W).cell? ⟨B, 7, none⟩ = some (.slice Am L cm) from (KC.out (f W) (hPf W)).1.2.2.2.2.2.2.2)
      have y8 := fun W : S => (show (f W).cell? ⟨x, 3, none⟩ = some (.int .i64 (D : Int)) from (KC.out (f W) (hPf W)).2.1)
      have y9 := fun W : S => (show (f W).cell? ⟨x, 4, none⟩ = some (.int .i64 (N : Int)) from (KC.out (f W) (hPf W)).2.2)
      refine region_class f (by kernel_rfl) (by kernel_rfl) (hsur _ HSD.out) ?_
      repeat (go_big_quiet_step (first | (go_at_call 61; exact N27.out _) | (go_at_call 33; exact N28.out _)))
      refine wpQuiet_nil ?_
      rintro _ ⟨s2, rfl⟩
      have HP2 := Lib.hid (hPf s2)
      obtain ⟨w2, hw2⟩ : ∃ w2, f s2 = w2 := ⟨_, rfl⟩
      rw [hw2] at HP2 ⊢
      clear hw2 y0 y1 y2 y3 y4 y5 y6 y7 y8 y9
      all_goals
        obtain ⟨r0, r1, f0, f1⟩ := (KR.out _ HP2.out).cells
        go_wp2_with fail
        refine bodyPost_ret (v := .tuple #[.agg #[.slice none 0 0, .slice none 0 0], .int .i64 1]) (by simp [results, Tryz.results41, go_sem, *]) rfl ?_
        refine ⟨_, rfl, (KR.out _ HP2.out).idle ?_⟩
        first
        | exact Out.refl _ _
        | exact ((Out.refl _ _).setCell (p := ⟨B + 1, 0, none⟩) (Or.inl (by show B + 1 = B + 1; rfl)) _).setCell (p := ⟨B + 1, 1, none⟩) (Or.inl (by show B + 1 = B + 1; rfl)) _
end
end Go.Proofs.YtlgoenimjmiapaaGreat
