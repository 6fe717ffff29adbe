import Derived.Test.YtlgoenimjmiapaaQ26
/-! The answer's block beside a node; done, restated. -/
set_option linter.unusedVariables false
namespace Go.Proofs.Ytlgoenimjmiapaa
open Go.RowKit Go.Maps

theorem Out.transF {Z : Zone} {a b c : World} {R : Nat} (h : Out Z a b) (k : Out (Zone.m (fun k => k = R)) b c) (hR : a.heap.size ≤ R) : Out Z a c :=
  ⟨k.os.trans h.os, k.tape.trans h.tape, k.output.trans h.output, Nat.le_trans h.size k.size, fun i hi ho => (k.block i (Nat.lt_of_lt_of_le hi h.size) (fun e => by have : i = R := e; omega)).trans (h.block i hi ho)⟩

theorem encL_noslice (l : List Ent) {A : Option Addr} {n c : Nat} : Value.slice A n c ∉ encL l := fun h => by
  obtain ⟨x, _, hx⟩ := List.mem_flatMap.1 h
  simp only [Ent.cells, List.mem_cons, List.not_mem_nil, or_false] at hx
  rcases hx with e | e <;> cases e

section
variable {w w' : World} {x : Nat} {c c' : NS} {V : NV}

theorem VotesAt.map {b : Nat} {gs : List Int} (h : VotesAt w b gs) : ∃ es k, w.heap[b]? = some (.map es k) := by
  obtain ⟨D, ⟨es, k, hb, _⟩, _⟩ := h
  exact ⟨es, k, hb⟩
/-- An answer's block is none of the node's. -/
theorem NAt.not32 (h : NAt w x c V) {R : Nat} {cs : Array Value} (hR : w.heap[R]? = some (.cells cs 32 (0, 0))) : ¬ V.own x R := fun ho => by
  obtain ⟨ss, _, h⟩ := h
  simp only [NV.own, NV.blks, List.mem_cons, List.not_mem_nil, or_false] at ho
  rcases ho with e | e | e | e | e | e | e
  · injection e with e
    have := h.blk
    unfold StAt at this
    rw [← e, hR] at this
    injection this with this
    injection this with _ this _
    exact absurd this (by decide)
  · obtain ⟨_, _, cur, hc⟩ := GRow.mem h.log e.symm
    rw [hR] at hc
    injection hc with hc
    injection hc with _ hc _
    exact absurd hc (by decide)
  · have hv := h.votes
    cases hg : c.q.granted with
    | none => rw [hg] at hv; rw [show V.gv = _ from hv] at e; cases e
    | some gs =>
      rw [hg] at hv
      obtain ⟨b, h1, h2⟩ := hv
      rw [h1] at e
      injection e with e
      obtain ⟨es, k, hm⟩ := h2.map
      rw [← e, hR] at hm
      cases hm
  · obtain ⟨_, _, cur, hc⟩ := GRow.mem h.has e.symm
    rw [hR] at hc
    injection hc with hc
    injection hc with _ hc _
    exact absurd hc (by decide)
  · obtain ⟨_, _, cur, hc⟩ := GRow.mem h.acked e.symm
    rw [hR] at hc
    injection hc with hc
    injection hc with _ hc _
    exact absurd hc (by decide)
  · obtain ⟨_, _, cur, hc⟩ := GRow.mem h.notes e.symm
    rw [hR] at hc
    injection hc with hc
    injection hc with _ hc _
    exact absurd hc (by decide)
  · obtain ⟨_, _, cur, hc⟩ := GRow.mem h.send e.symm
    rw [hR] at hc
    injection hc with hc
    injection hc with _ hc _
    exact absurd hc (by decide)

theorem own_lt (h : NAt w x c V) {k : Nat} (hk : V.own x k) : k < w.heap.size := by
  obtain ⟨ss, _, h⟩ := h
  exact h.lt hk

/-- A node is as it was where none of its own blocks nor its messages' logs has turned. -/
theorem NAt.beside (h : NAt w x c V) {R : Nat} {cs : Array Value} (hR : w.heap[R]? = some (.cells cs 32 (0, 0))) (hcs : ∀ (i : Nat) (u : Value), cs[i]? = some u → u = Value.slice none 0 0) (ho : Out (Zone.m (fun k => k = R)) w w') : NAt w' x c V := by
  have hn := h.not32 hR
  obtain ⟨ss, h1, h⟩ := h
  refine ⟨ss, h1, ?_⟩
  have far : ∀ k, V.own x k → w'.heap[k]? = w.heap[k]? := fun k hk => ho.block k (h.lt hk) (fun e => hn (by rw [← show k = R from e]; exact hk))
  have own : ∀ (i k : Nat), (V.blks x)[i]? = some (some k) → V.own x k := fun i k hk => List.mem_of_getElem? hk
  refine ⟨(far x (NodeAt.own_x x V)).trans h.blk, GRow.keep h.log (fun k hk => far k (own 1 k (by show some _ = _; rw [hk]))) (fun _ _ => trivial), votes_keep h (fun k hk => far k (own 2 k (by show some _ = _; rw [hk]))),
    GRow.keep h.has (fun k hk => far k (own 3 k (by show some _ = _; rw [hk]))) (fun _ _ => trivial), GRow.keep h.acked (fun k hk => far k (own 4 k (by show some _ = _; rw [hk]))) (fun _ _ => trivial),
    GRow.keep h.notes (fun k hk => far k (own 5 k (by show some _ = _; rw [hk]))) (fun _ _ => trivial), GRow.keep h.send (fun k hk => far k (own 6 k (by show some _ = _; rw [hk]))) (fun _ _ => trivial), fun p hp => ?_, h.sep⟩
  obtain ⟨h0, A, cc, hv, k1, k2, hc⟩ := h.rows p hp
  refine ⟨h0, A, cc, hv, k1, k2, fun j u hu => ?_⟩
  obtain ⟨b, o, hA, hb, hx⟩ := hc j u hu
  refine ⟨b, o, hA, hb, ho.cell hx (fun e => ?_)⟩
  rw [show b = R from e, cells_all hR] at hx
  have := hcs _ _ hx
  subst this
  exact encL_noslice _ (List.mem_of_getElem? hu)

theorem WorkOut.beside {N : Nat → Prop} {v : Value} {ns : List Nt} {ms : List Msg} (h : WorkOut N w v ns ms) {R : Nat} {cs : Array Value} (hR : w.heap[R]? = some (.cells cs 32 (0, 0))) (hcs : ∀ (i : Nat) (u : Value), cs[i]? = some u → u = Value.slice none 0 0) (ho : Out (Zone.m (fun k => k = R)) w w') : WorkOut N w' v ns ms := by
  obtain ⟨nv, sv, ss, h1, h2, h⟩ := h
  have ne : ∀ {e sz v n xs}, GR w e sz v n xs → e ≠ 32 → GR w' e sz v n xs := fun hg he => GRow.keep hg (fun k hk => by
    obtain ⟨_, hlt, cur, hc⟩ := GRow.mem hg hk
    refine ho.block k hlt (fun e => ?_)
    rw [show k = R from e, hR] at hc
    injection hc with hc
    injection hc with _ hc _
    exact he hc.symm) (fun _ _ => trivial)
  refine ⟨nv, sv, ss, h1, h2, ⟨ne h.notes (by decide), ne h.send (by decide), fun p hp => ?_, h.bn, h.bs⟩⟩
  obtain ⟨h0, A, cc, hv, k1, k2, hc⟩ := h.rows p hp
  refine ⟨h0, A, cc, hv, k1, k2, fun j u hu => ?_⟩
  obtain ⟨b, o, hA, hb, hx⟩ := hc j u hu
  refine ⟨b, o, hA, hb, ho.cell hx (fun e => ?_)⟩
  rw [show b = R from e, cells_all hR] at hx
  have := hcs _ _ hx
  subst this
  exact encL_noslice _ (List.mem_of_getElem? hu)

def resB : Obj := .cells #[.slice none 0 0, .slice none 0 0] 32 (0, 0)
theorem resB_one (i : Nat) (u : Value) (h : (#[Value.slice none 0 0, .slice none 0 0] : Array Value)[i]? = some u) : u = .slice none 0 0 := by
  match i with
  | 0 => injection h with h; exact h.symm
  | 1 => injection h with h; exact h.symm
  | n + 2 => simp at h

/-- Within a call: the node has become c, the answer's block R is empty. -/
def Held (w : World) (x : Nat) (V : NV) (c : NS) (R : Nat) (W : World) : Prop := ∃ V', NAt W x c V' ∧ Next (V.own x) w (V'.own x) W ∧ W.heap[R]? = some resB ∧ w.heap.size ≤ R

theorem Held.any {R : Nat} {W W' : World} (h : Held w x V c R W) (ho : Out Zone.no W W') : Held w x V c R W' := by
  obtain ⟨V', h1, h2, h3, h4⟩ := h
  exact ⟨V', h1.any ho, h2.trans (Next.of_out ho), ho.get h3 id, h4⟩
theorem Held.gone {R : Nat} {W W' : World} {V' : NV} (h1 : NAt W x c V') (h2 : Next (V.own x) w (V'.own x) W) (h3 : W.heap[R]? = some resB) (h4 : w.heap.size ≤ R) (hg : Gone W x V' c' W') : Held w x V c' R W' := by
  obtain ⟨V2, k1, k2⟩ := hg
  exact ⟨V2, k1, h2.trans k2, (k2.out.block R (heap_lt h3) (h1.not32 h3)).trans h3, h4⟩
/-- An operation's contract within a call. -/
theorem Held.step {R : Nat} {W : World} (h : Held w x V c R W) {f : FuncId} {args : Array Value} {v : Value} (hc : ∀ V', NAt W x c V' → Calls Try.prog f args W fun e w' => e = .returned v ∧ Gone W x V' c' w') :
    Calls Try.prog f args W fun e w' => e = .returned v ∧ Held w x V c' R w' := by
  obtain ⟨V', h1, h2, h3, h4⟩ := h
  refine (hc V' h1).mono ?_
  rintro e w' ⟨rfl, hg⟩
  exact ⟨rfl, Held.gone h1 h2 h3 h4 hg⟩
theorem Held.start (h : NAt w x c V) : Held w x V c w.heap.size (w.alloc (.cells #[.slice none 0 0, .slice none 0 0] 32)) :=
  ⟨V, h.any ((Out.refl _ _).alloc _), Next.of_out ((Out.refl _ _).alloc _), heap_alloc_new w _, Nat.le_refl _⟩

/-- An answer without work. -/
theorem Held.idle {q : ND} {R : Nat} {W : World} (h : Held w x V ⟨q, [], []⟩ R W) {W' : World} (ho : Out (Zone.m (fun k => k = R)) W W') : Handed w x V ⟨q, [], []⟩ (.agg #[.slice none 0 0, .slice none 0 0]) W' := by
  obtain ⟨V', h1, h2, h3, h4⟩ := h
  refine ⟨V', h1.beside h3 resB_one ho, ⟨h2.out.transF ho h4, h2.sub⟩, _, _, [], rfl, rfl, ⟨grow_nil _ _ _ _, grow_nil _ _ _ _, fun p hp => (by cases hp), fun k hk => (by cases hk), fun k hk => (by cases hk)⟩⟩

/-- done, its answer laid in R. -/
theorem Held.done {R : Nat} {W : World} (h : Held w x V c R W) :
    Calls Try.prog 31 #[.pointer (some ⟨x, 0, none⟩)] W fun e w' => ∃ A1 n1 c1 A2 n2 c2, e = .returned (.agg #[.slice A1 n1 c1, .slice A2 n2 c2]) ∧ w'.heap[R]? = some (.cells #[.slice none 0 0, .slice none 0 0] 32 (0, 0)) ∧ ∀ W', Out (Zone.m (fun k => k = R)) w' W' → Handed w x V c (.agg #[.slice A1 n1 c1, .slice A2 n2 c2]) W' := by
  obtain ⟨V', h1, h2, h3, h4⟩ := h
  have hn := h1.not32 h3
  obtain ⟨ss, hss, hq⟩ := h1
  obtain ⟨AN, cN, hnv⟩ := GRow.form hq.notes
  obtain ⟨AS, cS, hsv⟩ := GRow.form hq.send
  refine (done_is hq).mono ?_
  rintro e w1 ⟨rfl, k1, k2, k3⟩
  have hR : w1.heap[R]? = some resB := (k2.out.block R (heap_lt h3) hn).trans h3
  refine ⟨AN, _, cN, AS, _, cS, by rw [hnv, hsv], hR, fun W' ho => ?_⟩
  have hN : NAt w1 x ⟨c.q, [], []⟩ { V' with nv := .slice none 0 0, sv := .slice none 0 0 } := ⟨[], rfl, k1⟩
  have hW : WorkOut (NV.own x { V' with nv := .slice none 0 0, sv := .slice none 0 0 }) w1 (.agg #[.slice AN c.ns.length cN, .slice AS ss.length cS]) c.ns c.ms := ⟨_, _, ss, rfl, hss, by rw [← hnv, ← hsv]; exact k3⟩
  have h5 := h2.trans k2
  exact ⟨_, hN.beside hR resB_one ho, ⟨h5.out.transF ho h4, h5.sub⟩, hW.beside hR resB_one ho⟩
end
end Go.Proofs.Ytlgoenimjmiapaa
