import Derived.Test.YtlgoenimjmiapaaGreatT12
import Derived.Test.YtlgoenimjmiapaaGreatT07
set_option linter.unusedSimpArgs false
set_option linter.unusedVariables false
set_option linter.unusedSectionVars false
/-! Promote. -/
set_option linter.unusedVariables false
set_option linter.unusedSectionVars false
namespace Go.Proofs.YtlgoenimjmiapaaGreat
open Go.RowKit Go.Maps

theorem own_tight {P : Program} {k : TypeId} {w : World} {R : Value → Option (DataW Value × List MemPlace)} {b n : Nat} {D : DataW Value} (h : w.ownsMap P k R b n D) : w.ownsMap P k R b (Maps.size D) D := by
  obtain ⟨es, clock, hb, F, _, rfl⟩ := h
  have e1 : Maps.size (DataW.map ((es.toList.map (Go.WideElems.rg P k R)).foldr DataW.insert [])) = es.size := by simp [Maps.size, length_sorted]
  exact ⟨es, clock, hb, F, by rw [e1]; exact Nat.le_refl _, rfl⟩

theorem VotesAt.made (w : World) : VotesAt (w.alloc (.map #[] 0)) w.heap.size [] := by
  refine ⟨.map [], World.ownsMap_made w Tryz.prog 3 heldR, rfl, List.nodup_nil, fun key => ?_⟩
  rw [if_neg (by simp)]
  intro z
  rfl
def addV (gs : List Int) (i : Int) : List Int := if i ∈ gs then gs else gs ++ [i]
theorem VotesAt.add {w : World} {b : Nat} {gs : List Int} (h : VotesAt w b gs) {i : Nat} (hi : i ≤ 7) (hl : gs.length ≤ 100) :
    ∃ w', (Instr.mapUpdate 109 (.map (some b)) (.int .i64 (i : Int)) (.bool true)).run Tryz.prog w = .ok () w' ∧ VotesAt w' b (addV gs (i : Int)) ∧ w.grownBy w' (some b) := by
  obtain ⟨D, hown, hsz, hnd, h5⟩ := h
  have hk := Tryz.underlying3
  have hkey := keyOf_int_mk (P := Tryz.prog) hk (WalkArith.wf_i64 (n := (i : Int)) (by omega))
  obtain ⟨w', hrun, hown', hg⟩ := hown.update (int_keyed hk) Tryz.underlying109 (Nat.lt_of_le_of_lt hl (by decide)) hkey (heldR_mk (.bool true))
  have hhas : has D (.int .i64 (i : Int)) = decide ((i : Int) ∈ gs) := by
    have h6 := h5 (i : Int)
    by_cases hm : (i : Int) ∈ gs
    · rw [if_pos hm] at h6
      rw [decide_eq_true hm]
      exact has_true_of_atKey h6
    · rw [if_neg hm] at h6
      rw [decide_eq_false hm]
      exact has_false_of_atKey h6
  have hs2 : Maps.size (D.put (.int .i64 (i : Int)) (.held (.bool true))) = (addV gs (i : Int)).length := by
    rw [size_put (hown.tidy (int_keyed hk)), hhas, hsz]
    unfold addV
    by_cases hm : (i : Int) ∈ gs
    · simp [hm]
    · simp [hm]
  have hown2 := own_tight hown'
  rw [hs2] at hown2
  refine ⟨w', hrun, ⟨_, hown2, hs2, ?_, fun key => ?_⟩, hg⟩
  · unfold addV
    by_cases hm : (i : Int) ∈ gs
    · rw [if_pos hm]; exact hnd
    · rw [if_neg hm, List.nodup_append]
      refine ⟨hnd, by simp, fun a ha c hc => ?_⟩
      rw [List.mem_singleton.1 hc]
      exact fun e => hm (e ▸ ha)
  · have hin : key ∈ addV gs (i : Int) ↔ key ∈ gs ∨ key = (i : Int) := by
      unfold addV
      by_cases hm : (i : Int) ∈ gs
      · rw [if_pos hm]
        exact ⟨Or.inl, fun e => e.elim id (fun e => by rw [e]; exact hm)⟩
      · rw [if_neg hm, List.mem_append, List.mem_singleton]
    by_cases hx : key = (i : Int)
    · subst hx
      rw [if_pos (hin.2 (Or.inr rfl))]
      intro z
      exact atKey_put_same hown.isMap ((int_keyed hk).key hkey) _ _
    · have h6 := h5 key
      have hne : (Lit.int .i64 key) ≠ Lit.int .i64 (i : Int) := fun e => hx (by injection e)
      by_cases hm : key ∈ gs
      · rw [if_pos (hin.2 (Or.inl hm))]
        rw [if_pos hm] at h6
        intro z; rw [atKey_put_other hne]; exact h6 z
      · rw [if_neg (fun e => (hin.1 e).elim hm hx)]
        rw [if_neg hm] at h6
        intro z; rw [atKey_put_other hne]; exact h6 z

/-- Work, handed out. -/
def WorkOut (N : Nat → Prop) (w : World) (v : Value) (ns : List Nt) (ms : List Msg) : Prop := ∃ nv sv ss, v = .agg #[nv, sv] ∧ ss.map Prod.fst = ms ∧ WorkAt N w nv sv ns ss
/-- The node has become c' without its work, which is v. -/
def Handed [Far] (w : World) (x : Nat) (V : NV) (c' : NS) (v : Value) (w' : World) : Prop :=
  ∃ V', NAt w' x ⟨c'.q, [], []⟩ V' ∧ Next (V.own x) w (V'.own x) w' ∧ WorkOut (V'.shun x) w' v c'.ns c'.ms
/-- An answer: the work and an error number. -/
def Answered [Far] (w : World) (x : Nat) (V : NV) (r : NS × Int) (e : Ending) (w' : World) : Prop := ∃ v, e = .returned (.tuple #[v, .int .i64 r.2]) ∧ Handed w x V r.1 v w'

def NS.cand (c : NS) : NS := { c with q := { c.q with role := 1, granted := some [(c.q.id : Int)] } }
def ND.promote (q : ND) : NS × Int :=
  if 1099511627776 ≤ q.st.ep then (⟨q, [], []⟩, 6)
  else (((NS.note ⟨q, [], []⟩ ⟨1, q.st.ep + 1, (q.id : Int), ⟨0, []⟩⟩).cand.asks).count, 0)
end Go.Proofs.YtlgoenimjmiapaaGreat

/-! The answer's block beside a node; done, restated. -/
set_option linter.unusedVariables false
set_option linter.unusedSectionVars false
namespace Go.Proofs.YtlgoenimjmiapaaGreat
open Go.RowKit Go.Maps

theorem Out.transF {Z : Zone} {a b c : World} {R : Nat} (h : Out Z a b) (k : Out (Zone.m (fun k => k = R)) b c) (hR : a.heap.size ≤ R) : Out Z a c :=
  ⟨k.os.trans h.os, k.tape.trans h.tape, k.output.trans h.output, Nat.le_trans h.size k.size, fun i hi ho => (k.block i (Nat.lt_of_lt_of_le hi h.size) (fun e => by have : i = R := e; omega)).trans (h.block i hi ho)⟩

theorem encL_noslice (l : List Ent) {A : Option Addr} {n c : Nat} : Value.slice A n c ∉ encL l := fun h => by
  obtain ⟨x, _, hx⟩ := List.mem_flatMap.1 h
  simp only [Ent.cells, List.mem_cons, List.not_mem_nil, or_false] at hx
  rcases hx with e | e <;> cases e

section
variable [Far] {w w' : World} {x : Nat} {c c' : NS} {V : NV}

theorem VotesAt.map {b : Nat} {gs : List Int} (h : VotesAt w b gs) : ∃ es k, w.heap[b]? = some (.map es k) := by
  obtain ⟨D, ⟨es, k, hb, _⟩, _⟩ := h
  exact ⟨es, k, hb⟩
/-- An answer's block is none of the node's. -/
theorem NAt.not32 (h : NAt w x c V) {R : Nat} {cs : Array Value} (hR : w.heap[R]? = some (.cells cs 86 (0, 0))) : ¬ V.own x R := fun ho => by
  obtain ⟨ss, _, h⟩ := h
  simp only [NV.own, NV.blks, List.mem_cons, List.not_mem_nil, or_false] at ho
  rcases ho with e | e | e | e | e | e | e
  · injection e with e
    have := h.blk
    unfold StAt at this
    rw [← e, hR] at this
    injection this with this
    injection this with _ this _
    exact absurd this (by decide)
  · obtain ⟨_, _, cur, hc⟩ := GRow.mem h.log e.symm
    rw [hR] at hc
    injection hc with hc
    injection hc with _ hc _
    exact absurd hc (by decide)
  · have hv := h.votes
    cases hg : c.q.granted with
    | none => rw [hg] at hv; rw [show V.gv = _ from hv] at e; cases e
    | some gs =>
      rw [hg] at hv
      obtain ⟨b, h1, h2⟩ := hv
      rw [h1] at e
      injection e with e
      obtain ⟨es, k, hm⟩ := h2.map
      rw [← e, hR] at hm
      cases hm
  · obtain ⟨_, _, cur, hc⟩ := GRow.mem h.has e.symm
    rw [hR] at hc
    injection hc with hc
    injection hc with _ hc _
    exact absurd hc (by decide)
  · obtain ⟨_, _, cur, hc⟩ := GRow.mem h.acked e.symm
    rw [hR] at hc
    injection hc with hc
    injection hc with _ hc _
    exact absurd hc (by decide)
  · obtain ⟨_, _, cur, hc⟩ := GRow.mem h.notes e.symm
    rw [hR] at hc
    injection hc with hc
    injection hc with _ hc _
    exact absurd hc (by decide)
  · obtain ⟨_, _, cur, hc⟩ := GRow.mem h.send e.symm
    rw [hR] at hc
    injection hc with hc
    injection hc with _ hc _
    exact absurd hc (by decide)

theorem own_lt (h : NAt w x c V) {k : Nat} (hk : V.own x k) : k < w.heap.size := by
  obtain ⟨ss, _, h⟩ := h
  exact h.lt hk

/-- A node is as it was where none of its own blocks nor its messages' logs has turned. -/
theorem NAt.beside (h : NAt w x c V) {R : Nat} {cs : Array Value} (hR : w.heap[R]? = some (.cells cs 86 (0, 0))) (hcs : ∀ (i : Nat) (u : Value), cs[i]? = some u → u = Value.slice none 0 0) (ho : Out (Zone.m (fun k => k = R)) w w') : NAt w' x c V := by
  have hn := h.not32 hR
  obtain ⟨ss, h1, h⟩ := h
  refine ⟨ss, h1, ?_⟩
  have far : ∀ k, V.own x k → w'.heap[k]? = w.heap[k]? := fun k hk => ho.block k (h.lt hk) (fun e => hn (by rw [← show k = R from e]; exact hk))
  have own : ∀ (i k : Nat), (V.blks x)[i]? = some (some k) → V.own x k := fun i k hk => List.mem_of_getElem? hk
  refine ⟨(far x (NodeAt.own_x x V)).trans h.blk, GRow.keep h.log (fun k hk => far k (own 1 k (by show some _ = _; rw [hk]))) (fun _ _ => trivial), votes_keep h (fun k hk => far k (own 2 k (by show some _ = _; rw [hk]))),
    GRow.keep h.has (fun k hk => far k (own 3 k (by show some _ = _; rw [hk]))) (fun _ _ => trivial), GRow.keep h.acked (fun k hk => far k (own 4 k (by show some _ = _; rw [hk]))) (fun _ _ => trivial),
    GRow.keep h.notes (fun k hk => far k (own 5 k (by show some _ = _; rw [hk]))) (fun _ _ => trivial), GRow.keep h.send (fun k hk => far k (own 6 k (by show some _ = _; rw [hk]))) (fun _ _ => trivial), fun p hp => ?_, h.sep, fun k hk => ⟨Nat.lt_of_lt_of_le (h.far k hk).1 ho.size, (h.far k hk).2⟩⟩
  obtain ⟨h0, A, cc, hv, k1, k2, hc⟩ := h.rows p hp
  refine ⟨h0, A, cc, hv, k1, k2, fun j u hu => ?_⟩
  obtain ⟨b, o, hA, hb, hx⟩ := hc j u hu
  refine ⟨b, o, hA, hb, ho.cell hx (fun e => ?_)⟩
  rw [show b = R from e, cells_all hR] at hx
  have := hcs _ _ hx
  subst this
  exact encL_noslice _ (List.mem_of_getElem? hu)

theorem WorkOut.beside {N : Nat → Prop} {v : Value} {ns : List Nt} {ms : List Msg} (h : WorkOut N w v ns ms) {R : Nat} {cs : Array Value} (hR : w.heap[R]? = some (.cells cs 86 (0, 0))) (hcs : ∀ (i : Nat) (u : Value), cs[i]? = some u → u = Value.slice none 0 0) (ho : Out (Zone.m (fun k => k = R)) w w') : WorkOut N w' v ns ms := by
  obtain ⟨nv, sv, ss, h1, h2, h⟩ := h
  have ne : ∀ {e sz v n xs}, GR w e sz v n xs → e ≠ 86 → GR w' e sz v n xs := fun hg he => GRow.keep hg (fun k hk => by
    obtain ⟨_, hlt, cur, hc⟩ := GRow.mem hg hk
    refine ho.block k hlt (fun e => ?_)
    rw [show k = R from e, hR] at hc
    injection hc with hc
    injection hc with _ hc _
    exact he hc.symm) (fun _ _ => trivial)
  refine ⟨nv, sv, ss, h1, h2, ⟨ne h.notes (by decide), ne h.send (by decide), fun p hp => ?_, h.bn, h.bs⟩⟩
  obtain ⟨h0, A, cc, hv, k1, k2, hc⟩ := h.rows p hp
  refine ⟨h0, A, cc, hv, k1, k2, fun j u hu => ?_⟩
  obtain ⟨b, o, hA, hb, hx⟩ := hc j u hu
  refine ⟨b, o, hA, hb, ho.cell hx (fun e => ?_)⟩
  rw [show b = R from e, cells_all hR] at hx
  have := hcs _ _ hx
  subst this
  exact encL_noslice _ (List.mem_of_getElem? hu)

def resB : Obj := .cells #[.slice none 0 0, .slice none 0 0] 86 (0, 0)
theorem resB_one (i : Nat) (u : Value) (h : (#[Value.slice none 0 0, .slice none 0 0] : Array Value)[i]? = some u) : u = .slice none 0 0 := by
  match i with
  | 0 => injection h with h; exact h.symm
  | 1 => injection h with h; exact h.symm
  | n + 2 => simp at h

/-- Within a call: the node has become c, the answer's block R is empty. -/
def Held (w : World) (x : Nat) (V : NV) (c : NS) (R : Nat) (W : World) : Prop := ∃ V', NAt W x c V' ∧ Next (V.own x) w (V'.own x) W ∧ W.heap[R]? = some resB ∧ w.heap.size ≤ R

theorem Held.any {R : Nat} {W W' : World} (h : Held w x V c R W) (ho : Out Zone.no W W') : Held w x V c R W' := by
  obtain ⟨V', h1, h2, h3, h4⟩ := h
  exact ⟨V', h1.any ho, h2.trans (Next.of_out ho), ho.get h3 id, h4⟩
theorem Held.gone {R : Nat} {W W' : World} {V' : NV} (h1 : NAt W x c V') (h2 : Next (V.own x) w (V'.own x) W) (h3 : W.heap[R]? = some resB) (h4 : w.heap.size ≤ R) (hg : Gone W x V' c' W') : Held w x V c' R W' := by
  obtain ⟨V2, k1, k2⟩ := hg
  exact ⟨V2, k1, h2.trans k2, (k2.out.block R (heap_lt h3) (h1.not32 h3)).trans h3, h4⟩
/-- An operation's contract within a call. -/
theorem Held.step {R : Nat} {W : World} (h : Held w x V c R W) {f : FuncId} {args : Array Value} {v : Value} (hc : ∀ V', NAt W x c V' → Calls Tryz.prog f args W fun e w' => e = .returned v ∧ Gone W x V' c' w') :
    Calls Tryz.prog f args W fun e w' => e = .returned v ∧ Held w x V c' R w' := by
  obtain ⟨V', h1, h2, h3, h4⟩ := h
  refine (hc V' h1).mono ?_
  rintro e w' ⟨rfl, hg⟩
  exact ⟨rfl, Held.gone h1 h2 h3 h4 hg⟩
theorem Held.start (h : NAt w x c V) : Held w x V c w.heap.size (w.alloc (.cells #[.slice none 0 0, .slice none 0 0] 86)) :=
  ⟨V, h.any ((Out.refl _ _).alloc _), Next.of_out ((Out.refl _ _).alloc _), heap_alloc_new w _, Nat.le_refl _⟩

/-- An answer without work. -/
theorem Held.idle {q : ND} {R : Nat} {W : World} (h : Held w x V ⟨q, [], []⟩ R W) {W' : World} (ho : Out (Zone.m (fun k => k = R)) W W') : Handed w x V ⟨q, [], []⟩ (.agg #[.slice none 0 0, .slice none 0 0]) W' := by
  obtain ⟨V', h1, h2, h3, h4⟩ := h
  refine ⟨V', h1.beside h3 resB_one ho, ⟨h2.out.transF ho h4, h2.sub⟩, _, _, [], rfl, rfl, ⟨grow_nil _ _ _ _, grow_nil _ _ _ _, fun p hp => (by cases hp), fun k hk => (by cases hk), fun k hk => (by cases hk)⟩⟩

/-- done, its answer laid in R. -/
theorem Held.done {R : Nat} {W : World} (h : Held w x V c R W) :
    Calls Tryz.prog 65 #[.pointer (some ⟨x, 0, none⟩)] W fun e w' => ∃ A1 n1 c1 A2 n2 c2, e = .returned (.agg #[.slice A1 n1 c1, .slice A2 n2 c2]) ∧ w'.heap[R]? = some (.cells #[.slice none 0 0, .slice none 0 0] 86 (0, 0)) ∧ ∀ W', Out (Zone.m (fun k => k = R)) w' W' → Handed w x V c (.agg #[.slice A1 n1 c1, .slice A2 n2 c2]) W' := by
  obtain ⟨V', h1, h2, h3, h4⟩ := h
  have hn := h1.not32 h3
  obtain ⟨ss, hss, hq⟩ := h1
  obtain ⟨AN, cN, hnv⟩ := GRow.form hq.notes
  obtain ⟨AS, cS, hsv⟩ := GRow.form hq.send
  refine (done_is hq).mono ?_
  rintro e w1 ⟨rfl, k1, k2, k3⟩
  have hR : w1.heap[R]? = some resB := (k2.out.block R (heap_lt h3) hn).trans h3
  refine ⟨AN, _, cN, AS, _, cS, by rw [hnv, hsv], hR, fun W' ho => ?_⟩
  have hN : NAt w1 x ⟨c.q, [], []⟩ { V' with nv := .slice none 0 0, sv := .slice none 0 0 } := ⟨[], rfl, k1⟩
  have hW : WorkOut (NV.shun x { V' with nv := .slice none 0 0, sv := .slice none 0 0 }) w1 (.agg #[.slice AN c.ns.length cN, .slice AS ss.length cS]) c.ns c.ms := ⟨_, _, ss, rfl, hss, by rw [← hnv, ← hsv]; exact k3⟩
  have h5 := h2.trans k2
  exact ⟨_, hN.beside hR resB_one ho, ⟨h5.out.transF ho h4, h5.sub⟩, hW.beside hR resB_one ho⟩
end
end Go.Proofs.YtlgoenimjmiapaaGreat

/-! Promote. -/
set_option linter.unusedVariables false
set_option linter.unusedSectionVars false
namespace Go.Proofs.YtlgoenimjmiapaaGreat
open Go.RowKit Go.Maps

theorem vote_log (s : St) (t : Nt) (h : t.kind = 1) : ((s.note t).getD s).log = s.log := by
  unfold St.note
  rw [h]
  simp only [if_true]
  split
  · rfl
  split
  · rfl
  · rfl
theorem asks_len (q : ND) (gs : List Int) (i : Nat) : (q.asks gs i).length ≤ i := by
  unfold ND.asks
  rw [List.length_map]
  refine Nat.le_trans (List.length_filter_le _ _) ?_
  rw [List.length_range]
  exact Nat.le_refl _
theorem ships_len (q : ND) (i : Nat) : (q.ships i).length ≤ i := by
  unfold ND.ships
  rw [List.length_map]
  refine Nat.le_trans (List.length_filter_le _ _) ?_
  rw [List.length_range]
  exact Nat.le_refl _

section
variable [Far] {w w' : World} {x : Nat} {c c' : NS} {V : NV}

theorem none_g (h : NAt w x c V) (hn : 0 < c.q.n) (hn2 : c.q.n ≤ 7) : Calls Tryz.prog 61 #[.pointer (some ⟨x, 0, none⟩)] w fun e w' => e = .returned (.bool false) ∧ w = w' := by
  obtain ⟨ss, _, h⟩ := h
  exact none_is h hn hn2

/-- The role and a new map of one vote. -/
theorem Held.runs {R : Nat} {W : World} (h : Held w x V c R W) {i : Nat} (hi : c.q.id = i) (hi7 : i ≤ 7) :
    ∃ W3, (Instr.mapUpdate 109 (.map (some W.heap.size)) (.int .i64 (i : Int)) (.bool true)).run Tryz.prog (W.alloc (.map #[] 0)) = .ok () W3 ∧
      W3.cell? ⟨x, 5, none⟩ = W.cell? ⟨x, 5, none⟩ ∧ W3.cell? ⟨x, 7, none⟩ = W.cell? ⟨x, 7, none⟩ ∧ W3.frozen? ⟨x, 5, none⟩ = false ∧ W3.frozen? ⟨x, 7, none⟩ = false ∧
      Held w x V c.cand R ((W3.setCell ⟨x, 5, none⟩ (.int .i64 1)).setCell ⟨x, 7, none⟩ (.map (some W.heap.size))) := by
  obtain ⟨V', ⟨ss, e1, e2⟩, h2, h3, h4⟩ := h
  obtain ⟨W3, k1, k2, k3⟩ := (VotesAt.made W).add hi7 (by simp)
  have ho : Out Zone.no W W3 := ((Out.refl Zone.no W).alloc (.map #[] 0)).grown k3 (fun k hk => by injection hk with hk; subst hk; exact Or.inr (Nat.le_refl _))
  have e3 := e2.any ho
  obtain ⟨j1, j2⟩ := e2.runs ho 1 k2 (Nat.le_refl _)
  refine ⟨W3, k1, by rw [e2.c5, e3.c5], by rw [e2.c7, e3.c7], frozen_all e3.blk 5, frozen_all e3.blk 7, Held.gone ⟨ss, e1, e2⟩ h2 h3 h4 ⟨_, ⟨ss, e1, ?_⟩, j2⟩⟩
  unfold NS.cand
  rw [hi]
  exact j1

theorem Held.cells {R : Nat} {W : World} (h : Held w x V c R W) : W.cell? ⟨R, 0, none⟩ = some (.slice none 0 0) ∧ W.cell? ⟨R, 1, none⟩ = some (.slice none 0 0) ∧ W.frozen? ⟨R, 0, none⟩ = false ∧ W.frozen? ⟨R, 1, none⟩ = false := by
  obtain ⟨V', _, _, h3, _⟩ := h
  have h3' : W.heap[R]? = some (.cells #[.slice none 0 0, .slice none 0 0] 86 (0, 0)) := h3
  exact ⟨by rw [cells_all h3']; rfl, by rw [cells_all h3']; rfl, frozen_all h3' 0, frozen_all h3' 1⟩

set_option maxRecDepth 100000 in
set_option maxHeartbeats 4000000 in
theorem promote_is {q : ND} (h : NAt w x ⟨q, [], []⟩ V) (h1 : 0 < q.n) (h7 : q.n ≤ 7) (hid : q.id < q.n) (hl : q.st.log.length ≤ 2048) (hep : 0 ≤ q.st.ep) :
    Calls Tryz.prog 39 #[.pointer (some ⟨x, 0, none⟩)] w fun e w' => Answered w x V q.promote e w' := by
  have HS := Lib.hid (Held.start h)
  obtain ⟨R, hR⟩ : ∃ R, w.heap.size = R := ⟨_, rfl⟩
  rw [hR] at HS
  have HN : Hid (∀ W, Held w x V ⟨q, [], []⟩ R W → Calls Tryz.prog 61 #[.pointer (some ⟨x, 0, none⟩)] W fun e w' => e = .returned (.bool false) ∧ W = w') := fun W hW => by
    obtain ⟨V', k, _⟩ := hW
    exact none_g k h1 h7
  have KC : Hid (∀ W, Held w x V ⟨q, [], []⟩ R W → W.cell? ⟨x, 0, none⟩ = some (.int .i64 q.st.ep) ∧ W.cell? ⟨x, 3, none⟩ = some (.int .i64 (q.id : Int))) := fun W hW => by
    obtain ⟨V', ⟨ss, _, k⟩, _⟩ := hW
    exact ⟨k.blk.c0, k.c3⟩
  have HD := Lib.hid hid
  have HL := Lib.hid hl
  have H7 := Lib.hid h7
  obtain ⟨D, hD⟩ : ∃ D, q.id = D := ⟨_, rfl⟩
  obtain ⟨E, hE⟩ : ∃ E, q.st.ep = E := ⟨_, rfl⟩
  have HDD := Lib.hid hD
  have HEE := Lib.hid hE
  rw [hD, hE] at KC
  rw [hE] at hep
  by_cases hb : 1099511627776 ≤ E
  · have HX : Hid (q.promote = (⟨q, [], []⟩, 6)) := by unfold ND.promote; rw [hE]; exact if_pos hb
    obtain ⟨X, hX⟩ : ∃ X, q.promote = X := ⟨_, rfl⟩
    rw [hX] at HX ⊢
    clear h hl h7 hid hX hD hE h1
    go_enter Tryz.func39, Tryz.ntmps39
    go_wp2_with fail
    obtain ⟨W0, hW0⟩ : ∃ W0, w.alloc (.cells #[.slice none 0 0, .slice none 0 0] 86) = W0 := ⟨_, rfl⟩
    rw [hW0] at HS ⊢
    obtain ⟨r0, r1, f0, f1⟩ := HS.out.cells
    obtain ⟨c0, c3⟩ := KC.out _ HS.out
    clear hW0 hR
    go_wp2_with (go_at_call 61; refine (HN.out _ HS.out).mono ?_; rintro e w' ⟨rfl, rfl⟩)
    refine bodyPost_ret (v := .tuple #[.agg #[.slice none 0 0, .slice none 0 0], .int .i64 6]) (by simp [results, Tryz.results39, go_sem, *]) rfl ?_
    rw [HX.out]
    refine ⟨_, rfl, HS.out.idle ?_⟩
    first
    | exact Out.refl _ _
    | exact ((Out.refl _ _).setCell (Or.inl (by show R = R; rfl)) _).setCell (Or.inl (by show R = R; rfl)) _
  · have HX : Hid (q.promote = (((NS.note ⟨q, [], []⟩ ⟨1, E + 1, (D : Int), ⟨0, []⟩⟩).cand.asks).count, 0)) := by unfold ND.promote; rw [hE, hD]; exact if_neg hb
    obtain ⟨X, hX⟩ : ∃ X, q.promote = X := ⟨_, rfl⟩
    rw [hX] at HX ⊢
    have we : IntKind.i64.wrap (E + 1) = E + 1 := IntWalk.i64_in _ (by omega)
    obtain ⟨c1, hc1⟩ : ∃ c1, NS.note ⟨q, [], []⟩ ⟨1, E + 1, (D : Int), ⟨0, []⟩⟩ = c1 := ⟨_, rfl⟩
    have HX2 : Hid (X = (c1.cand.asks.count, 0)) := by rw [HX.out, hc1]; exact rfl
    have hlog : c1.q.st.log = q.st.log := by rw [← hc1]; exact vote_log q.st ⟨1, E + 1, (D : Int), ⟨0, []⟩⟩ rfl
    have hq1 : c1.q.n = q.n ∧ c1.q.id = D ∧ c1.ns.length = 1 ∧ c1.ms.length = 0 := by rw [← hc1]; exact ⟨rfl, hD, rfl, rfl⟩
    have NOTE : Hid (∀ W, Held w x V ⟨q, [], []⟩ R W → Calls Tryz.prog 62 #[.pointer (some ⟨x, 0, none⟩), .agg #[.int .i64 1, .int .i64 (E + 1), .int .i64 (D : Int), .int .i64 0, .string ⟨#[]⟩]] W fun e w' => e = .returned (.tuple #[]) ∧ Held w x V c1 R w') := fun W hW => by
      rw [← hc1]
      exact hW.step (fun V' k => noted_g k (Nat.le_trans hl (by omega)) (by show (0 : Nat) ≤ _; omega) ⟨1, E + 1, (D : Int), ⟨0, []⟩⟩ (by show (0 : Nat) ≤ _; omega))
    have ASK : Hid (∀ W, Held w x V c1.cand R W → Calls Tryz.prog 63 #[.pointer (some ⟨x, 0, none⟩)] W fun e w' => e = .returned (.tuple #[]) ∧ Held w x V c1.cand.asks R w') := fun W hW =>
      hW.step (fun V' k => ask_g k rfl (by show c1.ms.length ≤ _; omega) (by show c1.q.n ≤ 7; omega) (by show c1.q.id ≤ 7; omega) (by show c1.q.st.log.length ≤ _; rw [hlog]; omega))
    have COUNT : Hid (∀ W, Held w x V c1.cand.asks R W → Calls Tryz.prog 64 #[.pointer (some ⟨x, 0, none⟩)] W fun e w' => e = .returned (.tuple #[]) ∧ Held w x V c1.cand.asks.count R w') := fun W hW =>
      hW.step (fun V' k => count_is k (gs := [(c1.q.id : Int)]) rfl (by simp) (by show c1.q.st.log.length ≤ _; rw [hlog]; exact hl) (by show c1.ns.length ≤ _; omega) (by
        show (c1.ms ++ c1.cand.q.asks [(c1.q.id : Int)] c1.q.n).length ≤ _
        have := asks_len c1.cand.q [(c1.q.id : Int)] c1.q.n
        rw [List.length_append]; omega) (by show c1.q.id < c1.q.n; omega) (by show c1.q.n ≤ 7; omega))
    have HQ1 := Lib.hid hq1
    have KC1 : Hid (∀ W, Held w x V c1 R W → W.cell? ⟨x, 3, none⟩ = some (.int .i64 (D : Int)) ∧ (∃ u, W.cell? ⟨x, 5, none⟩ = some (.int .i64 u)) ∧ (∃ b, W.cell? ⟨x, 7, none⟩ = some (.map b))) := fun W hW => by
      obtain ⟨V', ⟨ss, _, k⟩, _⟩ := hW
      refine ⟨by rw [← hq1.2.1]; exact k.c3, ⟨_, k.c5⟩, ?_⟩
      have hv := k.votes
      cases hg : c1.q.granted with
      | none => rw [hg] at hv; exact ⟨none, by rw [k.c7, show V'.gv = _ from hv]⟩
      | some gs => rw [hg] at hv; obtain ⟨b, hv, _⟩ := hv; exact ⟨some b, by rw [k.c7, hv]⟩
    clear h hl h7 hid hX hD hE h1 hlog hq1 hc1
    go_enter Tryz.func39, Tryz.ntmps39
    go_wp2_with fail
    obtain ⟨W0, hW0⟩ : ∃ W0, w.alloc (.cells #[.slice none 0 0, .slice none 0 0] 86) = W0 := ⟨_, rfl⟩
    rw [hW0] at HS ⊢
    obtain ⟨c0, c3⟩ := KC.out _ HS.out
    clear hW0 hR
    go_wp2_with (go_at_call 61; refine (HN.out _ HS.out).mono ?_; rintro e w' ⟨rfl, rfl⟩)
    have HSD : Hid (Held w x V ⟨q, [], []⟩ R W0.drew) := HS.out.any ((Out.refl _ _).drew)
    obtain ⟨c0', c3'⟩ := KC.out _ HSD.out
    clear c0 c3
    go_region_with (first
        | (go_at_call 62; refine (NOTE.out _ HSD.out).mono ?_; rintro e w2 ⟨rfl, hh⟩; have HH := Lib.hid hh; clear hh)
        | fail)
    all_goals
      clear c0' c3'
      obtain ⟨c3, ⟨u5, c5⟩, ⟨b7, c7⟩⟩ := KC1.out _ HH.out
      have c3a : (w2.alloc (.map #[] 0)).cell? ⟨x, 3, none⟩ = some (.int .i64 (D : Int)) := ((Out.refl Zone.no _).alloc _).cell c3 id
      obtain ⟨W3, hins, d5, d7, f5, f7, hh⟩ := HH.out.runs HQ1.out.2.1 (by have := HD.out; have := H7.out; have := HDD.out; omega)
      rw [c5] at d5
      rw [c7] at d7
      have HH2 := Lib.hid hh
      have hmm : (Instr.makeMap 109 none).run Tryz.prog w2 = .ok (.map (some w2.heap.size)) (w2.alloc (.map #[] 0)) := rfl
      clear hh c5 c7
      go_wp2_with (first
        | (go_at_call 63; refine (ASK.out _ HH2.out).mono ?_; rintro e w4 ⟨rfl, hh⟩; have HH3 := Lib.hid hh; clear hh)
        | (go_at_call 64; refine (COUNT.out _ HH3.out).mono ?_; rintro e w5 ⟨rfl, hh⟩; have HH4 := Lib.hid hh; clear hh)
        | (go_at_call 65; refine (HH4.out.done).mono ?_; rintro e w6 ⟨A1, n1, k1, A2, n2, k2, rfl, hR, hfin⟩; have FIN := Lib.hid hfin; have r0 := cells_all hR 0; have r1 := cells_all hR 1; have f0 := frozen_all hR 0; have f1 := frozen_all hR 1; have BR := Lib.hid hR; clear hfin hR))
      have BB := heap_set (heap_set BR.out 0 (.slice A1 n1 k1)) 1 (.slice A2 n2 k2)
      have q0 := cells_all BB 0
      have q1 := cells_all BB 1
      refine bodyPost_ret (v := .tuple #[.agg #[.slice A1 n1 k1, .slice A2 n2 k2], .int .i64 0]) (by simp [results, Tryz.results39, go_sem, q0, q1]) rfl ?_
      rw [HX2.out]
      exact ⟨_, rfl, FIN.out _ (((Out.refl _ _).setCell (p := ⟨R, 0, none⟩) (Or.inl (by show R = R; rfl)) _).setCell (p := ⟨R, 1, none⟩) (Or.inl (by show R = R; rfl)) _)⟩
end
end Go.Proofs.YtlgoenimjmiapaaGreat
