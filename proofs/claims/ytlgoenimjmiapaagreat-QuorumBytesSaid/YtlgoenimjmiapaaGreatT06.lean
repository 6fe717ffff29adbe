import Derived.Test.YtlgoenimjmiapaaGreatT03
import Derived.Test.YtlgoenimjmiapaaGreatT04
import Derived.Test.YtlgoenimjmiapaaGreatT05
set_option linter.unusedSimpArgs false
set_option linter.unusedVariables false
set_option linter.unusedSectionVars false
/-! A node in the memory. -/
set_option linter.unusedVariables false
set_option linter.unusedSectionVars false
namespace Go.Proofs.YtlgoenimjmiapaaGreat
open Go.RowKit Go.Maps

/-- A node, plain. granted: whose votes it has (none: no map yet). -/
structure ND where
  st : St
  id : Nat
  n : Nat
  role : Int
  commit : Nat
  granted : Option (List Int)
  has : List Int
  acked : List Int
/-- Where its parts lie. -/
structure NV where
  lv : Value
  gv : Value
  hv : Value
  av : Value
  nv : Value
  sv : Value

def encN (l : List Nt) : List Value := l.flatMap fun t => [.int .i64 t.kind, .int .i64 t.ep, .int .i64 t.n, .int .i64 t.ent.ep, .string (str t.ent.data)]
def mcells (p : Msg × Value) : List Value := [.int .i64 p.1.kind, .int .i64 p.1.frm, .int .i64 p.1.to, .int .i64 p.1.ep, .int .i64 p.1.at_, .int .i64 p.1.last, .int .i64 p.1.commit, p.2]
def encM (l : List (Msg × Value)) : List Value := l.flatMap mcells
theorem encN_length (l : List Nt) : (encN l).length = l.length * 5 := by
  induction l with
  | nil => rfl
  | cons x r ih => show (_ ++ encN r).length = _; rw [List.length_append, ih]; simp; omega
theorem encM_length (l : List (Msg × Value)) : (encM l).length = l.length * 8 := by
  induction l with
  | nil => rfl
  | cons x r ih => show (mcells x ++ encM r).length = _; rw [List.length_append, ih]; simp [mcells]; omega

/-- The map of the votes: block b holds true at the keys gs, and no others. -/
def VotesAt (w : World) (b : Nat) (gs : List Int) : Prop :=
  ∃ D : DataW Value, w.ownsMap Tryz.prog 3 heldR b gs.length D ∧ Maps.size D = gs.length ∧ gs.Nodup ∧ ∀ key : Int, if key ∈ gs then ∀ z, D.atKey (.int .i64 key) z = .held (.bool true) else ∀ z, D.atKey (.int .i64 key) z = z
def mapBlock : Value → Option Nat
  | .map b => b
  | _ => none

def NV.blks (x : Nat) (V : NV) : List (Option Nat) := [some x, V.lv.ownBlock, mapBlock V.gv, V.hv.ownBlock, V.av.ownBlock, V.nv.ownBlock, V.sv.ownBlock]
/-- The node's own blocks. -/
def NV.own (x : Nat) (V : NV) (k : Nat) : Prop := some k ∈ V.blks x

/-- Blocks far away, in which no message's log may lie. -/
class Far where
  F : Nat → Prop
def NV.shun [Far] (x : Nat) (V : NV) (k : Nat) : Prop := V.own x k ∨ Far.F k
def FarOk [Far] (M : Nat → Prop) (w : World) : Prop := ∀ k, Far.F k → k < w.heap.size ∧ ¬ M k
theorem FarOk.next [Far] {M M' : Nat → Prop} {w w' : World} (h : FarOk M w) (hn : Next M w M' w') : FarOk M' w' := fun k hk => by
  obtain ⟨h1, h2⟩ := h k hk
  refine ⟨Nat.lt_of_lt_of_le h1 hn.out.size, fun e => ?_⟩
  rcases hn.sub k e with e | e
  · exact h2 e
  · omega

structure NodeAt [Far] (w : World) (x : Nat) (q : ND) (ns : List Nt) (ss : List (Msg × Value)) (V : NV) : Prop where
  blk : StAt w x 111 q.st.ep q.st.voted V.lv [.int .i64 (q.id : Int), .int .i64 (q.n : Int), .int .i64 q.role, .int .i64 (q.commit : Int), V.gv, V.hv, V.av, V.nv, V.sv]
  log : GR w 34 2 V.lv q.st.log.length (encL q.st.log)
  votes : match q.granted with
    | none => V.gv = .map none
    | some gs => ∃ b, V.gv = .map (some b) ∧ VotesAt w b gs
  has : GR w 3 1 V.hv q.has.length (ints q.has)
  acked : GR w 3 1 V.av q.acked.length (ints q.acked)
  notes : GR w 36 5 V.nv ns.length (encN ns)
  send : GR w 49 8 V.sv ss.length (encM ss)
  rows : ∀ p ∈ ss, RRow (V.shun x) w p.2 p.1.log.length 2 (encL p.1.log)
  sep : (V.blks x).Pairwise (fun a b => ∀ k, a = some k → b ≠ some k)
  far : FarOk (V.own x) w

section
variable [Far] {w w' : World} {x : Nat} {q : ND} {ns : List Nt} {ss : List (Msg × Value)} {V : NV}
theorem NodeAt.c (h : NodeAt w x q ns ss V) (i : Nat) : w.cell? ⟨x, i, none⟩ = [Value.int .i64 q.st.ep, .int .i64 q.st.voted, V.lv, .int .i64 (q.id : Int), .int .i64 (q.n : Int), .int .i64 q.role, .int .i64 (q.commit : Int), V.gv, V.hv, V.av, V.nv, V.sv][i]? := by
  rw [cells_all h.blk i]
  simp
theorem NodeAt.c3 (h : NodeAt w x q ns ss V) : w.cell? ⟨x, 3, none⟩ = some (.int .i64 (q.id : Int)) := by rw [h.c]; rfl
theorem NodeAt.c4 (h : NodeAt w x q ns ss V) : w.cell? ⟨x, 4, none⟩ = some (.int .i64 (q.n : Int)) := by rw [h.c]; rfl
theorem NodeAt.c5 (h : NodeAt w x q ns ss V) : w.cell? ⟨x, 5, none⟩ = some (.int .i64 q.role) := by rw [h.c]; rfl
theorem NodeAt.c6 (h : NodeAt w x q ns ss V) : w.cell? ⟨x, 6, none⟩ = some (.int .i64 (q.commit : Int)) := by rw [h.c]; rfl
theorem NodeAt.c7 (h : NodeAt w x q ns ss V) : w.cell? ⟨x, 7, none⟩ = some V.gv := by rw [h.c]; rfl
theorem NodeAt.c8 (h : NodeAt w x q ns ss V) : w.cell? ⟨x, 8, none⟩ = some V.hv := by rw [h.c]; rfl
theorem NodeAt.c9 (h : NodeAt w x q ns ss V) : w.cell? ⟨x, 9, none⟩ = some V.av := by rw [h.c]; rfl
theorem NodeAt.c10 (h : NodeAt w x q ns ss V) : w.cell? ⟨x, 10, none⟩ = some V.nv := by rw [h.c]; rfl
theorem NodeAt.c11 (h : NodeAt w x q ns ss V) : w.cell? ⟨x, 11, none⟩ = some V.sv := by rw [h.c]; rfl

theorem VotesAt.same {b : Nat} {gs : List Int} (h : VotesAt w b gs) (hb : w'.heap[b]? = w.heap[b]?) : VotesAt w' b gs := by
  obtain ⟨D, ⟨es, c, h1, h2, h3, h4⟩, h5⟩ := h
  exact ⟨D, ⟨es, c, hb.trans h1, h2, h3, h4⟩, h5⟩
theorem VotesAt.lt {b : Nat} {gs : List Int} (h : VotesAt w b gs) : b < w.heap.size := by obtain ⟨D, h, _⟩ := h; exact h.lt

/-- All that lies outside of what has turned. -/
theorem NodeAt.any (h : NodeAt w x q ns ss V) (ho : Out Zone.no w w') : NodeAt w' x q ns ss V := by
  refine ⟨h.blk.any ho, GRow.any h.log ho, ?_, GRow.any h.has ho, GRow.any h.acked ho, GRow.any h.notes ho, GRow.any h.send ho, fun p hp => (h.rows p hp).any ho, h.sep, fun k hk => ⟨Nat.lt_of_lt_of_le (h.far k hk).1 ho.size, (h.far k hk).2⟩⟩
  have hv := h.votes
  cases hg : q.granted with
  | none => rw [hg] at hv; exact hv
  | some gs =>
    rw [hg] at hv
    obtain ⟨b, h1, h2⟩ := hv
    exact ⟨b, h1, h2.same (ho.block b h2.lt id)⟩
theorem NodeAt.drewN (h : NodeAt w x q ns ss V) (n : Nat) : NodeAt (w.drewN n) x q ns ss V := h.any ((Out.refl _ _).drewN n)

set_option maxRecDepth 100000 in
theorem none_is (h : NodeAt w x q ns ss V) (hn : 0 < q.n) (hn2 : q.n ≤ 7) : Calls Tryz.prog 61 #[.pointer (some ⟨x, 0, none⟩)] w fun e w' => e = .returned (.bool false) ∧ w = w' := by
  have c4 := h.c4
  obtain ⟨n, hq⟩ : ∃ n, q.n = n := ⟨_, rfl⟩
  rw [hq] at c4 hn hn2
  have e0 : ((n : Int) == 0) = false := by rw [beq_eq_false_iff_ne]; omega
  clear h hq
  go_enter Tryz.func61, Tryz.ntmps61
  go_wp2_with fail
  go_ret
  exact ⟨rfl, rfl⟩

set_option maxRecDepth 100000 in
theorem role_is (h : NodeAt w x q ns ss V) (hn : 0 < q.n) (hn2 : q.n ≤ 7) : Calls Tryz.prog 40 #[.pointer (some ⟨x, 0, none⟩)] w fun e w' => e = .returned (.int .i64 q.role) ∧ w = w' := by
  have c5 := h.c5
  have N := Lib.hid (none_is h hn hn2)
  clear h
  go_enter Tryz.func40, Tryz.ntmps40
  go_wp2_with (go_at_call 61; refine N.out.mono ?_; rintro e w' ⟨rfl, rfl⟩)
  go_ret
  exact ⟨rfl, rfl⟩

set_option maxRecDepth 100000 in
theorem commit_is (h : NodeAt w x q ns ss V) (hn : 0 < q.n) (hn2 : q.n ≤ 7) : Calls Tryz.prog 43 #[.pointer (some ⟨x, 0, none⟩)] w fun e w' => e = .returned (.int .i64 (q.commit : Int)) ∧ w = w' := by
  have c6 := h.c6
  have N := Lib.hid (none_is h hn hn2)
  clear h
  go_enter Tryz.func43, Tryz.ntmps43
  go_wp2_with (go_at_call 61; refine N.out.mono ?_; rintro e w' ⟨rfl, rfl⟩)
  go_ret
  exact ⟨rfl, rfl⟩
end
end Go.Proofs.YtlgoenimjmiapaaGreat

/-! A node behind a change of one of its parts; noted. -/
set_option linter.unusedVariables false
set_option linter.unusedSectionVars false
namespace Go.Proofs.YtlgoenimjmiapaaGreat
open Go.RowKit Go.Maps

def Apt (a b : Option Nat) : Prop := ∀ k, a = some k → b ≠ some k
theorem pw_set {l : List (Option Nat)} (h : l.Pairwise (fun a b => ∀ k, a = some k → b ≠ some k)) {N : Nat} (hlt : ∀ k, some k ∈ l → k < N) (i : Nat) (o : Option Nat) (ho : ∀ k, o = some k → l[i]? = some (some k) ∨ N ≤ k) :
    (l.set i o).Pairwise (fun a b => ∀ k, a = some k → b ≠ some k) := by
  rw [List.pairwise_iff_getElem] at h ⊢
  intro a b ha hb hab k hk hk'
  rw [List.length_set] at ha hb
  rw [List.getElem_set] at hk hk'
  by_cases h1 : i = a
  · rw [if_pos h1] at hk
    rw [if_neg (by omega)] at hk'
    rcases ho k hk with e | e
    · subst h1
      rw [List.getElem?_eq_getElem ha] at e
      injection e with e
      exact h _ b ha hb hab k e hk'
    · have := hlt k (by rw [← hk']; exact List.getElem_mem hb)
      omega
  · rw [if_neg h1] at hk
    by_cases h2 : i = b
    · rw [if_pos h2] at hk'
      rcases ho k hk' with e | e
      · subst h2
        rw [List.getElem?_eq_getElem hb] at e
        injection e with e
        exact h a _ ha hb hab k hk e
      · have := hlt k (by rw [← hk]; exact List.getElem_mem ha)
        omega
    · rw [if_neg h2] at hk'
      exact h a b ha hb hab k hk hk'

theorem RRow.next {N N' S : Nat → Prop} {w w' : World} {v : Value} {n sz : Nat} {xs : List Value} (h : RRow N w v n sz xs) (ho : Out (Zone.m S) w w') (hS : ∀ k, S k → k < w.heap.size → N k) (hN : ∀ k, N' k → k < w.heap.size → N k) : RRow N' w' v n sz xs := by
  obtain ⟨h0, A, c, hv, h1, h2, hc⟩ := h
  refine ⟨h0, A, c, hv, h1, h2, fun j u hu => ?_⟩
  obtain ⟨b, o, hA, hb, hx⟩ := hc j u hu
  have hlt : b < w.heap.size := by
    rcases Nat.lt_or_ge b w.heap.size with hlt | hge
    · exact hlt
    · simp [World.cell?, Array.getElem?_eq_none hge] at hx
  exact ⟨b, o, hA, fun e => hb (hN b e hlt), ho.cell hx (fun e => hb (hS b e hlt))⟩

theorem RRow.shun [Far] {x : Nat} {V V' : NV} {w w' : World} {v : Value} {n sz : Nat} {xs : List Value} (h : RRow (V.shun x) w v n sz xs) (hn : Next (V.own x) w (V'.own x) w') : RRow (V'.shun x) w' v n sz xs :=
  h.next hn.out (fun k hk _ => Or.inl hk) (fun k hk hlt => hk.elim (fun e => (hn.sub k e).elim Or.inl (fun e => by omega)) Or.inr)

section
variable [Far] {w w' : World} {x : Nat} {q : ND} {ns : List Nt} {ss : List (Msg × Value)} {V : NV}
theorem NodeAt.lt (h : NodeAt w x q ns ss V) {k : Nat} (hk : some k ∈ V.blks x) : k < w.heap.size := by
  simp only [NV.blks, List.mem_cons, List.not_mem_nil, or_false] at hk
  rcases hk with e | e | e | e | e | e | e
  · injection e with e; subst e; exact heap_lt h.blk
  · exact (GRow.mem h.log e.symm).2.1
  · have hv := h.votes
    cases hg : q.granted with
    | none => rw [hg] at hv; rw [show V.gv = _ from hv] at e; cases e
    | some gs =>
      rw [hg] at hv
      obtain ⟨b, h1, h2⟩ := hv
      rw [h1] at e
      cases e
      exact h2.lt
  · exact (GRow.mem h.has e.symm).2.1
  · exact (GRow.mem h.acked e.symm).2.1
  · exact (GRow.mem h.notes e.symm).2.1
  · exact (GRow.mem h.send e.symm).2.1
theorem NodeAt.apart (h : NodeAt w x q ns ss V) (i j : Nat) (hij : i < j) (hj : j < 7) (k : Nat) (h1 : (V.blks x)[i]? = some (some k)) : (V.blks x)[j]? ≠ some (some k) := by
  have hp := h.sep
  rw [List.pairwise_iff_getElem] at hp
  have hl : (V.blks x).length = 7 := rfl
  intro h2
  rw [List.getElem?_eq_getElem (by omega)] at h1 h2
  injection h1 with h1
  injection h2 with h2
  exact hp i j (by omega) (by omega) hij k h1 h2

/-- The state's part has turned. -/
theorem NodeAt.noted (h : NodeAt w x q ns ss V) {st : St} {lv' : Value} (hb : StAt w' x 111 st.ep st.voted lv' [.int .i64 (q.id : Int), .int .i64 (q.n : Int), .int .i64 q.role, .int .i64 (q.commit : Int), V.gv, V.hv, V.av, V.nv, V.sv])
    (hg : GR w' 34 2 lv' st.log.length (encL st.log)) (ho : Out (stZ x V.lv) w w') (hl : ∀ k, lv'.ownBlock = some k → V.lv.ownBlock = some k ∨ w.heap.size ≤ k) :
    NodeAt w' x { q with st := st } ns ss { V with lv := lv' } ∧ Next (V.own x) w (NV.own x { V with lv := lv' }) w' := by
  have far : ∀ j k, 2 ≤ j → j < 7 → (V.blks x)[j]? = some (some k) → w'.heap[k]? = w.heap[k]? := fun j k h2 h7 hk => by
    refine ho.block k (h.lt (List.mem_of_getElem? hk)) (fun e => ?_)
    rcases e with e | e
    · exact h.apart 0 j (by omega) h7 k (by rw [e]; rfl) hk
    · exact h.apart 1 j (by omega) h7 k (by show some _ = _; rw [e]) hk
  have hset : NV.blks x { V with lv := lv' } = (V.blks x).set 1 lv'.ownBlock := rfl
  have hsub : ∀ k, NV.own x { V with lv := lv' } k → V.own x k ∨ w.heap.size ≤ k := fun k hk => by
    unfold NV.own at hk
    rw [hset] at hk
    rcases List.mem_or_eq_of_mem_set hk with e | e
    · exact Or.inl e
    · rcases hl k e.symm with e | e
      · exact Or.inl (by unfold NV.own NV.blks; rw [← e]; simp)
      · exact Or.inr e
  have hown : ∀ k, (stZ x V.lv).S k → V.own x k := fun k hk => by
    rcases hk with e | e
    · unfold NV.own NV.blks; rw [e]; simp
    · unfold NV.own NV.blks; rw [← e]; simp
  have hnx : Next (V.own x) w (NV.own x { V with lv := lv' }) w' := ⟨⟨ho.os, ho.tape, ho.output, ho.size, fun k hk hn => ho.block k hk (fun e => hn (hown k e))⟩, hsub⟩
  refine ⟨⟨hb, hg, ?_, ?_, ?_, ?_, ?_, ?_, ?_, h.far.next hnx⟩, hnx⟩
  · have hv := h.votes
    cases hgr : q.granted with
    | none => rw [hgr] at hv; exact hv
    | some gs =>
      rw [hgr] at hv
      obtain ⟨b, h1, h2⟩ := hv
      exact ⟨b, h1, h2.same (far 2 b (by omega) (by omega) (by show some (mapBlock V.gv) = _; rw [h1]; rfl))⟩
  · exact GRow.keep h.has (fun k hk => far 3 k (by omega) (by omega) (by show some _ = _; rw [hk])) (fun _ _ => trivial)
  · exact GRow.keep h.acked (fun k hk => far 4 k (by omega) (by omega) (by show some _ = _; rw [hk])) (fun _ _ => trivial)
  · exact GRow.keep h.notes (fun k hk => far 5 k (by omega) (by omega) (by show some _ = _; rw [hk])) (fun _ _ => trivial)
  · exact GRow.keep h.send (fun k hk => far 6 k (by omega) (by omega) (by show some _ = _; rw [hk])) (fun _ _ => trivial)
  · intro p hp
    exact (h.rows p hp).shun hnx
  · rw [hset]
    exact pw_set h.sep (fun k hk => h.lt hk) 1 _ (fun k hk => by
      rcases hl k hk with e | e
      · exact Or.inl (by show some _ = _; rw [e])
      · exact Or.inr e)
end
end Go.Proofs.YtlgoenimjmiapaaGreat

/-! A node behind a change of a part; noted, send, done. -/
set_option linter.unusedVariables false
set_option linter.unusedSectionVars false
namespace Go.Proofs.YtlgoenimjmiapaaGreat
open Go.RowKit Go.Maps

theorem elem83 : ElemN Tryz.prog 83 36 (.agg #[.int .i64 0, .int .i64 0, .int .i64 0, .int .i64 0, .string ⟨#[]⟩]) 5 48 := ElemN.mk' Tryz.underlying83 (by kernel_rfl) (by kernel_rfl) (by omega)
theorem elem84 : ElemN Tryz.prog 84 49 (.agg #[.int .i64 0, .int .i64 0, .int .i64 0, .int .i64 0, .int .i64 0, .int .i64 0, .int .i64 0, .slice none 0 0]) 8 80 := ElemN.mk' Tryz.underlying84 (by kernel_rfl) (by kernel_rfl) (by omega)

section
variable [Far] {w w' : World} {x : Nat} {q : ND} {ns : List Nt} {ss : List (Msg × Value)} {V : NV}
/-- What all else is, where the node's block and its part i have turned. -/
theorem NodeAt.rest (h : NodeAt w x q ns ss V) {S : Nat → Prop} (ho : Out (Zone.m S) w w') (i : Nat) (hi0 : 1 ≤ i) (hi7 : i < 7) (hS : ∀ k, S k → k < w.heap.size → k = x ∨ (V.blks x)[i]? = some (some k)) {V' : NV} {o : Option Nat}
    (hset : V'.blks x = (V.blks x).set i o) (hoi : ∀ k, o = some k → (V.blks x)[i]? = some (some k) ∨ w.heap.size ≤ k) :
    (∀ j k, 1 ≤ j → j < 7 → j ≠ i → (V.blks x)[j]? = some (some k) → w'.heap[k]? = w.heap[k]?) ∧ Next (V.own x) w (V'.own x) w' ∧
    (∀ p ∈ ss, RRow (V'.shun x) w' p.2 p.1.log.length 2 (encL p.1.log)) ∧ (V'.blks x).Pairwise (fun a b => ∀ k, a = some k → b ≠ some k) := by
  have hown : ∀ k, S k → k < w.heap.size → V.own x k := fun k hk hlt => by
    rcases hS k hk hlt with e | e
    · unfold NV.own NV.blks; rw [e]; simp
    · exact List.mem_of_getElem? e
  have hsub : ∀ k, V'.own x k → V.own x k ∨ w.heap.size ≤ k := fun k hk => by
    unfold NV.own at hk
    rw [hset] at hk
    rcases List.mem_or_eq_of_mem_set hk with e | e
    · exact Or.inl e
    · rcases hoi k e.symm with e | e
      · exact Or.inl (List.mem_of_getElem? e)
      · exact Or.inr e
  have hnx : Next (V.own x) w (V'.own x) w' := ⟨⟨ho.os, ho.tape, ho.output, ho.size, fun k hk hn => ho.block k hk (fun e => hn (hown k e hk))⟩, hsub⟩
  refine ⟨fun j k h1 h7 hj hk => ?_, hnx, fun p hp => (h.rows p hp).shun hnx, ?_⟩
  · have hlt := h.lt (List.mem_of_getElem? hk)
    refine ho.block k hlt (fun e => ?_)
    rcases hS k e hlt with e | e
    · exact h.apart 0 j (by omega) h7 k (by rw [e]; rfl) hk
    · rcases Nat.lt_or_gt_of_ne hj with hj | hj
      · exact h.apart j i hj hi7 k hk e
      · exact h.apart i j hj h7 k e hk
  · rw [hset]
    exact pw_set h.sep (fun k hk => h.lt hk) i _ hoi

theorem votes_keep (h : NodeAt w x q ns ss V) (hf : ∀ k, mapBlock V.gv = some k → w'.heap[k]? = w.heap[k]?) : match q.granted with
    | none => V.gv = .map none
    | some gs => ∃ b, V.gv = .map (some b) ∧ VotesAt w' b gs := by
  have hv := h.votes
  cases hgr : q.granted with
  | none => rw [hgr] at hv; exact hv
  | some gs =>
    rw [hgr] at hv
    obtain ⟨b, h1, h2⟩ := hv
    exact ⟨b, h1, h2.same (hf b (by rw [h1]; rfl))⟩

theorem blk_set {rest : List Value} {ep voted : Int} {lv : Value} (h : StAt w x 111 ep voted lv rest) (i : Nat) (u : Value) : StAt (w.setCell ⟨x, i + 3, none⟩ u) x 111 ep voted lv (rest.set i u) := by
  have := heap_set h (i + 3) u
  unfold StAt
  rw [this]
  simp

/-- A note more. -/
theorem NodeAt.pushNote (h : NodeAt w x q ns ss V) {W w' : World} (ho : Out Zone.no w W) {v' : Value} (t : Nt)
    (hg : GR w' 36 5 v' (ns.length + 1) (encN ns ++ [.int .i64 t.kind, .int .i64 t.ep, .int .i64 t.n, .int .i64 t.ent.ep, .string (str t.ent.data)])) (hgr : W.grownBy w' V.nv.ownBlock) (hat : v'.ownBlock = V.nv.ownBlock ∨ v'.ownBlock = some W.heap.size) :
    NodeAt (w'.setCell ⟨x, 10, none⟩ v') x q (ns ++ [t]) ss { V with nv := v' } ∧ Next (V.own x) w (NV.own x { V with nv := v' }) (w'.setCell ⟨x, 10, none⟩ v') ∧ w'.cell? ⟨x, 10, none⟩ = some V.nv ∧ w'.frozen? ⟨x, 10, none⟩ = false := by
  have hsz := ho.size
  have hx : x < w.heap.size := heap_lt h.blk
  have hnx : V.nv.ownBlock ≠ some x := fun e => h.apart 0 5 (by omega) (by omega) x rfl (by show some _ = _; rw [e])
  have hb1 : StAt w' x 111 _ _ _ _ := (hgr.block x (by omega) (fun e => hnx e.symm)).trans (h.blk.any ho)
  have o1 : Out (Zone.m (fun k => k = x ∨ V.nv.ownBlock = some k)) w w' := ho.mono0.grown hgr (fun k hk => Or.inl (Or.inr hk))
  have o2 : Out (Zone.m (fun k => k = x ∨ V.nv.ownBlock = some k)) w (w'.setCell ⟨x, 10, none⟩ v') := o1.setCell (Or.inl (Or.inl rfl)) _
  have hoi : ∀ k, v'.ownBlock = some k → (V.blks x)[5]? = some (some k) ∨ w.heap.size ≤ k := fun k hk => by
    rcases hat with e | e
    · exact Or.inl (by show some _ = _; rw [← e, hk])
    · rw [hk] at e; injection e with e; exact Or.inr (by omega)
  obtain ⟨far, hnext, hrows, hsep⟩ := h.rest o2 5 (by omega) (by omega) (fun k hk hlt => hk.imp id (fun e => by show some _ = _; rw [e])) (V' := { V with nv := v' }) (o := v'.ownBlock) rfl hoi
  have hvx : v'.ownBlock ≠ some x := fun e => by
    rcases hat with e' | e'
    · exact hnx (e'.symm.trans e)
    · rw [e] at e'; injection e' with e'; omega
  refine ⟨⟨blk_set hb1 7 v', ?_, ?_, ?_, ?_, ?_, ?_, hrows, hsep, h.far.next hnext⟩, hnext, ?_, frozen_all hb1 10⟩
  · exact GRow.keep h.log (fun k hk => far 1 k (by omega) (by omega) (by omega) (by show some _ = _; rw [hk])) (fun _ _ => trivial)
  · have hv := votes_keep h (fun k hk => far 2 k (by omega) (by omega) (by omega) (by show some _ = _; rw [hk]))
    exact hv
  · exact GRow.keep h.has (fun k hk => far 3 k (by omega) (by omega) (by omega) (by show some _ = _; rw [hk])) (fun _ _ => trivial)
  · exact GRow.keep h.acked (fun k hk => far 4 k (by omega) (by omega) (by omega) (by show some _ = _; rw [hk])) (fun _ _ => trivial)
  · have e1 : encN (ns ++ [t]) = encN ns ++ [.int .i64 t.kind, .int .i64 t.ep, .int .i64 t.n, .int .i64 t.ent.ep, .string (str t.ent.data)] := by simp [encN]
    rw [List.length_append, e1]
    exact gr_set hg hvx _
  · exact GRow.keep h.send (fun k hk => far 6 k (by omega) (by omega) (by omega) (by show some _ = _; rw [hk])) (fun _ _ => trivial)
  · rw [cells_all hb1 10]; rfl

/-- A message more; its log lies in none of the node's blocks. -/
theorem NodeAt.pushSend (h : NodeAt w x q ns ss V) {W w' : World} (ho : Out Zone.no w W) {v' : Value} (p : Msg × Value) (hp : RRow (V.shun x) w p.2 p.1.log.length 2 (encL p.1.log))
    (hg : GR w' 49 8 v' (ss.length + 1) (encM ss ++ mcells p)) (hgr : W.grownBy w' V.sv.ownBlock) (hat : v'.ownBlock = V.sv.ownBlock ∨ v'.ownBlock = some W.heap.size) :
    NodeAt (w'.setCell ⟨x, 11, none⟩ v') x q ns (ss ++ [p]) { V with sv := v' } ∧ Next (V.own x) w (NV.own x { V with sv := v' }) (w'.setCell ⟨x, 11, none⟩ v') ∧ w'.cell? ⟨x, 11, none⟩ = some V.sv ∧ w'.frozen? ⟨x, 11, none⟩ = false := by
  have hsz := ho.size
  have hx : x < w.heap.size := heap_lt h.blk
  have hnx : V.sv.ownBlock ≠ some x := fun e => h.apart 0 6 (by omega) (by omega) x rfl (by show some _ = _; rw [e])
  have hb1 : StAt w' x 111 _ _ _ _ := (hgr.block x (by omega) (fun e => hnx e.symm)).trans (h.blk.any ho)
  have o1 : Out (Zone.m (fun k => k = x ∨ V.sv.ownBlock = some k)) w w' := ho.mono0.grown hgr (fun k hk => Or.inl (Or.inr hk))
  have o2 : Out (Zone.m (fun k => k = x ∨ V.sv.ownBlock = some k)) w (w'.setCell ⟨x, 11, none⟩ v') := o1.setCell (Or.inl (Or.inl rfl)) _
  have hoi : ∀ k, v'.ownBlock = some k → (V.blks x)[6]? = some (some k) ∨ w.heap.size ≤ k := fun k hk => by
    rcases hat with e | e
    · exact Or.inl (by show some _ = _; rw [← e, hk])
    · rw [hk] at e; injection e with e; exact Or.inr (by omega)
  have hh : ∀ k, (fun k => k = x ∨ V.sv.ownBlock = some k) k → k < w.heap.size → k = x ∨ (V.blks x)[6]? = some (some k) := fun k hk hlt => hk.imp id (fun e => by show some _ = _; rw [e])
  obtain ⟨far, hnext, hrows, hsep⟩ := h.rest o2 6 (by omega) (by omega) hh (V' := { V with sv := v' }) (o := v'.ownBlock) rfl hoi
  have hvx : v'.ownBlock ≠ some x := fun e => by
    rcases hat with e' | e'
    · exact hnx (e'.symm.trans e)
    · rw [e] at e'; injection e' with e'; omega
  refine ⟨⟨blk_set hb1 8 v', ?_, ?_, ?_, ?_, ?_, ?_, ?_, hsep, h.far.next hnext⟩, hnext, ?_, frozen_all hb1 11⟩
  · exact GRow.keep h.log (fun k hk => far 1 k (by omega) (by omega) (by omega) (by show some _ = _; rw [hk])) (fun _ _ => trivial)
  · have hv := votes_keep h (fun k hk => far 2 k (by omega) (by omega) (by omega) (by show some _ = _; rw [hk]))
    exact hv
  · exact GRow.keep h.has (fun k hk => far 3 k (by omega) (by omega) (by omega) (by show some _ = _; rw [hk])) (fun _ _ => trivial)
  · exact GRow.keep h.acked (fun k hk => far 4 k (by omega) (by omega) (by omega) (by show some _ = _; rw [hk])) (fun _ _ => trivial)
  · exact GRow.keep h.notes (fun k hk => far 5 k (by omega) (by omega) (by omega) (by show some _ = _; rw [hk])) (fun _ _ => trivial)
  · have e1 : encM (ss ++ [p]) = encM ss ++ mcells p := by simp [encM]
    rw [List.length_append, e1]
    exact gr_set hg hvx _
  · intro p' hp'
    rcases List.mem_append.1 hp' with e | e
    · exact hrows p' e
    · rw [List.mem_singleton.1 e]
      exact hp.shun hnext
  · rw [cells_all hb1 11]; rfl
end
end Go.Proofs.YtlgoenimjmiapaaGreat

/-! noted, send, done. -/
set_option linter.unusedVariables false
set_option linter.unusedSectionVars false
namespace Go.Proofs.YtlgoenimjmiapaaGreat
open Go.RowKit Go.Maps

section
variable [Far] {w w' : World} {x : Nat} {q : ND} {ns : List Nt} {ss : List (Msg × Value)} {V : NV}

set_option maxRecDepth 100000 in
set_option maxHeartbeats 2000000 in
theorem noted_is (h : NodeAt w x q ns ss V) (hl : q.st.log.length ≤ 1000000) (hn : ns.length ≤ 1000000) (k ep n ee : Int) (d : List UInt8) (hd : d.length ≤ 9223372036854775807) :
    Calls Tryz.prog 62 #[.pointer (some ⟨x, 0, none⟩), .agg #[.int .i64 k, .int .i64 ep, .int .i64 n, .int .i64 ee, .string (str d)]] w fun e w' => e = .returned (.tuple #[]) ∧
      ∃ V', NodeAt w' x { q with st := (q.st.note ⟨k, ep, n, ⟨ee, d⟩⟩).getD q.st } (ns ++ [⟨k, ep, n, ⟨ee, d⟩⟩]) ss V' ∧ Next (V.own x) w (V'.own x) w' := by
  have o1 := ((Out.refl Zone.no w).alloc (.cells #[.int .i64 k, .int .i64 ep, .int .i64 n, .int .i64 ee, .string (str d)] 36)).drew
  have h1 := h.any o1
  have hlx : V.lv.ownBlock ≠ some x := fun e => h.apart 0 1 (by omega) (by omega) x rfl (by show some _ = _; rw [e])
  have NI0 := note_is h1.blk h1.log hl hlx k ep n ee d hd
  obtain ⟨ox, hox⟩ : ∃ ox, q.st.note ⟨k, ep, n, ⟨ee, d⟩⟩ = ox := ⟨_, rfl⟩
  rw [hox] at NI0 ⊢
  obtain ⟨s', hs'⟩ : ∃ s', ox.getD q.st = s' := ⟨_, rfl⟩
  unfold NoteOk at NI0
  rw [hs'] at NI0 ⊢
  obtain ⟨bl, hbl⟩ : ∃ bl, ox.isSome = bl := ⟨_, rfl⟩
  rw [hbl] at NI0
  have NI := Lib.hid NI0
  have hpb : (w.alloc (.cells #[.int .i64 k, .int .i64 ep, .int .i64 n, .int .i64 ee, .string (str d)] 36)).drew.heap[w.heap.size]? = some (.cells #[.int .i64 k, .int .i64 ep, .int .i64 n, .int .i64 ee, .string (str d)] 36 (0, 0)) := heap_alloc_new w _
  have HPB := Lib.hid hpb
  have H := Lib.hid h
  have H1 := Lib.hid h1
  have HO1 := Lib.hid o1
  have hxl : x < w.heap.size := heap_lt h.blk
  have HXL := Lib.hid hxl
  have HLL : Hid (∀ k, V.lv.ownBlock = some k → k < w.heap.size) := fun k hk => (GRow.mem h.log hk).2.1
  clear o1 h1 hlx hpb h hxl NI0 hox hs' hbl
  go_enter Tryz.func62, Tryz.ntmps62
  go_wp2_with fail
  go_region_with (first
    | (go_at_call 76; refine NI.out.mono ?_; rintro e w2 ⟨rfl, lv', hst, hg, ho, hb⟩; have HN2 := Lib.hid (H1.out.noted hst hg ho hb); have q2 := ho.get HPB.out (fun e => by rcases e with e | e; exact absurd e.symm (Nat.ne_of_lt HXL.out); exact absurd (HLL.out _ e) (Nat.lt_irrefl _)); clear hst hg ho hb)
    | fail)
  obtain ⟨N2, X2⟩ := HN2.out
  have HN := Lib.hid N2
  have HX := Lib.hid X2
  clear HN2 H1 NI HPB HXL HLL
  obtain ⟨AN, cN, hnv⟩ := GRow.form HN.out.notes
  have hnv' : V.nv = .slice AN ns.length cN := hnv
  obtain ⟨g, hg⟩ : ∃ g, w.heap.size = g := ⟨_, rfl⟩
  rw [hg] at q2 ⊢
  have q0 := cells_all q2 0
  have q1 := cells_all q2 1
  have q3 := cells_all q2 2
  have q4 := cells_all q2 3
  have q5 := cells_all q2 4
  have HQ := Lib.hid (show w.heap.size = g from hg)
  have C10 : w2.cell? ⟨x, 10, none⟩ = some (.slice AN ns.length cN) := by rw [← hnv']; exact HN.out.c10
  have F10 : w2.frozen? ⟨x, 10, none⟩ = false := frozen_all HN.out.blk 10
  have HOW : Hid (Out Zone.no w2 (w2.drew.alloc (.cells #[.int .i64 k, .int .i64 ep, .int .i64 n, .int .i64 ee, .string (str d)] 36))) := ((Out.refl Zone.no w2).drew).alloc _
  have HGA : Hid (GR (w2.drew.alloc (.cells #[.int .i64 k, .int .i64 ep, .int .i64 n, .int .i64 ee, .string (str d)] 36)) 36 5 (.slice AN ns.length cN) ns.length (encN ns)) := by
    show GR _ _ _ _ _ _
    rw [← hnv']
    exact GRow.any HN.out.notes HOW.out
  have HNW : Hid (∀ (j : Nat) (u : Value), [Value.int .i64 k, .int .i64 ep, .int .i64 n, .int .i64 ee, Value.string (str d)][j]? = some u → (w2.drew.alloc (.cells #[.int .i64 k, .int .i64 ep, .int .i64 n, .int .i64 ee, .string (str d)] 36)).cell? ⟨w2.heap.size, j, none⟩ = some u) := fun j u hu => by
    have h := heap_alloc_new w2.drew (.cells #[.int .i64 k, .int .i64 ep, .int .i64 n, .int .i64 ee, .string (str d)] 36)
    rw [cell_of_row _ w2.heap.size j _ _ _ h]
    simpa using hu
  have D10 : w2.drew.cell? ⟨x, 10, none⟩ = some (.slice AN ns.length cN) := C10
  have D10a : (w2.drew.alloc (.cells #[.int .i64 k, .int .i64 ep, .int .i64 n, .int .i64 ee, .string (str d)] 36)).cell? ⟨x, 10, none⟩ = some (.slice AN ns.length cN) := HOW.out.cell C10 id
  have D10b : (w2.alloc (.cells #[.int .i64 k, .int .i64 ep, .int .i64 n, .int .i64 ee, .string (str d)] 36)).cell? ⟨x, 10, none⟩ = some (.slice AN ns.length cN) := HOW.out.cell C10 id
  have D10c : (w2.alloc (.cells #[.int .i64 k, .int .i64 ep, .int .i64 n, .int .i64 ee, .string (str d)] 36)).drew.cell? ⟨x, 10, none⟩ = some (.slice AN ns.length cN) := HOW.out.cell C10 id
  have E0 : w2.drew.cell? ⟨g, 0, none⟩ = some (.int .i64 k) := q0
  have E1 : w2.drew.cell? ⟨g, 1, none⟩ = some (.int .i64 ep) := q1
  have E2 : w2.drew.cell? ⟨g, 2, none⟩ = some (.int .i64 n) := q3
  have E3 : w2.drew.cell? ⟨g, 3, none⟩ = some (.int .i64 ee) := q4
  have E4 : w2.drew.cell? ⟨g, 4, none⟩ = some (.string (str d)) := q5
  have HNV := Lib.hid hnv'
  have hlm : ns.length + 1 ≤ maxLen := le_maxLen (by omega)
  have hlb : (ns.length + 1) * 48 ≤ 140737488355328 := by omega
  have PUSH : Hid (∀ v' w', GR w' 36 5 v' (ns.length + 1) (encN ns ++ [.int .i64 k, .int .i64 ep, .int .i64 n, .int .i64 ee, .string (str d)]) → (w2.drew.alloc (.cells #[.int .i64 k, .int .i64 ep, .int .i64 n, .int .i64 ee, .string (str d)] 36)).grownBy w' (Value.slice AN ns.length cN).ownBlock →
      (v'.ownBlock = (Value.slice AN ns.length cN).ownBlock ∨ v'.ownBlock = some (w2.drew.alloc (.cells #[.int .i64 k, .int .i64 ep, .int .i64 n, .int .i64 ee, .string (str d)] 36)).heap.size) →
      (Exists fun V' : NV => NodeAt (w'.setCell ⟨x, 10, none⟩ v') x { q with st := s' } (ns ++ [⟨k, ep, n, ⟨ee, d⟩⟩]) ss V' ∧ Next (V.own x) w (V'.own x) (w'.setCell ⟨x, 10, none⟩ v')) ∧ w'.cell? ⟨x, 10, none⟩ = some (.slice AN ns.length cN) ∧ w'.frozen? ⟨x, 10, none⟩ = false) := fun v' w' h1 h2 h3 => by
    rw [← HNV.out] at h2 h3
    obtain ⟨k1, k2, k3, k4⟩ := HN.out.pushNote HOW.out ⟨k, ep, n, ⟨ee, d⟩⟩ h1 h2 h3
    exact ⟨⟨_, k1, ((Next.of_out HO1.out).trans HX.out).trans k2⟩, by rw [← HNV.out]; exact k3, k4⟩
  clear hnv hnv' hg q2 q0 q1 q3 q4 q5 C10 HN HX H N2 X2
  go_wp2_with fail
  go_region_law (refine step_gappend rfl _ _ 83 rfl elem83 ns.length (encN ns) (by exact HGA.out) w2.heap.size 1 [.int .i64 k, .int .i64 ep, .int .i64 n, .int .i64 ee, .string (str d)] (by rfl) rfl (by exact HNW.out) (by simp [Value.oneCell']) hlm hlb ?_; intro v' w' hg1 hgr hat; obtain ⟨A2, x2, rfl⟩ := GRow.form hg1; obtain ⟨hfin, hc, hf⟩ := PUSH.out _ _ hg1 hgr hat; have FIN := Lib.hid hfin; clear hg1 hgr hat hfin)
  all_goals
    go_wp2_with fail
    go_end0
    obtain ⟨V', f1, f2⟩ := FIN.out
    first
    | exact ⟨rfl, V', f1, f2⟩
    | exact ⟨rfl, V', f1.any ((Out.refl _ _).drew), f2.trans (Next.of_out ((Out.refl _ _).drew))⟩
end
end Go.Proofs.YtlgoenimjmiapaaGreat
