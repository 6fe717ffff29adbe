import Derived.Test.YtlgoenimjmiapaaQ6
import Derived.Test.YtlgoenimjmiapaaQ3
import Derived.Test.YtlgoenimjmiapaaA3
/-! A node in the memory. -/
set_option linter.unusedVariables false
namespace Go.Proofs.Ytlgoenimjmiapaa
open Go.RowKit Go.Maps

/-- A node, plain. granted: whose votes it has (none: no map yet). -/
structure ND where
  st : St
  id : Nat
  n : Nat
  role : Int
  commit : Nat
  granted : Option (List Int)
  has : List Int
  acked : List Int
/-- Where its parts lie. -/
structure NV where
  lv : Value
  gv : Value
  hv : Value
  av : Value
  nv : Value
  sv : Value

def encN (l : List Nt) : List Value := l.flatMap fun t => [.int .i64 t.kind, .int .i64 t.ep, .int .i64 t.n, .int .i64 t.ent.ep, .string (str t.ent.data)]
def mcells (p : Msg × Value) : List Value := [.int .i64 p.1.kind, .int .i64 p.1.frm, .int .i64 p.1.to, .int .i64 p.1.ep, .int .i64 p.1.at_, .int .i64 p.1.last, .int .i64 p.1.commit, p.2]
def encM (l : List (Msg × Value)) : List Value := l.flatMap mcells
theorem encN_length (l : List Nt) : (encN l).length = l.length * 5 := by
  induction l with
  | nil => rfl
  | cons x r ih => show (_ ++ encN r).length = _; rw [List.length_append, ih]; simp; omega
theorem encM_length (l : List (Msg × Value)) : (encM l).length = l.length * 8 := by
  induction l with
  | nil => rfl
  | cons x r ih => show (mcells x ++ encM r).length = _; rw [List.length_append, ih]; simp [mcells]; omega

/-- The map of the votes: block b holds true at the keys gs, and no others. -/
def VotesAt (w : World) (b : Nat) (gs : List Int) : Prop :=
  ∃ D : DataW Value, w.ownsMap Try.prog 3 heldR b gs.length D ∧ Maps.size D = gs.length ∧ gs.Nodup ∧ ∀ key : Int, if key ∈ gs then ∀ z, D.atKey (.int .i64 key) z = .held (.bool true) else ∀ z, D.atKey (.int .i64 key) z = z
def mapBlock : Value → Option Nat
  | .map b => b
  | _ => none

def NV.blks (x : Nat) (V : NV) : List (Option Nat) := [some x, V.lv.ownBlock, mapBlock V.gv, V.hv.ownBlock, V.av.ownBlock, V.nv.ownBlock, V.sv.ownBlock]
/-- The node's own blocks. -/
def NV.own (x : Nat) (V : NV) (k : Nat) : Prop := some k ∈ V.blks x

structure NodeAt (w : World) (x : Nat) (q : ND) (ns : List Nt) (ss : List (Msg × Value)) (V : NV) : Prop where
  blk : StAt w x 54 q.st.ep q.st.voted V.lv [.int .i64 (q.id : Int), .int .i64 (q.n : Int), .int .i64 q.role, .int .i64 (q.commit : Int), V.gv, V.hv, V.av, V.nv, V.sv]
  log : GR w 38 2 V.lv q.st.log.length (encL q.st.log)
  votes : match q.granted with
    | none => V.gv = .map none
    | some gs => ∃ b, V.gv = .map (some b) ∧ VotesAt w b gs
  has : GR w 3 1 V.hv q.has.length (ints q.has)
  acked : GR w 3 1 V.av q.acked.length (ints q.acked)
  notes : GR w 75 5 V.nv ns.length (encN ns)
  send : GR w 36 8 V.sv ss.length (encM ss)
  rows : ∀ p ∈ ss, RRow (V.own x) w p.2 p.1.log.length 2 (encL p.1.log)
  sep : (V.blks x).Pairwise (fun a b => ∀ k, a = some k → b ≠ some k)

section
variable {w w' : World} {x : Nat} {q : ND} {ns : List Nt} {ss : List (Msg × Value)} {V : NV}
theorem NodeAt.c (h : NodeAt w x q ns ss V) (i : Nat) : w.cell? ⟨x, i, none⟩ = [Value.int .i64 q.st.ep, .int .i64 q.st.voted, V.lv, .int .i64 (q.id : Int), .int .i64 (q.n : Int), .int .i64 q.role, .int .i64 (q.commit : Int), V.gv, V.hv, V.av, V.nv, V.sv][i]? := by
  rw [cells_all h.blk i]
  simp
theorem NodeAt.c3 (h : NodeAt w x q ns ss V) : w.cell? ⟨x, 3, none⟩ = some (.int .i64 (q.id : Int)) := by rw [h.c]; rfl
theorem NodeAt.c4 (h : NodeAt w x q ns ss V) : w.cell? ⟨x, 4, none⟩ = some (.int .i64 (q.n : Int)) := by rw [h.c]; rfl
theorem NodeAt.c5 (h : NodeAt w x q ns ss V) : w.cell? ⟨x, 5, none⟩ = some (.int .i64 q.role) := by rw [h.c]; rfl
theorem NodeAt.c6 (h : NodeAt w x q ns ss V) : w.cell? ⟨x, 6, none⟩ = some (.int .i64 (q.commit : Int)) := by rw [h.c]; rfl
theorem NodeAt.c7 (h : NodeAt w x q ns ss V) : w.cell? ⟨x, 7, none⟩ = some V.gv := by rw [h.c]; rfl
theorem NodeAt.c8 (h : NodeAt w x q ns ss V) : w.cell? ⟨x, 8, none⟩ = some V.hv := by rw [h.c]; rfl
theorem NodeAt.c9 (h : NodeAt w x q ns ss V) : w.cell? ⟨x, 9, none⟩ = some V.av := by rw [h.c]; rfl
theorem NodeAt.c10 (h : NodeAt w x q ns ss V) : w.cell? ⟨x, 10, none⟩ = some V.nv := by rw [h.c]; rfl
theorem NodeAt.c11 (h : NodeAt w x q ns ss V) : w.cell? ⟨x, 11, none⟩ = some V.sv := by rw [h.c]; rfl

theorem VotesAt.same {b : Nat} {gs : List Int} (h : VotesAt w b gs) (hb : w'.heap[b]? = w.heap[b]?) : VotesAt w' b gs := by
  obtain ⟨D, ⟨es, c, h1, h2, h3, h4⟩, h5⟩ := h
  exact ⟨D, ⟨es, c, hb.trans h1, h2, h3, h4⟩, h5⟩
theorem VotesAt.lt {b : Nat} {gs : List Int} (h : VotesAt w b gs) : b < w.heap.size := by obtain ⟨D, h, _⟩ := h; exact h.lt

/-- All that lies outside of what has turned. -/
theorem NodeAt.any (h : NodeAt w x q ns ss V) (ho : Out Zone.no w w') : NodeAt w' x q ns ss V := by
  refine ⟨h.blk.any ho, GRow.any h.log ho, ?_, GRow.any h.has ho, GRow.any h.acked ho, GRow.any h.notes ho, GRow.any h.send ho, fun p hp => (h.rows p hp).any ho, h.sep⟩
  have hv := h.votes
  cases hg : q.granted with
  | none => rw [hg] at hv; exact hv
  | some gs =>
    rw [hg] at hv
    obtain ⟨b, h1, h2⟩ := hv
    exact ⟨b, h1, h2.same (ho.block b h2.lt id)⟩
theorem NodeAt.drewN (h : NodeAt w x q ns ss V) (n : Nat) : NodeAt (w.drewN n) x q ns ss V := h.any ((Out.refl _ _).drewN n)

set_option maxRecDepth 100000 in
theorem none_is (h : NodeAt w x q ns ss V) (hn : 0 < q.n) (hn2 : q.n ≤ 7) : Calls Try.prog 27 #[.pointer (some ⟨x, 0, none⟩)] w fun e w' => e = .returned (.bool false) ∧ w = w' := by
  have c4 := h.c4
  obtain ⟨n, hq⟩ : ∃ n, q.n = n := ⟨_, rfl⟩
  rw [hq] at c4 hn hn2
  have e0 : ((n : Int) == 0) = false := by rw [beq_eq_false_iff_ne]; omega
  clear h hq
  go_enter Try.func27, Try.ntmps27
  go_wp2_with fail
  go_ret
  exact ⟨rfl, rfl⟩

set_option maxRecDepth 100000 in
theorem role_is (h : NodeAt w x q ns ss V) (hn : 0 < q.n) (hn2 : q.n ≤ 7) : Calls Try.prog 16 #[.pointer (some ⟨x, 0, none⟩)] w fun e w' => e = .returned (.int .i64 q.role) ∧ w = w' := by
  have c5 := h.c5
  have N := Lib.hid (none_is h hn hn2)
  clear h
  go_enter Try.func16, Try.ntmps16
  go_wp2_with (go_at_call 27; refine N.out.mono ?_; rintro e w' ⟨rfl, rfl⟩)
  go_ret
  exact ⟨rfl, rfl⟩

set_option maxRecDepth 100000 in
theorem commit_is (h : NodeAt w x q ns ss V) (hn : 0 < q.n) (hn2 : q.n ≤ 7) : Calls Try.prog 17 #[.pointer (some ⟨x, 0, none⟩)] w fun e w' => e = .returned (.int .i64 (q.commit : Int)) ∧ w = w' := by
  have c6 := h.c6
  have N := Lib.hid (none_is h hn hn2)
  clear h
  go_enter Try.func17, Try.ntmps17
  go_wp2_with (go_at_call 27; refine N.out.mono ?_; rintro e w' ⟨rfl, rfl⟩)
  go_ret
  exact ⟨rfl, rfl⟩
end
end Go.Proofs.Ytlgoenimjmiapaa
