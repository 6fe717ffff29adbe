import Derived.Test.YtlgoenimjmiapaaT28
import Derived.Test.YtlgoenimjmiapaaT24
set_option linter.unusedSimpArgs false
set_option linter.unusedVariables false
set_option linter.unusedSectionVars false
/-! A town in the memory. -/
namespace Go.Proofs.Ytlgoenimjmiapaa
open Go.RowKit Go.Maps

abbrev far0 : Far := ⟨fun _ => False⟩
/-- A node at rest is one whatever is far. -/
theorem NAt.refar {F1 F2 : Far} {w : World} {x : Nat} {q : ND} {V : NV} (h : @NAt F1 w x ⟨q, [], []⟩ V) (hf : ∀ k, F2.F k → k < w.heap.size ∧ ¬ V.own x k) : @NAt F2 w x ⟨q, [], []⟩ V := by
  obtain ⟨ss, h1, h2⟩ := h
  obtain rfl : ss = [] := List.map_eq_nil_iff.1 h1
  obtain ⟨a1, a2, a3, a4, a5, a6, a7, a8, a9, a10⟩ := h2
  exact ⟨[], rfl, ⟨a1, a2, a3, a4, a5, a6, a7, fun p hp => (by cases hp), a9, hf⟩⟩
theorem NAt.same [Far] {w w' : World} {x : Nat} {q : ND} {V : NV} (h : NAt w x ⟨q, [], []⟩ V) (hs : w.heap.size ≤ w'.heap.size) (hb : ∀ k, V.own x k → w'.heap[k]? = w.heap[k]?) : NAt w' x ⟨q, [], []⟩ V := by
  obtain ⟨ss, h1, h⟩ := h
  obtain rfl : ss = [] := List.map_eq_nil_iff.1 h1
  have own : ∀ (i k : Nat), (V.blks x)[i]? = some (some k) → V.own x k := fun i k hk => List.mem_of_getElem? hk
  exact ⟨[], rfl, (hb x (NodeAt.own_x x V)).trans h.blk, GRow.keep h.log (fun k hk => hb k (own 1 k (by show some _ = _; rw [hk]))) (fun _ _ => trivial), votes_keep h (fun k hk => hb k (own 2 k (by show some _ = _; rw [hk]))),
    GRow.keep h.has (fun k hk => hb k (own 3 k (by show some _ = _; rw [hk]))) (fun _ _ => trivial), GRow.keep h.acked (fun k hk => hb k (own 4 k (by show some _ = _; rw [hk]))) (fun _ _ => trivial),
    GRow.keep h.notes (fun k hk => hb k (own 5 k (by show some _ = _; rw [hk]))) (fun _ _ => trivial), GRow.keep h.send (fun k hk => hb k (own 6 k (by show some _ = _; rw [hk]))) (fun _ _ => trivial), fun p hp => (by cases hp), h.sep, fun k hk => ⟨Nat.lt_of_lt_of_le (h.far k hk).1 hs, (h.far k hk).2⟩⟩

theorem GR.setAt {w : World} {e : TypeId} {g c n : Nat} {xs : List Value} (h : GR w e 1 (.slice (some ⟨g, 0, none⟩) n c) n xs) (i : Nat) (u : Value) : GR (w.setCell ⟨g, i, none⟩ u) e 1 (.slice (some ⟨g, 0, none⟩) n c) n (xs.set i u) := by
  have hlen := h.1
  rcases h.2 with ⟨hv, h0⟩ | ⟨g', cap, cur, hv, hm, hh, h1, h2, h3, h4⟩
  · cases hv
  injection hv with e1 _ e3
  injection e1 with e1
  injection e1 with e1
  subst e1 e3
  refine ⟨by rw [List.length_set]; exact hlen, Or.inr ⟨g, c, _, rfl, trivial, heap_set hh i _, h1, h2, by simpa using h3, ?_⟩⟩
  have : (cur.setIfInBounds i u).toList = cur.toList.set i u := by simp
  rw [this, List.take_set, h4]

/-- Where a town's parts lie. -/
structure TV where
  xv : Value
  nnv : Value
  netv : Value
  donev : Value
  bm : Nat
  xs : Nat → Nat
  V : Nat → NV
  nv : Nat → Value
  ss : List (Msg × Value)
  m : Nat

def leadV (lead : Int → Option Int) : Int → Option Value := fun e => (lead e).map (Value.int .i64)
/-- Which part owns which block: 1 the town's own, 2 the nodes' row, 3 the notes' row, 4 the net, 5 what is done, 6 who led, 10 + 2 i node i, 11 + 2 i its notes; 0: none. -/
structure Lab (tb n : Nat) (U : TV) (L : Nat → Nat) : Prop where
  tb : L tb = 1
  x : ∀ k, U.xv.ownBlock = some k → L k = 2
  nn : ∀ k, U.nnv.ownBlock = some k → L k = 3
  net : ∀ k, U.netv.ownBlock = some k → L k = 4
  done : ∀ k, U.donev.ownBlock = some k → L k = 5
  lead : L U.bm = 6
  node : ∀ i, i < n → ∀ k, (U.V i).own (U.xs i) k → L k = 10 + 2 * i
  notes : ∀ i, i < n → ∀ k, (U.nv i).ownBlock = some k → L k = 11 + 2 * i
structure TownAt (w : World) (tb : Nat) (t : Town) (L : Nat → Nat) (U : TV) : Prop where
  blk : w.heap[tb]? = some (.cells #[.int .i64 (t.n : Int), U.xv, U.nnv, U.netv, U.donev, .map (some U.bm), .int .i64 (t.asked : Int)] 68 (0, 0))
  x : GR w 22 1 U.xv t.n ((List.range t.n).map fun i => Value.pointer (some ⟨U.xs i, 0, none⟩))
  nn : GR w 29 1 U.nnv t.n ((List.range t.n).map U.nv)
  node : ∀ i, i < t.n → @NAt far0 w (U.xs i) ⟨t.X i, [], []⟩ (U.V i)
  notes : ∀ i, i < t.n → GR w 75 5 (U.nv i) (t.notes i).length (encN (t.notes i))
  net : GR w 36 8 U.netv U.ss.length (encM U.ss)
  fst : U.ss.map Prod.fst = t.net
  rows : ∀ p ∈ U.ss, RRow (fun k => L k ≠ 0) w p.2 p.1.log.length 2 (encL p.1.log)
  done : GR w 38 2 U.donev t.done.length (encL t.done)
  lead : MapV Try.prog 3 w U.bm U.m (leadV t.lead)
  lab : Lab tb t.n U L
  lt : ∀ k, L k ≠ 0 → k < w.heap.size

/-- Part q alone has turned, and what is new is its own or nobody's. -/
structure Op (q : Nat) (w : World) (L : Nat → Nat) (w' : World) (L' : Nat → Nat) : Prop where
  out : Out (Zone.m fun k => L k = q) w w'
  same : ∀ k, k < w.heap.size → L k ≠ q → L' k = L k
  new : ∀ k, w.heap.size ≤ k → L' k = 0 ∨ L' k = q
  lt : ∀ k, L' k ≠ 0 → k < w'.heap.size
  own : ∀ k, L k = q → L' k = q ∨ L' k = 0

section
variable {w w' : World} {tb : Nat} {t : Town} {L L' : Nat → Nat} {U : TV} {q : Nat}
theorem Op.blk (o : Op q w L w' L') {k : Nat} (hk : k < w.heap.size) (hq : L k ≠ q) : w'.heap[k]? = w.heap[k]? := o.out.block k hk hq
theorem Op.lab (o : Op q w L w' L') (hlt : ∀ k, L k ≠ 0 → k < w.heap.size) {k p : Nat} (hk : L k = p) (hp : p ≠ 0) (hq : p ≠ q) : L' k = p := by
  rw [o.same k (hlt k (by omega)) (by omega), hk]
/-- Nothing has turned. -/
theorem Op.idle (h : Out Zone.no w w') (hlt : ∀ k, L k ≠ 0 → k < w.heap.size) (q : Nat) : Op q w L w' L :=
  ⟨h.mono0, fun _ _ _ => rfl, fun k hk => Or.inl (Classical.byContradiction fun e => by have := hlt k e; omega), fun k hk => Nat.lt_of_lt_of_le (hlt k hk) h.size, fun k hk => Or.inl hk⟩
theorem GR.op {e : TypeId} {sz n p : Nat} {v : Value} {xs : List Value} (h : GR w e sz v n xs) (o : Op q w L w' L') (hl : ∀ k, v.ownBlock = some k → L k = p) (hp : p ≠ q) : GR w' e sz v n xs :=
  GRow.keep h (fun k hk => o.blk (GRow.mem h hk).2.1 (by rw [hl k hk]; exact hp)) (fun _ _ => trivial)
theorem RRow.op {sz n : Nat} {v : Value} {xs : List Value} (h : RRow (fun k => L k ≠ 0) w v n sz xs) (o : Op q w L w' L') (hq : q ≠ 0) : RRow (fun k => L' k ≠ 0) w' v n sz xs := by
  refine h.next o.out (fun k hk _ => ?_) (fun k hk hlt => ?_)
  · have hk : L k = q := hk; rw [hk]; exact hq
  · intro e
    rw [o.same k hlt (by rw [e]; exact fun e => hq e.symm), e] at hk
    exact hk rfl
/-- What stands of a town where the parts Q have turned. -/
structure TownBut (Q : Nat → Prop) (w : World) (tb : Nat) (t : Town) (L : Nat → Nat) (U : TV) : Prop where
  blk : ¬ Q (1) → w.heap[tb]? = some (.cells #[.int .i64 (t.n : Int), U.xv, U.nnv, U.netv, U.donev, .map (some U.bm), .int .i64 (t.asked : Int)] 68 (0, 0))
  x : ¬ Q (2) → GR w 22 1 U.xv t.n ((List.range t.n).map fun i => Value.pointer (some ⟨U.xs i, 0, none⟩))
  nn : ¬ Q (3) → GR w 29 1 U.nnv t.n ((List.range t.n).map U.nv)
  node : ∀ i, i < t.n → ¬ Q (10 + 2 * i) → @NAt far0 w (U.xs i) ⟨t.X i, [], []⟩ (U.V i)
  notes : ∀ i, i < t.n → ¬ Q (11 + 2 * i) → GR w 75 5 (U.nv i) (t.notes i).length (encN (t.notes i))
  net : ¬ Q (4) → GR w 36 8 U.netv U.ss.length (encM U.ss)
  fst : U.ss.map Prod.fst = t.net
  rows : ∀ p ∈ U.ss, RRow (fun k => L k ≠ 0) w p.2 p.1.log.length 2 (encL p.1.log)
  done : ¬ Q (5) → GR w 38 2 U.donev t.done.length (encL t.done)
  lead : ¬ Q (6) → MapV Try.prog 3 w U.bm U.m (leadV t.lead)
  ltb : ¬ Q (1) → L tb = 1
  lx : ¬ Q (2) → ∀ k, U.xv.ownBlock = some k → L k = 2
  lnn : ¬ Q (3) → ∀ k, U.nnv.ownBlock = some k → L k = 3
  lnet : ¬ Q (4) → ∀ k, U.netv.ownBlock = some k → L k = 4
  ldone : ¬ Q (5) → ∀ k, U.donev.ownBlock = some k → L k = 5
  llead : ¬ Q (6) → L U.bm = 6
  lnode : ∀ i, i < t.n → ¬ Q (10 + 2 * i) → ∀ k, (U.V i).own (U.xs i) k → L k = 10 + 2 * i
  lnotes : ∀ i, i < t.n → ¬ Q (11 + 2 * i) → ∀ k, (U.nv i).ownBlock = some k → L k = 11 + 2 * i
theorem TownAt.but (h : TownAt w tb t L U) (Q : Nat → Prop) : TownBut Q w tb t L U :=
  ⟨fun _ => h.blk, fun _ => h.x, fun _ => h.nn, fun i hi _ => h.node i hi, fun i hi _ => h.notes i hi, fun _ => h.net, h.fst, h.rows, fun _ => h.done, fun _ => h.lead, fun _ => h.lab.tb, fun _ => h.lab.x, fun _ => h.lab.nn, fun _ => h.lab.net, fun _ => h.lab.done, fun _ => h.lab.lead, fun i hi _ => h.lab.node i hi, fun i hi _ => h.lab.notes i hi⟩
theorem TownBut.op {Q : Nat → Prop} (h : TownBut Q w tb t L U) (hlt : ∀ k, L k ≠ 0 → k < w.heap.size) (o : Op q w L w' L') (hq : q ≠ 0) {Q' : Nat → Prop} (hQ : ∀ a, Q a → Q' a) (hQq : Q' q) : TownBut Q' w' tb t L' U where
  blk := fun hn => (o.blk (heap_lt (h.blk (fun e => hn (hQ _ e)))) (by rw [h.ltb (fun e => hn (hQ _ e))]; exact fun e => hn (e ▸ hQq))).trans (h.blk (fun e => hn (hQ _ e)))
  x := fun hn => GR.op (h.x (fun e => hn (hQ _ e))) o (h.lx (fun e => hn (hQ _ e))) (fun e => hn (e ▸ hQq))
  nn := fun hn => GR.op (h.nn (fun e => hn (hQ _ e))) o (h.lnn (fun e => hn (hQ _ e))) (fun e => hn (e ▸ hQq))
  node := fun i hi hn => by
    letI := far0
    have hd := h.node i hi (fun e => hn (hQ _ e))
    exact hd.same o.out.size (fun k hk => o.blk (own_lt hd hk) (by rw [h.lnode i hi (fun e => hn (hQ _ e)) k hk]; exact fun e => hn (e ▸ hQq)))
  notes := fun i hi hn => GR.op (h.notes i hi (fun e => hn (hQ _ e))) o (h.lnotes i hi (fun e => hn (hQ _ e))) (fun e => hn (e ▸ hQq))
  net := fun hn => GR.op (h.net (fun e => hn (hQ _ e))) o (h.lnet (fun e => hn (hQ _ e))) (fun e => hn (e ▸ hQq))
  fst := h.fst
  rows := fun p hp => (h.rows p hp).op o hq
  done := fun hn => GR.op (h.done (fun e => hn (hQ _ e))) o (h.ldone (fun e => hn (hQ _ e))) (fun e => hn (e ▸ hQq))
  lead := fun hn => (h.lead (fun e => hn (hQ _ e))).same (o.blk (h.lead (fun e => hn (hQ _ e))).lt (by rw [h.llead (fun e => hn (hQ _ e))]; exact fun e => hn (e ▸ hQq)))
  ltb := fun hn => o.lab hlt (h.ltb (fun e => hn (hQ _ e))) (by omega) (fun e => hn (e ▸ hQq))
  lx := fun hn k hk => o.lab hlt (h.lx (fun e => hn (hQ _ e)) k hk) (by omega) (fun e => hn (e ▸ hQq))
  lnn := fun hn k hk => o.lab hlt (h.lnn (fun e => hn (hQ _ e)) k hk) (by omega) (fun e => hn (e ▸ hQq))
  lnet := fun hn k hk => o.lab hlt (h.lnet (fun e => hn (hQ _ e)) k hk) (by omega) (fun e => hn (e ▸ hQq))
  ldone := fun hn k hk => o.lab hlt (h.ldone (fun e => hn (hQ _ e)) k hk) (by omega) (fun e => hn (e ▸ hQq))
  llead := fun hn => o.lab hlt (h.llead (fun e => hn (hQ _ e))) (by omega) (fun e => hn (e ▸ hQq))
  lnode := fun i hi hn k hk => o.lab hlt (h.lnode i hi (fun e => hn (hQ _ e)) k hk) (by omega) (fun e => hn (e ▸ hQq))
  lnotes := fun i hi hn k hk => o.lab hlt (h.lnotes i hi (fun e => hn (hQ _ e)) k hk) (by omega) (fun e => hn (e ▸ hQq))
theorem TownAt.op (h : TownAt w tb t L U) (o : Op q w L w' L') (hq : q ≠ 0) : TownBut (fun a => a = q) w' tb t L' U := (h.but (fun _ => False)).op h.lt o hq (fun _ e => e.elim) rfl
/-- Nothing of a town has turned. -/
theorem TownAt.any (h : TownAt w tb t L U) (ho : Out Zone.no w w') : TownAt w' tb t L U := by
  have b := h.op (Op.idle ho h.lt 7) (by omega)
  exact ⟨b.blk (by omega), b.x (by omega), b.nn (by omega), fun i hi => b.node i hi (by omega), fun i hi => b.notes i hi (by omega), b.net (by omega), b.fst, b.rows, b.done (by omega), b.lead (by omega), h.lab, fun k hk => Nat.lt_of_lt_of_le (h.lt k hk) ho.size⟩

/-- Ahead of the town: a world whose blocks are no town's, and boxes (label 7) that stay as they are. -/
structure Base where
  w : World
  bx : List (Nat × Obj)
/-- A town of a call's own. -/
def Own1 (w0 : Base) (w : World) (L : Nat → Nat) : Prop := Out Zone.no w0.w w ∧ (∀ k, L k ≠ 0 → w0.w.heap.size ≤ k) ∧ ∀ p ∈ w0.bx, L p.1 = 7 ∧ w.heap[p.1]? = some p.2
theorem Own1.op {w0 : Base} (h : Own1 w0 w L) (o : Op q w L w' L') (hq : q ≠ 0 ∧ q ≠ 7) : Own1 w0 w' L' := by
  have h1 := h.1.size
  refine ⟨h.1.fresh o.out (fun k hk => h.2.1 k (by have hk : L k = q := hk; omega)), fun k hk => ?_, fun p hp => ?_⟩
  · by_cases hlt : k < w.heap.size
    · by_cases hkq : L k = q
      · exact h.2.1 k (by omega)
      · rw [o.same k hlt hkq] at hk
        exact h.2.1 k hk
    · omega
  · obtain ⟨e1, e2⟩ := h.2.2 p hp
    have hlt := heap_lt e2
    exact ⟨(o.same p.1 hlt (by omega)).trans e1, (o.blk hlt (by omega)).trans e2⟩
theorem Own1.any {w0 : Base} (h : Own1 w0 w L) (ho : Out Zone.no w w') : Own1 w0 w' L := ⟨h.1.trans ho, h.2.1, fun p hp => ⟨(h.2.2 p hp).1, ho.get (h.2.2 p hp).2 id⟩⟩
def TownIn (w0 : Base) (tb : Nat) (t : Town) (w : World) : Prop := ∃ L U, TownAt w tb t L U ∧ Own1 w0 w L
theorem TownIn.any {w0 : Base} (h : TownIn w0 tb t w) (ho : Out Zone.no w w') : TownIn w0 tb t w' := by
  obtain ⟨L, U, h1, h2⟩ := h
  exact ⟨L, U, h1.any ho, h2.any ho⟩
theorem TownIn.out {w0 : Base} (h : TownIn w0 tb t w) : Out Zone.no w0.w w := by
  obtain ⟨L, U, _, h2⟩ := h
  exact h2.1

end
end Go.Proofs.Ytlgoenimjmiapaa

/-! A town's nodes, asked. -/
namespace Go.Proofs.Ytlgoenimjmiapaa
open Go.RowKit Go.Maps

/-- Rows joined, whatever is behind. -/
theorem GR.appended {t e : TypeId} {z : Value} {sz by_ : Nat} (E : ElemN Try.prog t e z sz by_) {w : World} {A : Option Addr} {n c : Nat} {xs : List Value} (h : GR w e sz (.slice A n c) n xs) (ty : TypeId) {N : Nat → Prop} {vx : Value} {m : Nat} {news : List Value} (hr : RRow N w vx m sz news)
    (h1 : ∀ u ∈ news, u.oneCell' = true) (h63 : n + m ≤ maxLen) (hb : (n + m) * by_ ≤ 140737488355328) (hsz : 0 < sz) :
    ∃ v' w', (Builtin.append_ #[t, t] ty #[.slice A n c, vx]).run Try.prog w = .ok v' w' ∧ GR w' e sz v' (n + m) (xs ++ news) ∧ w.grownBy w' (Value.slice A n c).ownBlock ∧ (v'.ownBlock = (Value.slice A n c).ownBlock ∨ v'.ownBlock = some w.heap.size) := by
  obtain ⟨hlen, A', c', rfl, h2, h3, hc⟩ := hr
  cases hA : A' with
  | some a =>
    subst hA
    by_cases hm : m = 0
    · subst hm
      obtain rfl : news = [] := List.eq_nil_of_length_eq_zero (by omega)
      obtain ⟨v', w', k1, k2, k3, k4⟩ := GRow.append E h ty a 0 c' [] (by simp) (fun j u hu => by simp at hu) (fun u hu => by cases hu) h63 hb
      exact ⟨v', w', k1, k2.wide (fun _ _ => trivial), k3, k4⟩
    · have h0 : 0 < news.length := by rw [hlen]; exact Nat.mul_pos (by omega) hsz
      obtain ⟨b, o, hA, _, _⟩ := hc 0 _ (List.getElem?_eq_getElem h0)
      injection hA with hA
      subst hA
      obtain ⟨v', w', k1, k2, k3, k4⟩ := GRow.append E h ty ⟨b, o, none⟩ m c' news hlen (fun j u hu => by
        obtain ⟨b', o', hA', _, hx⟩ := hc j u hu
        injection hA' with hA'
        injection hA' with e1 e2
        subst e1 e2
        have : (⟨b, o, none⟩ : Addr).add j = ⟨b, o + j, none⟩ := by unfold Addr.add; split <;> simp_all
        rw [this]; exact hx) h1 h63 hb
      exact ⟨v', w', k1, k2.wide (fun _ _ => trivial), k3, k4⟩
  | none =>
    subst hA
    have hx : news = [] := by
      cases news with
      | nil => rfl
      | cons u r => obtain ⟨b, o, hA, _⟩ := hc 0 u rfl; cases hA
    subst hx
    have hm : m = 0 := by
      have : 0 = m * sz := hlen
      rcases Nat.mul_eq_zero.1 this.symm with e | e
      · exact e
      · omega
    subst hm
    have hcap := GRow.caps h
    obtain ⟨hu, ⟨i, hi1, hz, hsz2, hby⟩, hz1, hp⟩ := E
    have hg0 : w.grownBy w (Value.slice A n c).ownBlock := ⟨rfl, rfl, rfl, Nat.le_refl _, fun k _ _ => rfl⟩
    refine ⟨.slice A n c, w, ?_, by simpa using h, hg0, Or.inl rfl⟩
    simp [Builtin.append_, run_underlying hu, sizeOf, typeInfo, hi1, Builtin.lenOf, Builtin.firstCells, storeCells, hcap]
    cases A <;> rfl

/-- What is far of node i. -/
abbrev farOf (L : Nat → Nat) (i : Nat) : Far := ⟨fun k => L k ≠ 0 ∧ L k ≠ 10 + 2 * i⟩
open Classical in
/-- The labels behind a node's answer. -/
noncomputable def relab (L : Nat → Nat) (q : Nat) (own : Nat → Prop) : Nat → Nat := fun k => if own k then q else if L k = q then 0 else L k
theorem relab_own {L : Nat → Nat} {q : Nat} {own : Nat → Prop} {k : Nat} (h : own k) : relab L q own k = q := by unfold relab; rw [if_pos h]
theorem relab_was {L : Nat → Nat} {q : Nat} {own : Nat → Prop} {k : Nat} (h : ¬ own k) (h2 : L k = q) : relab L q own k = 0 := by unfold relab; rw [if_neg h, if_pos h2]
theorem relab_else {L : Nat → Nat} {q : Nat} {own : Nat → Prop} {k : Nat} (h : ¬ own k) (h2 : L k ≠ q) : relab L q own k = L k := by unfold relab; rw [if_neg h, if_neg h2]

section
variable {w w' : World} {w0 : Base} {tb : Nat} {t : Town} {L : Nat → Nat} {U : TV} {i : Nat}
theorem TownAt.farnode (h : TownAt w tb t L U) (hi : i < t.n) : @NAt (farOf L i) w (U.xs i) ⟨t.X i, [], []⟩ (U.V i) :=
  (h.node i hi).refar (fun k hk => ⟨h.lt k hk.1, fun e => hk.2 (h.lab.node i hi k e)⟩)
/-- Behind a node's turn, whatever its labels were: own blocks are its old ones or new. -/
theorem relab_op {own own' : Nat → Prop} (hlt : ∀ k, L k ≠ 0 → k < w.heap.size) {q : Nat} (hq : q ≠ 0) (hown : ∀ k, own k → L k = q) (hn : Next own w own' w') (hlt' : ∀ k, own' k → k < w'.heap.size) : Op q w L w' (relab L q own') := by
  refine ⟨⟨hn.out.os, hn.out.tape, hn.out.output, hn.out.size, fun k hk hne => hn.out.block k hk (fun e => hne (hown k e))⟩, fun k hk hne => ?_, fun k hk => ?_, fun k hk => ?_, fun k hk => ?_⟩
  · refine relab_else (fun e => ?_) hne
    rcases hn.sub k e with e | e
    · exact hne (hown k e)
    · omega
  · by_cases ho : own' k
    · exact Or.inr (relab_own ho)
    · by_cases h2 : L k = q
      · exact Or.inl (relab_was ho h2)
      · left
        rw [relab_else ho h2]
        exact Classical.byContradiction (fun e => by have := hlt k e; omega)
  · by_cases ho : own' k
    · exact hlt' k ho
    · by_cases h2 : L k = q
      · rw [relab_was ho h2] at hk; exact absurd rfl hk
      · rw [relab_else ho h2] at hk
        exact Nat.lt_of_lt_of_le (hlt k hk) hn.out.size
  · by_cases ho : own' k
    · exact Or.inl (relab_own ho)
    · exact Or.inr (relab_was ho hk)
/-- A town with another node at i. -/
theorem TownAt.turned (h : TownAt w tb t L U) (hi : i < t.n) {L' : Nat → Nat} (o : Op (10 + 2 * i) w L w' L') {q : ND} {V' : NV} (hq : @NAt far0 w' (U.xs i) ⟨q, [], []⟩ V') (hl : ∀ k, V'.own (U.xs i) k → L' k = 10 + 2 * i) :
    TownAt w' tb { t with X := upd t.X i q } L' { U with V := fun j => if j = i then V' else U.V j } := by
  have b := h.op o (by omega)
  refine ⟨b.blk (by omega), b.x (by omega), b.nn (by omega), fun j hj => ?_, fun j hj => b.notes j hj (by omega), b.net (by omega), b.fst, b.rows, b.done (by omega), b.lead (by omega), ⟨b.ltb (by omega), b.lx (by omega), b.lnn (by omega), b.lnet (by omega), b.ldone (by omega), b.llead (by omega), fun j hj => ?_, fun j hj => b.lnotes j hj (by omega)⟩, o.lt⟩
  · by_cases hji : j = i
    · subst hji
      show @NAt far0 w' (U.xs j) ⟨upd t.X j q j, [], []⟩ (if j = j then V' else U.V j)
      rw [upd_self, if_pos rfl]
      exact hq
    · show @NAt far0 w' (U.xs j) ⟨upd t.X i q j, [], []⟩ (if j = i then V' else U.V j)
      rw [upd_ne _ _ _ hji, if_neg hji]
      exact b.node j hj (by omega)
  · by_cases hji : j = i
    · subst hji
      show ∀ k, NV.own (U.xs j) (if j = j then V' else U.V j) k → _
      rw [if_pos rfl]
      exact hl
    · show ∀ k, NV.own (U.xs j) (if j = i then V' else U.V j) k → _
      rw [if_neg hji]
      exact b.lnode j hj (by omega)

/-- A town of the call's own, its nodes at xs. -/
def TownX (w0 : Base) (tb : Nat) (t : Town) (xs : Nat → Nat) (w : World) : Prop := ∃ L U, TownAt w tb t L U ∧ Own1 w0 w L ∧ U.xs = xs
/-- The same, and work that is to be done. -/
def TownW (w0 : Base) (tb : Nat) (t : Town) (xs : Nat → Nat) (v : Value) (ns : List Nt) (ms : List Msg) (w : World) : Prop := ∃ L U, TownAt w tb t L U ∧ Own1 w0 w L ∧ U.xs = xs ∧ WorkOut (fun k => L k ≠ 0) w v ns ms
theorem TownX.any {xs : Nat → Nat} (h : TownX w0 tb t xs w) (ho : Out Zone.no w w') : TownX w0 tb t xs w' := by
  obtain ⟨L, U, h1, h2, h3⟩ := h
  exact ⟨L, U, h1.any ho, h2.any ho, h3⟩
theorem WorkOut.any {N : Nat → Prop} {v : Value} {ns : List Nt} {ms : List Msg} (h : WorkOut N w v ns ms) (ho : Out Zone.no w w') : WorkOut N w' v ns ms := by
  obtain ⟨nv, sv, ss, h1, h2, h3⟩ := h
  exact ⟨nv, sv, ss, h1, h2, ⟨GRow.any h3.notes ho, GRow.any h3.send ho, fun p hp => (h3.rows p hp).any ho, h3.bn, h3.bs⟩⟩
theorem TownW.any {xs : Nat → Nat} {v : Value} {ns : List Nt} {ms : List Msg} (h : TownW w0 tb t xs v ns ms w) (ho : Out Zone.no w w') : TownW w0 tb t xs v ns ms w' := by
  obtain ⟨L, U, h1, h2, h3, h4⟩ := h
  exact ⟨L, U, h1.any ho, h2.any ho, h3, h4.any ho⟩
theorem TownW.x {xs : Nat → Nat} {v : Value} {ns : List Nt} {ms : List Msg} (h : TownW w0 tb t xs v ns ms w) : TownX w0 tb t xs w := by
  obtain ⟨L, U, h1, h2, h3, _⟩ := h
  exact ⟨L, U, h1, h2, h3⟩
theorem TownX.out {xs : Nat → Nat} (h : TownX w0 tb t xs w) : Out Zone.no w0.w w := by
  obtain ⟨L, U, _, h2, _⟩ := h
  exact h2.1

/-- What a node's answer makes of a town. -/
theorem TownAt.handed (h : TownAt w tb t L U) (ho : Own1 w0 w L) (hi : i < t.n) {c : NS} {v : Value} (hh : @Handed (farOf L i) w (U.xs i) (U.V i) c v w') : TownW w0 tb { t with X := upd t.X i c.q } U.xs v c.ns c.ms w' := by
  obtain ⟨V', h1, h2, h3⟩ := hh
  letI := farOf L i
  have hlt' : ∀ k, V'.own (U.xs i) k → k < w'.heap.size := fun k hk => own_lt h1 hk
  have op : Op (10 + 2 * i) w L w' (relab L (10 + 2 * i) (V'.own (U.xs i))) := relab_op h.lt (by omega) (h.lab.node i hi) h2 hlt'
  refine ⟨_, _, h.turned hi op (h1.refar (fun k hk => hk.elim)) (fun k hk => relab_own hk), ho.op op (by omega), rfl, ?_⟩
  have e : (fun k => relab L (10 + 2 * i) (V'.own (U.xs i)) k ≠ 0) = V'.shun (U.xs i) := by
    funext k
    apply propext
    constructor
    · intro hk
      by_cases ho : V'.own (U.xs i) k
      · exact Or.inl ho
      · by_cases h5 : L k = 10 + 2 * i
        · rw [relab_was ho h5] at hk; exact absurd rfl hk
        · rw [relab_else ho h5] at hk; exact Or.inr ⟨hk, h5⟩
    · rintro (ho | ⟨h5, h6⟩)
      · rw [relab_own ho]; omega
      · by_cases ho : V'.own (U.xs i) k
        · rw [relab_own ho]; omega
        · rw [relab_else ho h6]; exact h5
  rw [e]
  exact h3

variable {xs : Nat → Nat}
theorem promote_t (h : TownX w0 tb t xs w) (hi : i < t.n) (hf : (t.X i).Fit) :
    Calls Try.prog 12 #[.pointer (some ⟨xs i, 0, none⟩)] w fun e w' => ∃ v, e = .returned (.tuple #[v, .int .i64 (t.X i).promote.2]) ∧ TownW w0 tb { t with X := upd t.X i (t.X i).promote.1.q } xs v (t.X i).promote.1.ns (t.X i).promote.1.ms w' := by
  obtain ⟨L, U, h1, h2, rfl⟩ := h
  letI := farOf L i
  refine (promote_is (h1.farnode hi) hf.n0 hf.n7 hf.ids hf.log hf.ep).mono ?_
  rintro e w' ⟨v, rfl, hh⟩
  exact ⟨v, rfl, h1.handed h2 hi hh⟩
theorem append_t (h : TownX w0 tb t xs w) (hi : i < t.n) (hf : (t.X i).Fit) (d : List UInt8) (hd : d.length ≤ 9223372036854775807) :
    Calls Try.prog 13 #[.pointer (some ⟨xs i, 0, none⟩), .string (str d)] w fun e w' => ∃ v, e = .returned (.tuple #[.int .i64 ((t.X i).append d).2.1, v, .int .i64 ((t.X i).append d).2.2]) ∧ TownW w0 tb { t with X := upd t.X i ((t.X i).append d).1.q } xs v ((t.X i).append d).1.ns ((t.X i).append d).1.ms w' := by
  obtain ⟨L, U, h1, h2, rfl⟩ := h
  letI := farOf L i
  refine (append_is (h1.farnode hi) hf d hd).mono ?_
  rintro e w' ⟨v, rfl, hh⟩
  exact ⟨v, rfl, h1.handed h2 hi hh⟩
theorem tick_t (h : TownX w0 tb t xs w) (hi : i < t.n) (hf : (t.X i).Fit) :
    Calls Try.prog 14 #[.pointer (some ⟨xs i, 0, none⟩)] w fun e w' => ∃ v, e = .returned (.tuple #[v, .int .i64 0]) ∧ TownW w0 tb { t with X := upd t.X i (t.X i).tick.q } xs v (t.X i).tick.ns (t.X i).tick.ms w' := by
  obtain ⟨L, U, h1, h2, rfl⟩ := h
  letI := farOf L i
  refine (tick_is (h1.farnode hi) hf).mono ?_
  rintro e w' ⟨v, rfl, hh⟩
  exact ⟨v, rfl, h1.handed h2 hi hh⟩
/-- A town, and the log of a message that was taken from the net. -/
def TownM (w0 : Base) (tb : Nat) (t : Town) (xs : Nat → Nat) (m : Msg) (v : Value) (w : World) : Prop := ∃ L U, TownAt w tb t L U ∧ Own1 w0 w L ∧ U.xs = xs ∧ RRow (fun k => L k ≠ 0) w v m.log.length 2 (encL m.log)
theorem TownM.any {m : Msg} {v : Value} (h : TownM w0 tb t xs m v w) (ho : Out Zone.no w w') : TownM w0 tb t xs m v w' := by
  obtain ⟨L, U, h1, h2, h3, h4⟩ := h
  exact ⟨L, U, h1.any ho, h2.any ho, h3, h4.any ho⟩
theorem role_t (h : TownX w0 tb t xs w) (hi : i < t.n) (hf : (t.X i).Fit) : Calls Try.prog 16 #[.pointer (some ⟨xs i, 0, none⟩)] w fun e w' => e = .returned (.int .i64 (t.X i).role) ∧ w = w' := by
  obtain ⟨L, U, h1, h2, rfl⟩ := h
  letI := far0
  exact role_g (h1.node i hi) hf.n0 hf.n7
theorem commit_t (h : TownX w0 tb t xs w) (hi : i < t.n) (hf : (t.X i).Fit) : Calls Try.prog 17 #[.pointer (some ⟨xs i, 0, none⟩)] w fun e w' => e = .returned (.int .i64 ((t.X i).commit : Int)) ∧ w = w' := by
  obtain ⟨L, U, h1, h2, rfl⟩ := h
  letI := far0
  exact commit_g (h1.node i hi) hf.n0 hf.n7
theorem state_t (h : TownX w0 tb t xs w) (hi : i < t.n) (hf : (t.X i).Fit) : Calls Try.prog 10 #[.pointer (some ⟨xs i, 0, none⟩)] w fun e w' => ∃ A c, e = .returned (.agg #[.int .i64 (t.X i).st.ep, .int .i64 (t.X i).st.voted, .slice A (t.X i).st.log.length c]) ∧ GR w' 38 2 (.slice A (t.X i).st.log.length c) (t.X i).st.log.length (encL (t.X i).st.log) ∧ (∀ k, (Value.slice A (t.X i).st.log.length c).ownBlock = some k → w.heap.size ≤ k) ∧ Out Zone.no w w' := by
  obtain ⟨L, U, h1, h2, rfl⟩ := h
  letI := far0
  obtain ⟨ss, _, hn⟩ := h1.node i hi
  refine (state_is hn hf.n0 hf.n7 (by have := hf.log; show (t.X i).st.log.length ≤ _; omega)).mono ?_
  rintro e w' ⟨lv, rfl, k1, k2, k3⟩
  obtain ⟨A, c, rfl⟩ := GRow.form k1
  exact ⟨A, c, rfl, k1, k2, k3⟩
end
end Go.Proofs.Ytlgoenimjmiapaa
