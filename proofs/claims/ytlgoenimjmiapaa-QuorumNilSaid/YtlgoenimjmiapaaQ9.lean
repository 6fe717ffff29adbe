import Derived.Test.YtlgoenimjmiapaaQ8
/-! A node behind a change of a part; noted, send, done. -/
set_option linter.unusedVariables false
namespace Go.Proofs.Ytlgoenimjmiapaa
open Go.RowKit Go.Maps

theorem elem29 : ElemN Try.prog 29 75 (.agg #[.int .i64 0, .int .i64 0, .int .i64 0, .int .i64 0, .string ⟨#[]⟩]) 5 48 := ElemN.mk' Try.underlying29 (by kernel_rfl) (by kernel_rfl) (by omega)
theorem elem30 : ElemN Try.prog 30 36 (.agg #[.int .i64 0, .int .i64 0, .int .i64 0, .int .i64 0, .int .i64 0, .int .i64 0, .int .i64 0, .slice none 0 0]) 8 80 := ElemN.mk' Try.underlying30 (by kernel_rfl) (by kernel_rfl) (by omega)

section
variable {w w' : World} {x : Nat} {q : ND} {ns : List Nt} {ss : List (Msg × Value)} {V : NV}
/-- What all else is, where the node's block and its part i have turned. -/
theorem NodeAt.rest (h : NodeAt w x q ns ss V) {S : Nat → Prop} (ho : Out (Zone.m S) w w') (i : Nat) (hi0 : 1 ≤ i) (hi7 : i < 7) (hS : ∀ k, S k → k < w.heap.size → k = x ∨ (V.blks x)[i]? = some (some k)) {V' : NV} {o : Option Nat}
    (hset : V'.blks x = (V.blks x).set i o) (hoi : ∀ k, o = some k → (V.blks x)[i]? = some (some k) ∨ w.heap.size ≤ k) :
    (∀ j k, 1 ≤ j → j < 7 → j ≠ i → (V.blks x)[j]? = some (some k) → w'.heap[k]? = w.heap[k]?) ∧ Next (V.own x) w (V'.own x) w' ∧
    (∀ p ∈ ss, RRow (V'.own x) w' p.2 p.1.log.length 2 (encL p.1.log)) ∧ (V'.blks x).Pairwise (fun a b => ∀ k, a = some k → b ≠ some k) := by
  have hown : ∀ k, S k → k < w.heap.size → V.own x k := fun k hk hlt => by
    rcases hS k hk hlt with e | e
    · unfold NV.own NV.blks; rw [e]; simp
    · exact List.mem_of_getElem? e
  have hsub : ∀ k, V'.own x k → V.own x k ∨ w.heap.size ≤ k := fun k hk => by
    unfold NV.own at hk
    rw [hset] at hk
    rcases List.mem_or_eq_of_mem_set hk with e | e
    · exact Or.inl e
    · rcases hoi k e.symm with e | e
      · exact Or.inl (List.mem_of_getElem? e)
      · exact Or.inr e
  refine ⟨fun j k h1 h7 hj hk => ?_, ⟨⟨ho.os, ho.tape, ho.output, ho.size, fun k hk hn => ho.block k hk (fun e => hn (hown k e hk))⟩, hsub⟩, fun p hp => ?_, ?_⟩
  · have hlt := h.lt (List.mem_of_getElem? hk)
    refine ho.block k hlt (fun e => ?_)
    rcases hS k e hlt with e | e
    · exact h.apart 0 j (by omega) h7 k (by rw [e]; rfl) hk
    · rcases Nat.lt_or_gt_of_ne hj with hj | hj
      · exact h.apart j i hj hi7 k hk e
      · exact h.apart i j hj h7 k e hk
  · refine (h.rows p hp).next ho hown (fun k hk hlt => ?_)
    rcases hsub k hk with e | e
    · exact e
    · omega
  · rw [hset]
    exact pw_set h.sep (fun k hk => h.lt hk) i _ hoi

theorem votes_keep (h : NodeAt w x q ns ss V) (hf : ∀ k, mapBlock V.gv = some k → w'.heap[k]? = w.heap[k]?) : match q.granted with
    | none => V.gv = .map none
    | some gs => ∃ b, V.gv = .map (some b) ∧ VotesAt w' b gs := by
  have hv := h.votes
  cases hgr : q.granted with
  | none => rw [hgr] at hv; exact hv
  | some gs =>
    rw [hgr] at hv
    obtain ⟨b, h1, h2⟩ := hv
    exact ⟨b, h1, h2.same (hf b (by rw [h1]; rfl))⟩

theorem blk_set {rest : List Value} {ep voted : Int} {lv : Value} (h : StAt w x 54 ep voted lv rest) (i : Nat) (u : Value) : StAt (w.setCell ⟨x, i + 3, none⟩ u) x 54 ep voted lv (rest.set i u) := by
  have := heap_set h (i + 3) u
  unfold StAt
  rw [this]
  simp

/-- A note more. -/
theorem NodeAt.pushNote (h : NodeAt w x q ns ss V) {W w' : World} (ho : Out Zone.no w W) {v' : Value} (t : Nt)
    (hg : GR w' 75 5 v' (ns.length + 1) (encN ns ++ [.int .i64 t.kind, .int .i64 t.ep, .int .i64 t.n, .int .i64 t.ent.ep, .string (str t.ent.data)])) (hgr : W.grownBy w' V.nv.ownBlock) (hat : v'.ownBlock = V.nv.ownBlock ∨ v'.ownBlock = some W.heap.size) :
    NodeAt (w'.setCell ⟨x, 10, none⟩ v') x q (ns ++ [t]) ss { V with nv := v' } ∧ Next (V.own x) w (NV.own x { V with nv := v' }) (w'.setCell ⟨x, 10, none⟩ v') ∧ w'.cell? ⟨x, 10, none⟩ = some V.nv ∧ w'.frozen? ⟨x, 10, none⟩ = false := by
  have hsz := ho.size
  have hx : x < w.heap.size := heap_lt h.blk
  have hnx : V.nv.ownBlock ≠ some x := fun e => h.apart 0 5 (by omega) (by omega) x rfl (by show some _ = _; rw [e])
  have hb1 : StAt w' x 54 _ _ _ _ := (hgr.block x (by omega) (fun e => hnx e.symm)).trans (h.blk.any ho)
  have o1 : Out (Zone.m (fun k => k = x ∨ V.nv.ownBlock = some k)) w w' := ho.mono0.grown hgr (fun k hk => Or.inl (Or.inr hk))
  have o2 : Out (Zone.m (fun k => k = x ∨ V.nv.ownBlock = some k)) w (w'.setCell ⟨x, 10, none⟩ v') := o1.setCell (Or.inl (Or.inl rfl)) _
  have hoi : ∀ k, v'.ownBlock = some k → (V.blks x)[5]? = some (some k) ∨ w.heap.size ≤ k := fun k hk => by
    rcases hat with e | e
    · exact Or.inl (by show some _ = _; rw [← e, hk])
    · rw [hk] at e; injection e with e; exact Or.inr (by omega)
  obtain ⟨far, hnext, hrows, hsep⟩ := h.rest o2 5 (by omega) (by omega) (fun k hk hlt => hk.imp id (fun e => by show some _ = _; rw [e])) (V' := { V with nv := v' }) (o := v'.ownBlock) rfl hoi
  have hvx : v'.ownBlock ≠ some x := fun e => by
    rcases hat with e' | e'
    · exact hnx (e'.symm.trans e)
    · rw [e] at e'; injection e' with e'; omega
  refine ⟨⟨blk_set hb1 7 v', ?_, ?_, ?_, ?_, ?_, ?_, hrows, hsep⟩, hnext, ?_, frozen_all hb1 10⟩
  · exact GRow.keep h.log (fun k hk => far 1 k (by omega) (by omega) (by omega) (by show some _ = _; rw [hk])) (fun _ _ => trivial)
  · have hv := votes_keep h (fun k hk => far 2 k (by omega) (by omega) (by omega) (by show some _ = _; rw [hk]))
    exact hv
  · exact GRow.keep h.has (fun k hk => far 3 k (by omega) (by omega) (by omega) (by show some _ = _; rw [hk])) (fun _ _ => trivial)
  · exact GRow.keep h.acked (fun k hk => far 4 k (by omega) (by omega) (by omega) (by show some _ = _; rw [hk])) (fun _ _ => trivial)
  · have e1 : encN (ns ++ [t]) = encN ns ++ [.int .i64 t.kind, .int .i64 t.ep, .int .i64 t.n, .int .i64 t.ent.ep, .string (str t.ent.data)] := by simp [encN]
    rw [List.length_append, e1]
    exact gr_set hg hvx _
  · exact GRow.keep h.send (fun k hk => far 6 k (by omega) (by omega) (by omega) (by show some _ = _; rw [hk])) (fun _ _ => trivial)
  · rw [cells_all hb1 10]; rfl

/-- A message more; its log lies in none of the node's blocks. -/
theorem NodeAt.pushSend (h : NodeAt w x q ns ss V) {W w' : World} (ho : Out Zone.no w W) {v' : Value} (p : Msg × Value) (hp : RRow (V.own x) w p.2 p.1.log.length 2 (encL p.1.log))
    (hg : GR w' 36 8 v' (ss.length + 1) (encM ss ++ mcells p)) (hgr : W.grownBy w' V.sv.ownBlock) (hat : v'.ownBlock = V.sv.ownBlock ∨ v'.ownBlock = some W.heap.size) :
    NodeAt (w'.setCell ⟨x, 11, none⟩ v') x q ns (ss ++ [p]) { V with sv := v' } ∧ Next (V.own x) w (NV.own x { V with sv := v' }) (w'.setCell ⟨x, 11, none⟩ v') ∧ w'.cell? ⟨x, 11, none⟩ = some V.sv ∧ w'.frozen? ⟨x, 11, none⟩ = false := by
  have hsz := ho.size
  have hx : x < w.heap.size := heap_lt h.blk
  have hnx : V.sv.ownBlock ≠ some x := fun e => h.apart 0 6 (by omega) (by omega) x rfl (by show some _ = _; rw [e])
  have hb1 : StAt w' x 54 _ _ _ _ := (hgr.block x (by omega) (fun e => hnx e.symm)).trans (h.blk.any ho)
  have o1 : Out (Zone.m (fun k => k = x ∨ V.sv.ownBlock = some k)) w w' := ho.mono0.grown hgr (fun k hk => Or.inl (Or.inr hk))
  have o2 : Out (Zone.m (fun k => k = x ∨ V.sv.ownBlock = some k)) w (w'.setCell ⟨x, 11, none⟩ v') := o1.setCell (Or.inl (Or.inl rfl)) _
  have hoi : ∀ k, v'.ownBlock = some k → (V.blks x)[6]? = some (some k) ∨ w.heap.size ≤ k := fun k hk => by
    rcases hat with e | e
    · exact Or.inl (by show some _ = _; rw [← e, hk])
    · rw [hk] at e; injection e with e; exact Or.inr (by omega)
  have hh : ∀ k, (fun k => k = x ∨ V.sv.ownBlock = some k) k → k < w.heap.size → k = x ∨ (V.blks x)[6]? = some (some k) := fun k hk hlt => hk.imp id (fun e => by show some _ = _; rw [e])
  obtain ⟨far, hnext, hrows, hsep⟩ := h.rest o2 6 (by omega) (by omega) hh (V' := { V with sv := v' }) (o := v'.ownBlock) rfl hoi
  have hvx : v'.ownBlock ≠ some x := fun e => by
    rcases hat with e' | e'
    · exact hnx (e'.symm.trans e)
    · rw [e] at e'; injection e' with e'; omega
  refine ⟨⟨blk_set hb1 8 v', ?_, ?_, ?_, ?_, ?_, ?_, ?_, hsep⟩, hnext, ?_, frozen_all hb1 11⟩
  · exact GRow.keep h.log (fun k hk => far 1 k (by omega) (by omega) (by omega) (by show some _ = _; rw [hk])) (fun _ _ => trivial)
  · have hv := votes_keep h (fun k hk => far 2 k (by omega) (by omega) (by omega) (by show some _ = _; rw [hk]))
    exact hv
  · exact GRow.keep h.has (fun k hk => far 3 k (by omega) (by omega) (by omega) (by show some _ = _; rw [hk])) (fun _ _ => trivial)
  · exact GRow.keep h.acked (fun k hk => far 4 k (by omega) (by omega) (by omega) (by show some _ = _; rw [hk])) (fun _ _ => trivial)
  · exact GRow.keep h.notes (fun k hk => far 5 k (by omega) (by omega) (by omega) (by show some _ = _; rw [hk])) (fun _ _ => trivial)
  · have e1 : encM (ss ++ [p]) = encM ss ++ mcells p := by simp [encM]
    rw [List.length_append, e1]
    exact gr_set hg hvx _
  · intro p' hp'
    rcases List.mem_append.1 hp' with e | e
    · exact hrows p' e
    · rw [List.mem_singleton.1 e]
      refine hp.next o2 (fun k hk hlt => ?_) (fun k hk hlt => ?_)
      · rcases hh k hk hlt with e | e
        · unfold NV.own NV.blks; rw [e]; simp
        · exact List.mem_of_getElem? e
      · rcases hnext.sub k hk with e | e
        · exact e
        · omega
  · rw [cells_all hb1 11]; rfl
end
end Go.Proofs.Ytlgoenimjmiapaa
