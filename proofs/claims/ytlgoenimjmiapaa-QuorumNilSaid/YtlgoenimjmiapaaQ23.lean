import Derived.Test.YtlgoenimjmiapaaQ22
import Derived.Test.YtlgoenimjmiapaaQ18
/-! A node with what it has yet to hand out; its operations, restated; new rows and a new map. -/
set_option linter.unusedVariables false
namespace Go.Proofs.Ytlgoenimjmiapaa
open Go.RowKit Go.Maps

/-- A node, its notes and its messages. -/
structure NS where
  q : ND
  ns : List Nt
  ms : List Msg

def NAt (w : World) (x : Nat) (c : NS) (V : NV) : Prop := ∃ ss : List (Msg × Value), ss.map Prod.fst = c.ms ∧ NodeAt w x c.q c.ns ss V
/-- It has become c'. -/
def Gone (w : World) (x : Nat) (V : NV) (c' : NS) (w' : World) : Prop := ∃ V', NAt w' x c' V' ∧ Next (V.own x) w (V'.own x) w'

theorem pw_setF {l : List (Option Nat)} (h : l.Pairwise (fun a b => ∀ k, a = some k → b ≠ some k)) (i : Nat) (o : Option Nat) (ho : ∀ k, o = some k → l[i]? = some (some k) ∨ some k ∉ l) :
    (l.set i o).Pairwise (fun a b => ∀ k, a = some k → b ≠ some k) := by
  rw [List.pairwise_iff_getElem] at h ⊢
  intro a b ha hb hab k hk hk'
  rw [List.length_set] at ha hb
  rw [List.getElem_set] at hk hk'
  by_cases h1 : i = a
  · rw [if_pos h1] at hk
    rw [if_neg (by omega)] at hk'
    rcases ho k hk with e | e
    · subst h1
      rw [List.getElem?_eq_getElem ha] at e
      injection e with e
      exact h _ b ha hb hab k e hk'
    · exact e (by rw [← hk']; exact List.getElem_mem hb)
  · rw [if_neg h1] at hk
    by_cases h2 : i = b
    · rw [if_pos h2] at hk'
      rcases ho k hk' with e | e
      · subst h2
        rw [List.getElem?_eq_getElem hb] at e
        injection e with e
        exact h a _ ha hb hab k hk e
      · exact e (by rw [← hk]; exact List.getElem_mem ha)
    · rw [if_neg h2] at hk'
      exact h a b ha hb hab k hk hk'

section
variable {w w' : World} {x : Nat} {q : ND} {ns : List Nt} {ss : List (Msg × Value)} {V : NV}

theorem Gone.refl {c : NS} (h : NAt w x c V) : Gone w x V c w := ⟨V, h, Next.refl _ _⟩
theorem Gone.trans {w2 : World} {c : NS} {V' : NV} (h : Next (V.own x) w (V'.own x) w') (k : Gone w' x V' c w2) : Gone w x V c w2 := by
  obtain ⟨V2, h1, h2⟩ := k
  exact ⟨V2, h1, h.trans h2⟩
theorem NAt.any {c : NS} (h : NAt w x c V) (ho : Out Zone.no w w') : NAt w' x c V := by
  obtain ⟨ss, h1, h2⟩ := h
  exact ⟨ss, h1, h2.any ho⟩
theorem Gone.any {w2 : World} {c : NS} (h : Gone w x V c w') (ho : Out Zone.no w' w2) : Gone w x V c w2 := by
  obtain ⟨V2, h1, h2⟩ := h
  exact ⟨V2, h1.any ho, h2.trans (Next.of_out ho)⟩

/-- The node's block, its votes, has and acked are new; all else stands. -/
theorem NodeAt.built (h : NodeAt w x q ns ss V) {W w' : World} (ho : Out Zone.no w W) (hW : Out (Zone.m (fun k => k = x)) W w') {q' : ND} {V' : NV} (hst : q'.st = q.st) (hlv : V'.lv = V.lv) (hnv : V'.nv = V.nv) (hsv : V'.sv = V.sv)
    (hb : StAt w' x 54 q'.st.ep q'.st.voted V'.lv [.int .i64 (q'.id : Int), .int .i64 (q'.n : Int), .int .i64 q'.role, .int .i64 (q'.commit : Int), V'.gv, V'.hv, V'.av, V'.nv, V'.sv])
    (hvt : match q'.granted with
      | none => V'.gv = .map none
      | some gs => ∃ b, V'.gv = .map (some b) ∧ VotesAt w' b gs)
    (hhas : GR w' 3 1 V'.hv q'.has.length (ints q'.has)) (hack : GR w' 3 1 V'.av q'.acked.length (ints q'.acked))
    (sep : (V'.blks x).Pairwise (fun a b => ∀ k, a = some k → b ≠ some k)) (sub : ∀ k, V'.own x k → V.own x k ∨ w.heap.size ≤ k) :
    NodeAt w' x q' ns ss V' ∧ Next (V.own x) w (V'.own x) w' := by
  have h1 := h.any ho
  have far : ∀ j k, 1 ≤ j → j < 7 → (V.blks x)[j]? = some (some k) → w'.heap[k]? = W.heap[k]? := fun j k h1 h7 hk => by
    refine hW.block k ?_ (fun e => h.apart 0 j (by omega) h7 k (by rw [show k = x from e]; rfl) hk)
    have := h.lt (List.mem_of_getElem? hk)
    have := ho.size
    omega
  have o2 : Out (Zone.m (V.own x)) w w' := by
    refine Out.trans ho.mono0 ⟨hW.os, hW.tape, hW.output, hW.size, fun k hk hn => hW.block k hk (fun e => hn ?_)⟩
    rw [show k = x from e]
    exact NodeAt.own_x x V
  refine ⟨⟨hb, ?_, hvt, hhas, hack, ?_, ?_, ?_, sep⟩, ⟨o2, sub⟩⟩
  · rw [hlv, hst]; exact GRow.keep h1.log (fun k hk => far 1 k (by omega) (by omega) (by show some _ = _; rw [hk])) (fun _ _ => trivial)
  · rw [hnv]; exact GRow.keep h1.notes (fun k hk => far 5 k (by omega) (by omega) (by show some _ = _; rw [hk])) (fun _ _ => trivial)
  · rw [hsv]; exact GRow.keep h1.send (fun k hk => far 6 k (by omega) (by omega) (by show some _ = _; rw [hk])) (fun _ _ => trivial)
  · intro p hp
    refine (h.rows p hp).next o2 (fun k hk _ => hk) (fun k hk hlt => ?_)
    rcases sub k hk with e | e
    · exact e
    · omega

/-- New has and acked. -/
theorem NodeAt.lead (h : NodeAt w x q ns ss V) {w' : World} (hW : Out (Zone.m (fun k => k = x)) w w') {hv' av' : Value} {lh la : List Int}
    (hb : StAt w' x 54 q.st.ep q.st.voted V.lv [.int .i64 (q.id : Int), .int .i64 (q.n : Int), .int .i64 q.role, .int .i64 (q.commit : Int), V.gv, hv', av', V.nv, V.sv])
    (hg : GR w' 3 1 hv' lh.length (ints lh)) (ha : GR w' 3 1 av' la.length (ints la))
    (fg : ∀ j, hv'.ownBlock = some j → w.heap.size ≤ j) (fa : ∀ j, av'.ownBlock = some j → w.heap.size ≤ j) (hne : ∀ j, hv'.ownBlock = some j → av'.ownBlock ≠ some j) :
    NodeAt w' x { q with has := lh, acked := la } ns ss { V with hv := hv', av := av' } ∧ Next (V.own x) w (NV.own x { V with hv := hv', av := av' }) w' := by
  have hx : x < w.heap.size := heap_lt h.blk
  have hset : NV.blks x { V with hv := hv', av := av' } = ((V.blks x).set 3 hv'.ownBlock).set 4 av'.ownBlock := rfl
  have hnew : ∀ k, w.heap.size ≤ k → some k ∉ V.blks x := fun k hk he => by have := h.lt he; omega
  refine h.built (Out.refl _ _) (q' := { q with has := lh, acked := la }) (V' := { V with hv := hv', av := av' }) hW rfl rfl rfl rfl hb ?_ hg ha ?_ ?_
  · have hv := votes_keep (w' := w') h (fun k hk => by
      have hne : k ≠ x := fun e => h.apart 0 2 (by omega) (by omega) k (by rw [e]; rfl) (by show some _ = _; rw [hk])
      exact hW.block k (h.lt (List.mem_of_getElem? (i := 2) (by show some _ = _; rw [hk]))) hne)
    exact hv
  · rw [hset]
    have p1 := pw_setF h.sep 3 hv'.ownBlock (fun k hk => Or.inr (hnew k (fg k hk)))
    refine pw_setF p1 4 av'.ownBlock (fun k hk => Or.inr (fun he => ?_))
    rcases List.mem_or_eq_of_mem_set he with e | e
    · exact hnew k (fa k hk) e
    · exact hne k e.symm hk
  · intro k hk
    unfold NV.own at hk
    rw [hset] at hk
    rcases List.mem_or_eq_of_mem_set hk with e | e
    · rcases List.mem_or_eq_of_mem_set e with e | e
      · exact Or.inl e
      · exact Or.inr (fg k e.symm)
    · exact Or.inr (fa k e.symm)

/-- A new map of votes, and a role. -/
theorem NodeAt.runs (h : NodeAt w x q ns ss V) {W : World} (ho : Out Zone.no w W) (r : Int) {b : Nat} {gs : List Int} (hv : VotesAt W b gs) (fb : w.heap.size ≤ b) :
    NodeAt ((W.setCell ⟨x, 5, none⟩ (.int .i64 r)).setCell ⟨x, 7, none⟩ (.map (some b))) x { q with role := r, granted := some gs } ns ss { V with gv := .map (some b) } ∧
    Next (V.own x) w (NV.own x { V with gv := .map (some b) }) ((W.setCell ⟨x, 5, none⟩ (.int .i64 r)).setCell ⟨x, 7, none⟩ (.map (some b))) := by
  have h1 := h.any ho
  have hx : x < w.heap.size := heap_lt h.blk
  have b1 := blk_set h1.blk 2 (.int .i64 r)
  have b2 := blk_set b1 4 (.map (some b))
  have keep : ∀ {e sz v n xs}, GR W e sz v n xs → v.ownBlock ≠ some x → GR ((W.setCell ⟨x, 5, none⟩ (.int .i64 r)).setCell ⟨x, 7, none⟩ (.map (some b))) e sz v n xs := fun hg hk => gr_set (gr_set hg hk _) hk _
  have hset : NV.blks x { V with gv := .map (some b) } = (V.blks x).set 2 (some b) := rfl
  have hnew : ∀ k, w.heap.size ≤ k → some k ∉ V.blks x := fun k hk he => by have := h.lt he; omega
  refine h.built ho (q' := { q with role := r, granted := some gs }) (V' := { V with gv := .map (some b) }) (((Out.refl _ _).setCell (Or.inl rfl) _).setCell (Or.inl rfl) _) rfl rfl rfl rfl b2 ?_ (keep h1.has (fun e => ?_)) (keep h1.acked (fun e => ?_)) ?_ ?_
  · refine ⟨b, rfl, hv.same ?_⟩
    have hne : b ≠ x := by omega
    exact (Below.heap_setCell _ ⟨x, 7, none⟩ _ b hne).trans (Below.heap_setCell _ ⟨x, 5, none⟩ _ b hne)
  · exact h.apart 0 3 (by omega) (by omega) x rfl (by show some _ = _; rw [e])
  · exact h.apart 0 4 (by omega) (by omega) x rfl (by show some _ = _; rw [e])
  · rw [hset]
    exact pw_setF h.sep 2 (some b) (fun k hk => Or.inr (hnew k (by injection hk with hk; omega)))
  · intro k hk
    unfold NV.own at hk
    rw [hset] at hk
    rcases List.mem_or_eq_of_mem_set hk with e | e
    · exact Or.inl e
    · injection e with e; exact Or.inr (by omega)

theorem RepAt.keep {W W' : World} {g N m : Nat} {L : Int} (h : RepAt W g N m L) (he : W'.heap[g]? = W.heap[g]?) : RepAt W' g N m L := by
  obtain ⟨cur, h1, h2⟩ := h
  exact ⟨cur, he.trans h1, h2⟩
theorem RepAt.gr {W : World} {g N : Nat} {L : Int} (h : RepAt W g N N L) (hN : N ≤ 7) : GR W 3 1 (.slice (some ⟨g, 0, none⟩) N N) (List.replicate N L).length (ints (List.replicate N L)) := by
  obtain ⟨cur, h1, h2, h3⟩ := h
  refine ⟨ints_length _, Or.inr ⟨g, N, cur, by rw [List.length_replicate], trivial, h1, by rw [List.length_replicate]; omega, le_maxLen (by omega), by omega, ?_⟩⟩
  rw [List.length_replicate]
  apply List.ext_getElem?
  intro j
  rw [Nat.mul_one, List.getElem?_take]
  unfold ints
  rw [List.getElem?_map, List.getElem?_replicate]
  by_cases hj : j < N
  · rw [if_pos hj, if_pos hj, Array.getElem?_toList, h3 j hj]; rfl
  · rw [if_neg hj, if_neg hj]; rfl
theorem zeros_gr {W : World} {g N : Nat} (h : W.heap[g]? = some (.cells (Array.replicate N (.int .i64 0)) 3 (0, 0))) (hN : N ≤ 7) : GR W 3 1 (.slice (some ⟨g, 0, none⟩) N N) (List.replicate N (0 : Int)).length (ints (List.replicate N 0)) :=
  RepAt.gr ⟨_, h, by simp, fun j hj => by rw [Array.getElem?_replicate, if_pos hj]⟩ hN
end
end Go.Proofs.Ytlgoenimjmiapaa
