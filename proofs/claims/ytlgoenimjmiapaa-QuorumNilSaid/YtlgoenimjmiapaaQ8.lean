import Derived.Test.YtlgoenimjmiapaaQ7
/-! A node behind a change of one of its parts; noted. -/
set_option linter.unusedVariables false
namespace Go.Proofs.Ytlgoenimjmiapaa
open Go.RowKit Go.Maps

def Apt (a b : Option Nat) : Prop := ∀ k, a = some k → b ≠ some k
theorem pw_set {l : List (Option Nat)} (h : l.Pairwise (fun a b => ∀ k, a = some k → b ≠ some k)) {N : Nat} (hlt : ∀ k, some k ∈ l → k < N) (i : Nat) (o : Option Nat) (ho : ∀ k, o = some k → l[i]? = some (some k) ∨ N ≤ k) :
    (l.set i o).Pairwise (fun a b => ∀ k, a = some k → b ≠ some k) := by
  rw [List.pairwise_iff_getElem] at h ⊢
  intro a b ha hb hab k hk hk'
  rw [List.length_set] at ha hb
  rw [List.getElem_set] at hk hk'
  by_cases h1 : i = a
  · rw [if_pos h1] at hk
    rw [if_neg (by omega)] at hk'
    rcases ho k hk with e | e
    · subst h1
      rw [List.getElem?_eq_getElem ha] at e
      injection e with e
      exact h _ b ha hb hab k e hk'
    · have := hlt k (by rw [← hk']; exact List.getElem_mem hb)
      omega
  · rw [if_neg h1] at hk
    by_cases h2 : i = b
    · rw [if_pos h2] at hk'
      rcases ho k hk' with e | e
      · subst h2
        rw [List.getElem?_eq_getElem hb] at e
        injection e with e
        exact h a _ ha hb hab k hk e
      · have := hlt k (by rw [← hk]; exact List.getElem_mem ha)
        omega
    · rw [if_neg h2] at hk'
      exact h a b ha hb hab k hk hk'

theorem RRow.next {N N' S : Nat → Prop} {w w' : World} {v : Value} {n sz : Nat} {xs : List Value} (h : RRow N w v n sz xs) (ho : Out (Zone.m S) w w') (hS : ∀ k, S k → k < w.heap.size → N k) (hN : ∀ k, N' k → k < w.heap.size → N k) : RRow N' w' v n sz xs := by
  obtain ⟨h0, A, c, hv, h1, h2, hc⟩ := h
  refine ⟨h0, A, c, hv, h1, h2, fun j u hu => ?_⟩
  obtain ⟨b, o, hA, hb, hx⟩ := hc j u hu
  have hlt : b < w.heap.size := by
    rcases Nat.lt_or_ge b w.heap.size with hlt | hge
    · exact hlt
    · simp [World.cell?, Array.getElem?_eq_none hge] at hx
  exact ⟨b, o, hA, fun e => hb (hN b e hlt), ho.cell hx (fun e => hb (hS b e hlt))⟩

section
variable {w w' : World} {x : Nat} {q : ND} {ns : List Nt} {ss : List (Msg × Value)} {V : NV}
theorem NodeAt.lt (h : NodeAt w x q ns ss V) {k : Nat} (hk : some k ∈ V.blks x) : k < w.heap.size := by
  simp only [NV.blks, List.mem_cons, List.not_mem_nil, or_false] at hk
  rcases hk with e | e | e | e | e | e | e
  · injection e with e; subst e; exact heap_lt h.blk
  · exact (GRow.mem h.log e.symm).2.1
  · have hv := h.votes
    cases hg : q.granted with
    | none => rw [hg] at hv; rw [show V.gv = _ from hv] at e; cases e
    | some gs =>
      rw [hg] at hv
      obtain ⟨b, h1, h2⟩ := hv
      rw [h1] at e
      cases e
      exact h2.lt
  · exact (GRow.mem h.has e.symm).2.1
  · exact (GRow.mem h.acked e.symm).2.1
  · exact (GRow.mem h.notes e.symm).2.1
  · exact (GRow.mem h.send e.symm).2.1
theorem NodeAt.apart (h : NodeAt w x q ns ss V) (i j : Nat) (hij : i < j) (hj : j < 7) (k : Nat) (h1 : (V.blks x)[i]? = some (some k)) : (V.blks x)[j]? ≠ some (some k) := by
  have hp := h.sep
  rw [List.pairwise_iff_getElem] at hp
  have hl : (V.blks x).length = 7 := rfl
  intro h2
  rw [List.getElem?_eq_getElem (by omega)] at h1 h2
  injection h1 with h1
  injection h2 with h2
  exact hp i j (by omega) (by omega) hij k h1 h2

/-- The state's part has turned. -/
theorem NodeAt.noted (h : NodeAt w x q ns ss V) {st : St} {lv' : Value} (hb : StAt w' x 54 st.ep st.voted lv' [.int .i64 (q.id : Int), .int .i64 (q.n : Int), .int .i64 q.role, .int .i64 (q.commit : Int), V.gv, V.hv, V.av, V.nv, V.sv])
    (hg : GR w' 38 2 lv' st.log.length (encL st.log)) (ho : Out (stZ x V.lv) w w') (hl : ∀ k, lv'.ownBlock = some k → V.lv.ownBlock = some k ∨ w.heap.size ≤ k) :
    NodeAt w' x { q with st := st } ns ss { V with lv := lv' } ∧ Next (V.own x) w (NV.own x { V with lv := lv' }) w' := by
  have far : ∀ j k, 2 ≤ j → j < 7 → (V.blks x)[j]? = some (some k) → w'.heap[k]? = w.heap[k]? := fun j k h2 h7 hk => by
    refine ho.block k (h.lt (List.mem_of_getElem? hk)) (fun e => ?_)
    rcases e with e | e
    · exact h.apart 0 j (by omega) h7 k (by rw [e]; rfl) hk
    · exact h.apart 1 j (by omega) h7 k (by show some _ = _; rw [e]) hk
  have hset : NV.blks x { V with lv := lv' } = (V.blks x).set 1 lv'.ownBlock := rfl
  have hsub : ∀ k, NV.own x { V with lv := lv' } k → V.own x k ∨ w.heap.size ≤ k := fun k hk => by
    unfold NV.own at hk
    rw [hset] at hk
    rcases List.mem_or_eq_of_mem_set hk with e | e
    · exact Or.inl e
    · rcases hl k e.symm with e | e
      · exact Or.inl (by unfold NV.own NV.blks; rw [← e]; simp)
      · exact Or.inr e
  have hown : ∀ k, (stZ x V.lv).S k → V.own x k := fun k hk => by
    rcases hk with e | e
    · unfold NV.own NV.blks; rw [e]; simp
    · unfold NV.own NV.blks; rw [← e]; simp
  refine ⟨⟨hb, hg, ?_, ?_, ?_, ?_, ?_, ?_, ?_⟩, ⟨⟨ho.os, ho.tape, ho.output, ho.size, fun k hk hn => ho.block k hk (fun e => hn (hown k e))⟩, hsub⟩⟩
  · have hv := h.votes
    cases hgr : q.granted with
    | none => rw [hgr] at hv; exact hv
    | some gs =>
      rw [hgr] at hv
      obtain ⟨b, h1, h2⟩ := hv
      exact ⟨b, h1, h2.same (far 2 b (by omega) (by omega) (by show some (mapBlock V.gv) = _; rw [h1]; rfl))⟩
  · exact GRow.keep h.has (fun k hk => far 3 k (by omega) (by omega) (by show some _ = _; rw [hk])) (fun _ _ => trivial)
  · exact GRow.keep h.acked (fun k hk => far 4 k (by omega) (by omega) (by show some _ = _; rw [hk])) (fun _ _ => trivial)
  · exact GRow.keep h.notes (fun k hk => far 5 k (by omega) (by omega) (by show some _ = _; rw [hk])) (fun _ _ => trivial)
  · exact GRow.keep h.send (fun k hk => far 6 k (by omega) (by omega) (by show some _ = _; rw [hk])) (fun _ _ => trivial)
  · intro p hp
    refine (h.rows p hp).next ho (fun k hk _ => hown k hk) (fun k hk hlt => ?_)
    rcases hsub k hk with e | e
    · exact e
    · omega
  · rw [hset]
    exact pw_set h.sep (fun k hk => h.lt hk) 1 _ (fun k hk => by
      rcases hl k hk with e | e
      · exact Or.inl (by show some _ = _; rw [e])
      · exact Or.inr e)
end
end Go.Proofs.Ytlgoenimjmiapaa
