import Derived.Test.YtlgoenimjmiapaaQ11
/-! done. -/
set_option linter.unusedVariables false
namespace Go.Proofs.Ytlgoenimjmiapaa
open Go.RowKit Go.Maps

/-- What there is to do, as it is handed out: nobody's blocks of N. -/
structure WorkAt (N : Nat → Prop) (w : World) (nv sv : Value) (ns : List Nt) (ss : List (Msg × Value)) : Prop where
  notes : GR w 75 5 nv ns.length (encN ns)
  send : GR w 36 8 sv ss.length (encM ss)
  rows : ∀ p ∈ ss, RRow N w p.2 p.1.log.length 2 (encL p.1.log)
  bn : ∀ k, nv.ownBlock = some k → ¬ N k
  bs : ∀ k, sv.ownBlock = some k → ¬ N k

theorem WorkAt.any {N : Nat → Prop} {w w' : World} {nv sv : Value} {ns : List Nt} {ss : List (Msg × Value)} (h : WorkAt N w nv sv ns ss) (ho : Out Zone.no w w') : WorkAt N w' nv sv ns ss :=
  ⟨GRow.any h.notes ho, GRow.any h.send ho, fun p hp => (h.rows p hp).any ho, h.bn, h.bs⟩

section
variable {w w' : World} {x : Nat} {q : ND} {ns : List Nt} {ss : List (Msg × Value)} {V : NV}

theorem NodeAt.emptied (h : NodeAt w x q ns ss V) {W : World} (ho : Out Zone.no w W) :
    NodeAt ((W.setCell ⟨x, 10, none⟩ (.slice none 0 0)).setCell ⟨x, 11, none⟩ (.slice none 0 0)) x q [] [] { V with nv := .slice none 0 0, sv := .slice none 0 0 } ∧
    Next (V.own x) w (NV.own x { V with nv := .slice none 0 0, sv := .slice none 0 0 }) ((W.setCell ⟨x, 10, none⟩ (.slice none 0 0)).setCell ⟨x, 11, none⟩ (.slice none 0 0)) ∧
    WorkAt (NV.own x { V with nv := .slice none 0 0, sv := .slice none 0 0 }) ((W.setCell ⟨x, 10, none⟩ (.slice none 0 0)).setCell ⟨x, 11, none⟩ (.slice none 0 0)) V.nv V.sv ns ss := by
  have h1 := h.any ho
  have b1 := blk_set h1.blk 7 (.slice none 0 0)
  have b2 := blk_set b1 8 (.slice none 0 0)
  have far : ∀ j k, 1 ≤ j → j < 7 → (V.blks x)[j]? = some (some k) → x ≠ k := fun j k h1 h7 hk e => h.apart 0 j (by omega) h7 k (by rw [← e]; rfl) hk
  have keep : ∀ {e sz v n xs}, GR W e sz v n xs → (∀ k, v.ownBlock = some k → k ≠ x) → GR ((W.setCell ⟨x, 10, none⟩ (.slice none 0 0)).setCell ⟨x, 11, none⟩ (.slice none 0 0)) e sz v n xs := fun hg hk => gr_set (gr_set hg (fun e => hk _ e rfl) _) (fun e => hk _ e rfl) _
  have hsub : ∀ k, NV.own x { V with nv := .slice none 0 0, sv := .slice none 0 0 } k → V.own x k := fun k hk => by
    simp only [NV.own, NV.blks, List.mem_cons, List.not_mem_nil, or_false] at hk ⊢
    rcases hk with e | e | e | e | e | e | e
    · exact Or.inl e
    · exact Or.inr (Or.inl e)
    · exact Or.inr (Or.inr (Or.inl e))
    · exact Or.inr (Or.inr (Or.inr (Or.inl e)))
    · exact Or.inr (Or.inr (Or.inr (Or.inr (Or.inl e))))
    · cases e
    · cases e
  have o2 : Out (Zone.m (V.own x)) w ((W.setCell ⟨x, 10, none⟩ (.slice none 0 0)).setCell ⟨x, 11, none⟩ (.slice none 0 0)) :=
    (ho.mono0.setCell (Or.inl (by show V.own x x; unfold NV.own NV.blks; simp)) _).setCell (Or.inl (by show V.own x x; unfold NV.own NV.blks; simp)) _
  have hl : ∀ k, V.lv.ownBlock = some k → k ≠ x := fun k hk e => far 1 k (by omega) (by omega) (by show some _ = _; rw [hk]) e.symm
  have hh : ∀ k, V.hv.ownBlock = some k → k ≠ x := fun k hk e => far 3 k (by omega) (by omega) (by show some _ = _; rw [hk]) e.symm
  have ha : ∀ k, V.av.ownBlock = some k → k ≠ x := fun k hk e => far 4 k (by omega) (by omega) (by show some _ = _; rw [hk]) e.symm
  have hn : ∀ k, V.nv.ownBlock = some k → k ≠ x := fun k hk e => far 5 k (by omega) (by omega) (by show some _ = _; rw [hk]) e.symm
  have hs : ∀ k, V.sv.ownBlock = some k → k ≠ x := fun k hk e => far 6 k (by omega) (by omega) (by show some _ = _; rw [hk]) e.symm
  have sep2 : (NV.blks x { V with nv := .slice none 0 0, sv := .slice none 0 0 }).Pairwise (fun a b => ∀ k, a = some k → b ≠ some k) := by
    have e : NV.blks x { V with nv := .slice none 0 0, sv := .slice none 0 0 } = ((V.blks x).set 5 none).set 6 none := rfl
    rw [e]
    have p1 := pw_set h.sep (fun k hk => h.lt hk) 5 none (fun k hk => by cases hk)
    refine pw_set p1 (N := w.heap.size) (fun k hk => ?_) 6 none (fun k hk => by cases hk)
    rcases List.mem_or_eq_of_mem_set hk with e | e
    · exact h.lt e
    · cases e
  have notin : ∀ k i, 5 ≤ i → i < 7 → (V.blks x)[i]? = some (some k) → ¬ NV.own x { V with nv := .slice none 0 0, sv := .slice none 0 0 } k := fun k i hi h7 hk ho' => by
    simp only [NV.own, NV.blks, List.mem_cons, List.not_mem_nil, or_false] at ho'
    rcases ho' with e | e | e | e | e | e | e
    · injection e with e; exact h.apart 0 i (by omega) h7 k (by rw [e]; rfl) hk
    · exact h.apart 1 i (by omega) h7 k (by show some _ = _; rw [e]) hk
    · exact h.apart 2 i (by omega) h7 k (by show some _ = _; rw [e]) hk
    · exact h.apart 3 i (by omega) h7 k (by show some _ = _; rw [e]) hk
    · exact h.apart 4 i (by omega) h7 k (by show some _ = _; rw [e]) hk
    · cases e
    · cases e
  refine ⟨⟨b2, keep h1.log hl, ?_, keep h1.has hh, keep h1.acked ha, grow_nil _ _ _ _, grow_nil _ _ _ _, fun p hp => (by cases hp), sep2⟩, ⟨o2, fun k hk => Or.inl (hsub k hk)⟩,
    ⟨keep h1.notes hn, keep h1.send hs, fun p hp => (h.rows p hp).next o2 (fun k hk _ => hk) (fun k hk _ => hsub k hk), fun k hk => notin k 5 (by omega) (by omega) (by show some _ = _; rw [hk]), fun k hk => notin k 6 (by omega) (by omega) (by show some _ = _; rw [hk])⟩⟩
  have hv := votes_keep (w' := (W.setCell ⟨x, 10, none⟩ (.slice none 0 0)).setCell ⟨x, 11, none⟩ (.slice none 0 0)) h1 (fun k hk => by
    have hne : k ≠ x := fun e => far 2 k (by omega) (by omega) (by show some _ = _; rw [hk]) e.symm
    exact (Below.heap_setCell _ ⟨x, 11, none⟩ _ k hne).trans (Below.heap_setCell _ ⟨x, 10, none⟩ _ k hne))
  exact hv

set_option maxRecDepth 100000 in
set_option maxHeartbeats 2000000 in
theorem done_is (h : NodeAt w x q ns ss V) :
    Calls Try.prog 31 #[.pointer (some ⟨x, 0, none⟩)] w fun e w' => e = .returned (.agg #[V.nv, V.sv]) ∧ NodeAt w' x q [] [] { V with nv := .slice none 0 0, sv := .slice none 0 0 } ∧ Next (V.own x) w (NV.own x { V with nv := .slice none 0 0, sv := .slice none 0 0 }) w' ∧
      WorkAt (NV.own x { V with nv := .slice none 0 0, sv := .slice none 0 0 }) w' V.nv V.sv ns ss := by
  obtain ⟨AN, cN, hnv⟩ := GRow.form h.notes
  obtain ⟨AS, cS, hsv⟩ := GRow.form h.send
  have H := Lib.hid h
  have hx : x < w.heap.size := heap_lt h.blk
  have c10 := h.c10
  have c11 := h.c11
  rw [hnv] at c10
  rw [hsv] at c11
  have f10 : w.frozen? ⟨x, 10, none⟩ = false := frozen_all h.blk 10
  have f11 : w.frozen? ⟨x, 11, none⟩ = false := frozen_all h.blk 11
  rw [hnv, hsv]
  obtain ⟨k1, k2, k3⟩ := H.out.emptied (Out.refl Zone.no w)
  rw [hnv, hsv] at k3
  have K1 := Lib.hid k1
  have K2 := Lib.hid k2
  have K3 := Lib.hid k3
  clear k1 k2 k3 h H hnv hsv
  go_enter Try.func31, Try.ntmps31
  go_wp2_with fail
  have o : Out Zone.no ((w.setCell ⟨x, 10, none⟩ (.slice none 0 0)).setCell ⟨x, 11, none⟩ (.slice none 0 0)) _ := ((Out.refl Zone.no _).alloc (.cells #[.slice AN ns.length cN, .slice AS ss.length cS] 32)).alloc (.cells #[.slice AN ns.length cN, .slice AS ss.length cS] 32)
  refine bodyPost_ret (v := .agg #[.slice AN ns.length cN, .slice AS ss.length cS]) (by simp [results, Try.results31, go_sem]) rfl ?_
  exact ⟨rfl, K1.out.any o, K2.out.trans (Next.of_out o), K3.out.any o⟩
end
end Go.Proofs.Ytlgoenimjmiapaa
