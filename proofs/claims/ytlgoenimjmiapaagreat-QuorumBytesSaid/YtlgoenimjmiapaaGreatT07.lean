import Derived.Test.YtlgoenimjmiapaaGreatT06
set_option linter.unusedSimpArgs false
set_option linter.unusedVariables false
set_option linter.unusedSectionVars false
/-! send. -/
set_option linter.unusedVariables false
set_option linter.unusedSectionVars false
namespace Go.Proofs.YtlgoenimjmiapaaGreat
open Go.RowKit Go.Maps

/-- The message's block, filled in. -/
theorem sent_blk {w W : World} {k f t ep a l c : Int} {v : Value} (hW : W = w.alloc (.cells #[.int .i64 k, .int .i64 f, .int .i64 t, .int .i64 ep, .int .i64 a, .int .i64 l, .int .i64 c, v] 49)) (f' ep' : Int) :
    (((W.setCell ⟨w.heap.size, 1, none⟩ (.int .i64 f')).setCell ⟨w.heap.size, 3, none⟩ (.int .i64 ep')).heap[w.heap.size]? = some (.cells #[.int .i64 k, .int .i64 f', .int .i64 t, .int .i64 ep', .int .i64 a, .int .i64 l, .int .i64 c, v] 49 (0, 0)) ∧
      Out Zone.no w ((W.setCell ⟨w.heap.size, 1, none⟩ (.int .i64 f')).setCell ⟨w.heap.size, 3, none⟩ (.int .i64 ep'))) ∧
    (((W.setCell ⟨w.heap.size, 3, none⟩ (.int .i64 ep')).setCell ⟨w.heap.size, 1, none⟩ (.int .i64 f')).heap[w.heap.size]? = some (.cells #[.int .i64 k, .int .i64 f', .int .i64 t, .int .i64 ep', .int .i64 a, .int .i64 l, .int .i64 c, v] 49 (0, 0)) ∧
      Out Zone.no w ((W.setCell ⟨w.heap.size, 3, none⟩ (.int .i64 ep')).setCell ⟨w.heap.size, 1, none⟩ (.int .i64 f'))) := by
  subst hW
  have hb := heap_alloc_new w (.cells #[.int .i64 k, .int .i64 f, .int .i64 t, .int .i64 ep, .int .i64 a, .int .i64 l, .int .i64 c, v] 49)
  have o := (Out.refl Zone.no w).alloc (.cells #[.int .i64 k, .int .i64 f, .int .i64 t, .int .i64 ep, .int .i64 a, .int .i64 l, .int .i64 c, v] 49)
  refine ⟨⟨?_, (o.setCell (Or.inr (Nat.le_refl _)) _).setCell (Or.inr (Nat.le_refl _)) _⟩, ⟨?_, (o.setCell (Or.inr (Nat.le_refl _)) _).setCell (Or.inr (Nat.le_refl _)) _⟩⟩
  · rw [heap_set (heap_set hb 1 _) 3 _]; simp
  · rw [heap_set (heap_set hb 3 _) 1 _]; simp

section
variable [Far] {w w' : World} {x : Nat} {q : ND} {ns : List Nt} {ss : List (Msg × Value)} {V : NV}

set_option maxRecDepth 100000 in
set_option maxHeartbeats 2000000 in
theorem send_is (h : NodeAt w x q ns ss V) (hn : ss.length ≤ 1000000) (m : Msg) (v : Value) (hr : RRow (V.shun x) w v m.log.length 2 (encL m.log)) :
    Calls Tryz.prog 66 #[.pointer (some ⟨x, 0, none⟩), .agg #[.int .i64 m.kind, .int .i64 m.frm, .int .i64 m.to, .int .i64 m.ep, .int .i64 m.at_, .int .i64 m.last, .int .i64 m.commit, v]] w fun e w' => e = .returned (.tuple #[]) ∧
      ∃ sv', NodeAt w' x q ns (ss ++ [({ m with frm := (q.id : Int), ep := q.st.ep }, v)]) { V with sv := sv' } ∧ Next (V.own x) w (NV.own x { V with sv := sv' }) w' := by
  obtain ⟨Am, cm, rfl, _, _⟩ := hr.form
  have o1 := (Out.refl Zone.no w).alloc (.cells #[.int .i64 m.kind, .int .i64 m.frm, .int .i64 m.to, .int .i64 m.ep, .int .i64 m.at_, .int .i64 m.last, .int .i64 m.commit, .slice Am m.log.length cm] 49)
  have hpb := heap_alloc_new w (.cells #[.int .i64 m.kind, .int .i64 m.frm, .int .i64 m.to, .int .i64 m.ep, .int .i64 m.at_, .int .i64 m.last, .int .i64 m.commit, .slice Am m.log.length cm] 49)
  have h1 := h.any o1
  have hxl : x < w.heap.size := heap_lt h.blk
  obtain ⟨AN, cN, hsv⟩ := GRow.form h.send
  have hne : x ≠ w.heap.size := Nat.ne_of_lt hxl
  have hne' : w.heap.size ≠ x := Ne.symm hne
  have H := Lib.hid h
  have HR := Lib.hid hr
  have HSV := Lib.hid hsv
  have SB := Lib.hid (fun W (hW : W = w.alloc (.cells #[.int .i64 m.kind, .int .i64 m.frm, .int .i64 m.to, .int .i64 m.ep, .int .i64 m.at_, .int .i64 m.last, .int .i64 m.commit, .slice Am m.log.length cm] 49)) => sent_blk hW (q.id : Int) q.st.ep)
  clear h hr hsv hxl o1
  go_enter Tryz.func66, Tryz.ntmps66
  go_wp2_with fail
  obtain ⟨W, hW⟩ : ∃ W, w.alloc (.cells #[.int .i64 m.kind, .int .i64 m.frm, .int .i64 m.to, .int .i64 m.ep, .int .i64 m.at_, .int .i64 m.last, .int .i64 m.commit, .slice Am m.log.length cm] 49) = W := ⟨_, rfl⟩
  rw [hW] at hpb h1 ⊢
  have SB2 := Lib.hid (SB.out W hW.symm)
  have d3 := h1.c3
  have d0 := h1.blk.c0
  have g1 := cells_all hpb 1
  have g3 := cells_all hpb 3
  have fg1 := frozen_all hpb 1
  have fg3 := frozen_all hpb 3
  have e3 : W.drew.cell? ⟨x, 3, none⟩ = some (.int .i64 (q.id : Int)) := d3
  have e0 : W.drew.cell? ⟨x, 0, none⟩ = some (.int .i64 q.st.ep) := d0
  have k1 : W.drew.cell? ⟨w.heap.size, 1, none⟩ = some (.int .i64 m.frm) := g1
  have k3 : W.drew.cell? ⟨w.heap.size, 3, none⟩ = some (.int .i64 m.ep) := g3
  have j1 : W.drew.frozen? ⟨w.heap.size, 1, none⟩ = false := fg1
  have j3 : W.drew.frozen? ⟨w.heap.size, 3, none⟩ = false := fg3
  clear hpb h1 hW SB
  go_region
  go_wp2_with fail
  obtain ⟨U, hU⟩ : ∃ U, ((W.setCell ⟨w.heap.size, 1, none⟩ (.int .i64 (q.id : Int))).setCell ⟨w.heap.size, 3, none⟩ (.int .i64 q.st.ep)).drew = U := ⟨_, rfl⟩
  have hub : U.heap[w.heap.size]? = some (.cells #[.int .i64 m.kind, .int .i64 (q.id : Int), .int .i64 m.to, .int .i64 q.st.ep, .int .i64 m.at_, .int .i64 m.last, .int .i64 m.commit, .slice Am m.log.length cm] 49 (0, 0)) := by rw [← hU]; exact SB2.out.1.1
  have huo : Out Zone.no w U := by rw [← hU]; exact SB2.out.1.2.drew
  rw [hU]
  have HN := Lib.hid (H.out.any huo)
  have HUO := Lib.hid huo
  clear SB2 d3 d0 g1 g3 fg1 fg3 e3 e0 k1 k3 j1 j3 hU huo
  have hsv' : V.sv = .slice AN ss.length cN := HSV.out
  obtain ⟨g, hg⟩ : ∃ g, w.heap.size = g := ⟨_, rfl⟩
  rw [hg] at hub hne hne' ⊢
  have HRW : Hid (RRow (V.shun x) U (.slice Am m.log.length cm) m.log.length 2 (encL m.log)) := HR.out.any HUO.out
  have C10 : U.cell? ⟨x, 11, none⟩ = some (.slice AN ss.length cN) := by rw [← hsv']; exact HN.out.c11
  have F10 : U.frozen? ⟨x, 11, none⟩ = false := frozen_all HN.out.blk 11
  have HOW : Hid (Out Zone.no U (U.drew.alloc (.cells #[.int .i64 m.kind, .int .i64 (q.id : Int), .int .i64 m.to, .int .i64 q.st.ep, .int .i64 m.at_, .int .i64 m.last, .int .i64 m.commit, .slice Am m.log.length cm] 49))) := ((Out.refl Zone.no U).drew).alloc _
  have HGA : Hid (GR (U.drew.alloc (.cells #[.int .i64 m.kind, .int .i64 (q.id : Int), .int .i64 m.to, .int .i64 q.st.ep, .int .i64 m.at_, .int .i64 m.last, .int .i64 m.commit, .slice Am m.log.length cm] 49)) 49 8 (.slice AN ss.length cN) ss.length (encM ss)) := by
    show GR _ _ _ _ _ _
    rw [← hsv']
    exact GRow.any HN.out.send HOW.out
  have HNW : Hid (∀ (j : Nat) (u : Value), [Value.int .i64 m.kind, Value.int .i64 (q.id : Int), Value.int .i64 m.to, Value.int .i64 q.st.ep, Value.int .i64 m.at_, Value.int .i64 m.last, Value.int .i64 m.commit, Value.slice Am m.log.length cm][j]? = some u → (U.drew.alloc (.cells #[.int .i64 m.kind, .int .i64 (q.id : Int), .int .i64 m.to, .int .i64 q.st.ep, .int .i64 m.at_, .int .i64 m.last, .int .i64 m.commit, .slice Am m.log.length cm] 49)).cell? ⟨U.heap.size, j, none⟩ = some u) := fun j u hu => by
    have h := heap_alloc_new U.drew (.cells #[.int .i64 m.kind, .int .i64 (q.id : Int), .int .i64 m.to, .int .i64 q.st.ep, .int .i64 m.at_, .int .i64 m.last, .int .i64 m.commit, .slice Am m.log.length cm] 49)
    rw [cell_of_row _ U.heap.size j _ _ _ h]
    simpa using hu
  have D10 : U.drew.cell? ⟨x, 11, none⟩ = some (.slice AN ss.length cN) := C10
  have D10a : (U.drew.alloc (.cells #[.int .i64 m.kind, .int .i64 (q.id : Int), .int .i64 m.to, .int .i64 q.st.ep, .int .i64 m.at_, .int .i64 m.last, .int .i64 m.commit, .slice Am m.log.length cm] 49)).cell? ⟨x, 11, none⟩ = some (.slice AN ss.length cN) := HOW.out.cell C10 id
  have D10b : (U.alloc (.cells #[.int .i64 m.kind, .int .i64 (q.id : Int), .int .i64 m.to, .int .i64 q.st.ep, .int .i64 m.at_, .int .i64 m.last, .int .i64 m.commit, .slice Am m.log.length cm] 49)).cell? ⟨x, 11, none⟩ = some (.slice AN ss.length cN) := HOW.out.cell C10 id
  have D10c : (U.alloc (.cells #[.int .i64 m.kind, .int .i64 (q.id : Int), .int .i64 m.to, .int .i64 q.st.ep, .int .i64 m.at_, .int .i64 m.last, .int .i64 m.commit, .slice Am m.log.length cm] 49)).drew.cell? ⟨x, 11, none⟩ = some (.slice AN ss.length cN) := HOW.out.cell C10 id
  have E0 : U.drew.cell? ⟨g, 0, none⟩ = some (.int .i64 m.kind) := cells_all hub 0
  have E1 : U.drew.cell? ⟨g, 1, none⟩ = some (.int .i64 (q.id : Int)) := cells_all hub 1
  have E2 : U.drew.cell? ⟨g, 2, none⟩ = some (.int .i64 m.to) := cells_all hub 2
  have E3 : U.drew.cell? ⟨g, 3, none⟩ = some (.int .i64 q.st.ep) := cells_all hub 3
  have E4 : U.drew.cell? ⟨g, 4, none⟩ = some (.int .i64 m.at_) := cells_all hub 4
  have E5 : U.drew.cell? ⟨g, 5, none⟩ = some (.int .i64 m.last) := cells_all hub 5
  have E6 : U.drew.cell? ⟨g, 6, none⟩ = some (.int .i64 m.commit) := cells_all hub 6
  have E7 : U.drew.cell? ⟨g, 7, none⟩ = some (.slice Am m.log.length cm) := cells_all hub 7
  have hlm : ss.length + 1 ≤ maxLen := le_maxLen (by omega)
  have hlb : (ss.length + 1) * 80 ≤ 140737488355328 := by omega
  have PUSH : Hid (∀ v' w', GR w' 49 8 v' (ss.length + 1) (encM ss ++ [.int .i64 m.kind, .int .i64 (q.id : Int), .int .i64 m.to, .int .i64 q.st.ep, .int .i64 m.at_, .int .i64 m.last, .int .i64 m.commit, .slice Am m.log.length cm]) → (U.drew.alloc (.cells #[.int .i64 m.kind, .int .i64 (q.id : Int), .int .i64 m.to, .int .i64 q.st.ep, .int .i64 m.at_, .int .i64 m.last, .int .i64 m.commit, .slice Am m.log.length cm] 49)).grownBy w' (Value.slice AN ss.length cN).ownBlock →
      (v'.ownBlock = (Value.slice AN ss.length cN).ownBlock ∨ v'.ownBlock = some (U.drew.alloc (.cells #[.int .i64 m.kind, .int .i64 (q.id : Int), .int .i64 m.to, .int .i64 q.st.ep, .int .i64 m.at_, .int .i64 m.last, .int .i64 m.commit, .slice Am m.log.length cm] 49)).heap.size) →
      (Exists fun sv' : Value => NodeAt (w'.setCell ⟨x, 11, none⟩ v') x q ns (ss ++ [({ m with frm := (q.id : Int), ep := q.st.ep }, .slice Am m.log.length cm)]) { V with sv := sv' } ∧ Next (V.own x) w (NV.own x { V with sv := sv' }) (w'.setCell ⟨x, 11, none⟩ v')) ∧ w'.cell? ⟨x, 11, none⟩ = some (.slice AN ss.length cN) ∧ w'.frozen? ⟨x, 11, none⟩ = false) := fun v' w' h1 h2 h3 => by
    rw [← HSV.out] at h2 h3
    obtain ⟨k1, k2, k3, k4⟩ := HN.out.pushSend HOW.out ({ m with frm := (q.id : Int), ep := q.st.ep }, .slice Am m.log.length cm) HRW.out h1 h2 h3
    exact ⟨⟨_, k1, (Next.of_out HUO.out).trans k2⟩, by rw [← HSV.out]; exact k3, k4⟩
  clear hsv' hub hg C10 HN H HR
  go_region_law (refine step_gappend rfl _ _ 84 rfl elem84 ss.length (encM ss) (by exact HGA.out) U.heap.size 1 [.int .i64 m.kind, .int .i64 (q.id : Int), .int .i64 m.to, .int .i64 q.st.ep, .int .i64 m.at_, .int .i64 m.last, .int .i64 m.commit, .slice Am m.log.length cm] (by rfl) rfl (by exact HNW.out) (by simp [Value.oneCell']) hlm hlb ?_; intro v' w' hg1 hgr hat; obtain ⟨A2, x2, rfl⟩ := GRow.form hg1; obtain ⟨hfin, hc, hf⟩ := PUSH.out _ _ hg1 hgr hat; have FIN := Lib.hid hfin; clear hg1 hgr hat hfin)
  all_goals
    go_wp2_with fail
    go_end0
    obtain ⟨V', f1, f2⟩ := FIN.out
    first
    | exact ⟨rfl, V', f1, f2⟩
    | exact ⟨rfl, V', f1.any ((Out.refl _ _).drew), f2.trans (Next.of_out ((Out.refl _ _).drew))⟩
end
end Go.Proofs.YtlgoenimjmiapaaGreat

/-! done. -/
set_option linter.unusedVariables false
set_option linter.unusedSectionVars false
namespace Go.Proofs.YtlgoenimjmiapaaGreat
open Go.RowKit Go.Maps

/-- What there is to do, as it is handed out: nobody's blocks of N. -/
structure WorkAt (N : Nat → Prop) (w : World) (nv sv : Value) (ns : List Nt) (ss : List (Msg × Value)) : Prop where
  notes : GR w 36 5 nv ns.length (encN ns)
  send : GR w 49 8 sv ss.length (encM ss)
  rows : ∀ p ∈ ss, RRow N w p.2 p.1.log.length 2 (encL p.1.log)
  bn : ∀ k, nv.ownBlock = some k → ¬ N k
  bs : ∀ k, sv.ownBlock = some k → ¬ N k

theorem WorkAt.any {N : Nat → Prop} {w w' : World} {nv sv : Value} {ns : List Nt} {ss : List (Msg × Value)} (h : WorkAt N w nv sv ns ss) (ho : Out Zone.no w w') : WorkAt N w' nv sv ns ss :=
  ⟨GRow.any h.notes ho, GRow.any h.send ho, fun p hp => (h.rows p hp).any ho, h.bn, h.bs⟩

section
variable [Far] {w w' : World} {x : Nat} {q : ND} {ns : List Nt} {ss : List (Msg × Value)} {V : NV}

theorem NodeAt.emptied (h : NodeAt w x q ns ss V) {W : World} (ho : Out Zone.no w W) :
    NodeAt ((W.setCell ⟨x, 10, none⟩ (.slice none 0 0)).setCell ⟨x, 11, none⟩ (.slice none 0 0)) x q [] [] { V with nv := .slice none 0 0, sv := .slice none 0 0 } ∧
    Next (V.own x) w (NV.own x { V with nv := .slice none 0 0, sv := .slice none 0 0 }) ((W.setCell ⟨x, 10, none⟩ (.slice none 0 0)).setCell ⟨x, 11, none⟩ (.slice none 0 0)) ∧
    WorkAt (NV.shun x { V with nv := .slice none 0 0, sv := .slice none 0 0 }) ((W.setCell ⟨x, 10, none⟩ (.slice none 0 0)).setCell ⟨x, 11, none⟩ (.slice none 0 0)) V.nv V.sv ns ss := by
  have h1 := h.any ho
  have b1 := blk_set h1.blk 7 (.slice none 0 0)
  have b2 := blk_set b1 8 (.slice none 0 0)
  have far : ∀ j k, 1 ≤ j → j < 7 → (V.blks x)[j]? = some (some k) → x ≠ k := fun j k h1 h7 hk e => h.apart 0 j (by omega) h7 k (by rw [← e]; rfl) hk
  have keep : ∀ {e sz v n xs}, GR W e sz v n xs → (∀ k, v.ownBlock = some k → k ≠ x) → GR ((W.setCell ⟨x, 10, none⟩ (.slice none 0 0)).setCell ⟨x, 11, none⟩ (.slice none 0 0)) e sz v n xs := fun hg hk => gr_set (gr_set hg (fun e => hk _ e rfl) _) (fun e => hk _ e rfl) _
  have hsub : ∀ k, NV.own x { V with nv := .slice none 0 0, sv := .slice none 0 0 } k → V.own x k := fun k hk => by
    simp only [NV.own, NV.blks, List.mem_cons, List.not_mem_nil, or_false] at hk ⊢
    rcases hk with e | e | e | e | e | e | e
    · exact Or.inl e
    · exact Or.inr (Or.inl e)
    · exact Or.inr (Or.inr (Or.inl e))
    · exact Or.inr (Or.inr (Or.inr (Or.inl e)))
    · exact Or.inr (Or.inr (Or.inr (Or.inr (Or.inl e))))
    · cases e
    · cases e
  have o2 : Out (Zone.m (V.own x)) w ((W.setCell ⟨x, 10, none⟩ (.slice none 0 0)).setCell ⟨x, 11, none⟩ (.slice none 0 0)) :=
    (ho.mono0.setCell (Or.inl (by show V.own x x; unfold NV.own NV.blks; simp)) _).setCell (Or.inl (by show V.own x x; unfold NV.own NV.blks; simp)) _
  have hl : ∀ k, V.lv.ownBlock = some k → k ≠ x := fun k hk e => far 1 k (by omega) (by omega) (by show some _ = _; rw [hk]) e.symm
  have hh : ∀ k, V.hv.ownBlock = some k → k ≠ x := fun k hk e => far 3 k (by omega) (by omega) (by show some _ = _; rw [hk]) e.symm
  have ha : ∀ k, V.av.ownBlock = some k → k ≠ x := fun k hk e => far 4 k (by omega) (by omega) (by show some _ = _; rw [hk]) e.symm
  have hn : ∀ k, V.nv.ownBlock = some k → k ≠ x := fun k hk e => far 5 k (by omega) (by omega) (by show some _ = _; rw [hk]) e.symm
  have hs : ∀ k, V.sv.ownBlock = some k → k ≠ x := fun k hk e => far 6 k (by omega) (by omega) (by show some _ = _; rw [hk]) e.symm
  have sep2 : (NV.blks x { V with nv := .slice none 0 0, sv := .slice none 0 0 }).Pairwise (fun a b => ∀ k, a = some k → b ≠ some k) := by
    have e : NV.blks x { V with nv := .slice none 0 0, sv := .slice none 0 0 } = ((V.blks x).set 5 none).set 6 none := rfl
    rw [e]
    have p1 := pw_set h.sep (fun k hk => h.lt hk) 5 none (fun k hk => by cases hk)
    refine pw_set p1 (N := w.heap.size) (fun k hk => ?_) 6 none (fun k hk => by cases hk)
    rcases List.mem_or_eq_of_mem_set hk with e | e
    · exact h.lt e
    · cases e
  have notin : ∀ k i, 5 ≤ i → i < 7 → (V.blks x)[i]? = some (some k) → ¬ NV.own x { V with nv := .slice none 0 0, sv := .slice none 0 0 } k := fun k i hi h7 hk ho' => by
    simp only [NV.own, NV.blks, List.mem_cons, List.not_mem_nil, or_false] at ho'
    rcases ho' with e | e | e | e | e | e | e
    · injection e with e; exact h.apart 0 i (by omega) h7 k (by rw [e]; rfl) hk
    · exact h.apart 1 i (by omega) h7 k (by show some _ = _; rw [e]) hk
    · exact h.apart 2 i (by omega) h7 k (by show some _ = _; rw [e]) hk
    · exact h.apart 3 i (by omega) h7 k (by show some _ = _; rw [e]) hk
    · exact h.apart 4 i (by omega) h7 k (by show some _ = _; rw [e]) hk
    · cases e
    · cases e
  have nx : Next (V.own x) w (NV.own x { V with nv := .slice none 0 0, sv := .slice none 0 0 }) ((W.setCell ⟨x, 10, none⟩ (.slice none 0 0)).setCell ⟨x, 11, none⟩ (.slice none 0 0)) := ⟨o2, fun k hk => Or.inl (hsub k hk)⟩
  have e5 : ∀ k, V.nv.ownBlock = some k → (V.blks x)[5]? = some (some k) := fun k hk => by show some _ = _; rw [hk]
  have e6 : ∀ k, V.sv.ownBlock = some k → (V.blks x)[6]? = some (some k) := fun k hk => by show some _ = _; rw [hk]
  refine ⟨⟨b2, keep h1.log hl, ?_, keep h1.has hh, keep h1.acked ha, grow_nil _ _ _ _, grow_nil _ _ _ _, fun p hp => (by cases hp), sep2, h.far.next nx⟩, nx,
    ⟨keep h1.notes hn, keep h1.send hs, fun p hp => (h.rows p hp).shun nx, fun k hk e => e.elim (notin k 5 (by omega) (by omega) (e5 k hk)) (fun ef => (h.far k ef).2 (List.mem_of_getElem? (e5 k hk))), fun k hk e => e.elim (notin k 6 (by omega) (by omega) (e6 k hk)) (fun ef => (h.far k ef).2 (List.mem_of_getElem? (e6 k hk)))⟩⟩
  have hv := votes_keep (w' := (W.setCell ⟨x, 10, none⟩ (.slice none 0 0)).setCell ⟨x, 11, none⟩ (.slice none 0 0)) h1 (fun k hk => by
    have hne : k ≠ x := fun e => far 2 k (by omega) (by omega) (by show some _ = _; rw [hk]) e.symm
    exact (Below.heap_setCell _ ⟨x, 11, none⟩ _ k hne).trans (Below.heap_setCell _ ⟨x, 10, none⟩ _ k hne))
  exact hv

set_option maxRecDepth 100000 in
set_option maxHeartbeats 2000000 in
theorem done_is (h : NodeAt w x q ns ss V) :
    Calls Tryz.prog 65 #[.pointer (some ⟨x, 0, none⟩)] w fun e w' => e = .returned (.agg #[V.nv, V.sv]) ∧ NodeAt w' x q [] [] { V with nv := .slice none 0 0, sv := .slice none 0 0 } ∧ Next (V.own x) w (NV.own x { V with nv := .slice none 0 0, sv := .slice none 0 0 }) w' ∧
      WorkAt (NV.shun x { V with nv := .slice none 0 0, sv := .slice none 0 0 }) w' V.nv V.sv ns ss := by
  obtain ⟨AN, cN, hnv⟩ := GRow.form h.notes
  obtain ⟨AS, cS, hsv⟩ := GRow.form h.send
  have H := Lib.hid h
  have hx : x < w.heap.size := heap_lt h.blk
  have c10 := h.c10
  have c11 := h.c11
  rw [hnv] at c10
  rw [hsv] at c11
  have f10 : w.frozen? ⟨x, 10, none⟩ = false := frozen_all h.blk 10
  have f11 : w.frozen? ⟨x, 11, none⟩ = false := frozen_all h.blk 11
  rw [hnv, hsv]
  obtain ⟨k1, k2, k3⟩ := H.out.emptied (Out.refl Zone.no w)
  rw [hnv, hsv] at k3
  have K1 := Lib.hid k1
  have K2 := Lib.hid k2
  have K3 := Lib.hid k3
  clear k1 k2 k3 h H hnv hsv
  go_enter Tryz.func65, Tryz.ntmps65
  go_wp2_with fail
  have o : Out Zone.no ((w.setCell ⟨x, 10, none⟩ (.slice none 0 0)).setCell ⟨x, 11, none⟩ (.slice none 0 0)) _ := ((Out.refl Zone.no _).alloc (.cells #[.slice AN ns.length cN, .slice AS ss.length cS] 86)).alloc (.cells #[.slice AN ns.length cN, .slice AS ss.length cS] 86)
  refine bodyPost_ret (v := .agg #[.slice AN ns.length cN, .slice AS ss.length cS]) (by simp [results, Tryz.results65, go_sem]) rfl ?_
  exact ⟨rfl, K1.out.any o, K2.out.trans (Next.of_out o), K3.out.any o⟩
end
end Go.Proofs.YtlgoenimjmiapaaGreat
