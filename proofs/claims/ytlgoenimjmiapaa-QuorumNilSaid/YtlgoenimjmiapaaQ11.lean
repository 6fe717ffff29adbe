import Derived.Test.YtlgoenimjmiapaaQ10
/-! send. -/
set_option linter.unusedVariables false
namespace Go.Proofs.Ytlgoenimjmiapaa
open Go.RowKit Go.Maps

/-- The message's block, filled in. -/
theorem sent_blk {w W : World} {k f t ep a l c : Int} {v : Value} (hW : W = w.alloc (.cells #[.int .i64 k, .int .i64 f, .int .i64 t, .int .i64 ep, .int .i64 a, .int .i64 l, .int .i64 c, v] 36)) (f' ep' : Int) :
    (((W.setCell ⟨w.heap.size, 1, none⟩ (.int .i64 f')).setCell ⟨w.heap.size, 3, none⟩ (.int .i64 ep')).heap[w.heap.size]? = some (.cells #[.int .i64 k, .int .i64 f', .int .i64 t, .int .i64 ep', .int .i64 a, .int .i64 l, .int .i64 c, v] 36 (0, 0)) ∧
      Out Zone.no w ((W.setCell ⟨w.heap.size, 1, none⟩ (.int .i64 f')).setCell ⟨w.heap.size, 3, none⟩ (.int .i64 ep'))) ∧
    (((W.setCell ⟨w.heap.size, 3, none⟩ (.int .i64 ep')).setCell ⟨w.heap.size, 1, none⟩ (.int .i64 f')).heap[w.heap.size]? = some (.cells #[.int .i64 k, .int .i64 f', .int .i64 t, .int .i64 ep', .int .i64 a, .int .i64 l, .int .i64 c, v] 36 (0, 0)) ∧
      Out Zone.no w ((W.setCell ⟨w.heap.size, 3, none⟩ (.int .i64 ep')).setCell ⟨w.heap.size, 1, none⟩ (.int .i64 f'))) := by
  subst hW
  have hb := heap_alloc_new w (.cells #[.int .i64 k, .int .i64 f, .int .i64 t, .int .i64 ep, .int .i64 a, .int .i64 l, .int .i64 c, v] 36)
  have o := (Out.refl Zone.no w).alloc (.cells #[.int .i64 k, .int .i64 f, .int .i64 t, .int .i64 ep, .int .i64 a, .int .i64 l, .int .i64 c, v] 36)
  refine ⟨⟨?_, (o.setCell (Or.inr (Nat.le_refl _)) _).setCell (Or.inr (Nat.le_refl _)) _⟩, ⟨?_, (o.setCell (Or.inr (Nat.le_refl _)) _).setCell (Or.inr (Nat.le_refl _)) _⟩⟩
  · rw [heap_set (heap_set hb 1 _) 3 _]; simp
  · rw [heap_set (heap_set hb 3 _) 1 _]; simp

section
variable {w w' : World} {x : Nat} {q : ND} {ns : List Nt} {ss : List (Msg × Value)} {V : NV}

set_option maxRecDepth 100000 in
set_option maxHeartbeats 2000000 in
theorem send_is (h : NodeAt w x q ns ss V) (hn : ss.length ≤ 1000000) (m : Msg) (v : Value) (hr : RRow (V.own x) w v m.log.length 2 (encL m.log)) :
    Calls Try.prog 30 #[.pointer (some ⟨x, 0, none⟩), .agg #[.int .i64 m.kind, .int .i64 m.frm, .int .i64 m.to, .int .i64 m.ep, .int .i64 m.at_, .int .i64 m.last, .int .i64 m.commit, v]] w fun e w' => e = .returned (.tuple #[]) ∧
      ∃ sv', NodeAt w' x q ns (ss ++ [({ m with frm := (q.id : Int), ep := q.st.ep }, v)]) { V with sv := sv' } ∧ Next (V.own x) w (NV.own x { V with sv := sv' }) w' := by
  obtain ⟨Am, cm, rfl, _, _⟩ := hr.form
  have o1 := (Out.refl Zone.no w).alloc (.cells #[.int .i64 m.kind, .int .i64 m.frm, .int .i64 m.to, .int .i64 m.ep, .int .i64 m.at_, .int .i64 m.last, .int .i64 m.commit, .slice Am m.log.length cm] 36)
  have hpb := heap_alloc_new w (.cells #[.int .i64 m.kind, .int .i64 m.frm, .int .i64 m.to, .int .i64 m.ep, .int .i64 m.at_, .int .i64 m.last, .int .i64 m.commit, .slice Am m.log.length cm] 36)
  have h1 := h.any o1
  have hxl : x < w.heap.size := heap_lt h.blk
  obtain ⟨AN, cN, hsv⟩ := GRow.form h.send
  have hne : x ≠ w.heap.size := Nat.ne_of_lt hxl
  have hne' : w.heap.size ≠ x := Ne.symm hne
  have H := Lib.hid h
  have HR := Lib.hid hr
  have HSV := Lib.hid hsv
  have SB := Lib.hid (fun W (hW : W = w.alloc (.cells #[.int .i64 m.kind, .int .i64 m.frm, .int .i64 m.to, .int .i64 m.ep, .int .i64 m.at_, .int .i64 m.last, .int .i64 m.commit, .slice Am m.log.length cm] 36)) => sent_blk hW (q.id : Int) q.st.ep)
  clear h hr hsv hxl o1
  go_enter Try.func30, Try.ntmps30
  go_wp2_with fail
  obtain ⟨W, hW⟩ : ∃ W, w.alloc (.cells #[.int .i64 m.kind, .int .i64 m.frm, .int .i64 m.to, .int .i64 m.ep, .int .i64 m.at_, .int .i64 m.last, .int .i64 m.commit, .slice Am m.log.length cm] 36) = W := ⟨_, rfl⟩
  rw [hW] at hpb h1 ⊢
  have SB2 := Lib.hid (SB.out W hW.symm)
  have d3 := h1.c3
  have d0 := h1.blk.c0
  have g1 := cells_all hpb 1
  have g3 := cells_all hpb 3
  have fg1 := frozen_all hpb 1
  have fg3 := frozen_all hpb 3
  have e3 : W.drew.cell? ⟨x, 3, none⟩ = some (.int .i64 (q.id : Int)) := d3
  have e0 : W.drew.cell? ⟨x, 0, none⟩ = some (.int .i64 q.st.ep) := d0
  have k1 : W.drew.cell? ⟨w.heap.size, 1, none⟩ = some (.int .i64 m.frm) := g1
  have k3 : W.drew.cell? ⟨w.heap.size, 3, none⟩ = some (.int .i64 m.ep) := g3
  have j1 : W.drew.frozen? ⟨w.heap.size, 1, none⟩ = false := fg1
  have j3 : W.drew.frozen? ⟨w.heap.size, 3, none⟩ = false := fg3
  clear hpb h1 hW SB
  go_region
  go_wp2_with fail
  obtain ⟨U, hU⟩ : ∃ U, ((W.setCell ⟨w.heap.size, 1, none⟩ (.int .i64 (q.id : Int))).setCell ⟨w.heap.size, 3, none⟩ (.int .i64 q.st.ep)).drew = U := ⟨_, rfl⟩
  have hub : U.heap[w.heap.size]? = some (.cells #[.int .i64 m.kind, .int .i64 (q.id : Int), .int .i64 m.to, .int .i64 q.st.ep, .int .i64 m.at_, .int .i64 m.last, .int .i64 m.commit, .slice Am m.log.length cm] 36 (0, 0)) := by rw [← hU]; exact SB2.out.1.1
  have huo : Out Zone.no w U := by rw [← hU]; exact SB2.out.1.2.drew
  rw [hU]
  have HN := Lib.hid (H.out.any huo)
  have HUO := Lib.hid huo
  clear SB2 d3 d0 g1 g3 fg1 fg3 e3 e0 k1 k3 j1 j3 hU huo
  have hsv' : V.sv = .slice AN ss.length cN := HSV.out
  obtain ⟨g, hg⟩ : ∃ g, w.heap.size = g := ⟨_, rfl⟩
  rw [hg] at hub hne hne' ⊢
  have HRW : Hid (RRow (V.own x) U (.slice Am m.log.length cm) m.log.length 2 (encL m.log)) := HR.out.any HUO.out
  have C10 : U.cell? ⟨x, 11, none⟩ = some (.slice AN ss.length cN) := by rw [← hsv']; exact HN.out.c11
  have F10 : U.frozen? ⟨x, 11, none⟩ = false := frozen_all HN.out.blk 11
  have HOW : Hid (Out Zone.no U (U.drew.alloc (.cells #[.int .i64 m.kind, .int .i64 (q.id : Int), .int .i64 m.to, .int .i64 q.st.ep, .int .i64 m.at_, .int .i64 m.last, .int .i64 m.commit, .slice Am m.log.length cm] 36))) := ((Out.refl Zone.no U).drew).alloc _
  have HGA : Hid (GR (U.drew.alloc (.cells #[.int .i64 m.kind, .int .i64 (q.id : Int), .int .i64 m.to, .int .i64 q.st.ep, .int .i64 m.at_, .int .i64 m.last, .int .i64 m.commit, .slice Am m.log.length cm] 36)) 36 8 (.slice AN ss.length cN) ss.length (encM ss)) := by
    show GR _ _ _ _ _ _
    rw [← hsv']
    exact GRow.any HN.out.send HOW.out
  have HNW : Hid (∀ (j : Nat) (u : Value), [Value.int .i64 m.kind, Value.int .i64 (q.id : Int), Value.int .i64 m.to, Value.int .i64 q.st.ep, Value.int .i64 m.at_, Value.int .i64 m.last, Value.int .i64 m.commit, Value.slice Am m.log.length cm][j]? = some u → (U.drew.alloc (.cells #[.int .i64 m.kind, .int .i64 (q.id : Int), .int .i64 m.to, .int .i64 q.st.ep, .int .i64 m.at_, .int .i64 m.last, .int .i64 m.commit, .slice Am m.log.length cm] 36)).cell? ⟨U.heap.size, j, none⟩ = some u) := fun j u hu => by
    have h := heap_alloc_new U.drew (.cells #[.int .i64 m.kind, .int .i64 (q.id : Int), .int .i64 m.to, .int .i64 q.st.ep, .int .i64 m.at_, .int .i64 m.last, .int .i64 m.commit, .slice Am m.log.length cm] 36)
    rw [cell_of_row _ U.heap.size j _ _ _ h]
    simpa using hu
  have D10 : U.drew.cell? ⟨x, 11, none⟩ = some (.slice AN ss.length cN) := C10
  have D10a : (U.drew.alloc (.cells #[.int .i64 m.kind, .int .i64 (q.id : Int), .int .i64 m.to, .int .i64 q.st.ep, .int .i64 m.at_, .int .i64 m.last, .int .i64 m.commit, .slice Am m.log.length cm] 36)).cell? ⟨x, 11, none⟩ = some (.slice AN ss.length cN) := HOW.out.cell C10 id
  have D10b : (U.alloc (.cells #[.int .i64 m.kind, .int .i64 (q.id : Int), .int .i64 m.to, .int .i64 q.st.ep, .int .i64 m.at_, .int .i64 m.last, .int .i64 m.commit, .slice Am m.log.length cm] 36)).cell? ⟨x, 11, none⟩ = some (.slice AN ss.length cN) := HOW.out.cell C10 id
  have D10c : (U.alloc (.cells #[.int .i64 m.kind, .int .i64 (q.id : Int), .int .i64 m.to, .int .i64 q.st.ep, .int .i64 m.at_, .int .i64 m.last, .int .i64 m.commit, .slice Am m.log.length cm] 36)).drew.cell? ⟨x, 11, none⟩ = some (.slice AN ss.length cN) := HOW.out.cell C10 id
  have E0 : U.drew.cell? ⟨g, 0, none⟩ = some (.int .i64 m.kind) := cells_all hub 0
  have E1 : U.drew.cell? ⟨g, 1, none⟩ = some (.int .i64 (q.id : Int)) := cells_all hub 1
  have E2 : U.drew.cell? ⟨g, 2, none⟩ = some (.int .i64 m.to) := cells_all hub 2
  have E3 : U.drew.cell? ⟨g, 3, none⟩ = some (.int .i64 q.st.ep) := cells_all hub 3
  have E4 : U.drew.cell? ⟨g, 4, none⟩ = some (.int .i64 m.at_) := cells_all hub 4
  have E5 : U.drew.cell? ⟨g, 5, none⟩ = some (.int .i64 m.last) := cells_all hub 5
  have E6 : U.drew.cell? ⟨g, 6, none⟩ = some (.int .i64 m.commit) := cells_all hub 6
  have E7 : U.drew.cell? ⟨g, 7, none⟩ = some (.slice Am m.log.length cm) := cells_all hub 7
  have hlm : ss.length + 1 ≤ maxLen := le_maxLen (by omega)
  have hlb : (ss.length + 1) * 80 ≤ 140737488355328 := by omega
  have PUSH : Hid (∀ v' w', GR w' 36 8 v' (ss.length + 1) (encM ss ++ [.int .i64 m.kind, .int .i64 (q.id : Int), .int .i64 m.to, .int .i64 q.st.ep, .int .i64 m.at_, .int .i64 m.last, .int .i64 m.commit, .slice Am m.log.length cm]) → (U.drew.alloc (.cells #[.int .i64 m.kind, .int .i64 (q.id : Int), .int .i64 m.to, .int .i64 q.st.ep, .int .i64 m.at_, .int .i64 m.last, .int .i64 m.commit, .slice Am m.log.length cm] 36)).grownBy w' (Value.slice AN ss.length cN).ownBlock →
      (v'.ownBlock = (Value.slice AN ss.length cN).ownBlock ∨ v'.ownBlock = some (U.drew.alloc (.cells #[.int .i64 m.kind, .int .i64 (q.id : Int), .int .i64 m.to, .int .i64 q.st.ep, .int .i64 m.at_, .int .i64 m.last, .int .i64 m.commit, .slice Am m.log.length cm] 36)).heap.size) →
      (Exists fun sv' : Value => NodeAt (w'.setCell ⟨x, 11, none⟩ v') x q ns (ss ++ [({ m with frm := (q.id : Int), ep := q.st.ep }, .slice Am m.log.length cm)]) { V with sv := sv' } ∧ Next (V.own x) w (NV.own x { V with sv := sv' }) (w'.setCell ⟨x, 11, none⟩ v')) ∧ w'.cell? ⟨x, 11, none⟩ = some (.slice AN ss.length cN) ∧ w'.frozen? ⟨x, 11, none⟩ = false) := fun v' w' h1 h2 h3 => by
    rw [← HSV.out] at h2 h3
    obtain ⟨k1, k2, k3, k4⟩ := HN.out.pushSend HOW.out ({ m with frm := (q.id : Int), ep := q.st.ep }, .slice Am m.log.length cm) HRW.out h1 h2 h3
    exact ⟨⟨_, k1, (Next.of_out HUO.out).trans k2⟩, by rw [← HSV.out]; exact k3, k4⟩
  clear hsv' hub hg C10 HN H HR
  go_region_law (refine step_gappend rfl _ _ 30 rfl elem30 ss.length (encM ss) (by exact HGA.out) U.heap.size 1 [.int .i64 m.kind, .int .i64 (q.id : Int), .int .i64 m.to, .int .i64 q.st.ep, .int .i64 m.at_, .int .i64 m.last, .int .i64 m.commit, .slice Am m.log.length cm] (by rfl) rfl (by exact HNW.out) (by simp [Value.oneCell']) hlm hlb ?_; intro v' w' hg1 hgr hat; obtain ⟨A2, x2, rfl⟩ := GRow.form hg1; obtain ⟨hfin, hc, hf⟩ := PUSH.out _ _ hg1 hgr hat; have FIN := Lib.hid hfin; clear hg1 hgr hat hfin)
  all_goals
    go_wp2_with fail
    go_end0
    obtain ⟨V', f1, f2⟩ := FIN.out
    first
    | exact ⟨rfl, V', f1, f2⟩
    | exact ⟨rfl, V', f1.any ((Out.refl _ _).drew), f2.trans (Next.of_out ((Out.refl _ _).drew))⟩
end
end Go.Proofs.Ytlgoenimjmiapaa
