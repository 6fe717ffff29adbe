import Derived.Test.YtlgoenimjmiapaaQ44
/-! The law's Message. -/
set_option linter.unusedVariables false
namespace Go.Proofs.Ytlgoenimjmiapaa
open Go.RowKit Go.Maps

theorem out8 {w W : World} {R : Nat} (ho : Out Zone.no w W) (hR : w.heap.size ≤ R) (a b c d e f g h : Value) :
    Out Zone.no w ((((((((W.setCell ⟨R, 0, none⟩ a).setCell ⟨R, 1, none⟩ b).setCell ⟨R, 2, none⟩ c).setCell ⟨R, 3, none⟩ d).setCell ⟨R, 4, none⟩ e).setCell ⟨R, 5, none⟩ f).setCell ⟨R, 6, none⟩ g).setCell ⟨R, 7, none⟩ h) :=
  (((((((ho.setCell (p := ⟨R, 0, none⟩) (Or.inr hR) _).setCell (p := ⟨R, 1, none⟩) (Or.inr hR) _).setCell (p := ⟨R, 2, none⟩) (Or.inr hR) _).setCell (p := ⟨R, 3, none⟩) (Or.inr hR) _).setCell (p := ⟨R, 4, none⟩) (Or.inr hR) _).setCell (p := ⟨R, 5, none⟩) (Or.inr hR) _).setCell (p := ⟨R, 6, none⟩) (Or.inr hR) _).setCell (p := ⟨R, 7, none⟩) (Or.inr hR) _
theorem set8 {W : World} {R : Nat} {T : TypeId} {a' b' c' d' e' f' g' h' : Value} (hW : W.heap[R]? = some (.cells #[a', b', c', d', e', f', g', h'] T (0, 0))) (a b c d e f g h : Value) :
    ((((((((W.setCell ⟨R, 0, none⟩ a).setCell ⟨R, 1, none⟩ b).setCell ⟨R, 2, none⟩ c).setCell ⟨R, 3, none⟩ d).setCell ⟨R, 4, none⟩ e).setCell ⟨R, 5, none⟩ f).setCell ⟨R, 6, none⟩ g).setCell ⟨R, 7, none⟩ h).heap[R]? = some (.cells #[a, b, c, d, e, f, g, h] T (0, 0)) := by
  have := heap_set (heap_set (heap_set (heap_set (heap_set (heap_set (heap_set (heap_set hW 0 a) 1 b) 2 c) 3 d) 4 e) 5 f) 6 g) 7 h
  simpa using this

set_option maxRecDepth 100000 in
set_option maxHeartbeats 2000000 in
theorem msg_is (w : World) (N : Nat → Prop) (m : Msg) (v : Value) (hr : RRow N w v m.log.length 2 (encL m.log)) (hl : (m.log.length + 1) * 24 ≤ 140737488355328) :
    Calls Try.prog 15 #[.agg (m.cells v).toArray] w fun e w' => ∃ A c, e = .returned (.agg (m.cells (.slice A m.log.length c)).toArray) ∧ GR w' 38 2 (.slice A m.log.length c) m.log.length (encL m.log) ∧ Out Zone.no w w' ∧ ∀ k, (Value.slice A m.log.length c).ownBlock = some k → w.heap.size ≤ k := by
  obtain ⟨Am, cm, rfl, _, _⟩ := hr.form
  have HLOG : Hid (∀ W, Out Zone.no w W → Calls Try.prog 39 #[.slice Am m.log.length cm] W fun e w' => ∃ A c, e = .returned (.slice A m.log.length c) ∧ GR w' 38 2 (.slice A m.log.length c) m.log.length (encL m.log) ∧ Out Zone.no W w' ∧ ∀ k, (Value.slice A m.log.length c).ownBlock = some k → W.heap.size ≤ k) := fun W ho => by
    refine (log_is W N _ m.log (hr.any ho) hl).mono ?_
    rintro e w' ⟨v', rfl, h1, h2, h3⟩
    obtain ⟨A, c, rfl⟩ := GRow.form h1
    exact ⟨A, c, rfl, h1, h2, h3⟩
  obtain ⟨L, hL⟩ : ∃ L, m.log.length = L := ⟨_, rfl⟩
  obtain ⟨en, hen⟩ : ∃ en, encL m.log = en := ⟨_, rfl⟩
  unfold Msg.cells
  obtain ⟨kd, hkd⟩ : ∃ kd, m.kind = kd := ⟨_, rfl⟩
  obtain ⟨fr, hfr⟩ : ∃ fr, m.frm = fr := ⟨_, rfl⟩
  obtain ⟨tt, hto⟩ : ∃ tt, m.to = tt := ⟨_, rfl⟩
  obtain ⟨me, hme⟩ : ∃ me, m.ep = me := ⟨_, rfl⟩
  obtain ⟨ma, hma⟩ : ∃ ma, m.at_ = ma := ⟨_, rfl⟩
  obtain ⟨ml, hml2⟩ : ∃ ml, m.last = ml := ⟨_, rfl⟩
  obtain ⟨mc, hmc⟩ : ∃ mc, m.commit = mc := ⟨_, rfl⟩
  rw [hL, hen] at HLOG
  rw [hL, hen, hkd, hfr, hto, hme, hma, hml2, hmc]
  clear hkd hfr hto hme hma hml2 hmc hL hen hr hl
  obtain ⟨B, hB⟩ : ∃ B, w.heap.size = B := ⟨_, rfl⟩
  have OA : Hid (Out Zone.no w (w.alloc (.cells #[.int .i64 kd, .int .i64 fr, .int .i64 tt, .int .i64 me, .int .i64 ma, .int .i64 ml, .int .i64 mc, .slice Am L cm] 45))) := (Out.refl _ _).alloc _
  have KB : Hid (∀ W, Out Zone.no (w.alloc (.cells #[.int .i64 kd, .int .i64 fr, .int .i64 tt, .int .i64 me, .int .i64 ma, .int .i64 ml, .int .i64 mc, .slice Am L cm] 45)) W → (W.cell? ⟨B, 0, none⟩ = some (.int .i64 kd) ∧ W.cell? ⟨B, 1, none⟩ = some (.int .i64 fr) ∧ W.cell? ⟨B, 2, none⟩ = some (.int .i64 tt) ∧ W.cell? ⟨B, 3, none⟩ = some (.int .i64 me) ∧ W.cell? ⟨B, 4, none⟩ = some (.int .i64 ma) ∧ W.cell? ⟨B, 5, none⟩ = some (.int .i64 ml) ∧ W.cell? ⟨B, 6, none⟩ = some (.int .i64 mc) ∧ W.cell? ⟨B, 7, none⟩ = some (.slice Am L cm))) := fun W ho => by
    have hb := ho.get (heap_alloc_new w (.cells #[.int .i64 kd, .int .i64 fr, .int .i64 tt, .int .i64 me, .int .i64 ma, .int .i64 ml, .int .i64 mc, .slice Am L cm] 45)) id
    rw [hB] at hb
    refine ⟨?_, ?_, ?_, ?_, ?_, ?_, ?_, ?_⟩ <;> (rw [cells_all hb]; rfl)
  have hs1 : (w.alloc (.cells #[.int .i64 kd, .int .i64 fr, .int .i64 tt, .int .i64 me, .int .i64 ma, .int .i64 ml, .int .i64 mc, .slice Am L cm] 45)).heap.size = B + 1 := by simp [hB]
  obtain ⟨W0, hW0⟩ : ∃ W0, w.alloc (.cells #[.int .i64 kd, .int .i64 fr, .int .i64 tt, .int .i64 me, .int .i64 ma, .int .i64 ml, .int .i64 mc, .slice Am L cm] 45) = W0 := ⟨_, rfl⟩
  have hRb := heap_alloc_new W0 (.cells #[.int .i64 0, .int .i64 0, .int .i64 0, .int .i64 0, .int .i64 0, .int .i64 0, .int .i64 0, .slice none 0 0] 36)
  rw [hW0] at OA KB hs1
  rw [hs1] at hRb
  have HS1 := Lib.hid hs1
  have HRB := Lib.hid hRb
  have HB := Lib.hid hB
  clear hRb
  go_enter Try.func15, Try.ntmps15
  go_wp2_with fail
  clear hW0 hB hs1
  obtain ⟨W1, hW1⟩ : ∃ W1, W0.alloc (.cells #[.int .i64 0, .int .i64 0, .int .i64 0, .int .i64 0, .int .i64 0, .int .i64 0, .int .i64 0, .slice none 0 0] 36) = W1 := ⟨_, rfl⟩
  have OC : Hid (Out Zone.no W0 W1.drew) := by rw [← hW1]; exact ((Out.refl _ _).alloc _).drew
  rw [hW1] at HRB ⊢
  clear hW1
  have CSD := KB.out _ OC.out
  have HRBd : Hid (W1.drew.heap[B + 1]? = some (.cells #[.int .i64 0, .int .i64 0, .int .i64 0, .int .i64 0, .int .i64 0, .int .i64 0, .int .i64 0, .slice none 0 0] 36 (0, 0))) := HRB.out
  have HLD := Lib.hid (HLOG.out _ (OA.out.trans OC.out))
  have HRs : Hid (W0.heap.size ≤ B + 1) := Nat.le_of_eq HS1.out
  go_region_held3 (fun W => (W.cell? ⟨B, 0, none⟩ = some (.int .i64 kd) ∧ W.cell? ⟨B, 1, none⟩ = some (.int .i64 fr) ∧ W.cell? ⟨B, 2, none⟩ = some (.int .i64 tt) ∧ W.cell? ⟨B, 3, none⟩ = some (.int .i64 me) ∧ W.cell? ⟨B, 4, none⟩ = some (.int .i64 ma) ∧ W.cell? ⟨B, 5, none⟩ = some (.int .i64 ml) ∧ W.cell? ⟨B, 6, none⟩ = some (.int .i64 mc) ∧ W.cell? ⟨B, 7, none⟩ = some (.slice Am L cm)))
    (first | with_reducible assumption | with_reducible exact KB.out _ (out8 OW.out HRs.out _ _ _ _ _ _ _ _))
    (first
      | (go_at_call 39; with_reducible refine HLD.out.mono ?_; rintro e w3 ⟨A3, c3, rfl, hg3, ho3, hk3⟩; have OW := Lib.hid (OC.out.trans ho3); have CS3 := KB.out _ OW.out; have hRw := ho3.get HRBd.out id; have r0 : w3.cell? ⟨B + 1, 0, none⟩ = some (.int .i64 0) := (by simp [cells_all hRw 0]); have f0 := frozen_all hRw 0; have r1 : w3.cell? ⟨B + 1, 1, none⟩ = some (.int .i64 0) := (by simp [cells_all hRw 1]); have f1 := frozen_all hRw 1; have r2 : w3.cell? ⟨B + 1, 2, none⟩ = some (.int .i64 0) := (by simp [cells_all hRw 2]); have f2 := frozen_all hRw 2; have r3 : w3.cell? ⟨B + 1, 3, none⟩ = some (.int .i64 0) := (by simp [cells_all hRw 3]); have f3 := frozen_all hRw 3; have r4 : w3.cell? ⟨B + 1, 4, none⟩ = some (.int .i64 0) := (by simp [cells_all hRw 4]); have f4 := frozen_all hRw 4; have r5 : w3.cell? ⟨B + 1, 5, none⟩ = some (.int .i64 0) := (by simp [cells_all hRw 5]); have f5 := frozen_all hRw 5; have r6 : w3.cell? ⟨B + 1, 6, none⟩ = some (.int .i64 0) := (by simp [cells_all hRw 6]); have f6 := frozen_all hRw 6; have r7 : w3.cell? ⟨B + 1, 7, none⟩ = some (.slice none 0 0) := (by simp [cells_all hRw 7]); have f7 := frozen_all hRw 7; have HRW := Lib.hid hRw; have HG3 := Lib.hid hg3; have HK3 := Lib.hid hk3; clear hg3 hk3 hRw ho3))
  all_goals
    have B8 := set8 HRW.out (.int .i64 kd) (.int .i64 fr) (.int .i64 tt) (.int .i64 me) (.int .i64 ma) (.int .i64 ml) (.int .i64 mc) (.slice A3 L c3)
    have q0 := cells_all B8 0
    have q1 := cells_all B8 1
    have q2 := cells_all B8 2
    have q3 := cells_all B8 3
    have q4 := cells_all B8 4
    have q5 := cells_all B8 5
    have q6 := cells_all B8 6
    have q7 := cells_all B8 7
    go_wp2_with fail
    have hsz : B + 1 < W1.drew.heap.size := heap_lt HRBd.out
    have hne : ∀ k, (Value.slice A3 L c3).ownBlock = some k → k ≠ B + 1 := fun k hk => by have := HK3.out k hk; omega
    have gfin := (gr_set (gr_set (gr_set (gr_set (gr_set (gr_set (gr_set (gr_set HG3.out (a := ⟨B + 1, 0, none⟩) (fun e => hne _ e rfl) (.int .i64 kd)) (a := ⟨B + 1, 1, none⟩) (fun e => hne _ e rfl) (.int .i64 fr)) (a := ⟨B + 1, 2, none⟩) (fun e => hne _ e rfl) (.int .i64 tt)) (a := ⟨B + 1, 3, none⟩) (fun e => hne _ e rfl) (.int .i64 me)) (a := ⟨B + 1, 4, none⟩) (fun e => hne _ e rfl) (.int .i64 ma)) (a := ⟨B + 1, 5, none⟩) (fun e => hne _ e rfl) (.int .i64 ml)) (a := ⟨B + 1, 6, none⟩) (fun e => hne _ e rfl) (.int .i64 mc)) (a := ⟨B + 1, 7, none⟩) (fun e => hne _ e rfl) (.slice A3 L c3))
    have ofin := out8 (OA.out.trans OW.out) (show w.heap.size ≤ B + 1 by rw [HB.out]; omega) (.int .i64 kd) (.int .i64 fr) (.int .i64 tt) (.int .i64 me) (.int .i64 ma) (.int .i64 ml) (.int .i64 mc) (.slice A3 L c3)
    refine bodyPost_ret (v := .agg #[.int .i64 kd, .int .i64 fr, .int .i64 tt, .int .i64 me, .int .i64 ma, .int .i64 ml, .int .i64 mc, .slice A3 L c3]) ?_ rfl ⟨A3, c3, rfl, gfin, ofin, fun k hk => by have := HK3.out k hk; have := HB.out; omega⟩
    clear CSD CS3
    simp at q0 q1 q2 q3 q4 q5 q6 q7
    simp [results, Try.results15, go_sem, q0, q1, q2, q3, q4, q5, q6, q7]
end Go.Proofs.Ytlgoenimjmiapaa
