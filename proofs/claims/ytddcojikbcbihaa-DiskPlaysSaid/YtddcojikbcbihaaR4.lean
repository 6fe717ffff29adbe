import Derived.Test.YtddcojikbcbihaaR3
import Derived.Laws.IdiomStrings
/-! The document's disk: Write, Load. -/
set_option linter.unusedVariables false
namespace Go.Proofs.Ytddcojikbcbihaa
open Go.RowKit

theorem zero9 (W : World) : (zeroValue 9).run Try.prog W = .ok (.string ⟨#[]⟩) W := by kernel_rfl

/-- []byte(s). -/
theorem str_bytes (w : World) (L : List UInt8) (hl : L.length ≤ maxLen) : ∃ A c w', (convert 9 22 (.string (str L))).run Try.prog w = .ok (.slice A L.length c) w' ∧ Out Zone.no w w' ∧ ∀ Z : Zone, Z.Top w → Row Z w' (.slice A L.length c) (bytes L) := by
  have hrun := run_bytes_of_string (P := Try.prog) w 9 22 5 (str L) Try.underlying9 Try.underlying22 Try.underlying5
  have hs : (str L).size = L.length := by simp [str, ByteArray.size]
  rw [hs] at hrun
  refine ⟨_, _, _, hrun, ?_, ?_⟩
  · exact (Out.refl Zone.no w).drew.alloc _
  · intro Z hZ
    have hc1 : L.length ≤ grownCap w L.length 0 5 := grownCap_ge w _ _ 5
    have hc2 : grownCap w L.length 0 5 ≤ maxLen := grownCap_le_maxLen w _ _ 5 hl
    refine ⟨some ⟨w.heap.size, 0, none⟩, _, by rw [length_bytes], by rw [length_bytes]; exact hc1, hc2, fun j u hu => ⟨_, rfl, hZ.fresh (Nat.le_refl _), ?_⟩⟩
    rw [addr0_add, cell_of_row _ w.heap.size j _ _ _ (heap_alloc_new w.drew _)]
    have hj : j < L.length := by
      have := (List.getElem?_eq_some_iff.1 hu).1
      rwa [length_bytes] at this
    rw [bytesRow_at _ _ _ (by simpa [str] using hj), ← hu]
    simp [bytes, str, List.getElem?_eq_getElem hj]

section
variable {Z : Zone} {w : World} {r o f : Nat} {lv : Value} {D : DS}

theorem strF_put (F : Int → Option (List UInt8)) (q : Int) (b : List UInt8) : putV (strF F) q (.string (str b)) = strF (putF F q b) := by
  funext x
  unfold putV strF putF
  by_cases hx : x = q
  · rw [if_pos hx, if_pos hx]; rfl
  · rw [if_neg hx, if_neg hx]

theorem mapStr_small {w : World} {b n : Nat} {F : Int → Option (List UInt8)} (h : MapV Try.prog 3 w b n (strF F)) (hok : ∀ k s, F k = some s → 0 ≤ k ∧ k < 65536) : MapStr w b F :=
  h.small Try.underlying3 65536 (fun x v hx => by
    unfold strF at hx
    cases hF : F x with
    | none => rw [hF] at hx; cases hx
    | some L => exact hok x L hF)

/-- The disk behind a change of its fresh pages. -/
theorem Ref0.freshen {w2 : World} {F' : Int → Option (List UInt8)} {N : Nat} (h : Ref0 Z w r o f lv D) (hm2 : MapV Try.prog 3 w2 f N (strF F')) (hg2 : w.grownBy w2 (some f))
    (hok : ∀ k s, F' k = some s → 0 ≤ k ∧ k < D.count ∧ s.length = 512) : Ref0 Z w2 r o f lv { D with fresh := F' } ∧ Out Z w w2 := by
  have hm := h.map_ne
  have o2 : Out Z w w2 := (Out.refl Z w).grown hg2 (fun k hk => by cases hk; exact Or.inl h.bf)
  have hc := h.ok.count
  refine ⟨⟨(hg2.block r (h.top.lt h.br) (some_ne (Ne.symm hm.2))).trans h.sr, h.log.out o2, h.old.same (hg2.block o (h.top.lt h.bo) (some_ne h.ne)), mapStr_small hm2 (fun k s hs => by have := hok k s hs; omega), h.br, h.bo, h.bf, h.top.mono o2.size, h.ne, ?_⟩, o2⟩
  obtain ⟨k1, k2, k3, k4, k5, k6, k7, k8, k9, k10⟩ := h.ok
  exact ⟨k1, k2, k3, k4, k5, k6, k7, k8, k9, hok⟩

/-- .. of its sure ones. -/
theorem Ref0.reold {w2 : World} {F' : Int → Option (List UInt8)} {N : Nat} (h : Ref0 Z w r o f lv D) (hm2 : MapV Try.prog 3 w2 o N (strF F')) (hg2 : w.grownBy w2 (some o))
    (hok : ∀ k s, F' k = some s → 0 ≤ k ∧ k < D.count ∧ s.length = 512) : Ref0 Z w2 r o f lv { D with old := F' } ∧ Out Z w w2 := by
  have hm := h.map_ne
  have o2 : Out Z w w2 := (Out.refl Z w).grown hg2 (fun k hk => by cases hk; exact Or.inl h.bo)
  have hc := h.ok.count
  refine ⟨⟨(hg2.block r (h.top.lt h.br) (some_ne (Ne.symm hm.1))).trans h.sr, h.log.out o2, mapStr_small hm2 (fun k s hs => by have := hok k s hs; omega), h.fresh.same (hg2.block f (h.top.lt h.bf) (some_ne (Ne.symm h.ne))), h.br, h.bo, h.bf, h.top.mono o2.size, h.ne, ?_⟩, o2⟩
  obtain ⟨k1, k2, k3, k4, k5, k6, k7, k8, k9, k10⟩ := h.ok
  exact ⟨k1, k2, k3, k4, k5, k6, k7, k8, hok, k10⟩

theorem rwrite_off (h : Ref0 Z w r o f lv D) (q : Int) (s : Value) (hoff : D.off = true) : Calls Try.prog 59 #[.pointer (some ⟨r, 0, none⟩), .int .i64 q, s] w (RDoes Z r (9, D) w) := by
  have c3 := cells_all h.sr 3
  rw [hoff] at c3
  have HH := Lib.hid h.at_
  clear h hoff
  go_enter Try.func59, Try.ntmps59
  go_wp2_with fail
  go_ret
  exact ⟨rfl, HH.out, Out.refl _ _⟩

theorem rwrite_arg (h : Ref0 Z w r o f lv D) (q : Int) (A : Option Addr) (n c : Nat) (hn : n ≤ 9223372036854775807) (hoff : D.off = false) (hfine : ¬ (0 ≤ q ∧ q < D.count ∧ n = 512)) : Calls Try.prog 59 #[.pointer (some ⟨r, 0, none⟩), .int .i64 q, .slice A n c] w (RDoes Z r (1, D) w) := by
  have c1 := cells_all h.sr 1
  have c3 := cells_all h.sr 3
  rw [hoff] at c3
  have HH := Lib.hid h.at_
  clear h hoff
  by_cases h1 : q < 0
  · clear hfine
    go_enter Try.func59, Try.ntmps59
    go_wp2_with fail
    go_ret
    exact ⟨rfl, HH.out, Out.refl _ _⟩
  · by_cases h2 : (D.count : Int) ≤ q
    · clear hfine
      go_enter Try.func59, Try.ntmps59
      go_wp2_with fail
      go_ret
      exact ⟨rfl, HH.out, Out.refl _ _⟩
    · have h3 : ((n : Int) != 512) = true := by rw [bne_iff_ne]; omega
      clear hfine
      go_enter Try.func59, Try.ntmps59
      go_wp2_with fail
      go_ret
      exact ⟨rfl, HH.out, Out.refl _ _⟩

theorem rwrite_dead (h : Ref0 Z w r o f lv D) (q : Int) (A : Option Addr) (c : Nat) (hoff : D.off = false) (hq1 : 0 ≤ q) (hq2 : q < D.count) (hl : D.left = 0) : Calls Try.prog 59 #[.pointer (some ⟨r, 0, none⟩), .int .i64 q, .slice A 512 c] w (RDoes Z r (9, D.ticked) w) := by
  have c1 := cells_all h.sr 1
  have c3 := cells_all h.sr 3
  have O := Lib.hid (roper_is h hoff)
  rw [show decide (D.left ≠ 0) = false from by simp [hl]] at O
  rw [hoff] at c3
  clear h hoff hl
  go_enter Try.func59, Try.ntmps59
  go_wp2_with fail
  refine O.out.mono ?_
  rintro e w1 ⟨rfl, hd1, ho1⟩
  have H1 := Lib.hid hd1.at_
  have HO1 := Lib.hid ho1
  clear hd1 ho1 c1 c3
  go_wp2_with fail
  go_ret
  exact ⟨rfl, H1.out, HO1.out⟩

set_option maxHeartbeats 1000000 in
theorem rwrite_ok (h : Ref0 Z w r o f lv D) (q : Int) (A : Option Addr) (c : Nat) (b : List UInt8) (hb : b.length = 512) (hs : Row Z w (.slice A 512 c) (bytes b)) (hoff : D.off = false) (hq1 : 0 ≤ q) (hq2 : q < D.count) (hl : D.left ≠ 0) :
    Calls Try.prog 59 #[.pointer (some ⟨r, 0, none⟩), .int .i64 q, .slice A 512 c] w (RDoes Z r (0, { D.ticked with fresh := putF D.fresh q b }) w) := by
  have c1 := cells_all h.sr 1
  have c3 := cells_all h.sr 3
  have hk := h.ok.count
  have O := Lib.hid (roper_is h hoff)
  rw [show decide (D.left ≠ 0) = true from by simp [hl]] at O
  rw [hoff] at c3
  have HS := Lib.hid hs
  have HB := Lib.hid hb
  clear h hoff hl hs hb
  go_enter Try.func59, Try.ntmps59
  go_wp2_with fail
  refine O.out.mono ?_
  rintro e w1 ⟨rfl, hd1, ho1⟩
  have H1 := Lib.hid hd1
  have HO1 := Lib.hid ho1
  have hcv := run_string (P := Try.prog) Try.underlying22 Try.underlying5 Try.underlying9 (HS.out.out ho1.drew)
  obtain ⟨w2, hrun, hm2, hg2⟩ := MapV.update Try.underlying3 Try.underlying93 (w := w1.drew) hd1.fresh (by unfold maxLen; omega) (wf_i64 (a := q) (by omega) (by omega)) (.string (str b))
  rw [strF_put, DS.ticked_fresh] at hm2
  have HM := Lib.hid hm2
  have HG := Lib.hid (grown_undrew hg2)
  have c8 := cells_all hd1.sr 8
  clear hd1 ho1 c1 c3 O hm2 hg2
  go_wp2_with fail
  go_region
  all_goals
    go_wp2_with fail
    go_ret
    obtain ⟨h3, o3⟩ := H1.out.freshen HM.out HG.out (fun k s hs => by
      rw [DS.ticked_count]
      unfold putF at hs
      by_cases hk : k = q
      · rw [if_pos hk] at hs; cases hs; subst hk; exact ⟨hq1, hq2, HB.out⟩
      · rw [if_neg hk] at hs; have := H1.out.ok.fresh k s (by rw [DS.ticked_fresh]; exact hs); rwa [DS.ticked_count] at this)
    exact ⟨rfl, h3.at_, HO1.out.trans o3⟩

theorem rwrite_is (h : RefAt Z w r D) (q : Int) (s : Value) (b : List UInt8) (hs : Row Z w s (bytes b)) : Calls Try.prog 59 #[.pointer (some ⟨r, 0, none⟩), .int .i64 q, s] w (RDoes Z r (D.write q b) w) := by
  obtain ⟨o, f, lv, h⟩ := h
  obtain ⟨A, c, rfl, h1, h2⟩ := hs.form
  unfold DS.write
  cases hoff : D.off
  · rw [if_neg (by simp)]
    by_cases hp : 0 ≤ q ∧ q < D.count ∧ b.length = 512
    · obtain ⟨hp1, hp2, hp3⟩ := hp
      rw [if_pos (by simp [DS.page, hp1, hp2, hp3])]
      rw [hp3] at hs ⊢
      by_cases hl : D.left = 0
      · rw [if_pos hl]; exact rwrite_dead h q A c hoff hp1 hp2 hl
      · rw [if_neg hl]; exact rwrite_ok h q A c b hp3 hs hoff hp1 hp2 hl
    · rw [if_neg (by simp only [DS.page, Bool.and_eq_true, decide_eq_true_eq]; omega)]
      exact rwrite_arg h q A _ c (by unfold maxLen at h2; omega) hoff hp
  · rw [if_pos rfl]; exact rwrite_off h q _ hoff
end
end Go.Proofs.Ytddcojikbcbihaa
