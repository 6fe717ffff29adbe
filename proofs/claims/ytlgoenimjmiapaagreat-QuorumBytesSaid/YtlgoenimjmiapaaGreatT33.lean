import Derived.Test.YtlgoenimjmiapaaGreatT32
import Derived.Test.YtlgoenimjmiapaaGreatT31
import Derived.Test.YtlgoenimjmiapaaGreatT22
set_option linter.unusedSimpArgs false
set_option linter.unusedVariables false
set_option linter.unusedSectionVars false
/-! GetMessage, the document's. -/
set_option linter.unusedVariables false
set_option linter.unusedSimpArgs false
namespace Go.Proofs.YtlgoenimjmiapaaGreat
open Go.RowKit

theorem elem26r : ElemN Tryz.prog 26 23 (.agg #[.int .i64 0, .string ⟨#[]⟩]) 2 24 := ElemN.mk' Tryz.underlying26 (by kernel_rfl) (by kernel_rfl) (by omega)

/-- An error stays. -/
theorem rstep_err (s : Rd) (h : s.2.2 ≠ 0) : (rstep s).2.2 ≠ 0 := by
  obtain ⟨es, L, e⟩ := s
  have h1 : rnum L e = (0, L, e) := if_neg h
  have h2 : rtxt L e = ([], L, e) := if_neg h
  show (rtxt (rnum L e).2.1 (rnum L e).2.2).2.2 ≠ 0
  rw [h1]
  show (rtxt L e).2.2 ≠ 0
  rw [h2]
  exact h
theorem rloop_err {j k : Nat} (s : Rd) (hjk : j ≤ k) (h : (rloop j s).2.2 ≠ 0) : (rloop k s).2.2 ≠ 0 := by
  induction k with
  | zero => obtain rfl : j = 0 := by omega
            exact h
  | succ k ih =>
    by_cases e : j = k + 1
    · rw [← e]; exact h
    · exact rstep_err _ (ih (by omega))
theorem rdone_err {L : List UInt8} {e : Int} (h : e ≠ 0) : rdone L e ≠ 0 := by
  unfold rdone
  rw [if_neg h]
  exact h
/-- What the document makes of the entries that it has read. -/
def rfin (n : Int) (m : Msg) (s : Rd) : Msg × Int := if n < 0 then (zmsg, 21) else gfin m s
theorem right_long {m : Msg} (h : 2048 < m.log.length) : m.right = false := by
  have : decide (m.log.length ≤ 2048) = false := by simpa using h
  simp [Msg.right, this]
theorem rfin_eq {n : Int} {m : Msg} {s0 : Rd} {j : Nat} (h0 : s0.1 = []) (hj : j = 0 ∨ (j : Int) ≤ n) (h9 : j ≤ 2049) (he : ¬ (j : Int) < n ∨ j = 2049 ∨ (rloop j s0).2.2 ≠ 0) :
    rfin n m (rloop j s0) = (if n < 0 ∨ 2048 < n then (zmsg, 21) else gfin m (rloop n.toNat s0)) := by
  unfold rfin
  by_cases hn : n < 0
  · rw [if_pos hn, if_pos (Or.inl hn)]
  · rw [if_neg hn]
    have hlen : (rloop j s0).1.length = j := by have := (rloop_len j s0).1; rw [h0] at this; simpa using this
    by_cases hee : (rloop j s0).2.2 ≠ 0
    · have e1 : gfin m (rloop j s0) = (zmsg, 21) := if_neg (fun h => rdone_err hee h.1)
      rw [e1]
      split
      · rfl
      · rename_i hno
        exact (if_neg (fun h => rdone_err (rloop_err s0 (show j ≤ n.toNat by omega) hee) h.1)).symm
    · by_cases hj9 : 2048 < j
      · have e1 : gfin m (rloop j s0) = (zmsg, 21) := if_neg (fun h => by
          have h2 := h.2
          rw [right_long (by show 2048 < (rloop j s0).1.length; omega)] at h2
          cases h2)
        rw [e1, if_pos (Or.inr (by omega))]
      · have hjn : j = n.toNat := by
          rcases he with h | h | h
          · omega
          · omega
          · exact absurd h hee
        rw [if_neg (by omega), hjn]

set_option maxRecDepth 100000 in
set_option maxHeartbeats 4000000 in
theorem rgmsg_is (w : World) (v : Value) (L : List UInt8) (hr : Row Zone.no w v (bytes L)) (hl : L.length ≤ 140737488355328) :
    Calls Tryz.prog 16 #[v] w fun e w' => ∃ A c, e = .returned (.tuple #[.agg ((gmsg L).1.cells (.slice A (gmsg L).1.log.length c)).toArray, .int .i64 (gmsg L).2]) ∧ RRow (fun _ => False) w' (.slice A (gmsg L).1.log.length c) (gmsg L).1.log.length 2 (encL (gmsg L).1.log) ∧ Out Zone.no w w' := by
  obtain ⟨B, hB⟩ : ∃ B, w.heap.size = B := ⟨_, rfl⟩
  obtain ⟨W0, hW0⟩ : ∃ W0, w.alloc (.cells #[.int .i64 0, .int .i64 0, .int .i64 0, .int .i64 0, .int .i64 0, .int .i64 0, .int .i64 0, .slice none 0 0] 28) = W0 := ⟨_, rfl⟩
  have HB : Hid (W0.heap[B]? = some (.cells #[.int .i64 0, .int .i64 0, .int .i64 0, .int .i64 0, .int .i64 0, .int .i64 0, .int .i64 0, .slice none 0 0] 28 (0, 0))) := by rw [← hW0, ← hB]; exact heap_alloc_new w _
  have HO0 : Hid (Out Zone.no w W0) := by rw [← hW0]; exact (Out.refl _ _).alloc _
  have HNEW := Lib.hid (newrr_is W0 v L (hr.out HO0.out) hl)
  clear hr
  unfold gmsg
  simp only
  have a1 := rnum_len L 0
  obtain ⟨⟨n1, L1, e1⟩, h1⟩ : ∃ q, rnum L 0 = q := ⟨_, rfl⟩
  have C1 : Hid (∀ W x, RR W x L 0 → Calls Tryz.prog 30 #[.pointer (some ⟨x, 0, none⟩)] W fun en w' => en = .returned (.int .i64 n1) ∧ RR w' x L1 e1 ∧ Out (zx x) W w') := fun W x hp => by have := rrnum_is hp; rw [h1] at this; exact this
  rw [h1] at a1 ⊢
  simp only at a1 ⊢
  have a2 := rnum_len L1 e1
  obtain ⟨⟨n2, L2, e2⟩, h2⟩ : ∃ q, rnum L1 e1 = q := ⟨_, rfl⟩
  have C2 : Hid (∀ W x, RR W x L1 e1 → Calls Tryz.prog 30 #[.pointer (some ⟨x, 0, none⟩)] W fun en w' => en = .returned (.int .i64 n2) ∧ RR w' x L2 e2 ∧ Out (zx x) W w') := fun W x hp => by have := rrnum_is hp; rw [h2] at this; exact this
  rw [h2] at a2 ⊢
  simp only at a2 ⊢
  have a3 := rnum_len L2 e2
  obtain ⟨⟨n3, L3, e3⟩, h3⟩ : ∃ q, rnum L2 e2 = q := ⟨_, rfl⟩
  have C3 : Hid (∀ W x, RR W x L2 e2 → Calls Tryz.prog 30 #[.pointer (some ⟨x, 0, none⟩)] W fun en w' => en = .returned (.int .i64 n3) ∧ RR w' x L3 e3 ∧ Out (zx x) W w') := fun W x hp => by have := rrnum_is hp; rw [h3] at this; exact this
  rw [h3] at a3 ⊢
  simp only at a3 ⊢
  have a4 := rnum_len L3 e3
  obtain ⟨⟨n4, L4, e4⟩, h4⟩ : ∃ q, rnum L3 e3 = q := ⟨_, rfl⟩
  have C4 : Hid (∀ W x, RR W x L3 e3 → Calls Tryz.prog 30 #[.pointer (some ⟨x, 0, none⟩)] W fun en w' => en = .returned (.int .i64 n4) ∧ RR w' x L4 e4 ∧ Out (zx x) W w') := fun W x hp => by have := rrnum_is hp; rw [h4] at this; exact this
  rw [h4] at a4 ⊢
  simp only at a4 ⊢
  have a5 := rnum_len L4 e4
  obtain ⟨⟨n5, L5, e5⟩, h5⟩ : ∃ q, rnum L4 e4 = q := ⟨_, rfl⟩
  have C5 : Hid (∀ W x, RR W x L4 e4 → Calls Tryz.prog 30 #[.pointer (some ⟨x, 0, none⟩)] W fun en w' => en = .returned (.int .i64 n5) ∧ RR w' x L5 e5 ∧ Out (zx x) W w') := fun W x hp => by have := rrnum_is hp; rw [h5] at this; exact this
  rw [h5] at a5 ⊢
  simp only at a5 ⊢
  have a6 := rnum_len L5 e5
  obtain ⟨⟨n6, L6, e6⟩, h6⟩ : ∃ q, rnum L5 e5 = q := ⟨_, rfl⟩
  have C6 : Hid (∀ W x, RR W x L5 e5 → Calls Tryz.prog 30 #[.pointer (some ⟨x, 0, none⟩)] W fun en w' => en = .returned (.int .i64 n6) ∧ RR w' x L6 e6 ∧ Out (zx x) W w') := fun W x hp => by have := rrnum_is hp; rw [h6] at this; exact this
  rw [h6] at a6 ⊢
  simp only at a6 ⊢
  have a7 := rnum_len L6 e6
  obtain ⟨⟨n7, L7, e7⟩, h7⟩ : ∃ q, rnum L6 e6 = q := ⟨_, rfl⟩
  have C7 : Hid (∀ W x, RR W x L6 e6 → Calls Tryz.prog 30 #[.pointer (some ⟨x, 0, none⟩)] W fun en w' => en = .returned (.int .i64 n7) ∧ RR w' x L7 e7 ∧ Out (zx x) W w') := fun W x hp => by have := rrnum_is hp; rw [h7] at this; exact this
  rw [h7] at a7 ⊢
  simp only at a7 ⊢
  have a8 := rnum_len L7 e7
  obtain ⟨⟨n8, L8, e8⟩, h8⟩ : ∃ q, rnum L7 e7 = q := ⟨_, rfl⟩
  have C8 : Hid (∀ W x, RR W x L7 e7 → Calls Tryz.prog 30 #[.pointer (some ⟨x, 0, none⟩)] W fun en w' => en = .returned (.int .i64 n8) ∧ RR w' x L8 e8 ∧ Out (zx x) W w') := fun W x hp => by have := rrnum_is hp; rw [h8] at this; exact this
  rw [h8] at a8 ⊢
  simp only at a8 ⊢
  clear h1 h2 h3 h4 h5 h6 h7 h8
  obtain ⟨R, hR⟩ : ∃ R : Msg × Int, (if n8 < 0 ∨ 2048 < n8 then (zmsg, (21 : Int)) else gfin ⟨n1, n2, n3, n4, n5, n6, n7, []⟩ (rloop n8.toNat ([], L8, e8))) = R := ⟨_, rfl⟩
  rw [hR]
  obtain ⟨s0, hs0⟩ : ∃ s0 : Rd, (([], L8, e8) : Rd) = s0 := ⟨_, rfl⟩
  have HS0 : Hid (s0.1 = [] ∧ s0.2.1 = L8 ∧ s0.2.2 = e8) := by rw [← hs0]; exact ⟨rfl, rfl, rfl⟩
  rw [hs0] at hR
  have HRES := Lib.hid hR
  clear hs0 hR
  go_enter Tryz.func16, Tryz.ntmps16
  go_wp2_with (first
    | (go_at_call 29; refine HNEW.out.mono ?_; rintro e w1 ⟨x, rfl, hx, hp, ho⟩; have PP := Lib.hid hp; have OO := Lib.hid ho; have HPA : Hid ((zx x).Past W0.heap.size) := (fun k hk => by cases hk; exact hx); clear hp ho hx)
    | (go_at_call 30; refine (C1.out _ _ PP.out).mono ?_; rintro e w2 ⟨rfl, hp, ho⟩; have HXS : Hid (x < w2.heap.size) := (heap_lt hp.at_.choose_spec.choose_spec.choose_spec.choose_spec.1); have OO2 := Lib.hid (OO.out.fresh ho HPA.out); have TT : Hid ((w2.alloc (.cells #[.int .i64 n1, .int .i64 0, .int .i64 0, .int .i64 0, .int .i64 0, .int .i64 0, .int .i64 0, .slice none 0 0] 28)).heap[w2.heap.size]? = some (.cells #[.int .i64 n1, .int .i64 0, .int .i64 0, .int .i64 0, .int .i64 0, .int .i64 0, .int .i64 0, .slice none 0 0] 28 (0, 0))) := (heap_alloc_new w2 _); have o3 : Out Zone.no w2 (w2.alloc (.cells #[.int .i64 n1, .int .i64 0, .int .i64 0, .int .i64 0, .int .i64 0, .int .i64 0, .int .i64 0, .slice none 0 0] 28)) := ((Out.refl _ _).alloc _); have PP := Lib.hid (hp.out o3); have OO := Lib.hid (OO2.out.trans o3); have HXT : Hid (x < w2.heap.size) := HXS.out; have HNE : Hid (¬ (zx x).S w2.heap.size) := (fun e => by have e' : w2.heap.size = x := e; have := HXT.out; omega); have HTS : Hid (W0.heap.size ≤ w2.heap.size) := OO2.out.size; clear hp ho o3)
    | (go_at_call 30; refine (C2.out _ _ PP.out).mono ?_; rintro e w4 ⟨rfl, hp, ho⟩; have tt := ho.get TT.out HNE.out; have tc := cells_all tt 1; have tf := frozen_all tt 1; simp at tc; have tt2 := heap_set tt 1 (.int .i64 n2); simp at tt2; have TT := Lib.hid tt2; have PP := Lib.hid (hp.set HXT.out 1 (.int .i64 n2)); have OO := Lib.hid ((OO.out.fresh ho HPA.out).setCell (p := ⟨w2.heap.size, 1, none⟩) (Or.inr HTS.out) (.int .i64 n2)); clear hp ho tt tt2)
    | (go_at_call 30; refine (C3.out _ _ PP.out).mono ?_; rintro e w4 ⟨rfl, hp, ho⟩; have tt := ho.get TT.out HNE.out; have tc := cells_all tt 2; have tf := frozen_all tt 2; simp at tc; have tt2 := heap_set tt 2 (.int .i64 n3); simp at tt2; have TT := Lib.hid tt2; have PP := Lib.hid (hp.set HXT.out 2 (.int .i64 n3)); have OO := Lib.hid ((OO.out.fresh ho HPA.out).setCell (p := ⟨w2.heap.size, 2, none⟩) (Or.inr HTS.out) (.int .i64 n3)); clear hp ho tt tt2)
    | (go_at_call 30; refine (C4.out _ _ PP.out).mono ?_; rintro e w4 ⟨rfl, hp, ho⟩; have tt := ho.get TT.out HNE.out; have tc := cells_all tt 3; have tf := frozen_all tt 3; simp at tc; have tt2 := heap_set tt 3 (.int .i64 n4); simp at tt2; have TT := Lib.hid tt2; have PP := Lib.hid (hp.set HXT.out 3 (.int .i64 n4)); have OO := Lib.hid ((OO.out.fresh ho HPA.out).setCell (p := ⟨w2.heap.size, 3, none⟩) (Or.inr HTS.out) (.int .i64 n4)); clear hp ho tt tt2)
    | (go_at_call 30; refine (C5.out _ _ PP.out).mono ?_; rintro e w4 ⟨rfl, hp, ho⟩; have tt := ho.get TT.out HNE.out; have tc := cells_all tt 4; have tf := frozen_all tt 4; simp at tc; have tt2 := heap_set tt 4 (.int .i64 n5); simp at tt2; have TT := Lib.hid tt2; have PP := Lib.hid (hp.set HXT.out 4 (.int .i64 n5)); have OO := Lib.hid ((OO.out.fresh ho HPA.out).setCell (p := ⟨w2.heap.size, 4, none⟩) (Or.inr HTS.out) (.int .i64 n5)); clear hp ho tt tt2)
    | (go_at_call 30; refine (C6.out _ _ PP.out).mono ?_; rintro e w4 ⟨rfl, hp, ho⟩; have tt := ho.get TT.out HNE.out; have tc := cells_all tt 5; have tf := frozen_all tt 5; simp at tc; have tt2 := heap_set tt 5 (.int .i64 n6); simp at tt2; have TT := Lib.hid tt2; have PP := Lib.hid (hp.set HXT.out 5 (.int .i64 n6)); have OO := Lib.hid ((OO.out.fresh ho HPA.out).setCell (p := ⟨w2.heap.size, 5, none⟩) (Or.inr HTS.out) (.int .i64 n6)); clear hp ho tt tt2)
    | (go_at_call 30; refine (C7.out _ _ PP.out).mono ?_; rintro e w4 ⟨rfl, hp, ho⟩; have tt := ho.get TT.out HNE.out; have tc := cells_all tt 6; have tf := frozen_all tt 6; simp at tc; have tt2 := heap_set tt 6 (.int .i64 n7); simp at tt2; have TT := Lib.hid tt2; have PP := Lib.hid (hp.set HXT.out 6 (.int .i64 n7)); have OO := Lib.hid ((OO.out.fresh ho HPA.out).setCell (p := ⟨w2.heap.size, 6, none⟩) (Or.inr HTS.out) (.int .i64 n7)); clear hp ho tt tt2)
    | (go_at_call 30; refine (C8.out _ _ PP.out).mono ?_; rintro e w9 ⟨rfl, hp, ho⟩; have TT := Lib.hid (ho.get TT.out HNE.out); have PP := Lib.hid hp; have OO := Lib.hid (OO.out.fresh ho HPA.out); clear hp ho)
    | fail)
  obtain ⟨T, hT⟩ : ∃ T, w2.heap.size = T := ⟨_, rfl⟩
  rw [hT] at HXT TT HNE HTS ⊢
  have HPX : Hid ((zx x).Past W0.heap.size) := HPA.out
  clear hT
  go_loopw [7] (fun vi wr => ∃ i : Nat, i ≤ 2049 ∧ vi = .int .i64 (i : Int) ∧ Hid (i = 0 ∨ (i : Int) ≤ n8) ∧ ∃ A c, Hid (wr.heap[T]? = some (.cells #[.int .i64 n1, .int .i64 n2, .int .i64 n3, .int .i64 n4, .int .i64 n5, .int .i64 n6, .int .i64 n7, .slice A i c] 28 (0, 0)) ∧ GRow (fun k => T < k) wr 23 2 (.slice A i c) i (encL (rloop i s0).1) ∧ RR wr x (rloop i s0).2.1 (rloop i s0).2.2 ∧ Out Zone.no W0 wr)) (fun vi _ => 2049 - (intOf vi).toNat)
  case atStart =>
    refine ⟨0, by omega, rfl, Or.inl rfl, none, 0, TT.out, ?_, ?_, OO.out⟩
    · show GRow _ _ _ _ _ _ (encL s0.1)
      rw [HS0.out.1]; exact grow_nil _ _ _ _
    · show RR _ _ s0.2.1 s0.2.2
      rw [HS0.out.2.1, HS0.out.2.2]; exact PP.out
  case round =>
    obtain ⟨i, hi, rfl, hin, A, c, hinv⟩ := hrel
    rename_i wr
    have HLEN : Hid ((rloop i s0).1.length = i ∧ (rloop i s0).2.1.length ≤ 140737488355328) := by
      have h := rloop_len i s0
      rw [HS0.out.1, HS0.out.2.1] at h
      exact ⟨by simpa using h.1, by have := h.2; omega⟩
    have HFIT : Hid (Fits (rloop i s0).1) := fun y hy => by
      rcases rloop_fits i s0 y hy with h | h
      · rw [HS0.out.1] at h; cases h
      · rw [HS0.out.2.1] at h; omega
    have HEQ : Hid (¬ (i : Int) < n8 ∨ i = 2049 ∨ (rloop i s0).2.2 ≠ 0 → R = rfin n8 ⟨n1, n2, n3, n4, n5, n6, n7, []⟩ (rloop i s0)) := fun he => by
      rw [← HRES.out, rfin_eq HS0.out.1 hin.out hi he]
    obtain ⟨⟨es, Li, ei⟩, hs⟩ : ∃ s, rloop i s0 = s := ⟨_, rfl⟩
    have HSN : Hid (rloop (i + 1) s0 = rstep (es, Li, ei)) := by show rstep (rloop i s0) = _; rw [hs]
    rw [hs] at hinv HLEN HFIT HEQ
    simp only at hinv HLEN HFIT HEQ
    obtain ⟨g1, g2, g3, g4⟩ := hinv.out
    have r2 : wr.cell? ⟨x, 2, none⟩ = some (.int .i64 ei) := by
      obtain ⟨_, _, _, _, hx, _⟩ := g3.at_
      have := cells_all hx 2
      simpa using this
    have HG := Lib.hid (And.intro g1 (And.intro g2 (And.intro g3 g4)))
    clear hs hinv g1 g2 g3 g4 HS0 HRES
    by_cases hgo : (i : Int) < n8 ∧ i < 2049 ∧ ei = 0
    · obtain ⟨hlt, hl9, he0⟩ := hgo
      subst he0
      obtain ⟨g1, g2, g3, g4⟩ := HG.out
      obtain ⟨⟨nn, La, ea⟩, hna⟩ : ∃ q, rnum Li 0 = q := ⟨_, rfl⟩
      obtain ⟨⟨dd, Lb, eb⟩, hdb⟩ : ∃ q, rtxt La ea = q := ⟨_, rfl⟩
      have HS1 : Hid (rloop (i + 1) s0 = (es ++ [⟨nn, dd⟩], Lb, eb)) := by
        show _ = _
        rw [HSN.out]
        simp only [rstep]
        rw [hna]
        simp only
        rw [hdb]
      have HNUM : Hid (Calls Tryz.prog 30 #[.pointer (some ⟨x, 0, none⟩)] wr fun en w' => en = .returned (.int .i64 nn) ∧ RR w' x La ea ∧ Out (zx x) wr w') := by
        have := rrnum_is g3
        rw [hna] at this
        exact this
      have HTX : Hid (∀ W, RR W x La ea → Calls Tryz.prog 31 #[.pointer (some ⟨x, 0, none⟩)] W fun en w' => en = .returned (.string (str dd)) ∧ RR w' x Lb eb ∧ Out (zx x) W w') := fun W hp => by
        have := rrtxt_is hp
        rw [hdb] at this
        exact this
      have PUSH : Hid (∀ w3 w5, Out (zx x) wr w3 → Out (zx x) (w3.alloc (.cells #[.int .i64 nn, .string ⟨#[]⟩] 23)) w5 → RR w5 x Lb eb →
          (w5.cell? ⟨w3.heap.size, 1, none⟩ = some (.string ⟨#[]⟩) ∧ w5.frozen? ⟨w3.heap.size, 1, none⟩ = false) ∧
          ((w5.setCell ⟨w3.heap.size, 1, none⟩ (.string (str dd))).cell? ⟨T, 7, none⟩ = some (.slice A i c) ∧ (w5.setCell ⟨w3.heap.size, 1, none⟩ (.string (str dd))).cell? ⟨w3.heap.size, 0, none⟩ = some (.int .i64 nn) ∧ (w5.setCell ⟨w3.heap.size, 1, none⟩ (.string (str dd))).cell? ⟨w3.heap.size, 1, none⟩ = some (.string (str dd))) ∧
          ∃ A6 c6 w6, (Builtin.append_ #[26, 26] 26 #[.slice A i c, .slice (some ⟨w5.heap.size, 0, none⟩) 1 1]).run Tryz.prog ((w5.setCell ⟨w3.heap.size, 1, none⟩ (.string (str dd))).alloc (.cells #[.int .i64 nn, .string (str dd)] 23)) = .ok (.slice A6 (i + 1) c6) w6 ∧
          (w6.cell? ⟨T, 7, none⟩ = some (.slice A i c) ∧ w6.frozen? ⟨T, 7, none⟩ = false) ∧ Hid ((w6.setCell ⟨T, 7, none⟩ (.slice A6 (i + 1) c6)).heap[T]? = some (.cells #[.int .i64 n1, .int .i64 n2, .int .i64 n3, .int .i64 n4, .int .i64 n5, .int .i64 n6, .int .i64 n7, .slice A6 (i + 1) c6] 28 (0, 0)) ∧ GRow (fun k => T < k) (w6.setCell ⟨T, 7, none⟩ (.slice A6 (i + 1) c6)) 23 2 (.slice A6 (i + 1) c6) (i + 1) (encL (rloop (i + 1) s0).1) ∧ RR (w6.setCell ⟨T, 7, none⟩ (.slice A6 (i + 1) c6)) x (rloop (i + 1) s0).2.1 (rloop (i + 1) s0).2.2 ∧ Out Zone.no W0 (w6.setCell ⟨T, 7, none⟩ (.slice A6 (i + 1) c6)))) := fun w3 w5 ho3 ho5 hp5 => by
        have hTl : T < wr.heap.size := heap_lt g1
        have hXT : T < w3.heap.size := Nat.lt_of_lt_of_le hTl ho3.size
        have hxT := HXT.out
        have hxb := heap_alloc_new w3 (.cells #[.int .i64 nn, .string ⟨#[]⟩] 23)
        have hxb5 := ho5.get hxb (fun e => by have e' : w3.heap.size = x := e; omega)
        have hxb6 := heap_set hxb5 1 (.string (str dd))
        simp at hxb6
        have oal : Out Zone.no w3 (w3.alloc (.cells #[.int .i64 nn, .string ⟨#[]⟩] 23)) := (Out.refl _ _).alloc _
        have oX : Out (zx w3.heap.size) w5 (w5.setCell ⟨w3.heap.size, 1, none⟩ (.string (str dd))) := (Out.refl _ _).setCell (p := ⟨w3.heap.size, 1, none⟩) (Or.inl rfl) _
        have hT3 := ho3.get g1 HNE.out
        have hT5 := ho5.get (oal.get hT3 id) HNE.out
        have hT6 := oX.get hT5 (fun e => by have e' : T = w3.heap.size := e; omega)
        have p1 := cells_all hxb5 1
        have p2 := frozen_all hxb5 1
        have p3 := cells_all hT6 7
        have p4 := cells_all hxb6 0
        have p5 := cells_all hxb6 1
        simp at p1 p3 p4 p5
        have hg6 : GRow (fun k => T < k) (w5.setCell ⟨w3.heap.size, 1, none⟩ (.string (str dd))) 23 2 (.slice A i c) es.length (encL es) := by
          rw [HLEN.out.1]
          refine g2.keep (fun g hg => ?_) (fun g hg => (g2.mem hg).1)
          have hgm := g2.mem hg
          have h1 : T < g := hgm.1
          have h2 : g < w3.heap.size := Nat.lt_of_lt_of_le hgm.2.1 ho3.size
          have h3 : g < (w3.alloc (.cells #[.int .i64 nn, .string ⟨#[]⟩] 23)).heap.size := Nat.lt_of_lt_of_le h2 oal.size
          rw [oX.block g (Nat.lt_of_lt_of_le h3 ho5.size) (fun e => by have e' : g = w3.heap.size := e; omega), ho5.block g h3 (fun e => by have e' : g = x := e; omega), oal.block g h2 id]
          exact ho3.block g hgm.2.1 (fun e => by have e' : g = x := e; omega)
        obtain ⟨A6, c6, w6, hrun, hg7, ho6⟩ := log_push elem26r hg6 (heap_lt hT6) ⟨nn, dd⟩ (by rw [HLEN.out.1]; omega)
        rw [HLEN.out.1] at hrun hg7
        have hsz : (w5.setCell ⟨w3.heap.size, 1, none⟩ (.string (str dd))).heap.size = w5.heap.size := by simp [World.setCell]
        rw [hsz] at hrun
        have hT7 := ho6.get hT6 (fun e => Nat.lt_irrefl _ e)
        have hb7 := heap_set hT7 7 (.slice A6 (i + 1) c6)
        simp at hb7
        have q7 := cells_all hT7 7
        simp at q7
        have oT : Out (zx T) w6 (w6.setCell ⟨T, 7, none⟩ (.slice A6 (i + 1) c6)) := (Out.refl (zx T) w6).setCell (p := ⟨T, 7, none⟩) (Or.inl rfl) _
        refine ⟨⟨p1, p2⟩, ⟨p3, p4, p5⟩, A6, c6, w6, hrun, ⟨q7, frozen_all hT7 7⟩, hb7, ?_, ?_, ?_⟩
        · rw [HS1.out]
          refine hg7.keep (fun g hg => ?_) (fun g hg => (hg7.mem hg).1)
          have hgm := hg7.mem hg
          refine oT.block g hgm.2.1 (fun e => ?_)
          have e' : g = T := e
          have h1 : T < g := hgm.1
          omega
        · rw [HS1.out]
          exact ((hp5.far oX (fun k hk => by have h1 : k = w3.heap.size := hk; omega)).far ho6 (fun k hk => by have h1 : T < k := hk; omega)).far oT (fun k hk => by have h1 : k = T := hk; omega)
        · have hts := HTS.out
          exact ((((((g4.fresh ho3 HPX.out).trans oal).fresh ho5 HPX.out).fresh oX (fun k hk => by have h1 : k = w3.heap.size := hk; omega)).fresh ho6 (fun k hk => by have h1 : T < k := hk; omega))).fresh oT (fun k hk => by have h1 : k = T := hk; omega)
      clear hna hdb g1 g2 g3 g4 HG HSN HS1 HLEN HFIT HEQ
      go_wp2_with (first
        | (go_at_call 30; refine HNUM.out.mono ?_; rintro e w3 ⟨rfl, hp3, ho3⟩; have HP3 := Lib.hid (hp3.out ((Out.refl Zone.no w3).alloc (.cells #[.int .i64 nn, .string ⟨#[]⟩] 23))); have HO3 := Lib.hid ho3; clear hp3 ho3)
        | (go_at_call 31; refine (HTX.out _ HP3.out).mono ?_; rintro e w5 ⟨rfl, hp5, ho5⟩; obtain ⟨⟨p1, p2⟩, ⟨p3, p4, p5⟩, A6, c6, w6, hrun, ⟨z6, f6⟩, FIN⟩ := PUSH.out w3 w5 HO3.out ho5 hp5; have HR6 := Lib.hid hrun; clear hp5 ho5 hrun)
        | (at_builtin; refine wpList_builtin rfl _ _ _ rfl HR6.out ?_))
      go_roundw
      case rel => exact ⟨i + 1, by omega, by go_num, Or.inr (by omega), _, _, FIN⟩
      case measure => simp [intOf]; omega
    · have hstop : Hid (R = rfin n8 ⟨n1, n2, n3, n4, n5, n6, n7, []⟩ (es, Li, ei)) := HEQ.out (by
        by_cases h1 : (i : Int) < n8
        · by_cases h2 : i < 2049
          · exact Or.inr (Or.inr (fun h3 => hgo ⟨h1, h2, h3⟩))
          · exact Or.inr (Or.inl (by omega))
        · exact Or.inl h1)
      obtain ⟨g1, g2, g3, g4⟩ := HG.out
      have HWHY : Hid (¬ (i : Int) < n8 ∨ ((i : Int) < n8 ∧ ¬ (i : Int) < 2049) ∨ ((i : Int) < n8 ∧ (i : Int) < 2049 ∧ (ei == 0) = false)) := by
        by_cases h1 : (i : Int) < n8
        · by_cases h2 : i < 2049
          · exact Or.inr (Or.inr ⟨h1, by omega, by simpa using (fun h3 => hgo ⟨h1, h2, h3⟩ : ¬ ei = 0)⟩)
          · exact Or.inr (Or.inl ⟨h1, by omega⟩)
        · exact Or.inl h1
      have HROW : Hid (∀ W, Out Zone.no wr W → RRow (fun k => k = B) W (.slice A i c) es.length 2 (encL es)) := fun W ho => by
        rw [HLEN.out.1]
        exact (g2.any ho).reads (fun k hk e => by have h1 : T < k := hk; have h2 := heap_lt HB.out; have h3 := HTS.out; omega)
      have C32 := Lib.hid (rdone_is g3)
      have C35 : Hid (∀ W, Out Zone.no wr W → Calls Tryz.prog 35 #[.agg #[.int .i64 n1, .int .i64 n2, .int .i64 n3, .int .i64 n4, .int .i64 n5, .int .i64 n6, .int .i64 n7, .slice A i c]] W fun e w' => e = .returned (.bool (Msg.right ⟨n1, n2, n3, n4, n5, n6, n7, es⟩)) ∧ Out Zone.no W w') := fun W ho =>
        rmsg_is W _ ⟨n1, n2, n3, n4, n5, n6, n7, es⟩ _ (HROW.out W ho) (by show es.length ≤ _; rw [HLEN.out.1]; omega) HFIT.out
      have HTr := Lib.hid g1
      have OOr := Lib.hid g4
      have HBr := Lib.hid (g4.get HB.out id)
      have t0 := cells_all HTr.out 0; have t1 := cells_all HTr.out 1; have t2 := cells_all HTr.out 2; have t3 := cells_all HTr.out 3; have t4 := cells_all HTr.out 4; have t5 := cells_all HTr.out 5; have t6 := cells_all HTr.out 6; have t7 := cells_all HTr.out 7; simp at t0 t1 t2 t3 t4 t5 t6 t7
      have b0 := cells_all HBr.out 0; have c0 := frozen_all HBr.out 0; have b1 := cells_all HBr.out 1; have c1 := frozen_all HBr.out 1; have b2 := cells_all HBr.out 2; have c2 := frozen_all HBr.out 2; have b3 := cells_all HBr.out 3; have c3 := frozen_all HBr.out 3; have b4 := cells_all HBr.out 4; have c4 := frozen_all HBr.out 4; have b5 := cells_all HBr.out 5; have c5 := frozen_all HBr.out 5; have b6 := cells_all HBr.out 6; have c6 := frozen_all HBr.out 6; have b7 := cells_all HBr.out 7; have c7 := frozen_all HBr.out 7
      obtain ⟨f, hf⟩ : ∃ f, rdone Li ei = f := ⟨_, rfl⟩
      obtain ⟨g, hg⟩ : ∃ g, Msg.right ⟨n1, n2, n3, n4, n5, n6, n7, es⟩ = g := ⟨_, rfl⟩
      rw [hf] at C32
      rw [hg] at C35
      have HFG := Lib.hid (And.intro hf hg)
      clear g1 g2 g3 g4 hf hg HG HSN HFIT HEQ hgo
      by_cases hn : n8 < 0
      · have ha : ¬ (i : Int) < n8 := by omega
        go_wp2_with (first
          | (go_at_call 32; refine C32.out.mono ?_; rintro e w8 ⟨rfl, ho⟩; have OO8 := Lib.hid ho; have HB8 := Lib.hid (ho.get HBr.out id); have tt := ho.get HTr.out id; have t0 := cells_all tt 0; have t1 := cells_all tt 1; have t2 := cells_all tt 2; have t3 := cells_all tt 3; have t4 := cells_all tt 4; have t5 := cells_all tt 5; have t6 := cells_all tt 6; have t7 := cells_all tt 7; simp at t0 t1 t2 t3 t4 t5 t6 t7; have b0 := cells_all HB8.out 0; have c0 := frozen_all HB8.out 0; have b1 := cells_all HB8.out 1; have c1 := frozen_all HB8.out 1; have b2 := cells_all HB8.out 2; have c2 := frozen_all HB8.out 2; have b3 := cells_all HB8.out 3; have c3 := frozen_all HB8.out 3; have b4 := cells_all HB8.out 4; have c4 := frozen_all HB8.out 4; have b5 := cells_all HB8.out 5; have c5 := frozen_all HB8.out 5; have b6 := cells_all HB8.out 6; have c6 := frozen_all HB8.out 6; have b7 := cells_all HB8.out 7; have c7 := frozen_all HB8.out 7; clear ho tt)
          | (go_at_call 35; refine (C35.out _ OO8.out).mono ?_; rintro e w9 ⟨rfl, ho⟩; have OO9 := Lib.hid (OO8.out.trans ho); have HB9 := Lib.hid (OO9.out.get HBr.out id); have tt := OO9.out.get HTr.out id; have t0 := cells_all tt 0; have t1 := cells_all tt 1; have t2 := cells_all tt 2; have t3 := cells_all tt 3; have t4 := cells_all tt 4; have t5 := cells_all tt 5; have t6 := cells_all tt 6; have t7 := cells_all tt 7; simp at t0 t1 t2 t3 t4 t5 t6 t7; have b0 := cells_all HB9.out 0; have c0 := frozen_all HB9.out 0; have b1 := cells_all HB9.out 1; have c1 := frozen_all HB9.out 1; have b2 := cells_all HB9.out 2; have c2 := frozen_all HB9.out 2; have b3 := cells_all HB9.out 3; have c3 := frozen_all HB9.out 3; have b4 := cells_all HB9.out 4; have c4 := frozen_all HB9.out 4; have b5 := cells_all HB9.out 5; have c5 := frozen_all HB9.out 5; have b6 := cells_all HB9.out 6; have c6 := frozen_all HB9.out 6; have b7 := cells_all HB9.out 7; have c7 := frozen_all HB9.out 7; clear ho tt)
          | fail)
        have q := set8 HBr.out (.int .i64 0) (.int .i64 0) (.int .i64 0) (.int .i64 0) (.int .i64 0) (.int .i64 0) (.int .i64 0) (.slice none 0 0)
        have q0 := cells_all q 0
        have q1 := cells_all q 1
        have q2 := cells_all q 2
        have q3 := cells_all q 3
        have q4 := cells_all q 4
        have q5 := cells_all q 5
        have q6 := cells_all q 6
        have q7 := cells_all q 7
        simp at q0 q1 q2 q3 q4 q5 q6 q7
        have ofin := out8 (HO0.out.trans (OOr.out.trans (Out.refl _ _))) (Nat.le_of_eq hB) (.int .i64 0) (.int .i64 0) (.int .i64 0) (.int .i64 0) (.int .i64 0) (.int .i64 0) (.int .i64 0) (.slice none 0 0)
        clear b0 b1 b2 b3 b4 b5 b6 b7 c0 c1 c2 c3 c4 c5 c6 c7 t0 t1 t2 t3 t4 t5 t6 t7
        refine bodyPost_ret (v := .tuple #[.agg #[.int .i64 0, .int .i64 0, .int .i64 0, .int .i64 0, .int .i64 0, .int .i64 0, .int .i64 0, .slice none 0 0], .int .i64 21]) ?_ rfl ?_
        · simp [results, Tryz.results16, go_sem, q0, q1, q2, q3, q4, q5, q6, q7]
        · have hR : R = (zmsg, 21) := hstop.out.trans (if_pos hn)
          rw [hR]
          exact ⟨none, 0, rfl, rrow_nil _ _ _, ofin⟩
      · obtain hf0 | ⟨hf0, hf'⟩ : f = 0 ∨ (¬ f = 0 ∧ (f == 0) = false) := by
          by_cases h : f = 0
          · exact Or.inl h
          · exact Or.inr ⟨h, by simpa using h⟩
        · subst hf0
          cases g with
          | true =>
            rcases HWHY.out with ha | ⟨ha, hb⟩ | ⟨ha, hb, hc⟩
            · go_wp2_with (first
                | (go_at_call 32; refine C32.out.mono ?_; rintro e w8 ⟨rfl, ho⟩; have OO8 := Lib.hid ho; have HB8 := Lib.hid (ho.get HBr.out id); have tt := ho.get HTr.out id; have t0 := cells_all tt 0; have t1 := cells_all tt 1; have t2 := cells_all tt 2; have t3 := cells_all tt 3; have t4 := cells_all tt 4; have t5 := cells_all tt 5; have t6 := cells_all tt 6; have t7 := cells_all tt 7; simp at t0 t1 t2 t3 t4 t5 t6 t7; have b0 := cells_all HB8.out 0; have c0 := frozen_all HB8.out 0; have b1 := cells_all HB8.out 1; have c1 := frozen_all HB8.out 1; have b2 := cells_all HB8.out 2; have c2 := frozen_all HB8.out 2; have b3 := cells_all HB8.out 3; have c3 := frozen_all HB8.out 3; have b4 := cells_all HB8.out 4; have c4 := frozen_all HB8.out 4; have b5 := cells_all HB8.out 5; have c5 := frozen_all HB8.out 5; have b6 := cells_all HB8.out 6; have c6 := frozen_all HB8.out 6; have b7 := cells_all HB8.out 7; have c7 := frozen_all HB8.out 7; clear ho tt)
                | (go_at_call 35; refine (C35.out _ OO8.out).mono ?_; rintro e w9 ⟨rfl, ho⟩; have OO9 := Lib.hid (OO8.out.trans ho); have HB9 := Lib.hid (OO9.out.get HBr.out id); have tt := OO9.out.get HTr.out id; have t0 := cells_all tt 0; have t1 := cells_all tt 1; have t2 := cells_all tt 2; have t3 := cells_all tt 3; have t4 := cells_all tt 4; have t5 := cells_all tt 5; have t6 := cells_all tt 6; have t7 := cells_all tt 7; simp at t0 t1 t2 t3 t4 t5 t6 t7; have b0 := cells_all HB9.out 0; have c0 := frozen_all HB9.out 0; have b1 := cells_all HB9.out 1; have c1 := frozen_all HB9.out 1; have b2 := cells_all HB9.out 2; have c2 := frozen_all HB9.out 2; have b3 := cells_all HB9.out 3; have c3 := frozen_all HB9.out 3; have b4 := cells_all HB9.out 4; have c4 := frozen_all HB9.out 4; have b5 := cells_all HB9.out 5; have c5 := frozen_all HB9.out 5; have b6 := cells_all HB9.out 6; have c6 := frozen_all HB9.out 6; have b7 := cells_all HB9.out 7; have c7 := frozen_all HB9.out 7; clear ho tt)
                | fail)
              have q := set8 HB9.out (.int .i64 n1) (.int .i64 n2) (.int .i64 n3) (.int .i64 n4) (.int .i64 n5) (.int .i64 n6) (.int .i64 n7) (.slice A i c)
              have q0 := cells_all q 0
              have q1 := cells_all q 1
              have q2 := cells_all q 2
              have q3 := cells_all q 3
              have q4 := cells_all q 4
              have q5 := cells_all q 5
              have q6 := cells_all q 6
              have q7 := cells_all q 7
              simp at q0 q1 q2 q3 q4 q5 q6 q7
              have ofin := out8 (HO0.out.trans (OOr.out.trans OO9.out)) (Nat.le_of_eq hB) (.int .i64 n1) (.int .i64 n2) (.int .i64 n3) (.int .i64 n4) (.int .i64 n5) (.int .i64 n6) (.int .i64 n7) (.slice A i c)
              have HROWF := ((HROW.out _ OO9.out).keep (M := fun k => k = B) (outB8 w9 B (.int .i64 n1) (.int .i64 n2) (.int .i64 n3) (.int .i64 n4) (.int .i64 n5) (.int .i64 n6) (.int .i64 n7) (.slice A i c)) (fun k hk _ => hk)).less (N' := fun _ => False) (fun _ h => h.elim)
              clear b0 b1 b2 b3 b4 b5 b6 b7 c0 c1 c2 c3 c4 c5 c6 c7 t0 t1 t2 t3 t4 t5 t6 t7
              refine bodyPost_ret (v := .tuple #[.agg #[.int .i64 n1, .int .i64 n2, .int .i64 n3, .int .i64 n4, .int .i64 n5, .int .i64 n6, .int .i64 n7, .slice A i c], .int .i64 0]) ?_ rfl ?_
              · simp [results, Tryz.results16, go_sem, q0, q1, q2, q3, q4, q5, q6, q7]
              · have hR : R = (⟨n1, n2, n3, n4, n5, n6, n7, es⟩, 0) := hstop.out.trans ((if_neg (show ¬ n8 < 0 by omega)).trans (if_pos ⟨HFG.out.1, HFG.out.2⟩))
                rw [hR]
                refine ⟨A, c, ?_, ?_, ofin⟩
                rotate_left
                · show RRow _ _ (.slice A es.length c) es.length 2 (encL es)
                  have h := HROWF
                  rw [HLEN.out.1] at h ⊢
                  exact h
                show _ = Ending.returned (Value.tuple #[.agg #[.int .i64 n1, .int .i64 n2, .int .i64 n3, .int .i64 n4, .int .i64 n5, .int .i64 n6, .int .i64 n7, .slice A es.length c], .int .i64 0])
                rw [HLEN.out.1]
            · go_wp2_with (first
                | (go_at_call 32; refine C32.out.mono ?_; rintro e w8 ⟨rfl, ho⟩; have OO8 := Lib.hid ho; have HB8 := Lib.hid (ho.get HBr.out id); have tt := ho.get HTr.out id; have t0 := cells_all tt 0; have t1 := cells_all tt 1; have t2 := cells_all tt 2; have t3 := cells_all tt 3; have t4 := cells_all tt 4; have t5 := cells_all tt 5; have t6 := cells_all tt 6; have t7 := cells_all tt 7; simp at t0 t1 t2 t3 t4 t5 t6 t7; have b0 := cells_all HB8.out 0; have c0 := frozen_all HB8.out 0; have b1 := cells_all HB8.out 1; have c1 := frozen_all HB8.out 1; have b2 := cells_all HB8.out 2; have c2 := frozen_all HB8.out 2; have b3 := cells_all HB8.out 3; have c3 := frozen_all HB8.out 3; have b4 := cells_all HB8.out 4; have c4 := frozen_all HB8.out 4; have b5 := cells_all HB8.out 5; have c5 := frozen_all HB8.out 5; have b6 := cells_all HB8.out 6; have c6 := frozen_all HB8.out 6; have b7 := cells_all HB8.out 7; have c7 := frozen_all HB8.out 7; clear ho tt)
                | (go_at_call 35; refine (C35.out _ OO8.out).mono ?_; rintro e w9 ⟨rfl, ho⟩; have OO9 := Lib.hid (OO8.out.trans ho); have HB9 := Lib.hid (OO9.out.get HBr.out id); have tt := OO9.out.get HTr.out id; have t0 := cells_all tt 0; have t1 := cells_all tt 1; have t2 := cells_all tt 2; have t3 := cells_all tt 3; have t4 := cells_all tt 4; have t5 := cells_all tt 5; have t6 := cells_all tt 6; have t7 := cells_all tt 7; simp at t0 t1 t2 t3 t4 t5 t6 t7; have b0 := cells_all HB9.out 0; have c0 := frozen_all HB9.out 0; have b1 := cells_all HB9.out 1; have c1 := frozen_all HB9.out 1; have b2 := cells_all HB9.out 2; have c2 := frozen_all HB9.out 2; have b3 := cells_all HB9.out 3; have c3 := frozen_all HB9.out 3; have b4 := cells_all HB9.out 4; have c4 := frozen_all HB9.out 4; have b5 := cells_all HB9.out 5; have c5 := frozen_all HB9.out 5; have b6 := cells_all HB9.out 6; have c6 := frozen_all HB9.out 6; have b7 := cells_all HB9.out 7; have c7 := frozen_all HB9.out 7; clear ho tt)
                | fail)
              have q := set8 HB9.out (.int .i64 n1) (.int .i64 n2) (.int .i64 n3) (.int .i64 n4) (.int .i64 n5) (.int .i64 n6) (.int .i64 n7) (.slice A i c)
              have q0 := cells_all q 0
              have q1 := cells_all q 1
              have q2 := cells_all q 2
              have q3 := cells_all q 3
              have q4 := cells_all q 4
              have q5 := cells_all q 5
              have q6 := cells_all q 6
              have q7 := cells_all q 7
              simp at q0 q1 q2 q3 q4 q5 q6 q7
              have ofin := out8 (HO0.out.trans (OOr.out.trans OO9.out)) (Nat.le_of_eq hB) (.int .i64 n1) (.int .i64 n2) (.int .i64 n3) (.int .i64 n4) (.int .i64 n5) (.int .i64 n6) (.int .i64 n7) (.slice A i c)
              have HROWF := ((HROW.out _ OO9.out).keep (M := fun k => k = B) (outB8 w9 B (.int .i64 n1) (.int .i64 n2) (.int .i64 n3) (.int .i64 n4) (.int .i64 n5) (.int .i64 n6) (.int .i64 n7) (.slice A i c)) (fun k hk _ => hk)).less (N' := fun _ => False) (fun _ h => h.elim)
              clear b0 b1 b2 b3 b4 b5 b6 b7 c0 c1 c2 c3 c4 c5 c6 c7 t0 t1 t2 t3 t4 t5 t6 t7
              refine bodyPost_ret (v := .tuple #[.agg #[.int .i64 n1, .int .i64 n2, .int .i64 n3, .int .i64 n4, .int .i64 n5, .int .i64 n6, .int .i64 n7, .slice A i c], .int .i64 0]) ?_ rfl ?_
              · simp [results, Tryz.results16, go_sem, q0, q1, q2, q3, q4, q5, q6, q7]
              · have hR : R = (⟨n1, n2, n3, n4, n5, n6, n7, es⟩, 0) := hstop.out.trans ((if_neg (show ¬ n8 < 0 by omega)).trans (if_pos ⟨HFG.out.1, HFG.out.2⟩))
                rw [hR]
                refine ⟨A, c, ?_, ?_, ofin⟩
                rotate_left
                · show RRow _ _ (.slice A es.length c) es.length 2 (encL es)
                  have h := HROWF
                  rw [HLEN.out.1] at h ⊢
                  exact h
                show _ = Ending.returned (Value.tuple #[.agg #[.int .i64 n1, .int .i64 n2, .int .i64 n3, .int .i64 n4, .int .i64 n5, .int .i64 n6, .int .i64 n7, .slice A es.length c], .int .i64 0])
                rw [HLEN.out.1]
            · go_wp2_with (first
                | (go_at_call 32; refine C32.out.mono ?_; rintro e w8 ⟨rfl, ho⟩; have OO8 := Lib.hid ho; have HB8 := Lib.hid (ho.get HBr.out id); have tt := ho.get HTr.out id; have t0 := cells_all tt 0; have t1 := cells_all tt 1; have t2 := cells_all tt 2; have t3 := cells_all tt 3; have t4 := cells_all tt 4; have t5 := cells_all tt 5; have t6 := cells_all tt 6; have t7 := cells_all tt 7; simp at t0 t1 t2 t3 t4 t5 t6 t7; have b0 := cells_all HB8.out 0; have c0 := frozen_all HB8.out 0; have b1 := cells_all HB8.out 1; have c1 := frozen_all HB8.out 1; have b2 := cells_all HB8.out 2; have c2 := frozen_all HB8.out 2; have b3 := cells_all HB8.out 3; have c3 := frozen_all HB8.out 3; have b4 := cells_all HB8.out 4; have c4 := frozen_all HB8.out 4; have b5 := cells_all HB8.out 5; have c5 := frozen_all HB8.out 5; have b6 := cells_all HB8.out 6; have c6 := frozen_all HB8.out 6; have b7 := cells_all HB8.out 7; have c7 := frozen_all HB8.out 7; clear ho tt)
                | (go_at_call 35; refine (C35.out _ OO8.out).mono ?_; rintro e w9 ⟨rfl, ho⟩; have OO9 := Lib.hid (OO8.out.trans ho); have HB9 := Lib.hid (OO9.out.get HBr.out id); have tt := OO9.out.get HTr.out id; have t0 := cells_all tt 0; have t1 := cells_all tt 1; have t2 := cells_all tt 2; have t3 := cells_all tt 3; have t4 := cells_all tt 4; have t5 := cells_all tt 5; have t6 := cells_all tt 6; have t7 := cells_all tt 7; simp at t0 t1 t2 t3 t4 t5 t6 t7; have b0 := cells_all HB9.out 0; have c0 := frozen_all HB9.out 0; have b1 := cells_all HB9.out 1; have c1 := frozen_all HB9.out 1; have b2 := cells_all HB9.out 2; have c2 := frozen_all HB9.out 2; have b3 := cells_all HB9.out 3; have c3 := frozen_all HB9.out 3; have b4 := cells_all HB9.out 4; have c4 := frozen_all HB9.out 4; have b5 := cells_all HB9.out 5; have c5 := frozen_all HB9.out 5; have b6 := cells_all HB9.out 6; have c6 := frozen_all HB9.out 6; have b7 := cells_all HB9.out 7; have c7 := frozen_all HB9.out 7; clear ho tt)
                | fail)
              have q := set8 HB9.out (.int .i64 n1) (.int .i64 n2) (.int .i64 n3) (.int .i64 n4) (.int .i64 n5) (.int .i64 n6) (.int .i64 n7) (.slice A i c)
              have q0 := cells_all q 0
              have q1 := cells_all q 1
              have q2 := cells_all q 2
              have q3 := cells_all q 3
              have q4 := cells_all q 4
              have q5 := cells_all q 5
              have q6 := cells_all q 6
              have q7 := cells_all q 7
              simp at q0 q1 q2 q3 q4 q5 q6 q7
              have ofin := out8 (HO0.out.trans (OOr.out.trans OO9.out)) (Nat.le_of_eq hB) (.int .i64 n1) (.int .i64 n2) (.int .i64 n3) (.int .i64 n4) (.int .i64 n5) (.int .i64 n6) (.int .i64 n7) (.slice A i c)
              have HROWF := ((HROW.out _ OO9.out).keep (M := fun k => k = B) (outB8 w9 B (.int .i64 n1) (.int .i64 n2) (.int .i64 n3) (.int .i64 n4) (.int .i64 n5) (.int .i64 n6) (.int .i64 n7) (.slice A i c)) (fun k hk _ => hk)).less (N' := fun _ => False) (fun _ h => h.elim)
              clear b0 b1 b2 b3 b4 b5 b6 b7 c0 c1 c2 c3 c4 c5 c6 c7 t0 t1 t2 t3 t4 t5 t6 t7
              refine bodyPost_ret (v := .tuple #[.agg #[.int .i64 n1, .int .i64 n2, .int .i64 n3, .int .i64 n4, .int .i64 n5, .int .i64 n6, .int .i64 n7, .slice A i c], .int .i64 0]) ?_ rfl ?_
              · simp [results, Tryz.results16, go_sem, q0, q1, q2, q3, q4, q5, q6, q7]
              · have hR : R = (⟨n1, n2, n3, n4, n5, n6, n7, es⟩, 0) := hstop.out.trans ((if_neg (show ¬ n8 < 0 by omega)).trans (if_pos ⟨HFG.out.1, HFG.out.2⟩))
                rw [hR]
                refine ⟨A, c, ?_, ?_, ofin⟩
                rotate_left
                · show RRow _ _ (.slice A es.length c) es.length 2 (encL es)
                  have h := HROWF
                  rw [HLEN.out.1] at h ⊢
                  exact h
                show _ = Ending.returned (Value.tuple #[.agg #[.int .i64 n1, .int .i64 n2, .int .i64 n3, .int .i64 n4, .int .i64 n5, .int .i64 n6, .int .i64 n7, .slice A es.length c], .int .i64 0])
                rw [HLEN.out.1]
          | false =>
            rcases HWHY.out with ha | ⟨ha, hb⟩ | ⟨ha, hb, hc⟩
            · go_wp2_with (first
                | (go_at_call 32; refine C32.out.mono ?_; rintro e w8 ⟨rfl, ho⟩; have OO8 := Lib.hid ho; have HB8 := Lib.hid (ho.get HBr.out id); have tt := ho.get HTr.out id; have t0 := cells_all tt 0; have t1 := cells_all tt 1; have t2 := cells_all tt 2; have t3 := cells_all tt 3; have t4 := cells_all tt 4; have t5 := cells_all tt 5; have t6 := cells_all tt 6; have t7 := cells_all tt 7; simp at t0 t1 t2 t3 t4 t5 t6 t7; have b0 := cells_all HB8.out 0; have c0 := frozen_all HB8.out 0; have b1 := cells_all HB8.out 1; have c1 := frozen_all HB8.out 1; have b2 := cells_all HB8.out 2; have c2 := frozen_all HB8.out 2; have b3 := cells_all HB8.out 3; have c3 := frozen_all HB8.out 3; have b4 := cells_all HB8.out 4; have c4 := frozen_all HB8.out 4; have b5 := cells_all HB8.out 5; have c5 := frozen_all HB8.out 5; have b6 := cells_all HB8.out 6; have c6 := frozen_all HB8.out 6; have b7 := cells_all HB8.out 7; have c7 := frozen_all HB8.out 7; clear ho tt)
                | (go_at_call 35; refine (C35.out _ OO8.out).mono ?_; rintro e w9 ⟨rfl, ho⟩; have OO9 := Lib.hid (OO8.out.trans ho); have HB9 := Lib.hid (OO9.out.get HBr.out id); have tt := OO9.out.get HTr.out id; have t0 := cells_all tt 0; have t1 := cells_all tt 1; have t2 := cells_all tt 2; have t3 := cells_all tt 3; have t4 := cells_all tt 4; have t5 := cells_all tt 5; have t6 := cells_all tt 6; have t7 := cells_all tt 7; simp at t0 t1 t2 t3 t4 t5 t6 t7; have b0 := cells_all HB9.out 0; have c0 := frozen_all HB9.out 0; have b1 := cells_all HB9.out 1; have c1 := frozen_all HB9.out 1; have b2 := cells_all HB9.out 2; have c2 := frozen_all HB9.out 2; have b3 := cells_all HB9.out 3; have c3 := frozen_all HB9.out 3; have b4 := cells_all HB9.out 4; have c4 := frozen_all HB9.out 4; have b5 := cells_all HB9.out 5; have c5 := frozen_all HB9.out 5; have b6 := cells_all HB9.out 6; have c6 := frozen_all HB9.out 6; have b7 := cells_all HB9.out 7; have c7 := frozen_all HB9.out 7; clear ho tt)
                | fail)
              have q := set8 HB9.out (.int .i64 0) (.int .i64 0) (.int .i64 0) (.int .i64 0) (.int .i64 0) (.int .i64 0) (.int .i64 0) (.slice none 0 0)
              have q0 := cells_all q 0
              have q1 := cells_all q 1
              have q2 := cells_all q 2
              have q3 := cells_all q 3
              have q4 := cells_all q 4
              have q5 := cells_all q 5
              have q6 := cells_all q 6
              have q7 := cells_all q 7
              simp at q0 q1 q2 q3 q4 q5 q6 q7
              have ofin := out8 (HO0.out.trans (OOr.out.trans OO9.out)) (Nat.le_of_eq hB) (.int .i64 0) (.int .i64 0) (.int .i64 0) (.int .i64 0) (.int .i64 0) (.int .i64 0) (.int .i64 0) (.slice none 0 0)
              clear b0 b1 b2 b3 b4 b5 b6 b7 c0 c1 c2 c3 c4 c5 c6 c7 t0 t1 t2 t3 t4 t5 t6 t7
              refine bodyPost_ret (v := .tuple #[.agg #[.int .i64 0, .int .i64 0, .int .i64 0, .int .i64 0, .int .i64 0, .int .i64 0, .int .i64 0, .slice none 0 0], .int .i64 21]) ?_ rfl ?_
              · simp [results, Tryz.results16, go_sem, q0, q1, q2, q3, q4, q5, q6, q7]
              · have hR : R = (zmsg, 21) := hstop.out.trans ((if_neg (show ¬ n8 < 0 by omega)).trans (if_neg (fun h => by have h2 := h.2; have h3 := HFG.out.2; simp only at h2; rw [h3] at h2; cases h2)))
                rw [hR]
                exact ⟨none, 0, rfl, rrow_nil _ _ _, ofin⟩
            · go_wp2_with (first
                | (go_at_call 32; refine C32.out.mono ?_; rintro e w8 ⟨rfl, ho⟩; have OO8 := Lib.hid ho; have HB8 := Lib.hid (ho.get HBr.out id); have tt := ho.get HTr.out id; have t0 := cells_all tt 0; have t1 := cells_all tt 1; have t2 := cells_all tt 2; have t3 := cells_all tt 3; have t4 := cells_all tt 4; have t5 := cells_all tt 5; have t6 := cells_all tt 6; have t7 := cells_all tt 7; simp at t0 t1 t2 t3 t4 t5 t6 t7; have b0 := cells_all HB8.out 0; have c0 := frozen_all HB8.out 0; have b1 := cells_all HB8.out 1; have c1 := frozen_all HB8.out 1; have b2 := cells_all HB8.out 2; have c2 := frozen_all HB8.out 2; have b3 := cells_all HB8.out 3; have c3 := frozen_all HB8.out 3; have b4 := cells_all HB8.out 4; have c4 := frozen_all HB8.out 4; have b5 := cells_all HB8.out 5; have c5 := frozen_all HB8.out 5; have b6 := cells_all HB8.out 6; have c6 := frozen_all HB8.out 6; have b7 := cells_all HB8.out 7; have c7 := frozen_all HB8.out 7; clear ho tt)
                | (go_at_call 35; refine (C35.out _ OO8.out).mono ?_; rintro e w9 ⟨rfl, ho⟩; have OO9 := Lib.hid (OO8.out.trans ho); have HB9 := Lib.hid (OO9.out.get HBr.out id); have tt := OO9.out.get HTr.out id; have t0 := cells_all tt 0; have t1 := cells_all tt 1; have t2 := cells_all tt 2; have t3 := cells_all tt 3; have t4 := cells_all tt 4; have t5 := cells_all tt 5; have t6 := cells_all tt 6; have t7 := cells_all tt 7; simp at t0 t1 t2 t3 t4 t5 t6 t7; have b0 := cells_all HB9.out 0; have c0 := frozen_all HB9.out 0; have b1 := cells_all HB9.out 1; have c1 := frozen_all HB9.out 1; have b2 := cells_all HB9.out 2; have c2 := frozen_all HB9.out 2; have b3 := cells_all HB9.out 3; have c3 := frozen_all HB9.out 3; have b4 := cells_all HB9.out 4; have c4 := frozen_all HB9.out 4; have b5 := cells_all HB9.out 5; have c5 := frozen_all HB9.out 5; have b6 := cells_all HB9.out 6; have c6 := frozen_all HB9.out 6; have b7 := cells_all HB9.out 7; have c7 := frozen_all HB9.out 7; clear ho tt)
                | fail)
              have q := set8 HB9.out (.int .i64 0) (.int .i64 0) (.int .i64 0) (.int .i64 0) (.int .i64 0) (.int .i64 0) (.int .i64 0) (.slice none 0 0)
              have q0 := cells_all q 0
              have q1 := cells_all q 1
              have q2 := cells_all q 2
              have q3 := cells_all q 3
              have q4 := cells_all q 4
              have q5 := cells_all q 5
              have q6 := cells_all q 6
              have q7 := cells_all q 7
              simp at q0 q1 q2 q3 q4 q5 q6 q7
              have ofin := out8 (HO0.out.trans (OOr.out.trans OO9.out)) (Nat.le_of_eq hB) (.int .i64 0) (.int .i64 0) (.int .i64 0) (.int .i64 0) (.int .i64 0) (.int .i64 0) (.int .i64 0) (.slice none 0 0)
              clear b0 b1 b2 b3 b4 b5 b6 b7 c0 c1 c2 c3 c4 c5 c6 c7 t0 t1 t2 t3 t4 t5 t6 t7
              refine bodyPost_ret (v := .tuple #[.agg #[.int .i64 0, .int .i64 0, .int .i64 0, .int .i64 0, .int .i64 0, .int .i64 0, .int .i64 0, .slice none 0 0], .int .i64 21]) ?_ rfl ?_
              · simp [results, Tryz.results16, go_sem, q0, q1, q2, q3, q4, q5, q6, q7]
              · have hR : R = (zmsg, 21) := hstop.out.trans ((if_neg (show ¬ n8 < 0 by omega)).trans (if_neg (fun h => by have h2 := h.2; have h3 := HFG.out.2; simp only at h2; rw [h3] at h2; cases h2)))
                rw [hR]
                exact ⟨none, 0, rfl, rrow_nil _ _ _, ofin⟩
            · go_wp2_with (first
                | (go_at_call 32; refine C32.out.mono ?_; rintro e w8 ⟨rfl, ho⟩; have OO8 := Lib.hid ho; have HB8 := Lib.hid (ho.get HBr.out id); have tt := ho.get HTr.out id; have t0 := cells_all tt 0; have t1 := cells_all tt 1; have t2 := cells_all tt 2; have t3 := cells_all tt 3; have t4 := cells_all tt 4; have t5 := cells_all tt 5; have t6 := cells_all tt 6; have t7 := cells_all tt 7; simp at t0 t1 t2 t3 t4 t5 t6 t7; have b0 := cells_all HB8.out 0; have c0 := frozen_all HB8.out 0; have b1 := cells_all HB8.out 1; have c1 := frozen_all HB8.out 1; have b2 := cells_all HB8.out 2; have c2 := frozen_all HB8.out 2; have b3 := cells_all HB8.out 3; have c3 := frozen_all HB8.out 3; have b4 := cells_all HB8.out 4; have c4 := frozen_all HB8.out 4; have b5 := cells_all HB8.out 5; have c5 := frozen_all HB8.out 5; have b6 := cells_all HB8.out 6; have c6 := frozen_all HB8.out 6; have b7 := cells_all HB8.out 7; have c7 := frozen_all HB8.out 7; clear ho tt)
                | (go_at_call 35; refine (C35.out _ OO8.out).mono ?_; rintro e w9 ⟨rfl, ho⟩; have OO9 := Lib.hid (OO8.out.trans ho); have HB9 := Lib.hid (OO9.out.get HBr.out id); have tt := OO9.out.get HTr.out id; have t0 := cells_all tt 0; have t1 := cells_all tt 1; have t2 := cells_all tt 2; have t3 := cells_all tt 3; have t4 := cells_all tt 4; have t5 := cells_all tt 5; have t6 := cells_all tt 6; have t7 := cells_all tt 7; simp at t0 t1 t2 t3 t4 t5 t6 t7; have b0 := cells_all HB9.out 0; have c0 := frozen_all HB9.out 0; have b1 := cells_all HB9.out 1; have c1 := frozen_all HB9.out 1; have b2 := cells_all HB9.out 2; have c2 := frozen_all HB9.out 2; have b3 := cells_all HB9.out 3; have c3 := frozen_all HB9.out 3; have b4 := cells_all HB9.out 4; have c4 := frozen_all HB9.out 4; have b5 := cells_all HB9.out 5; have c5 := frozen_all HB9.out 5; have b6 := cells_all HB9.out 6; have c6 := frozen_all HB9.out 6; have b7 := cells_all HB9.out 7; have c7 := frozen_all HB9.out 7; clear ho tt)
                | fail)
              have q := set8 HB9.out (.int .i64 0) (.int .i64 0) (.int .i64 0) (.int .i64 0) (.int .i64 0) (.int .i64 0) (.int .i64 0) (.slice none 0 0)
              have q0 := cells_all q 0
              have q1 := cells_all q 1
              have q2 := cells_all q 2
              have q3 := cells_all q 3
              have q4 := cells_all q 4
              have q5 := cells_all q 5
              have q6 := cells_all q 6
              have q7 := cells_all q 7
              simp at q0 q1 q2 q3 q4 q5 q6 q7
              have ofin := out8 (HO0.out.trans (OOr.out.trans OO9.out)) (Nat.le_of_eq hB) (.int .i64 0) (.int .i64 0) (.int .i64 0) (.int .i64 0) (.int .i64 0) (.int .i64 0) (.int .i64 0) (.slice none 0 0)
              clear b0 b1 b2 b3 b4 b5 b6 b7 c0 c1 c2 c3 c4 c5 c6 c7 t0 t1 t2 t3 t4 t5 t6 t7
              refine bodyPost_ret (v := .tuple #[.agg #[.int .i64 0, .int .i64 0, .int .i64 0, .int .i64 0, .int .i64 0, .int .i64 0, .int .i64 0, .slice none 0 0], .int .i64 21]) ?_ rfl ?_
              · simp [results, Tryz.results16, go_sem, q0, q1, q2, q3, q4, q5, q6, q7]
              · have hR : R = (zmsg, 21) := hstop.out.trans ((if_neg (show ¬ n8 < 0 by omega)).trans (if_neg (fun h => by have h2 := h.2; have h3 := HFG.out.2; simp only at h2; rw [h3] at h2; cases h2)))
                rw [hR]
                exact ⟨none, 0, rfl, rrow_nil _ _ _, ofin⟩
        · skip
          rcases HWHY.out with ha | ⟨ha, hb⟩ | ⟨ha, hb, hc⟩
          · go_wp2_with (first
              | (go_at_call 32; refine C32.out.mono ?_; rintro e w8 ⟨rfl, ho⟩; have OO8 := Lib.hid ho; have HB8 := Lib.hid (ho.get HBr.out id); have tt := ho.get HTr.out id; have t0 := cells_all tt 0; have t1 := cells_all tt 1; have t2 := cells_all tt 2; have t3 := cells_all tt 3; have t4 := cells_all tt 4; have t5 := cells_all tt 5; have t6 := cells_all tt 6; have t7 := cells_all tt 7; simp at t0 t1 t2 t3 t4 t5 t6 t7; have b0 := cells_all HB8.out 0; have c0 := frozen_all HB8.out 0; have b1 := cells_all HB8.out 1; have c1 := frozen_all HB8.out 1; have b2 := cells_all HB8.out 2; have c2 := frozen_all HB8.out 2; have b3 := cells_all HB8.out 3; have c3 := frozen_all HB8.out 3; have b4 := cells_all HB8.out 4; have c4 := frozen_all HB8.out 4; have b5 := cells_all HB8.out 5; have c5 := frozen_all HB8.out 5; have b6 := cells_all HB8.out 6; have c6 := frozen_all HB8.out 6; have b7 := cells_all HB8.out 7; have c7 := frozen_all HB8.out 7; clear ho tt)
              | (go_at_call 35; refine (C35.out _ OO8.out).mono ?_; rintro e w9 ⟨rfl, ho⟩; have OO9 := Lib.hid (OO8.out.trans ho); have HB9 := Lib.hid (OO9.out.get HBr.out id); have tt := OO9.out.get HTr.out id; have t0 := cells_all tt 0; have t1 := cells_all tt 1; have t2 := cells_all tt 2; have t3 := cells_all tt 3; have t4 := cells_all tt 4; have t5 := cells_all tt 5; have t6 := cells_all tt 6; have t7 := cells_all tt 7; simp at t0 t1 t2 t3 t4 t5 t6 t7; have b0 := cells_all HB9.out 0; have c0 := frozen_all HB9.out 0; have b1 := cells_all HB9.out 1; have c1 := frozen_all HB9.out 1; have b2 := cells_all HB9.out 2; have c2 := frozen_all HB9.out 2; have b3 := cells_all HB9.out 3; have c3 := frozen_all HB9.out 3; have b4 := cells_all HB9.out 4; have c4 := frozen_all HB9.out 4; have b5 := cells_all HB9.out 5; have c5 := frozen_all HB9.out 5; have b6 := cells_all HB9.out 6; have c6 := frozen_all HB9.out 6; have b7 := cells_all HB9.out 7; have c7 := frozen_all HB9.out 7; clear ho tt)
              | fail)
            have q := set8 HB8.out (.int .i64 0) (.int .i64 0) (.int .i64 0) (.int .i64 0) (.int .i64 0) (.int .i64 0) (.int .i64 0) (.slice none 0 0)
            have q0 := cells_all q 0
            have q1 := cells_all q 1
            have q2 := cells_all q 2
            have q3 := cells_all q 3
            have q4 := cells_all q 4
            have q5 := cells_all q 5
            have q6 := cells_all q 6
            have q7 := cells_all q 7
            simp at q0 q1 q2 q3 q4 q5 q6 q7
            have ofin := out8 (HO0.out.trans (OOr.out.trans OO8.out)) (Nat.le_of_eq hB) (.int .i64 0) (.int .i64 0) (.int .i64 0) (.int .i64 0) (.int .i64 0) (.int .i64 0) (.int .i64 0) (.slice none 0 0)
            clear b0 b1 b2 b3 b4 b5 b6 b7 c0 c1 c2 c3 c4 c5 c6 c7 t0 t1 t2 t3 t4 t5 t6 t7
            refine bodyPost_ret (v := .tuple #[.agg #[.int .i64 0, .int .i64 0, .int .i64 0, .int .i64 0, .int .i64 0, .int .i64 0, .int .i64 0, .slice none 0 0], .int .i64 21]) ?_ rfl ?_
            · simp [results, Tryz.results16, go_sem, q0, q1, q2, q3, q4, q5, q6, q7]
            · have hR : R = (zmsg, 21) := hstop.out.trans ((if_neg (show ¬ n8 < 0 by omega)).trans (if_neg (fun h => hf0 (HFG.out.1.symm.trans h.1))))
              rw [hR]
              exact ⟨none, 0, rfl, rrow_nil _ _ _, ofin⟩
          · go_wp2_with (first
              | (go_at_call 32; refine C32.out.mono ?_; rintro e w8 ⟨rfl, ho⟩; have OO8 := Lib.hid ho; have HB8 := Lib.hid (ho.get HBr.out id); have tt := ho.get HTr.out id; have t0 := cells_all tt 0; have t1 := cells_all tt 1; have t2 := cells_all tt 2; have t3 := cells_all tt 3; have t4 := cells_all tt 4; have t5 := cells_all tt 5; have t6 := cells_all tt 6; have t7 := cells_all tt 7; simp at t0 t1 t2 t3 t4 t5 t6 t7; have b0 := cells_all HB8.out 0; have c0 := frozen_all HB8.out 0; have b1 := cells_all HB8.out 1; have c1 := frozen_all HB8.out 1; have b2 := cells_all HB8.out 2; have c2 := frozen_all HB8.out 2; have b3 := cells_all HB8.out 3; have c3 := frozen_all HB8.out 3; have b4 := cells_all HB8.out 4; have c4 := frozen_all HB8.out 4; have b5 := cells_all HB8.out 5; have c5 := frozen_all HB8.out 5; have b6 := cells_all HB8.out 6; have c6 := frozen_all HB8.out 6; have b7 := cells_all HB8.out 7; have c7 := frozen_all HB8.out 7; clear ho tt)
              | (go_at_call 35; refine (C35.out _ OO8.out).mono ?_; rintro e w9 ⟨rfl, ho⟩; have OO9 := Lib.hid (OO8.out.trans ho); have HB9 := Lib.hid (OO9.out.get HBr.out id); have tt := OO9.out.get HTr.out id; have t0 := cells_all tt 0; have t1 := cells_all tt 1; have t2 := cells_all tt 2; have t3 := cells_all tt 3; have t4 := cells_all tt 4; have t5 := cells_all tt 5; have t6 := cells_all tt 6; have t7 := cells_all tt 7; simp at t0 t1 t2 t3 t4 t5 t6 t7; have b0 := cells_all HB9.out 0; have c0 := frozen_all HB9.out 0; have b1 := cells_all HB9.out 1; have c1 := frozen_all HB9.out 1; have b2 := cells_all HB9.out 2; have c2 := frozen_all HB9.out 2; have b3 := cells_all HB9.out 3; have c3 := frozen_all HB9.out 3; have b4 := cells_all HB9.out 4; have c4 := frozen_all HB9.out 4; have b5 := cells_all HB9.out 5; have c5 := frozen_all HB9.out 5; have b6 := cells_all HB9.out 6; have c6 := frozen_all HB9.out 6; have b7 := cells_all HB9.out 7; have c7 := frozen_all HB9.out 7; clear ho tt)
              | fail)
            have q := set8 HB8.out (.int .i64 0) (.int .i64 0) (.int .i64 0) (.int .i64 0) (.int .i64 0) (.int .i64 0) (.int .i64 0) (.slice none 0 0)
            have q0 := cells_all q 0
            have q1 := cells_all q 1
            have q2 := cells_all q 2
            have q3 := cells_all q 3
            have q4 := cells_all q 4
            have q5 := cells_all q 5
            have q6 := cells_all q 6
            have q7 := cells_all q 7
            simp at q0 q1 q2 q3 q4 q5 q6 q7
            have ofin := out8 (HO0.out.trans (OOr.out.trans OO8.out)) (Nat.le_of_eq hB) (.int .i64 0) (.int .i64 0) (.int .i64 0) (.int .i64 0) (.int .i64 0) (.int .i64 0) (.int .i64 0) (.slice none 0 0)
            clear b0 b1 b2 b3 b4 b5 b6 b7 c0 c1 c2 c3 c4 c5 c6 c7 t0 t1 t2 t3 t4 t5 t6 t7
            refine bodyPost_ret (v := .tuple #[.agg #[.int .i64 0, .int .i64 0, .int .i64 0, .int .i64 0, .int .i64 0, .int .i64 0, .int .i64 0, .slice none 0 0], .int .i64 21]) ?_ rfl ?_
            · simp [results, Tryz.results16, go_sem, q0, q1, q2, q3, q4, q5, q6, q7]
            · have hR : R = (zmsg, 21) := hstop.out.trans ((if_neg (show ¬ n8 < 0 by omega)).trans (if_neg (fun h => hf0 (HFG.out.1.symm.trans h.1))))
              rw [hR]
              exact ⟨none, 0, rfl, rrow_nil _ _ _, ofin⟩
          · go_wp2_with (first
              | (go_at_call 32; refine C32.out.mono ?_; rintro e w8 ⟨rfl, ho⟩; have OO8 := Lib.hid ho; have HB8 := Lib.hid (ho.get HBr.out id); have tt := ho.get HTr.out id; have t0 := cells_all tt 0; have t1 := cells_all tt 1; have t2 := cells_all tt 2; have t3 := cells_all tt 3; have t4 := cells_all tt 4; have t5 := cells_all tt 5; have t6 := cells_all tt 6; have t7 := cells_all tt 7; simp at t0 t1 t2 t3 t4 t5 t6 t7; have b0 := cells_all HB8.out 0; have c0 := frozen_all HB8.out 0; have b1 := cells_all HB8.out 1; have c1 := frozen_all HB8.out 1; have b2 := cells_all HB8.out 2; have c2 := frozen_all HB8.out 2; have b3 := cells_all HB8.out 3; have c3 := frozen_all HB8.out 3; have b4 := cells_all HB8.out 4; have c4 := frozen_all HB8.out 4; have b5 := cells_all HB8.out 5; have c5 := frozen_all HB8.out 5; have b6 := cells_all HB8.out 6; have c6 := frozen_all HB8.out 6; have b7 := cells_all HB8.out 7; have c7 := frozen_all HB8.out 7; clear ho tt)
              | (go_at_call 35; refine (C35.out _ OO8.out).mono ?_; rintro e w9 ⟨rfl, ho⟩; have OO9 := Lib.hid (OO8.out.trans ho); have HB9 := Lib.hid (OO9.out.get HBr.out id); have tt := OO9.out.get HTr.out id; have t0 := cells_all tt 0; have t1 := cells_all tt 1; have t2 := cells_all tt 2; have t3 := cells_all tt 3; have t4 := cells_all tt 4; have t5 := cells_all tt 5; have t6 := cells_all tt 6; have t7 := cells_all tt 7; simp at t0 t1 t2 t3 t4 t5 t6 t7; have b0 := cells_all HB9.out 0; have c0 := frozen_all HB9.out 0; have b1 := cells_all HB9.out 1; have c1 := frozen_all HB9.out 1; have b2 := cells_all HB9.out 2; have c2 := frozen_all HB9.out 2; have b3 := cells_all HB9.out 3; have c3 := frozen_all HB9.out 3; have b4 := cells_all HB9.out 4; have c4 := frozen_all HB9.out 4; have b5 := cells_all HB9.out 5; have c5 := frozen_all HB9.out 5; have b6 := cells_all HB9.out 6; have c6 := frozen_all HB9.out 6; have b7 := cells_all HB9.out 7; have c7 := frozen_all HB9.out 7; clear ho tt)
              | fail)
            have q := set8 HB8.out (.int .i64 0) (.int .i64 0) (.int .i64 0) (.int .i64 0) (.int .i64 0) (.int .i64 0) (.int .i64 0) (.slice none 0 0)
            have q0 := cells_all q 0
            have q1 := cells_all q 1
            have q2 := cells_all q 2
            have q3 := cells_all q 3
            have q4 := cells_all q 4
            have q5 := cells_all q 5
            have q6 := cells_all q 6
            have q7 := cells_all q 7
            simp at q0 q1 q2 q3 q4 q5 q6 q7
            have ofin := out8 (HO0.out.trans (OOr.out.trans OO8.out)) (Nat.le_of_eq hB) (.int .i64 0) (.int .i64 0) (.int .i64 0) (.int .i64 0) (.int .i64 0) (.int .i64 0) (.int .i64 0) (.slice none 0 0)
            clear b0 b1 b2 b3 b4 b5 b6 b7 c0 c1 c2 c3 c4 c5 c6 c7 t0 t1 t2 t3 t4 t5 t6 t7
            refine bodyPost_ret (v := .tuple #[.agg #[.int .i64 0, .int .i64 0, .int .i64 0, .int .i64 0, .int .i64 0, .int .i64 0, .int .i64 0, .slice none 0 0], .int .i64 21]) ?_ rfl ?_
            · simp [results, Tryz.results16, go_sem, q0, q1, q2, q3, q4, q5, q6, q7]
            · have hR : R = (zmsg, 21) := hstop.out.trans ((if_neg (show ¬ n8 < 0 by omega)).trans (if_neg (fun h => hf0 (HFG.out.1.symm.trans h.1))))
              rw [hR]
              exact ⟨none, 0, rfl, rrow_nil _ _ _, ofin⟩
end Go.Proofs.YtlgoenimjmiapaaGreat
