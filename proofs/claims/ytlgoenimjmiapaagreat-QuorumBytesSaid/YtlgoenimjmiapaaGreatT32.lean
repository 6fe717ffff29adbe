import Derived.Test.YtlgoenimjmiapaaGreatT26
import Derived.Test.YtlgoenimjmiapaaGreatT31
set_option linter.unusedSimpArgs false
set_option linter.unusedVariables false
set_option linter.unusedSectionVars false
/-! What bytes say as a message; GetMessage, the program's. -/
set_option linter.unusedVariables false
set_option linter.unusedSimpArgs false
namespace Go.Proofs.YtlgoenimjmiapaaGreat
open Go.RowKit

/-- Entries, one behind the other. -/
abbrev Rd := List Ent × List UInt8 × Int
def rstep (s : Rd) : Rd := (s.1 ++ [⟨(rnum s.2.1 s.2.2).1, (rtxt (rnum s.2.1 s.2.2).2.1 (rnum s.2.1 s.2.2).2.2).1⟩], (rtxt (rnum s.2.1 s.2.2).2.1 (rnum s.2.1 s.2.2).2.2).2.1, (rtxt (rnum s.2.1 s.2.2).2.1 (rnum s.2.1 s.2.2).2.2).2.2)
def rloop : Nat → Rd → Rd
  | 0, s => s
  | k + 1, s => rstep (rloop k s)
theorem rloop_len (k : Nat) (s : Rd) : (rloop k s).1.length = s.1.length + k ∧ (rloop k s).2.1.length ≤ s.2.1.length := by
  induction k with
  | zero => exact ⟨rfl, Nat.le_refl _⟩
  | succ k ih =>
    refine ⟨?_, ?_⟩
    · show ((rloop k s).1 ++ [_]).length = _
      rw [List.length_append, ih.1]; simp; omega
    · exact Nat.le_trans (rtxt_len _ _).2 (Nat.le_trans (rnum_len _ _) ih.2)

theorem rloop_fits (k : Nat) (s : Rd) : ∀ y ∈ (rloop k s).1, y ∈ s.1 ∨ y.data.length ≤ s.2.1.length := by
  induction k with
  | zero => exact fun y hy => Or.inl hy
  | succ k ih =>
    intro y hy
    have hy' : y ∈ (rloop k s).1 ++ [_] := hy
    rw [List.mem_append, List.mem_singleton] at hy'
    rcases hy' with h | h
    · exact ih y h
    · refine Or.inr ?_
      rw [h]
      exact Nat.le_trans (rtxt_len _ _).1 (Nat.le_trans (rnum_len _ _) (rloop_len k s).2)
theorem GRow.reads {M N : Nat → Prop} {w : World} {e : TypeId} {sz n : Nat} {v : Value} {xs : List Value} (h : GRow M w e sz v n xs) (hN : ∀ k, M k → ¬ N k) : RRow N w v n sz xs := by
  refine ⟨h.1, ?_⟩
  rcases h.2 with ⟨hv, h0⟩ | ⟨g, cap, cur, hv, hm, hh, h1, h2, h3, h4⟩
  · refine ⟨none, 0, by rw [hv, h0], by omega, Nat.zero_le _, fun j u hu => ?_⟩
    have := h.1
    rw [h0, Nat.zero_mul] at this
    rw [List.eq_nil_of_length_eq_zero this] at hu
    cases hu
  · refine ⟨some ⟨g, 0, none⟩, cap, hv, h1, h2, fun j u hu => ⟨g, 0, rfl, hN g hm, ?_⟩⟩
    obtain ⟨g', c', hv', hc⟩ := GRow.cell h hu
    rw [hv] at hv'
    injection hv' with e
    injection e with e
    injection e with e
    subst e
    rw [Nat.zero_add]
    exact hc
theorem outB8 (W : World) (B : Nat) (a b c d e f g h : Value) :
    Out (Zone.m (fun k => k = B)) W ((((((((W.setCell ⟨B, 0, none⟩ a).setCell ⟨B, 1, none⟩ b).setCell ⟨B, 2, none⟩ c).setCell ⟨B, 3, none⟩ d).setCell ⟨B, 4, none⟩ e).setCell ⟨B, 5, none⟩ f).setCell ⟨B, 6, none⟩ g).setCell ⟨B, 7, none⟩ h) :=
  ((((((((Out.refl _ W).setCell (p := ⟨B, 0, none⟩) (Or.inl rfl) _).setCell (p := ⟨B, 1, none⟩) (Or.inl rfl) _).setCell (p := ⟨B, 2, none⟩) (Or.inl rfl) _).setCell (p := ⟨B, 3, none⟩) (Or.inl rfl) _).setCell (p := ⟨B, 4, none⟩) (Or.inl rfl) _).setCell (p := ⟨B, 5, none⟩) (Or.inl rfl) _).setCell (p := ⟨B, 6, none⟩) (Or.inl rfl) _).setCell (p := ⟨B, 7, none⟩) (Or.inl rfl) _

def zmsg : Msg := ⟨0, 0, 0, 0, 0, 0, 0, []⟩
def gfin (m : Msg) (s : Rd) : Msg × Int := if rdone s.2.1 s.2.2 = 0 ∧ Msg.right ⟨m.kind, m.frm, m.to, m.ep, m.at_, m.last, m.commit, s.1⟩ = true then (⟨m.kind, m.frm, m.to, m.ep, m.at_, m.last, m.commit, s.1⟩, 0) else (zmsg, 21)
/-- What bytes say as a message. -/
def gmsg (L : List UInt8) : Msg × Int :=
  let q1 := rnum L 0
  let q2 := rnum q1.2.1 q1.2.2
  let q3 := rnum q2.2.1 q2.2.2
  let q4 := rnum q3.2.1 q3.2.2
  let q5 := rnum q4.2.1 q4.2.2
  let q6 := rnum q5.2.1 q5.2.2
  let q7 := rnum q6.2.1 q6.2.2
  let q8 := rnum q7.2.1 q7.2.2
  if q8.1 < 0 ∨ 2048 < q8.1 then (zmsg, 21)
  else gfin ⟨q1.1, q2.1, q3.1, q4.1, q5.1, q6.1, q7.1, []⟩ (rloop q8.1.toNat ([], q8.2))

/-- What lies behind the block T. -/
def zb (T : Nat) : Zone := ⟨fun k => T < k, fun k => T < k, fun _ h => h⟩
theorem PR.far {w w' : World} {x : Nat} {L : List UInt8} {e : Int} {Z : Zone} (h : PR w x L e) (ho : Out Z w w') (hS : ∀ k, Z.S k → x < k) : PR w' x L e := by
  obtain ⟨A, c, h1, h2⟩ := h.at_
  exact ⟨A, c, ho.get h1 (fun e => Nat.lt_irrefl _ (hS x e)), Row.far h2 ho (fun k hk => Nat.le_of_lt (hS k hk))⟩
theorem RR.far {w w' : World} {x : Nat} {L : List UInt8} {e : Int} {Z : Zone} (h : RR w x L e) (ho : Out Z w w') (hS : ∀ k, Z.S k → x < k) : RR w' x L e := by
  obtain ⟨A, c, F, k, h1, h2, h3⟩ := h.at_
  exact ⟨A, c, F, k, ho.get h1 (fun e => Nat.lt_irrefl _ (hS x e)), Row.far h2 ho (fun k hk => Nat.le_of_lt (hS k hk)), h3⟩

/-- An entry behind a log. -/
theorem log_push {t e : TypeId} (E : ElemN Tryz.prog t e (.agg #[.int .i64 0, .string ⟨#[]⟩]) 2 24) {T : Nat} {w : World} {v : Value} {l : List Ent} (h : GRow (fun k => T < k) w e 2 v l.length (encL l)) (hT : T < w.heap.size) (y : Ent) (hl : l.length ≤ 3000) :
    ∃ A c w', (Builtin.append_ #[t, t] t #[v, .slice (some ⟨w.heap.size, 0, none⟩) 1 1]).run Tryz.prog (w.alloc (.cells #[.int .i64 y.ep, .string (str y.data)] e)) = .ok (.slice A (l.length + 1) c) w' ∧
      GRow (fun k => T < k) w' e 2 (.slice A (l.length + 1) c) (l.length + 1) (encL (l ++ [y])) ∧ Out (zb T) w w' := by
  have o1 := (Out.refl Zone.no w).alloc (.cells #[.int .i64 y.ep, .string (str y.data)] e)
  have hb := heap_alloc_new w (.cells #[.int .i64 y.ep, .string (str y.data)] e)
  obtain ⟨v', w', hrun, h2, h3, h4⟩ := GRow.append E (h.any o1) t ⟨w.heap.size, 0, none⟩ 1 1 [.int .i64 y.ep, .string (str y.data)] rfl (fun j u hu => by
    rw [addr0_add, cells_all hb]
    simpa using hu) (by simp [Value.oneCell']) (le_maxLen (by omega)) (by omega)
  obtain ⟨A, c, rfl⟩ := GRow.form h2
  refine ⟨A, c, w', hrun, ?_, ?_⟩
  · rw [encL_append]
    exact h2.wide (fun k hk => by
      rcases hk with hk | hk
      · exact hk
      · have := o1.size; omega)
  · refine (o1.mono0).grown h3 (fun k hk => Or.inl ?_)
    exact (h.mem hk).1

set_option maxRecDepth 100000 in
set_option maxHeartbeats 2000000 in
theorem gmsg_is (w : World) (v : Value) (L : List UInt8) (hr : Row Zone.no w v (bytes L)) (hl : L.length ≤ 140737488355328) :
    Calls Tryz.prog 15 #[v] w fun e w' => ∃ A c, e = .returned (.tuple #[.agg ((gmsg L).1.cells (.slice A (gmsg L).1.log.length c)).toArray, .int .i64 (gmsg L).2]) ∧ RRow (fun _ => False) w' (.slice A (gmsg L).1.log.length c) (gmsg L).1.log.length 2 (encL (gmsg L).1.log) ∧ Out Zone.no w w' := by
  obtain ⟨B, hB⟩ : ∃ B, w.heap.size = B := ⟨_, rfl⟩
  obtain ⟨W0, hW0⟩ : ∃ W0, w.alloc (.cells #[.int .i64 0, .int .i64 0, .int .i64 0, .int .i64 0, .int .i64 0, .int .i64 0, .int .i64 0, .slice none 0 0] 49) = W0 := ⟨_, rfl⟩
  have HB : Hid (W0.heap[B]? = some (.cells #[.int .i64 0, .int .i64 0, .int .i64 0, .int .i64 0, .int .i64 0, .int .i64 0, .int .i64 0, .slice none 0 0] 49 (0, 0))) := by rw [← hW0, ← hB]; exact heap_alloc_new w _
  have HO0 : Hid (Out Zone.no w W0) := by rw [← hW0]; exact (Out.refl _ _).alloc _
  have HNEW := Lib.hid (newrd_is W0 v L (hr.out HO0.out) hl)
  clear hr
  unfold gmsg
  simp only
  have a1 := rnum_len L 0
  obtain ⟨⟨n1, L1, e1⟩, h1⟩ : ∃ q, rnum L 0 = q := ⟨_, rfl⟩
  have C1 : Hid (∀ W x, PR W x L 0 → Calls Tryz.prog 26 #[.pointer (some ⟨x, 0, none⟩)] W fun en w' => en = .returned (.int .i64 n1) ∧ PR w' x L1 e1 ∧ Out (zx x) W w') := fun W x hp => by have := rdnum_is hp; rw [h1] at this; exact this
  rw [h1] at a1 ⊢
  simp only at a1 ⊢
  have a2 := rnum_len L1 e1
  obtain ⟨⟨n2, L2, e2⟩, h2⟩ : ∃ q, rnum L1 e1 = q := ⟨_, rfl⟩
  have C2 : Hid (∀ W x, PR W x L1 e1 → Calls Tryz.prog 26 #[.pointer (some ⟨x, 0, none⟩)] W fun en w' => en = .returned (.int .i64 n2) ∧ PR w' x L2 e2 ∧ Out (zx x) W w') := fun W x hp => by have := rdnum_is hp; rw [h2] at this; exact this
  rw [h2] at a2 ⊢
  simp only at a2 ⊢
  have a3 := rnum_len L2 e2
  obtain ⟨⟨n3, L3, e3⟩, h3⟩ : ∃ q, rnum L2 e2 = q := ⟨_, rfl⟩
  have C3 : Hid (∀ W x, PR W x L2 e2 → Calls Tryz.prog 26 #[.pointer (some ⟨x, 0, none⟩)] W fun en w' => en = .returned (.int .i64 n3) ∧ PR w' x L3 e3 ∧ Out (zx x) W w') := fun W x hp => by have := rdnum_is hp; rw [h3] at this; exact this
  rw [h3] at a3 ⊢
  simp only at a3 ⊢
  have a4 := rnum_len L3 e3
  obtain ⟨⟨n4, L4, e4⟩, h4⟩ : ∃ q, rnum L3 e3 = q := ⟨_, rfl⟩
  have C4 : Hid (∀ W x, PR W x L3 e3 → Calls Tryz.prog 26 #[.pointer (some ⟨x, 0, none⟩)] W fun en w' => en = .returned (.int .i64 n4) ∧ PR w' x L4 e4 ∧ Out (zx x) W w') := fun W x hp => by have := rdnum_is hp; rw [h4] at this; exact this
  rw [h4] at a4 ⊢
  simp only at a4 ⊢
  have a5 := rnum_len L4 e4
  obtain ⟨⟨n5, L5, e5⟩, h5⟩ : ∃ q, rnum L4 e4 = q := ⟨_, rfl⟩
  have C5 : Hid (∀ W x, PR W x L4 e4 → Calls Tryz.prog 26 #[.pointer (some ⟨x, 0, none⟩)] W fun en w' => en = .returned (.int .i64 n5) ∧ PR w' x L5 e5 ∧ Out (zx x) W w') := fun W x hp => by have := rdnum_is hp; rw [h5] at this; exact this
  rw [h5] at a5 ⊢
  simp only at a5 ⊢
  have a6 := rnum_len L5 e5
  obtain ⟨⟨n6, L6, e6⟩, h6⟩ : ∃ q, rnum L5 e5 = q := ⟨_, rfl⟩
  have C6 : Hid (∀ W x, PR W x L5 e5 → Calls Tryz.prog 26 #[.pointer (some ⟨x, 0, none⟩)] W fun en w' => en = .returned (.int .i64 n6) ∧ PR w' x L6 e6 ∧ Out (zx x) W w') := fun W x hp => by have := rdnum_is hp; rw [h6] at this; exact this
  rw [h6] at a6 ⊢
  simp only at a6 ⊢
  have a7 := rnum_len L6 e6
  obtain ⟨⟨n7, L7, e7⟩, h7⟩ : ∃ q, rnum L6 e6 = q := ⟨_, rfl⟩
  have C7 : Hid (∀ W x, PR W x L6 e6 → Calls Tryz.prog 26 #[.pointer (some ⟨x, 0, none⟩)] W fun en w' => en = .returned (.int .i64 n7) ∧ PR w' x L7 e7 ∧ Out (zx x) W w') := fun W x hp => by have := rdnum_is hp; rw [h7] at this; exact this
  rw [h7] at a7 ⊢
  simp only at a7 ⊢
  have a8 := rnum_len L7 e7
  obtain ⟨⟨n8, L8, e8⟩, h8⟩ : ∃ q, rnum L7 e7 = q := ⟨_, rfl⟩
  have C8 : Hid (∀ W x, PR W x L7 e7 → Calls Tryz.prog 26 #[.pointer (some ⟨x, 0, none⟩)] W fun en w' => en = .returned (.int .i64 n8) ∧ PR w' x L8 e8 ∧ Out (zx x) W w') := fun W x hp => by have := rdnum_is hp; rw [h8] at this; exact this
  rw [h8] at a8 ⊢
  simp only at a8 ⊢
  clear h1 h2 h3 h4 h5 h6 h7 h8
  by_cases hn : n8 < 0 ∨ 2048 < n8
  · rw [if_pos hn]
    have hn' : (decide (n8 < 0) || decide (2048 < n8)) = true := by simpa using hn
    rcases hn with hn | hn
    · go_enter Tryz.func15, Tryz.ntmps15
      go_wp2_with (first
        | (go_at_call 25; refine HNEW.out.mono ?_; rintro e w1 ⟨x, rfl, hx, hp, ho⟩; have PP := Lib.hid hp; have OO := Lib.hid ho; have HPA : Hid ((zx x).Past W0.heap.size) := (fun k hk => by cases hk; exact hx); clear hp ho hx)
        | (go_at_call 26; (first | refine (C1.out _ _ PP.out).mono ?_ | refine (C2.out _ _ PP.out).mono ?_ | refine (C3.out _ _ PP.out).mono ?_ | refine (C4.out _ _ PP.out).mono ?_ | refine (C5.out _ _ PP.out).mono ?_ | refine (C6.out _ _ PP.out).mono ?_); rintro e w2 ⟨rfl, hp, ho⟩; have PP := Lib.hid hp; have OO := Lib.hid (OO.out.fresh ho HPA.out); clear hp ho)
        | (go_at_call 26; refine (C7.out _ _ PP.out).mono ?_; rintro e w2 ⟨rfl, hp, ho⟩; have HXT : Hid (x < w2.heap.size) := (heap_lt hp.at_.choose_spec.choose_spec.1); have OO2 := Lib.hid (OO.out.fresh ho HPA.out); have TT : Hid ((w2.alloc (.cells #[.int .i64 n1, .int .i64 n2, .int .i64 n3, .int .i64 n4, .int .i64 n5, .int .i64 n6, .int .i64 n7, .slice none 0 0] 49)).heap[w2.heap.size]? = some (.cells #[.int .i64 n1, .int .i64 n2, .int .i64 n3, .int .i64 n4, .int .i64 n5, .int .i64 n6, .int .i64 n7, .slice none 0 0] 49 (0, 0))) := (heap_alloc_new w2 _); have o3 : Out Zone.no w2 (w2.alloc (.cells #[.int .i64 n1, .int .i64 n2, .int .i64 n3, .int .i64 n4, .int .i64 n5, .int .i64 n6, .int .i64 n7, .slice none 0 0] 49)) := ((Out.refl _ _).alloc _); have PP := Lib.hid (hp.out o3); have OO := Lib.hid (OO2.out.trans o3); have HNE : Hid (¬ (zx x).S w2.heap.size) := (fun e => by have e' : w2.heap.size = x := e; have := HXT.out; omega); have HTS : Hid (W0.heap.size ≤ w2.heap.size) := OO2.out.size; clear hp ho o3)
        | (go_at_call 26; refine (C8.out _ _ PP.out).mono ?_; rintro e w9 ⟨rfl, hp, ho⟩; have TT := Lib.hid (ho.get TT.out HNE.out); have PP := Lib.hid hp; have OO := Lib.hid (OO.out.fresh ho HPA.out); have HB9 := Lib.hid (OO.out.get HB.out id); have b0 := cells_all HB9.out 0; have c0 := frozen_all HB9.out 0; have b1 := cells_all HB9.out 1; have c1 := frozen_all HB9.out 1; have b2 := cells_all HB9.out 2; have c2 := frozen_all HB9.out 2; have b3 := cells_all HB9.out 3; have c3 := frozen_all HB9.out 3; have b4 := cells_all HB9.out 4; have c4 := frozen_all HB9.out 4; have b5 := cells_all HB9.out 5; have c5 := frozen_all HB9.out 5; have b6 := cells_all HB9.out 6; have c6 := frozen_all HB9.out 6; have b7 := cells_all HB9.out 7; have c7 := frozen_all HB9.out 7; clear hp ho)
        | fail)
      have q := set8 HB9.out (.int .i64 0) (.int .i64 0) (.int .i64 0) (.int .i64 0) (.int .i64 0) (.int .i64 0) (.int .i64 0) (.slice none 0 0)
      have q0 := cells_all q 0
      have q1 := cells_all q 1
      have q2 := cells_all q 2
      have q3 := cells_all q 3
      have q4 := cells_all q 4
      have q5 := cells_all q 5
      have q6 := cells_all q 6
      have q7 := cells_all q 7
      simp at q0 q1 q2 q3 q4 q5 q6 q7
      have ofin := out8 (HO0.out.trans OO.out) (Nat.le_of_eq hB) (.int .i64 0) (.int .i64 0) (.int .i64 0) (.int .i64 0) (.int .i64 0) (.int .i64 0) (.int .i64 0) (.slice none 0 0)
      clear b0 b1 b2 b3 b4 b5 b6 b7 c0 c1 c2 c3 c4 c5 c6 c7
      refine bodyPost_ret (v := .tuple #[.agg #[.int .i64 0, .int .i64 0, .int .i64 0, .int .i64 0, .int .i64 0, .int .i64 0, .int .i64 0, .slice none 0 0], .int .i64 21]) ?_ rfl ⟨none, 0, rfl, rrow_nil _ _ _, ofin⟩
      simp [results, Tryz.results15, go_sem, q0, q1, q2, q3, q4, q5, q6, q7]
    · go_enter Tryz.func15, Tryz.ntmps15
      go_wp2_with (first
        | (go_at_call 25; refine HNEW.out.mono ?_; rintro e w1 ⟨x, rfl, hx, hp, ho⟩; have PP := Lib.hid hp; have OO := Lib.hid ho; have HPA : Hid ((zx x).Past W0.heap.size) := (fun k hk => by cases hk; exact hx); clear hp ho hx)
        | (go_at_call 26; (first | refine (C1.out _ _ PP.out).mono ?_ | refine (C2.out _ _ PP.out).mono ?_ | refine (C3.out _ _ PP.out).mono ?_ | refine (C4.out _ _ PP.out).mono ?_ | refine (C5.out _ _ PP.out).mono ?_ | refine (C6.out _ _ PP.out).mono ?_); rintro e w2 ⟨rfl, hp, ho⟩; have PP := Lib.hid hp; have OO := Lib.hid (OO.out.fresh ho HPA.out); clear hp ho)
        | (go_at_call 26; refine (C7.out _ _ PP.out).mono ?_; rintro e w2 ⟨rfl, hp, ho⟩; have HXT : Hid (x < w2.heap.size) := (heap_lt hp.at_.choose_spec.choose_spec.1); have OO2 := Lib.hid (OO.out.fresh ho HPA.out); have TT : Hid ((w2.alloc (.cells #[.int .i64 n1, .int .i64 n2, .int .i64 n3, .int .i64 n4, .int .i64 n5, .int .i64 n6, .int .i64 n7, .slice none 0 0] 49)).heap[w2.heap.size]? = some (.cells #[.int .i64 n1, .int .i64 n2, .int .i64 n3, .int .i64 n4, .int .i64 n5, .int .i64 n6, .int .i64 n7, .slice none 0 0] 49 (0, 0))) := (heap_alloc_new w2 _); have o3 : Out Zone.no w2 (w2.alloc (.cells #[.int .i64 n1, .int .i64 n2, .int .i64 n3, .int .i64 n4, .int .i64 n5, .int .i64 n6, .int .i64 n7, .slice none 0 0] 49)) := ((Out.refl _ _).alloc _); have PP := Lib.hid (hp.out o3); have OO := Lib.hid (OO2.out.trans o3); have HNE : Hid (¬ (zx x).S w2.heap.size) := (fun e => by have e' : w2.heap.size = x := e; have := HXT.out; omega); have HTS : Hid (W0.heap.size ≤ w2.heap.size) := OO2.out.size; clear hp ho o3)
        | (go_at_call 26; refine (C8.out _ _ PP.out).mono ?_; rintro e w9 ⟨rfl, hp, ho⟩; have TT := Lib.hid (ho.get TT.out HNE.out); have PP := Lib.hid hp; have OO := Lib.hid (OO.out.fresh ho HPA.out); have HB9 := Lib.hid (OO.out.get HB.out id); have b0 := cells_all HB9.out 0; have c0 := frozen_all HB9.out 0; have b1 := cells_all HB9.out 1; have c1 := frozen_all HB9.out 1; have b2 := cells_all HB9.out 2; have c2 := frozen_all HB9.out 2; have b3 := cells_all HB9.out 3; have c3 := frozen_all HB9.out 3; have b4 := cells_all HB9.out 4; have c4 := frozen_all HB9.out 4; have b5 := cells_all HB9.out 5; have c5 := frozen_all HB9.out 5; have b6 := cells_all HB9.out 6; have c6 := frozen_all HB9.out 6; have b7 := cells_all HB9.out 7; have c7 := frozen_all HB9.out 7; clear hp ho)
        | fail)
      have q := set8 HB9.out (.int .i64 0) (.int .i64 0) (.int .i64 0) (.int .i64 0) (.int .i64 0) (.int .i64 0) (.int .i64 0) (.slice none 0 0)
      have q0 := cells_all q 0
      have q1 := cells_all q 1
      have q2 := cells_all q 2
      have q3 := cells_all q 3
      have q4 := cells_all q 4
      have q5 := cells_all q 5
      have q6 := cells_all q 6
      have q7 := cells_all q 7
      simp at q0 q1 q2 q3 q4 q5 q6 q7
      have ofin := out8 (HO0.out.trans OO.out) (Nat.le_of_eq hB) (.int .i64 0) (.int .i64 0) (.int .i64 0) (.int .i64 0) (.int .i64 0) (.int .i64 0) (.int .i64 0) (.slice none 0 0)
      clear b0 b1 b2 b3 b4 b5 b6 b7 c0 c1 c2 c3 c4 c5 c6 c7
      refine bodyPost_ret (v := .tuple #[.agg #[.int .i64 0, .int .i64 0, .int .i64 0, .int .i64 0, .int .i64 0, .int .i64 0, .int .i64 0, .slice none 0 0], .int .i64 21]) ?_ rfl ⟨none, 0, rfl, rrow_nil _ _ _, ofin⟩
      simp [results, Tryz.results15, go_sem, q0, q1, q2, q3, q4, q5, q6, q7]
  · rw [if_neg hn]
    obtain ⟨k, rfl⟩ : ∃ k : Nat, n8 = (k : Int) := ⟨n8.toNat, by omega⟩
    have hk : k ≤ 2048 := by omega
    have hk0 : ¬ (k : Int) < 0 := by omega
    rw [Int.toNat_natCast]
    obtain ⟨s0, hs0⟩ : ∃ s0 : Rd, (([], L8, e8) : Rd) = s0 := ⟨_, rfl⟩
    have HS0 : Hid (s0.1 = [] ∧ s0.2.1 = L8 ∧ s0.2.2 = e8) := by rw [← hs0]; exact ⟨rfl, rfl, rfl⟩
    rw [hs0]
    clear hn hs0
    go_enter Tryz.func15, Tryz.ntmps15
    go_wp2_with (first
      | (go_at_call 25; refine HNEW.out.mono ?_; rintro e w1 ⟨x, rfl, hx, hp, ho⟩; have PP := Lib.hid hp; have OO := Lib.hid ho; have HPA : Hid ((zx x).Past W0.heap.size) := (fun k hk => by cases hk; exact hx); clear hp ho hx)
      | (go_at_call 26; (first | refine (C1.out _ _ PP.out).mono ?_ | refine (C2.out _ _ PP.out).mono ?_ | refine (C3.out _ _ PP.out).mono ?_ | refine (C4.out _ _ PP.out).mono ?_ | refine (C5.out _ _ PP.out).mono ?_ | refine (C6.out _ _ PP.out).mono ?_); rintro e w2 ⟨rfl, hp, ho⟩; have PP := Lib.hid hp; have OO := Lib.hid (OO.out.fresh ho HPA.out); clear hp ho)
      | (go_at_call 26; refine (C7.out _ _ PP.out).mono ?_; rintro e w2 ⟨rfl, hp, ho⟩; have HXT : Hid (x < w2.heap.size) := (heap_lt hp.at_.choose_spec.choose_spec.1); have OO2 := Lib.hid (OO.out.fresh ho HPA.out); have TT : Hid ((w2.alloc (.cells #[.int .i64 n1, .int .i64 n2, .int .i64 n3, .int .i64 n4, .int .i64 n5, .int .i64 n6, .int .i64 n7, .slice none 0 0] 49)).heap[w2.heap.size]? = some (.cells #[.int .i64 n1, .int .i64 n2, .int .i64 n3, .int .i64 n4, .int .i64 n5, .int .i64 n6, .int .i64 n7, .slice none 0 0] 49 (0, 0))) := (heap_alloc_new w2 _); have o3 : Out Zone.no w2 (w2.alloc (.cells #[.int .i64 n1, .int .i64 n2, .int .i64 n3, .int .i64 n4, .int .i64 n5, .int .i64 n6, .int .i64 n7, .slice none 0 0] 49)) := ((Out.refl _ _).alloc _); have PP := Lib.hid (hp.out o3); have OO := Lib.hid (OO2.out.trans o3); have HNE : Hid (¬ (zx x).S w2.heap.size) := (fun e => by have e' : w2.heap.size = x := e; have := HXT.out; omega); have HTS : Hid (W0.heap.size ≤ w2.heap.size) := OO2.out.size; clear hp ho o3)
      | (go_at_call 26; refine (C8.out _ _ PP.out).mono ?_; rintro e w9 ⟨rfl, hp, ho⟩; have TT := Lib.hid (ho.get TT.out HNE.out); have PP := Lib.hid hp; have OO := Lib.hid (OO.out.fresh ho HPA.out); have HB9 := Lib.hid (OO.out.get HB.out id); have b0 := cells_all HB9.out 0; have c0 := frozen_all HB9.out 0; have b1 := cells_all HB9.out 1; have c1 := frozen_all HB9.out 1; have b2 := cells_all HB9.out 2; have c2 := frozen_all HB9.out 2; have b3 := cells_all HB9.out 3; have c3 := frozen_all HB9.out 3; have b4 := cells_all HB9.out 4; have c4 := frozen_all HB9.out 4; have b5 := cells_all HB9.out 5; have c5 := frozen_all HB9.out 5; have b6 := cells_all HB9.out 6; have c6 := frozen_all HB9.out 6; have b7 := cells_all HB9.out 7; have c7 := frozen_all HB9.out 7; clear hp ho)
      | fail)
    obtain ⟨T, hT⟩ : ∃ T, w2.heap.size = T := ⟨_, rfl⟩
    rw [hT] at HXT TT HNE HTS ⊢
    have HPX : Hid ((zx x).Past W0.heap.size) := HPA.out
    clear hT b0 b1 b2 b3 b4 b5 b6 b7 c0 c1 c2 c3 c4 c5 c6 c7
    go_loopw [34] (fun vi wr => ∃ i : Nat, i ≤ k ∧ vi = .int .i64 (i : Int) ∧ ∃ A c, Hid (wr.heap[T]? = some (.cells #[.int .i64 n1, .int .i64 n2, .int .i64 n3, .int .i64 n4, .int .i64 n5, .int .i64 n6, .int .i64 n7, .slice A i c] 49 (0, 0)) ∧ GRow (fun k => T < k) wr 34 2 (.slice A i c) i (encL (rloop i s0).1) ∧ PR wr x (rloop i s0).2.1 (rloop i s0).2.2 ∧ Out Zone.no W0 wr)) (fun vi _ => k - (intOf vi).toNat)
    case atStart =>
      refine ⟨0, by omega, rfl, none, 0, TT.out, ?_, ?_, OO.out⟩
      · show GRow _ _ _ _ _ _ (encL s0.1)
        rw [HS0.out.1]; exact grow_nil _ _ _ _
      · show PR _ _ s0.2.1 s0.2.2
        rw [HS0.out.2.1, HS0.out.2.2]; exact PP.out
    case round =>
      obtain ⟨i, hi, rfl, A, c, hinv⟩ := hrel
      rename_i wr
      by_cases hlt : i < k
      · have HLEN : Hid ((rloop i s0).1.length = i ∧ (rloop i s0).2.1.length ≤ 140737488355328) := by
          have h := rloop_len i s0
          rw [HS0.out.1, HS0.out.2.1] at h
          exact ⟨by simpa using h.1, by have := h.2; omega⟩
        obtain ⟨⟨es, Li, ei⟩, hs⟩ : ∃ s, rloop i s0 = s := ⟨_, rfl⟩
        obtain ⟨⟨nn, La, ea⟩, hna⟩ : ∃ q, rnum Li ei = q := ⟨_, rfl⟩
        obtain ⟨⟨dd, Lb, eb⟩, hdb⟩ : ∃ q, rtxt La ea = q := ⟨_, rfl⟩
        have HS1 : Hid (rloop (i + 1) s0 = (es ++ [⟨nn, dd⟩], Lb, eb)) := by
          show rstep (rloop i s0) = _
          rw [hs]
          simp only [rstep]
          rw [hna]
          simp only
          rw [hdb]
        have hla := rnum_len Li ei
        rw [hna] at hla
        rw [hs] at hinv HLEN
        simp only at hinv HLEN hla
        obtain ⟨g1, g2, g3, g4⟩ := hinv.out
        have HNUM : Hid (Calls Tryz.prog 26 #[.pointer (some ⟨x, 0, none⟩)] wr.drew fun en w' => en = .returned (.int .i64 nn) ∧ PR w' x La ea ∧ Out (zx x) wr.drew w') := by
          have := rdnum_is (PR.out g3 (Out.refl Zone.no wr).drew)
          rw [hna] at this
          exact this
        have HTX : Hid (∀ W, PR W x La ea → Calls Tryz.prog 27 #[.pointer (some ⟨x, 0, none⟩)] W fun en w' => en = .returned (.string (str dd)) ∧ PR w' x Lb eb ∧ Out (zx x) W w') := fun W hp => by
          have := rdtxt_is hp (by have := HLEN.out.2; omega)
          rw [hdb] at this
          exact this
        have HTd : Hid (wr.drew.heap[T]? = some (.cells #[.int .i64 n1, .int .i64 n2, .int .i64 n3, .int .i64 n4, .int .i64 n5, .int .i64 n6, .int .i64 n7, .slice A i c] 49 (0, 0))) := g1
        have PUSH : Hid (∀ w3 w5, Out (zx x) wr.drew w3 → Out (zx x) w3 w5 → w5.heap[T]? = some (.cells #[.int .i64 n1, .int .i64 n2, .int .i64 n3, .int .i64 n4, .int .i64 n5, .int .i64 n6, .int .i64 n7, .slice A i c] 49 (0, 0)) → PR w5 x Lb eb → ∃ A6 c6 w6, (Builtin.append_ #[47, 47] 47 #[.slice A i c, .slice (some ⟨w5.heap.size, 0, none⟩) 1 1]).run Tryz.prog (w5.alloc (.cells #[.int .i64 nn, .string (str dd)] 34)) = .ok (.slice A6 (i + 1) c6) w6 ∧
            (w6.cell? ⟨T, 7, none⟩ = some (.slice A i c) ∧ w6.frozen? ⟨T, 7, none⟩ = false) ∧ Hid ((w6.setCell ⟨T, 7, none⟩ (.slice A6 (i + 1) c6)).heap[T]? = some (.cells #[.int .i64 n1, .int .i64 n2, .int .i64 n3, .int .i64 n4, .int .i64 n5, .int .i64 n6, .int .i64 n7, .slice A6 (i + 1) c6] 49 (0, 0)) ∧ GRow (fun k => T < k) (w6.setCell ⟨T, 7, none⟩ (.slice A6 (i + 1) c6)) 34 2 (.slice A6 (i + 1) c6) (i + 1) (encL (rloop (i + 1) s0).1) ∧ PR (w6.setCell ⟨T, 7, none⟩ (.slice A6 (i + 1) c6)) x (rloop (i + 1) s0).2.1 (rloop (i + 1) s0).2.2 ∧ Out Zone.no W0 (w6.setCell ⟨T, 7, none⟩ (.slice A6 (i + 1) c6)))) := fun w3 w5 ho3 ho5 hT5 hp5 => by
          have ho : Out (zx x) wr w5 := (ho3.trans ho5).undrew
          have hg5 : GRow (fun k => T < k) w5 34 2 (.slice A i c) es.length (encL es) := by
            rw [HLEN.out.1]
            refine g2.keep (fun g hg => ?_) (fun g hg => (g2.mem hg).1)
            have hgm := g2.mem hg
            refine ho.block g hgm.2.1 (fun e => ?_)
            have e' : g = x := e
            have h1 : T < g := hgm.1
            have h2 := HXT.out
            omega
          obtain ⟨A6, c6, w6, hrun, hg6, ho6⟩ := log_push elem47 hg5 (heap_lt hT5) ⟨nn, dd⟩ (by rw [HLEN.out.1]; omega)
          rw [HLEN.out.1] at hrun hg6
          have hT6 := ho6.get hT5 (fun e => Nat.lt_irrefl _ e)
          have hb7 := heap_set hT6 7 (.slice A6 (i + 1) c6)
          simp at hb7
          have q7 := cells_all hT6 7
          simp at q7
          have oT : Out (zx T) w6 (w6.setCell ⟨T, 7, none⟩ (.slice A6 (i + 1) c6)) := (Out.refl (zx T) w6).setCell (p := ⟨T, 7, none⟩) (Or.inl rfl) _
          refine ⟨A6, c6, w6, hrun, ⟨q7, frozen_all hT6 7⟩, hb7, ?_, ?_, ?_⟩
          · rw [HS1.out]
            refine hg6.keep (fun g hg => ?_) (fun g hg => (hg6.mem hg).1)
            have hgm := hg6.mem hg
            refine oT.block g hgm.2.1 (fun e => ?_)
            have e' : g = T := e
            have h1 : T < g := hgm.1
            omega
          · rw [HS1.out]
            exact (hp5.far ho6 (fun k hk => by have h1 : T < k := hk; have := HXT.out; omega)).far oT (fun k hk => by have h1 : k = T := hk; have := HXT.out; omega)
          · refine ((((g4.drew.fresh ho3 HPX.out).fresh ho5 HPX.out).fresh ho6 (fun k hk => by have h1 : T < k := hk; have := HTS.out; omega))).fresh oT (fun k hk => by have h1 : k = T := hk; have := HTS.out; omega)
        have u0 : wr.drew.cell? ⟨T, 7, none⟩ = some (.slice A i c) := by
          have := cells_all HTd.out 7
          simpa using this
        clear hs hna hdb hla g1 g2 g3 g4 hinv HS1 HLEN HS0
        go_wp2_with fail
        refine wp_region_noPanic ?_
        refine wp_region_held_drew (S := fun _ => True) (by kernel_rfl) trivial (fun hHeld => ?_)
        refine wpAnyH_take (i := 0) (oi := _) (v := .pointer (some ⟨T, 7, none⟩)) rfl (by kernel_rfl) (by kernel_rfl) (by kernel_rfl) (fun _ _ _ h => h) (Or.inl ⟨by rfl, ?_⟩) (by assumption) ?_
        · intro w hSw
          (try dsimp only at hSw)
          go_simp
        try simp only [Act.put, List.setIfInBounds_toArray, List.set_cons_zero, List.set_cons_succ]
        refine wpAnyH_take (i := 2) (oi := _) (v := .pointer (some ⟨x, 0, none⟩)) rfl (by kernel_rfl) (by kernel_rfl) (by kernel_rfl) (fun _ _ _ h => h) (Or.inl ⟨by rfl, ?_⟩) (by assumption) ?_
        · intro w hSw
          (try dsimp only at hSw)
          go_simp
        try simp only [Act.put, List.setIfInBounds_toArray, List.set_cons_zero, List.set_cons_succ]
        refine wpAnyH_take (i := 4) (oi := _) (v := .pointer (some ⟨x, 0, none⟩)) rfl (by kernel_rfl) (by kernel_rfl) (by kernel_rfl) (fun _ _ _ h => h) (Or.inl ⟨by rfl, ?_⟩) (by assumption) ?_
        · intro w hSw
          (try dsimp only at hSw)
          go_simp
        try simp only [Act.put, List.setIfInBounds_toArray, List.set_cons_zero, List.set_cons_succ]
        refine wpAnyH_ready (rs := [1, 3]) (by kernel_rfl) (by simp) ?_
        refine AllReadyH.cons (o := _) rfl (fun K hK => ?_) ?_
        · go_simp
          refine hK.out _ _ ?_ (fun hHeld => ?_)
          · trivial
          · clear hK K
            try simp only [Act.put, List.setIfInBounds_toArray, List.set_cons_zero, List.set_cons_succ]
            refine wpAnyH_ready (rs := [3]) (by kernel_rfl) (by simp) ?_
            refine AllReadyH.cons (o := _) rfl (fun K hK => ?_) ?_
            · go_simp
              go_at_call 26
              with_reducible refine HNUM.out.mono ?_
              rintro e w3 ⟨rfl, hp3, ho3⟩
              have HP3 := Lib.hid hp3
              have HT3 := Lib.hid (ho3.get HTd.out HNE.out)
              have u3 := cells_all HT3.out 7
              simp at u3
              have HO3 := Lib.hid ho3
              clear hp3 ho3
              refine hK.out _ _ ?_ (fun hHeld => ?_)
              · trivial
              · clear hK K
                try simp only [Act.put, List.setIfInBounds_toArray, List.set_cons_zero, List.set_cons_succ]
                refine wpAnyH_ready (rs := [5]) (by kernel_rfl) (by simp) ?_
                refine AllReadyH.cons (o := _) rfl (fun K hK => ?_) ?_
                · go_simp
                  go_at_call 27
                  with_reducible refine (HTX.out _ HP3.out).mono ?_
                  rintro e w5 ⟨rfl, hp5, ho5⟩
                  have HT5 := Lib.hid (ho5.get HT3.out HNE.out)
                  have u5 := cells_all HT5.out 7
                  simp at u5
                  have u5a : (w5.alloc (.cells #[.int .i64 nn, .string (str dd)] 34)).cell? ⟨T, 7, none⟩ = some (.slice A i c) := ((Out.refl Zone.no w5).alloc _).cell u5 id
                  obtain ⟨A6, c6, w6, hrun, FZ, FIN⟩ := PUSH.out w3 w5 HO3.out ho5 HT5.out hp5
                  have HR6 := Lib.hid hrun
                  clear hp5 ho5 hrun
                  obtain ⟨z6, f6⟩ := FZ
                  refine hK.out _ _ ?_ (fun hHeld => ?_)
                  · trivial
                  · clear hK K
                    try simp only [Act.put, List.setIfInBounds_toArray, List.set_cons_zero, List.set_cons_succ]
                    refine wpAnyH_take (i := 6) (oi := _) (v := .agg #[.int .i64 nn, .string (str dd)]) rfl (by kernel_rfl) (by kernel_rfl) (by kernel_rfl) (fun _ _ _ h => h) (Or.inl ⟨by rfl, ?_⟩) (by assumption) ?_
                    · intro w hSw
                      (try dsimp only at hSw)
                      go_simp
                    try simp only [Act.put, List.setIfInBounds_toArray, List.set_cons_zero, List.set_cons_succ]
                    refine wpAnyH_ready (rs := [7]) (by kernel_rfl) (by simp) ?_
                    refine AllReadyH.cons (o := _) rfl (fun K hK => ?_) ?_
                    · go_simp
                      refine hK.out _ _ ?_ (fun hHeld => ?_)
                      · trivial
                      · clear hK K
                        try simp only [Act.put, List.setIfInBounds_toArray, List.set_cons_zero, List.set_cons_succ]
                        refine wpAnyH_ready (rs := [8]) (by kernel_rfl) (by simp) ?_
                        refine AllReadyH.cons (o := _) rfl (fun K hK => ?_) ?_
                        · refine step_builtin rfl _ _ _ rfl (by exact HR6.out) ?_
                          refine hK.out _ _ ?_ (fun hHeld => ?_)
                          · trivial
                          · clear hK K
                            try simp only [Act.put, List.setIfInBounds_toArray, List.set_cons_zero, List.set_cons_succ]
                            refine wpAnyH_take (i := 9) (oi := _) (v := .pointer (some ⟨T, 7, none⟩)) rfl (by kernel_rfl) (by kernel_rfl) (by kernel_rfl) (fun _ _ _ h => h) (Or.inl ⟨by rfl, ?_⟩) (by assumption) ?_
                            · intro w hSw
                              (try dsimp only at hSw)
                              go_simp
                            try simp only [Act.put, List.setIfInBounds_toArray, List.set_cons_zero, List.set_cons_succ]
                            refine wpAnyH_ready (rs := [10]) (by kernel_rfl) (by simp) ?_
                            refine AllReadyH.cons (o := _) rfl (fun K hK => ?_) ?_
                            · go_simp
                              refine hK.out _ _ ?_ (fun hHeld => ?_)
                              · trivial
                              · clear hK K
                                try simp only [Act.put, List.setIfInBounds_toArray, List.set_cons_zero, List.set_cons_succ]
                                refine wpAnyH_done (by kernel_rfl) ?_ _
                                refine NoPanic.normal ?_
                                go_wp2_with fail
                                go_roundw
                                case rel => exact ⟨i + 1, by omega, by go_num, _, _, FIN⟩
                                case measure => simp [intOf]; omega
                            exact AllReadyH.nil
                        exact AllReadyH.nil
                    exact AllReadyH.nil
                exact AllReadyH.nil
            exact AllReadyH.nil
        refine AllReadyH.cons (o := _) rfl (fun K hK => ?_) ?_
        · go_simp
          go_at_call 26
          with_reducible refine HNUM.out.mono ?_
          rintro e w3 ⟨rfl, hp3, ho3⟩
          have HP3 := Lib.hid hp3
          have HT3 := Lib.hid (ho3.get HTd.out HNE.out)
          have u3 := cells_all HT3.out 7
          simp at u3
          have HO3 := Lib.hid ho3
          clear hp3 ho3
          refine hK.out _ _ ?_ (fun hHeld => ?_)
          · trivial
          · clear hK K
            try simp only [Act.put, List.setIfInBounds_toArray, List.set_cons_zero, List.set_cons_succ]
            refine wpAnyH_ready (rs := [1, 5]) (by kernel_rfl) (by simp) ?_
            refine AllReadyH.cons (o := _) rfl (fun K hK => ?_) ?_
            · go_simp
              refine hK.out _ _ ?_ (fun hHeld => ?_)
              · trivial
              · clear hK K
                try simp only [Act.put, List.setIfInBounds_toArray, List.set_cons_zero, List.set_cons_succ]
                refine wpAnyH_ready (rs := [5]) (by kernel_rfl) (by simp) ?_
                refine AllReadyH.cons (o := _) rfl (fun K hK => ?_) ?_
                · go_simp
                  go_at_call 27
                  with_reducible refine (HTX.out _ HP3.out).mono ?_
                  rintro e w5 ⟨rfl, hp5, ho5⟩
                  have HT5 := Lib.hid (ho5.get HT3.out HNE.out)
                  have u5 := cells_all HT5.out 7
                  simp at u5
                  have u5a : (w5.alloc (.cells #[.int .i64 nn, .string (str dd)] 34)).cell? ⟨T, 7, none⟩ = some (.slice A i c) := ((Out.refl Zone.no w5).alloc _).cell u5 id
                  obtain ⟨A6, c6, w6, hrun, FZ, FIN⟩ := PUSH.out w3 w5 HO3.out ho5 HT5.out hp5
                  have HR6 := Lib.hid hrun
                  clear hp5 ho5 hrun
                  obtain ⟨z6, f6⟩ := FZ
                  refine hK.out _ _ ?_ (fun hHeld => ?_)
                  · trivial
                  · clear hK K
                    try simp only [Act.put, List.setIfInBounds_toArray, List.set_cons_zero, List.set_cons_succ]
                    refine wpAnyH_take (i := 6) (oi := _) (v := .agg #[.int .i64 nn, .string (str dd)]) rfl (by kernel_rfl) (by kernel_rfl) (by kernel_rfl) (fun _ _ _ h => h) (Or.inl ⟨by rfl, ?_⟩) (by assumption) ?_
                    · intro w hSw
                      (try dsimp only at hSw)
                      go_simp
                    try simp only [Act.put, List.setIfInBounds_toArray, List.set_cons_zero, List.set_cons_succ]
                    refine wpAnyH_ready (rs := [7]) (by kernel_rfl) (by simp) ?_
                    refine AllReadyH.cons (o := _) rfl (fun K hK => ?_) ?_
                    · go_simp
                      refine hK.out _ _ ?_ (fun hHeld => ?_)
                      · trivial
                      · clear hK K
                        try simp only [Act.put, List.setIfInBounds_toArray, List.set_cons_zero, List.set_cons_succ]
                        refine wpAnyH_ready (rs := [8]) (by kernel_rfl) (by simp) ?_
                        refine AllReadyH.cons (o := _) rfl (fun K hK => ?_) ?_
                        · refine step_builtin rfl _ _ _ rfl (by exact HR6.out) ?_
                          refine hK.out _ _ ?_ (fun hHeld => ?_)
                          · trivial
                          · clear hK K
                            try simp only [Act.put, List.setIfInBounds_toArray, List.set_cons_zero, List.set_cons_succ]
                            refine wpAnyH_take (i := 9) (oi := _) (v := .pointer (some ⟨T, 7, none⟩)) rfl (by kernel_rfl) (by kernel_rfl) (by kernel_rfl) (fun _ _ _ h => h) (Or.inl ⟨by rfl, ?_⟩) (by assumption) ?_
                            · intro w hSw
                              (try dsimp only at hSw)
                              go_simp
                            try simp only [Act.put, List.setIfInBounds_toArray, List.set_cons_zero, List.set_cons_succ]
                            refine wpAnyH_ready (rs := [10]) (by kernel_rfl) (by simp) ?_
                            refine AllReadyH.cons (o := _) rfl (fun K hK => ?_) ?_
                            · go_simp
                              refine hK.out _ _ ?_ (fun hHeld => ?_)
                              · trivial
                              · clear hK K
                                try simp only [Act.put, List.setIfInBounds_toArray, List.set_cons_zero, List.set_cons_succ]
                                refine wpAnyH_done (by kernel_rfl) ?_ _
                                refine NoPanic.normal ?_
                                go_wp2_with fail
                                go_roundw
                                case rel => exact ⟨i + 1, by omega, by go_num, _, _, FIN⟩
                                case measure => simp [intOf]; omega
                            exact AllReadyH.nil
                        exact AllReadyH.nil
                    exact AllReadyH.nil
                exact AllReadyH.nil
            refine AllReadyH.cons (o := _) rfl (fun K hK => ?_) ?_
            · go_simp
              go_at_call 27
              with_reducible refine (HTX.out _ HP3.out).mono ?_
              rintro e w5 ⟨rfl, hp5, ho5⟩
              have HT5 := Lib.hid (ho5.get HT3.out HNE.out)
              have u5 := cells_all HT5.out 7
              simp at u5
              have u5a : (w5.alloc (.cells #[.int .i64 nn, .string (str dd)] 34)).cell? ⟨T, 7, none⟩ = some (.slice A i c) := ((Out.refl Zone.no w5).alloc _).cell u5 id
              obtain ⟨A6, c6, w6, hrun, FZ, FIN⟩ := PUSH.out w3 w5 HO3.out ho5 HT5.out hp5
              have HR6 := Lib.hid hrun
              clear hp5 ho5 hrun
              obtain ⟨z6, f6⟩ := FZ
              refine hK.out _ _ ?_ (fun hHeld => ?_)
              · trivial
              · clear hK K
                try simp only [Act.put, List.setIfInBounds_toArray, List.set_cons_zero, List.set_cons_succ]
                refine wpAnyH_take (i := 6) (oi := _) (v := .agg #[.int .i64 nn, .string (str dd)]) rfl (by kernel_rfl) (by kernel_rfl) (by kernel_rfl) (fun _ _ _ h => h) (Or.inl ⟨by rfl, ?_⟩) (by assumption) ?_
                · intro w hSw
                  (try dsimp only at hSw)
                  go_simp
                try simp only [Act.put, List.setIfInBounds_toArray, List.set_cons_zero, List.set_cons_succ]
                refine wpAnyH_ready (rs := [1, 7]) (by kernel_rfl) (by simp) ?_
                refine AllReadyH.cons (o := _) rfl (fun K hK => ?_) ?_
                · go_simp
                  refine hK.out _ _ ?_ (fun hHeld => ?_)
                  · trivial
                  · clear hK K
                    try simp only [Act.put, List.setIfInBounds_toArray, List.set_cons_zero, List.set_cons_succ]
                    refine wpAnyH_ready (rs := [7]) (by kernel_rfl) (by simp) ?_
                    refine AllReadyH.cons (o := _) rfl (fun K hK => ?_) ?_
                    · go_simp
                      refine hK.out _ _ ?_ (fun hHeld => ?_)
                      · trivial
                      · clear hK K
                        try simp only [Act.put, List.setIfInBounds_toArray, List.set_cons_zero, List.set_cons_succ]
                        refine wpAnyH_ready (rs := [8]) (by kernel_rfl) (by simp) ?_
                        refine AllReadyH.cons (o := _) rfl (fun K hK => ?_) ?_
                        · refine step_builtin rfl _ _ _ rfl (by exact HR6.out) ?_
                          refine hK.out _ _ ?_ (fun hHeld => ?_)
                          · trivial
                          · clear hK K
                            try simp only [Act.put, List.setIfInBounds_toArray, List.set_cons_zero, List.set_cons_succ]
                            refine wpAnyH_take (i := 9) (oi := _) (v := .pointer (some ⟨T, 7, none⟩)) rfl (by kernel_rfl) (by kernel_rfl) (by kernel_rfl) (fun _ _ _ h => h) (Or.inl ⟨by rfl, ?_⟩) (by assumption) ?_
                            · intro w hSw
                              (try dsimp only at hSw)
                              go_simp
                            try simp only [Act.put, List.setIfInBounds_toArray, List.set_cons_zero, List.set_cons_succ]
                            refine wpAnyH_ready (rs := [10]) (by kernel_rfl) (by simp) ?_
                            refine AllReadyH.cons (o := _) rfl (fun K hK => ?_) ?_
                            · go_simp
                              refine hK.out _ _ ?_ (fun hHeld => ?_)
                              · trivial
                              · clear hK K
                                try simp only [Act.put, List.setIfInBounds_toArray, List.set_cons_zero, List.set_cons_succ]
                                refine wpAnyH_done (by kernel_rfl) ?_ _
                                refine NoPanic.normal ?_
                                go_wp2_with fail
                                go_roundw
                                case rel => exact ⟨i + 1, by omega, by go_num, _, _, FIN⟩
                                case measure => simp [intOf]; omega
                            exact AllReadyH.nil
                        exact AllReadyH.nil
                    exact AllReadyH.nil
                refine AllReadyH.cons (o := _) rfl (fun K hK => ?_) ?_
                · go_simp
                  refine hK.out _ _ ?_ (fun hHeld => ?_)
                  · trivial
                  · clear hK K
                    try simp only [Act.put, List.setIfInBounds_toArray, List.set_cons_zero, List.set_cons_succ]
                    refine wpAnyH_ready (rs := [1]) (by kernel_rfl) (by simp) ?_
                    refine AllReadyH.cons (o := _) rfl (fun K hK => ?_) ?_
                    · go_simp
                      refine hK.out _ _ ?_ (fun hHeld => ?_)
                      · trivial
                      · clear hK K
                        try simp only [Act.put, List.setIfInBounds_toArray, List.set_cons_zero, List.set_cons_succ]
                        refine wpAnyH_ready (rs := [8]) (by kernel_rfl) (by simp) ?_
                        refine AllReadyH.cons (o := _) rfl (fun K hK => ?_) ?_
                        · refine step_builtin rfl _ _ _ rfl (by exact HR6.out) ?_
                          refine hK.out _ _ ?_ (fun hHeld => ?_)
                          · trivial
                          · clear hK K
                            try simp only [Act.put, List.setIfInBounds_toArray, List.set_cons_zero, List.set_cons_succ]
                            refine wpAnyH_take (i := 9) (oi := _) (v := .pointer (some ⟨T, 7, none⟩)) rfl (by kernel_rfl) (by kernel_rfl) (by kernel_rfl) (fun _ _ _ h => h) (Or.inl ⟨by rfl, ?_⟩) (by assumption) ?_
                            · intro w hSw
                              (try dsimp only at hSw)
                              go_simp
                            try simp only [Act.put, List.setIfInBounds_toArray, List.set_cons_zero, List.set_cons_succ]
                            refine wpAnyH_ready (rs := [10]) (by kernel_rfl) (by simp) ?_
                            refine AllReadyH.cons (o := _) rfl (fun K hK => ?_) ?_
                            · go_simp
                              refine hK.out _ _ ?_ (fun hHeld => ?_)
                              · trivial
                              · clear hK K
                                try simp only [Act.put, List.setIfInBounds_toArray, List.set_cons_zero, List.set_cons_succ]
                                refine wpAnyH_done (by kernel_rfl) ?_ _
                                refine NoPanic.normal ?_
                                go_wp2_with fail
                                go_roundw
                                case rel => exact ⟨i + 1, by omega, by go_num, _, _, FIN⟩
                                case measure => simp [intOf]; omega
                            exact AllReadyH.nil
                        exact AllReadyH.nil
                    exact AllReadyH.nil
                exact AllReadyH.nil
            exact AllReadyH.nil
        exact AllReadyH.nil
      · have HIK := Lib.hid (show i = k by omega)
        have HLEN : Hid ((rloop i s0).1.length = i) := by
          have h := rloop_len i s0
          rw [HS0.out.1] at h
          show _ = _
          simpa using h.1
        have HFIT : Hid (Fits (rloop i s0).1) := fun y hy => by
          rcases rloop_fits i s0 y hy with h | h
          · rw [HS0.out.1] at h; cases h
          · rw [HS0.out.2.1] at h; omega
        obtain ⟨⟨es, Le, ee⟩, hs⟩ : ∃ s, rloop i s0 = s := ⟨_, rfl⟩
        rw [hs] at hinv HLEN HFIT
        simp only at hinv HLEN HFIT
        obtain ⟨g1, g2, g3, g4⟩ := hinv.out
        have HSS : Hid (rloop k s0 = (es, Le, ee)) := by show _ = _; rw [← HIK.out]; exact hs
        have HROW : Hid (∀ W, Out Zone.no wr W → RRow (fun k => k = B) W (.slice A i c) es.length 2 (encL es)) := fun W ho => by
          rw [HLEN.out]
          exact (g2.any ho).reads (fun k hk e => by have h1 : T < k := hk; have h2 := heap_lt HB.out; have h3 := HTS.out; omega)
        have C28 := Lib.hid (done_is_ g3)
        have C33 : Hid (Calls Tryz.prog 33 #[.agg #[.int .i64 n1, .int .i64 n2, .int .i64 n3, .int .i64 n4, .int .i64 n5, .int .i64 n6, .int .i64 n7, .slice A i c]] wr fun e w' => e = .returned (.bool (Msg.right ⟨n1, n2, n3, n4, n5, n6, n7, es⟩)) ∧ Out Zone.no wr w') :=
          mright_is wr _ ⟨n1, n2, n3, n4, n5, n6, n7, es⟩ _ (HROW.out wr (Out.refl _ _)) (by show es.length ≤ _; rw [HLEN.out]; omega) HFIT.out
        have HTr := Lib.hid g1
        have OOr := Lib.hid g4
        have HBr := Lib.hid (g4.get HB.out id)
        have t0 := cells_all HTr.out 0; have t1 := cells_all HTr.out 1; have t2 := cells_all HTr.out 2; have t3 := cells_all HTr.out 3; have t4 := cells_all HTr.out 4; have t5 := cells_all HTr.out 5; have t6 := cells_all HTr.out 6; have t7 := cells_all HTr.out 7; simp at t0 t1 t2 t3 t4 t5 t6 t7
        have b0 := cells_all HBr.out 0; have c0 := frozen_all HBr.out 0; have b1 := cells_all HBr.out 1; have c1 := frozen_all HBr.out 1; have b2 := cells_all HBr.out 2; have c2 := frozen_all HBr.out 2; have b3 := cells_all HBr.out 3; have c3 := frozen_all HBr.out 3; have b4 := cells_all HBr.out 4; have c4 := frozen_all HBr.out 4; have b5 := cells_all HBr.out 5; have c5 := frozen_all HBr.out 5; have b6 := cells_all HBr.out 6; have c6 := frozen_all HBr.out 6; have b7 := cells_all HBr.out 7; have c7 := frozen_all HBr.out 7
        obtain ⟨f, hf⟩ : ∃ f, rdone Le ee = f := ⟨_, rfl⟩
        obtain ⟨g, hg⟩ : ∃ g, Msg.right ⟨n1, n2, n3, n4, n5, n6, n7, es⟩ = g := ⟨_, rfl⟩
        rw [hf] at C28
        rw [hg] at C33
        have HFG := Lib.hid (And.intro hf hg)
        clear hs g1 g2 g3 g4 hinv hf hg HS0
        obtain hf0 | ⟨hf0, hf'⟩ : f = 0 ∨ (¬ f = 0 ∧ (f == 0) = false) := by
          by_cases h : f = 0
          · exact Or.inl h
          · exact Or.inr ⟨h, by simpa using h⟩
        · subst hf0
          cases g with
          | true =>
            go_wp2_with (first
              | (go_at_call 28; refine C28.out.mono ?_; rintro e w' ⟨rfl, rfl⟩)
              | (go_at_call 33; refine C33.out.mono ?_; rintro e w7 ⟨rfl, ho⟩; have OO7 := Lib.hid ho; have HB7 := Lib.hid (ho.get HBr.out id); have tt := ho.get HTr.out id; have t0 := cells_all tt 0; have t1 := cells_all tt 1; have t2 := cells_all tt 2; have t3 := cells_all tt 3; have t4 := cells_all tt 4; have t5 := cells_all tt 5; have t6 := cells_all tt 6; have t7 := cells_all tt 7; simp at t0 t1 t2 t3 t4 t5 t6 t7; have b0 := cells_all HB7.out 0; have c0 := frozen_all HB7.out 0; have b1 := cells_all HB7.out 1; have c1 := frozen_all HB7.out 1; have b2 := cells_all HB7.out 2; have c2 := frozen_all HB7.out 2; have b3 := cells_all HB7.out 3; have c3 := frozen_all HB7.out 3; have b4 := cells_all HB7.out 4; have c4 := frozen_all HB7.out 4; have b5 := cells_all HB7.out 5; have c5 := frozen_all HB7.out 5; have b6 := cells_all HB7.out 6; have c6 := frozen_all HB7.out 6; have b7 := cells_all HB7.out 7; have c7 := frozen_all HB7.out 7; clear ho tt)
              | fail)
            have q := set8 HB7.out (.int .i64 n1) (.int .i64 n2) (.int .i64 n3) (.int .i64 n4) (.int .i64 n5) (.int .i64 n6) (.int .i64 n7) (.slice A i c)
            have q0 := cells_all q 0
            have q1 := cells_all q 1
            have q2 := cells_all q 2
            have q3 := cells_all q 3
            have q4 := cells_all q 4
            have q5 := cells_all q 5
            have q6 := cells_all q 6
            have q7 := cells_all q 7
            simp at q0 q1 q2 q3 q4 q5 q6 q7
            have ofin := out8 (HO0.out.trans (OOr.out.trans OO7.out)) (Nat.le_of_eq hB) (.int .i64 n1) (.int .i64 n2) (.int .i64 n3) (.int .i64 n4) (.int .i64 n5) (.int .i64 n6) (.int .i64 n7) (.slice A i c)
            have HROWF := ((HROW.out _ OO7.out).keep (M := fun k => k = B) (outB8 w7 B (.int .i64 n1) (.int .i64 n2) (.int .i64 n3) (.int .i64 n4) (.int .i64 n5) (.int .i64 n6) (.int .i64 n7) (.slice A i c)) (fun k hk _ => hk)).less (N' := fun _ => False) (fun _ h => h.elim)
            clear b0 b1 b2 b3 b4 b5 b6 b7 c0 c1 c2 c3 c4 c5 c6 c7 t0 t1 t2 t3 t4 t5 t6 t7
            refine bodyPost_ret (v := .tuple #[.agg #[.int .i64 n1, .int .i64 n2, .int .i64 n3, .int .i64 n4, .int .i64 n5, .int .i64 n6, .int .i64 n7, .slice A i c], .int .i64 0]) ?_ rfl ?_
            · simp [results, Tryz.results15, go_sem, q0, q1, q2, q3, q4, q5, q6, q7]
            · have hgf : gfin ⟨n1, n2, n3, n4, n5, n6, n7, []⟩ (es, Le, ee) = (⟨n1, n2, n3, n4, n5, n6, n7, es⟩, 0) := if_pos ⟨HFG.out.1, HFG.out.2⟩
              rw [HSS.out, hgf]
              refine ⟨A, c, ?_, ?_, ofin⟩
              rotate_left
              · show RRow _ _ (.slice A es.length c) es.length 2 (encL es)
                have h := HROWF
                rw [HLEN.out] at h ⊢
                exact h
              show _ = Ending.returned (Value.tuple #[.agg #[.int .i64 n1, .int .i64 n2, .int .i64 n3, .int .i64 n4, .int .i64 n5, .int .i64 n6, .int .i64 n7, .slice A es.length c], .int .i64 0])
              rw [HLEN.out]
          | false =>
            go_wp2_with (first
              | (go_at_call 28; refine C28.out.mono ?_; rintro e w' ⟨rfl, rfl⟩)
              | (go_at_call 33; refine C33.out.mono ?_; rintro e w7 ⟨rfl, ho⟩; have OO7 := Lib.hid ho; have HB7 := Lib.hid (ho.get HBr.out id); have tt := ho.get HTr.out id; have t0 := cells_all tt 0; have t1 := cells_all tt 1; have t2 := cells_all tt 2; have t3 := cells_all tt 3; have t4 := cells_all tt 4; have t5 := cells_all tt 5; have t6 := cells_all tt 6; have t7 := cells_all tt 7; simp at t0 t1 t2 t3 t4 t5 t6 t7; have b0 := cells_all HB7.out 0; have c0 := frozen_all HB7.out 0; have b1 := cells_all HB7.out 1; have c1 := frozen_all HB7.out 1; have b2 := cells_all HB7.out 2; have c2 := frozen_all HB7.out 2; have b3 := cells_all HB7.out 3; have c3 := frozen_all HB7.out 3; have b4 := cells_all HB7.out 4; have c4 := frozen_all HB7.out 4; have b5 := cells_all HB7.out 5; have c5 := frozen_all HB7.out 5; have b6 := cells_all HB7.out 6; have c6 := frozen_all HB7.out 6; have b7 := cells_all HB7.out 7; have c7 := frozen_all HB7.out 7; clear ho tt)
              | fail)
            have q := set8 HB7.out (.int .i64 0) (.int .i64 0) (.int .i64 0) (.int .i64 0) (.int .i64 0) (.int .i64 0) (.int .i64 0) (.slice none 0 0)
            have q0 := cells_all q 0
            have q1 := cells_all q 1
            have q2 := cells_all q 2
            have q3 := cells_all q 3
            have q4 := cells_all q 4
            have q5 := cells_all q 5
            have q6 := cells_all q 6
            have q7 := cells_all q 7
            simp at q0 q1 q2 q3 q4 q5 q6 q7
            have ofin := out8 (HO0.out.trans (OOr.out.trans OO7.out)) (Nat.le_of_eq hB) (.int .i64 0) (.int .i64 0) (.int .i64 0) (.int .i64 0) (.int .i64 0) (.int .i64 0) (.int .i64 0) (.slice none 0 0)
            clear b0 b1 b2 b3 b4 b5 b6 b7 c0 c1 c2 c3 c4 c5 c6 c7 t0 t1 t2 t3 t4 t5 t6 t7
            refine bodyPost_ret (v := .tuple #[.agg #[.int .i64 0, .int .i64 0, .int .i64 0, .int .i64 0, .int .i64 0, .int .i64 0, .int .i64 0, .slice none 0 0], .int .i64 21]) ?_ rfl ?_
            · simp [results, Tryz.results15, go_sem, q0, q1, q2, q3, q4, q5, q6, q7]
            · have hgf : gfin ⟨n1, n2, n3, n4, n5, n6, n7, []⟩ (es, Le, ee) = (zmsg, 21) := if_neg (fun h => by have h2 := h.2; have h3 := HFG.out.2; simp only at h2; rw [h3] at h2; cases h2)
              rw [HSS.out, hgf]
              exact ⟨none, 0, rfl, rrow_nil _ _ _, ofin⟩
        · go_wp2_with (first
            | (go_at_call 28; refine C28.out.mono ?_; rintro e w' ⟨rfl, rfl⟩)
            | (go_at_call 33; refine C33.out.mono ?_; rintro e w7 ⟨rfl, ho⟩; have OO7 := Lib.hid ho; have HB7 := Lib.hid (ho.get HBr.out id); have tt := ho.get HTr.out id; have t0 := cells_all tt 0; have t1 := cells_all tt 1; have t2 := cells_all tt 2; have t3 := cells_all tt 3; have t4 := cells_all tt 4; have t5 := cells_all tt 5; have t6 := cells_all tt 6; have t7 := cells_all tt 7; simp at t0 t1 t2 t3 t4 t5 t6 t7; have b0 := cells_all HB7.out 0; have c0 := frozen_all HB7.out 0; have b1 := cells_all HB7.out 1; have c1 := frozen_all HB7.out 1; have b2 := cells_all HB7.out 2; have c2 := frozen_all HB7.out 2; have b3 := cells_all HB7.out 3; have c3 := frozen_all HB7.out 3; have b4 := cells_all HB7.out 4; have c4 := frozen_all HB7.out 4; have b5 := cells_all HB7.out 5; have c5 := frozen_all HB7.out 5; have b6 := cells_all HB7.out 6; have c6 := frozen_all HB7.out 6; have b7 := cells_all HB7.out 7; have c7 := frozen_all HB7.out 7; clear ho tt)
            | fail)
          have q := set8 HBr.out (.int .i64 0) (.int .i64 0) (.int .i64 0) (.int .i64 0) (.int .i64 0) (.int .i64 0) (.int .i64 0) (.slice none 0 0)
          have q0 := cells_all q 0
          have q1 := cells_all q 1
          have q2 := cells_all q 2
          have q3 := cells_all q 3
          have q4 := cells_all q 4
          have q5 := cells_all q 5
          have q6 := cells_all q 6
          have q7 := cells_all q 7
          simp at q0 q1 q2 q3 q4 q5 q6 q7
          have ofin := out8 (HO0.out.trans OOr.out) (Nat.le_of_eq hB) (.int .i64 0) (.int .i64 0) (.int .i64 0) (.int .i64 0) (.int .i64 0) (.int .i64 0) (.int .i64 0) (.slice none 0 0)
          clear b0 b1 b2 b3 b4 b5 b6 b7 c0 c1 c2 c3 c4 c5 c6 c7 t0 t1 t2 t3 t4 t5 t6 t7
          refine bodyPost_ret (v := .tuple #[.agg #[.int .i64 0, .int .i64 0, .int .i64 0, .int .i64 0, .int .i64 0, .int .i64 0, .int .i64 0, .slice none 0 0], .int .i64 21]) ?_ rfl ?_
          · simp [results, Tryz.results15, go_sem, q0, q1, q2, q3, q4, q5, q6, q7]
          · have hgf : gfin ⟨n1, n2, n3, n4, n5, n6, n7, []⟩ (es, Le, ee) = (zmsg, 21) := if_neg (fun h => hf0 (HFG.out.1.symm.trans h.1))
            rw [HSS.out, hgf]
            exact ⟨none, 0, rfl, rrow_nil _ _ _, ofin⟩
end Go.Proofs.YtlgoenimjmiapaaGreat
