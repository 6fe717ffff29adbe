import Derived.Test.YtlgoenimjmiapaaGreatT29
import Derived.Test.YtlgoenimjmiapaaGreatT30
set_option linter.unusedSimpArgs false
set_option linter.unusedVariables false
set_option linter.unusedSectionVars false
/-! GetNote, the program's. -/
set_option linter.unusedVariables false
set_option linter.unusedSimpArgs false
namespace Go.Proofs.YtlgoenimjmiapaaGreat
open Go.RowKit

theorem rnum_len (L : List UInt8) (e : Int) : (rnum L e).2.1.length ≤ L.length := by
  unfold rnum
  split
  · simp only [List.length_drop]; omega
  · exact Nat.le_refl _
theorem rtxt_len (L : List UInt8) (e : Int) : (rtxt L e).1.length ≤ L.length ∧ (rtxt L e).2.1.length ≤ L.length := by
  unfold rtxt
  split
  · split
    · simp
    · split
      · simp
      · split
        · simp
        · simp only [List.length_drop, List.length_take]; omega
  · simp

/-- What bytes say as a note. -/
def gnote (L : List UInt8) : Nt × Int :=
  let q1 := rnum L 0
  let q2 := rnum q1.2.1 q1.2.2
  let q3 := rnum q2.2.1 q2.2.2
  let q4 := rnum q3.2.1 q3.2.2
  let q5 := rtxt q4.2.1 q4.2.2
  if rdone q5.2.1 q5.2.2 = 0 ∧ Nt.right ⟨q1.1, q2.1, q3.1, ⟨q4.1, q5.1⟩⟩ = true then (⟨q1.1, q2.1, q3.1, ⟨q4.1, q5.1⟩⟩, 0) else (⟨0, 0, 0, ⟨0, []⟩⟩, 21)
def Nt.cells (t : Nt) : Array Value := #[.int .i64 t.kind, .int .i64 t.ep, .int .i64 t.n, .int .i64 t.ent.ep, .string (str t.ent.data)]

theorem box5 {W : World} {B : Nat} {T : TypeId} {a' b' c' d' e' : Value} (h : W.heap[B]? = some (.cells #[a', b', c', d', e'] T (0, 0))) (a b c d e : Value) :
    (((((W.setCell ⟨B, 0, none⟩ a).setCell ⟨B, 1, none⟩ b).setCell ⟨B, 2, none⟩ c).setCell ⟨B, 3, none⟩ d).setCell ⟨B, 4, none⟩ e).heap[B]? = some (.cells #[a, b, c, d, e] T (0, 0)) := by
  have := heap_set (heap_set (heap_set (heap_set (heap_set h 0 a) 1 b) 2 c) 3 d) 4 e
  simpa using this
theorem out5 {w W : World} {B : Nat} (ho : Out Zone.no w W) (hB : w.heap.size ≤ B) (a b c d e : Value) :
    Out Zone.no w (((((W.setCell ⟨B, 0, none⟩ a).setCell ⟨B, 1, none⟩ b).setCell ⟨B, 2, none⟩ c).setCell ⟨B, 3, none⟩ d).setCell ⟨B, 4, none⟩ e) :=
  ((((ho.setCell (p := ⟨B, 0, none⟩) (Or.inr hB) _).setCell (p := ⟨B, 1, none⟩) (Or.inr hB) _).setCell (p := ⟨B, 2, none⟩) (Or.inr hB) _).setCell (p := ⟨B, 3, none⟩) (Or.inr hB) _).setCell (p := ⟨B, 4, none⟩) (Or.inr hB) _

set_option maxRecDepth 100000 in
set_option maxHeartbeats 1000000 in
theorem gnote_is (w : World) (v : Value) (L : List UInt8) (hr : Row Zone.no w v (bytes L)) (hl : L.length ≤ 140737488355328) :
    Calls Tryz.prog 8 #[v] w fun e w' => e = .returned (.tuple #[.agg (gnote L).1.cells, .int .i64 (gnote L).2]) ∧ Out Zone.no w w' := by
  obtain ⟨B, hB⟩ : ∃ B, w.heap.size = B := ⟨_, rfl⟩
  obtain ⟨W0, hW0⟩ : ∃ W0, w.alloc (.cells #[.int .i64 0, .int .i64 0, .int .i64 0, .int .i64 0, .string ⟨#[]⟩] 36) = W0 := ⟨_, rfl⟩
  have HB : Hid (W0.heap[B]? = some (.cells #[.int .i64 0, .int .i64 0, .int .i64 0, .int .i64 0, .string ⟨#[]⟩] 36 (0, 0))) := by rw [← hW0, ← hB]; exact heap_alloc_new w _
  have HO0 : Hid (Out Zone.no w W0) := by rw [← hW0]; exact (Out.refl _ _).alloc _
  have HS0 : Hid (W0.heap.size = B + 1) := by rw [← hW0, ← hB]; show _ = _; simp
  have HNEW := Lib.hid (newrd_is W0 v L (hr.out HO0.out) hl)
  clear hr
  unfold gnote
  simp only
  have a1 := rnum_len L 0
  obtain ⟨⟨n1, L1, e1⟩, h1⟩ : ∃ q, rnum L 0 = q := ⟨_, rfl⟩
  have C1 : Hid (∀ W x, PR W x L 0 → Calls Tryz.prog 26 #[.pointer (some ⟨x, 0, none⟩)] W fun en w' => en = .returned (.int .i64 n1) ∧ PR w' x L1 e1 ∧ Out (zx x) W w') := fun W x hp => by have := rdnum_is hp; rw [h1] at this; exact this
  rw [h1] at a1 ⊢
  simp only at a1 ⊢
  have a2 := rnum_len L1 e1
  obtain ⟨⟨n2, L2, e2⟩, h2⟩ : ∃ q, rnum L1 e1 = q := ⟨_, rfl⟩
  have C2 : Hid (∀ W x, PR W x L1 e1 → Calls Tryz.prog 26 #[.pointer (some ⟨x, 0, none⟩)] W fun en w' => en = .returned (.int .i64 n2) ∧ PR w' x L2 e2 ∧ Out (zx x) W w') := fun W x hp => by have := rdnum_is hp; rw [h2] at this; exact this
  rw [h2] at a2 ⊢
  simp only at a2 ⊢
  have a3 := rnum_len L2 e2
  obtain ⟨⟨n3, L3, e3⟩, h3⟩ : ∃ q, rnum L2 e2 = q := ⟨_, rfl⟩
  have C3 : Hid (∀ W x, PR W x L2 e2 → Calls Tryz.prog 26 #[.pointer (some ⟨x, 0, none⟩)] W fun en w' => en = .returned (.int .i64 n3) ∧ PR w' x L3 e3 ∧ Out (zx x) W w') := fun W x hp => by have := rdnum_is hp; rw [h3] at this; exact this
  rw [h3] at a3 ⊢
  simp only at a3 ⊢
  have a4 := rnum_len L3 e3
  obtain ⟨⟨n4, L4, e4⟩, h4⟩ : ∃ q, rnum L3 e3 = q := ⟨_, rfl⟩
  have C4 : Hid (∀ W x, PR W x L3 e3 → Calls Tryz.prog 26 #[.pointer (some ⟨x, 0, none⟩)] W fun en w' => en = .returned (.int .i64 n4) ∧ PR w' x L4 e4 ∧ Out (zx x) W w') := fun W x hp => by have := rdnum_is hp; rw [h4] at this; exact this
  rw [h4] at a4 ⊢
  simp only at a4 ⊢
  have a5 := rtxt_len L4 e4
  obtain ⟨⟨d, L5, e5⟩, h5⟩ : ∃ q, rtxt L4 e4 = q := ⟨_, rfl⟩
  have C5 : Hid (∀ W x, PR W x L4 e4 → Calls Tryz.prog 27 #[.pointer (some ⟨x, 0, none⟩)] W fun en w' => en = .returned (.string (str d)) ∧ PR w' x L5 e5 ∧ Out (zx x) W w') := fun W x hp => by have := rdtxt_is hp (by omega); rw [h5] at this; exact this
  rw [h5] at a5 ⊢
  simp only at a5 ⊢
  have C6 : Hid (∀ W x, PR W x L5 e5 → Calls Tryz.prog 28 #[.pointer (some ⟨x, 0, none⟩)] W fun en w' => en = .returned (.int .i64 (rdone L5 e5)) ∧ W = w') := fun W x hp => done_is_ hp
  have C7 : Hid (∀ W, Calls Tryz.prog 19 #[.agg #[.int .i64 n1, .int .i64 n2, .int .i64 n3, .int .i64 n4, .string (str d)]] W fun e w' => e = .returned (.bool (Nt.right ⟨n1, n2, n3, ⟨n4, d⟩⟩)) ∧ Out Zone.no W w') := fun W => nright_is W n1 n2 n3 n4 d (by omega)
  obtain ⟨f, hf⟩ : ∃ f, rdone L5 e5 = f := ⟨_, rfl⟩
  obtain ⟨g, hg⟩ : ∃ g, Nt.right ⟨n1, n2, n3, ⟨n4, d⟩⟩ = g := ⟨_, rfl⟩
  rw [hf] at C6 ⊢
  rw [hg] at C7 ⊢
  clear h1 h2 h3 h4 h5 hf hg a1 a2 a3 a4 a5 hl
  obtain hf | ⟨hf, hf'⟩ : f = 0 ∨ (¬ f = 0 ∧ (f == 0) = false) := by
    by_cases h : f = 0
    · exact Or.inl h
    · exact Or.inr ⟨h, by simpa using h⟩
  · subst hf
    cases g with
    | true =>
      rw [if_pos ⟨rfl, rfl⟩]
      go_enter Tryz.func8, Tryz.ntmps8
      go_wp2_with (first
        | (go_at_call 25; refine HNEW.out.mono ?_; rintro e w1 ⟨x, rfl, hx, hp, ho⟩; have PP := Lib.hid hp; have OO := Lib.hid ho; have HPA : Hid ((zx x).Past W0.heap.size) := (fun k hk => by cases hk; exact hx); clear hp ho hx)
        | (go_at_call 26; (first | refine (C1.out _ _ PP.out).mono ?_ | refine (C2.out _ _ PP.out).mono ?_ | refine (C3.out _ _ PP.out).mono ?_ | refine (C4.out _ _ PP.out).mono ?_); rintro e w2 ⟨rfl, hp, ho⟩; have PP := Lib.hid hp; have OO := Lib.hid (OO.out.fresh ho HPA.out); clear hp ho)
        | (go_at_call 27; refine (C5.out _ _ PP.out).mono ?_; rintro e w2 ⟨rfl, hp, ho⟩; have PP := Lib.hid hp; have OO := Lib.hid (OO.out.fresh ho HPA.out); clear hp ho; obtain ⟨T, hT⟩ : ∃ T, w2.heap.size = T := ⟨_, rfl⟩; obtain ⟨W3, hW3⟩ : ∃ W3, w2.alloc (.cells #[.int .i64 n1, .int .i64 n2, .int .i64 n3, .int .i64 n4, .string (str d)] 36) = W3 := ⟨_, rfl⟩; have HT : Hid (W3.heap[T]? = some (.cells #[.int .i64 n1, .int .i64 n2, .int .i64 n3, .int .i64 n4, .string (str d)] 36 (0, 0))) := (by rw [← hW3, ← hT]; exact heap_alloc_new w2 _); have o3 : Out Zone.no w2 W3 := (by rw [← hW3]; exact (Out.refl _ _).alloc _); have PP3 := Lib.hid (PP.out.out o3); have OO3 := Lib.hid (OO.out.trans o3); have t0 := cells_all HT.out 0; have t1 := cells_all HT.out 1; have t2 := cells_all HT.out 2; have t3 := cells_all HT.out 3; have t4 := cells_all HT.out 4; have HB3 := Lib.hid (OO3.out.get HB.out id); have b0 := cells_all HB3.out 0; have b1 := cells_all HB3.out 1; have b2 := cells_all HB3.out 2; have b3 := cells_all HB3.out 3; have b4 := cells_all HB3.out 4; have c0 := frozen_all HB3.out 0; have c1 := frozen_all HB3.out 1; have c2 := frozen_all HB3.out 2; have c3 := frozen_all HB3.out 3; have c4 := frozen_all HB3.out 4; clear o3)
        | (go_at_call 28; refine (C6.out _ _ PP3.out).mono ?_; rintro e w' ⟨rfl, rfl⟩)
        | (go_at_call 19; refine (C7.out _).mono ?_; rintro e w4 ⟨rfl, ho⟩; have OO4 := Lib.hid (OO3.out.trans ho); have HT4 := Lib.hid (ho.get HT.out id); have HB4 := Lib.hid (ho.get HB3.out id); have t0 := cells_all HT4.out 0; have t1 := cells_all HT4.out 1; have t2 := cells_all HT4.out 2; have t3 := cells_all HT4.out 3; have t4 := cells_all HT4.out 4; have b0 := cells_all HB4.out 0; have b1 := cells_all HB4.out 1; have b2 := cells_all HB4.out 2; have b3 := cells_all HB4.out 3; have b4 := cells_all HB4.out 4; have c0 := frozen_all HB4.out 0; have c1 := frozen_all HB4.out 1; have c2 := frozen_all HB4.out 2; have c3 := frozen_all HB4.out 3; have c4 := frozen_all HB4.out 4; clear ho)
        | fail)
      have q := box5 HB4.out (.int .i64 n1) (.int .i64 n2) (.int .i64 n3) (.int .i64 n4) (.string (str d))
      have q0 := cells_all q 0
      have q1 := cells_all q 1
      have q2 := cells_all q 2
      have q3 := cells_all q 3
      have q4 := cells_all q 4
      simp at q0 q1 q2 q3 q4
      have ofin := out5 (HO0.out.trans OO4.out) (Nat.le_of_eq hB) (.int .i64 n1) (.int .i64 n2) (.int .i64 n3) (.int .i64 n4) (.string (str d))
      exact bodyPost_ret (v := .tuple #[.agg #[.int .i64 n1, .int .i64 n2, .int .i64 n3, .int .i64 n4, .string (str d)], .int .i64 0]) (by simp [results, Tryz.results8, go_sem, q0, q1, q2, q3, q4]) rfl ⟨rfl, ofin⟩
    | false =>
      rw [if_neg (by simp)]
      go_enter Tryz.func8, Tryz.ntmps8
      go_wp2_with (first
        | (go_at_call 25; refine HNEW.out.mono ?_; rintro e w1 ⟨x, rfl, hx, hp, ho⟩; have PP := Lib.hid hp; have OO := Lib.hid ho; have HPA : Hid ((zx x).Past W0.heap.size) := (fun k hk => by cases hk; exact hx); clear hp ho hx)
        | (go_at_call 26; (first | refine (C1.out _ _ PP.out).mono ?_ | refine (C2.out _ _ PP.out).mono ?_ | refine (C3.out _ _ PP.out).mono ?_ | refine (C4.out _ _ PP.out).mono ?_); rintro e w2 ⟨rfl, hp, ho⟩; have PP := Lib.hid hp; have OO := Lib.hid (OO.out.fresh ho HPA.out); clear hp ho)
        | (go_at_call 27; refine (C5.out _ _ PP.out).mono ?_; rintro e w2 ⟨rfl, hp, ho⟩; have PP := Lib.hid hp; have OO := Lib.hid (OO.out.fresh ho HPA.out); clear hp ho; obtain ⟨T, hT⟩ : ∃ T, w2.heap.size = T := ⟨_, rfl⟩; obtain ⟨W3, hW3⟩ : ∃ W3, w2.alloc (.cells #[.int .i64 n1, .int .i64 n2, .int .i64 n3, .int .i64 n4, .string (str d)] 36) = W3 := ⟨_, rfl⟩; have HT : Hid (W3.heap[T]? = some (.cells #[.int .i64 n1, .int .i64 n2, .int .i64 n3, .int .i64 n4, .string (str d)] 36 (0, 0))) := (by rw [← hW3, ← hT]; exact heap_alloc_new w2 _); have o3 : Out Zone.no w2 W3 := (by rw [← hW3]; exact (Out.refl _ _).alloc _); have PP3 := Lib.hid (PP.out.out o3); have OO3 := Lib.hid (OO.out.trans o3); have t0 := cells_all HT.out 0; have t1 := cells_all HT.out 1; have t2 := cells_all HT.out 2; have t3 := cells_all HT.out 3; have t4 := cells_all HT.out 4; have HB3 := Lib.hid (OO3.out.get HB.out id); have b0 := cells_all HB3.out 0; have b1 := cells_all HB3.out 1; have b2 := cells_all HB3.out 2; have b3 := cells_all HB3.out 3; have b4 := cells_all HB3.out 4; have c0 := frozen_all HB3.out 0; have c1 := frozen_all HB3.out 1; have c2 := frozen_all HB3.out 2; have c3 := frozen_all HB3.out 3; have c4 := frozen_all HB3.out 4; clear o3)
        | (go_at_call 28; refine (C6.out _ _ PP3.out).mono ?_; rintro e w' ⟨rfl, rfl⟩)
        | (go_at_call 19; refine (C7.out _).mono ?_; rintro e w4 ⟨rfl, ho⟩; have OO4 := Lib.hid (OO3.out.trans ho); have HT4 := Lib.hid (ho.get HT.out id); have HB4 := Lib.hid (ho.get HB3.out id); have t0 := cells_all HT4.out 0; have t1 := cells_all HT4.out 1; have t2 := cells_all HT4.out 2; have t3 := cells_all HT4.out 3; have t4 := cells_all HT4.out 4; have b0 := cells_all HB4.out 0; have b1 := cells_all HB4.out 1; have b2 := cells_all HB4.out 2; have b3 := cells_all HB4.out 3; have b4 := cells_all HB4.out 4; have c0 := frozen_all HB4.out 0; have c1 := frozen_all HB4.out 1; have c2 := frozen_all HB4.out 2; have c3 := frozen_all HB4.out 3; have c4 := frozen_all HB4.out 4; clear ho)
        | fail)
      have q := box5 HB4.out (.int .i64 0) (.int .i64 0) (.int .i64 0) (.int .i64 0) (.string ⟨#[]⟩)
      have q0 := cells_all q 0
      have q1 := cells_all q 1
      have q2 := cells_all q 2
      have q3 := cells_all q 3
      have q4 := cells_all q 4
      simp at q0 q1 q2 q3 q4
      have ofin := out5 (HO0.out.trans OO4.out) (Nat.le_of_eq hB) (.int .i64 0) (.int .i64 0) (.int .i64 0) (.int .i64 0) (.string ⟨#[]⟩)
      exact bodyPost_ret (v := .tuple #[.agg #[.int .i64 0, .int .i64 0, .int .i64 0, .int .i64 0, .string ⟨#[]⟩], .int .i64 21]) (by simp [results, Tryz.results8, go_sem, q0, q1, q2, q3, q4]) rfl ⟨rfl, ofin⟩
  · rw [if_neg (by simp [hf])]
    go_enter Tryz.func8, Tryz.ntmps8
    go_wp2_with (first
      | (go_at_call 25; refine HNEW.out.mono ?_; rintro e w1 ⟨x, rfl, hx, hp, ho⟩; have PP := Lib.hid hp; have OO := Lib.hid ho; have HPA : Hid ((zx x).Past W0.heap.size) := (fun k hk => by cases hk; exact hx); clear hp ho hx)
      | (go_at_call 26; (first | refine (C1.out _ _ PP.out).mono ?_ | refine (C2.out _ _ PP.out).mono ?_ | refine (C3.out _ _ PP.out).mono ?_ | refine (C4.out _ _ PP.out).mono ?_); rintro e w2 ⟨rfl, hp, ho⟩; have PP := Lib.hid hp; have OO := Lib.hid (OO.out.fresh ho HPA.out); clear hp ho)
      | (go_at_call 27; refine (C5.out _ _ PP.out).mono ?_; rintro e w2 ⟨rfl, hp, ho⟩; have PP := Lib.hid hp; have OO := Lib.hid (OO.out.fresh ho HPA.out); clear hp ho; obtain ⟨T, hT⟩ : ∃ T, w2.heap.size = T := ⟨_, rfl⟩; obtain ⟨W3, hW3⟩ : ∃ W3, w2.alloc (.cells #[.int .i64 n1, .int .i64 n2, .int .i64 n3, .int .i64 n4, .string (str d)] 36) = W3 := ⟨_, rfl⟩; have HT : Hid (W3.heap[T]? = some (.cells #[.int .i64 n1, .int .i64 n2, .int .i64 n3, .int .i64 n4, .string (str d)] 36 (0, 0))) := (by rw [← hW3, ← hT]; exact heap_alloc_new w2 _); have o3 : Out Zone.no w2 W3 := (by rw [← hW3]; exact (Out.refl _ _).alloc _); have PP3 := Lib.hid (PP.out.out o3); have OO3 := Lib.hid (OO.out.trans o3); have t0 := cells_all HT.out 0; have t1 := cells_all HT.out 1; have t2 := cells_all HT.out 2; have t3 := cells_all HT.out 3; have t4 := cells_all HT.out 4; have HB3 := Lib.hid (OO3.out.get HB.out id); have b0 := cells_all HB3.out 0; have b1 := cells_all HB3.out 1; have b2 := cells_all HB3.out 2; have b3 := cells_all HB3.out 3; have b4 := cells_all HB3.out 4; have c0 := frozen_all HB3.out 0; have c1 := frozen_all HB3.out 1; have c2 := frozen_all HB3.out 2; have c3 := frozen_all HB3.out 3; have c4 := frozen_all HB3.out 4; clear o3)
      | (go_at_call 28; refine (C6.out _ _ PP3.out).mono ?_; rintro e w' ⟨rfl, rfl⟩)
      | (go_at_call 19; refine (C7.out _).mono ?_; rintro e w4 ⟨rfl, ho⟩; have OO4 := Lib.hid (OO3.out.trans ho); have HT4 := Lib.hid (ho.get HT.out id); have HB4 := Lib.hid (ho.get HB3.out id); have t0 := cells_all HT4.out 0; have t1 := cells_all HT4.out 1; have t2 := cells_all HT4.out 2; have t3 := cells_all HT4.out 3; have t4 := cells_all HT4.out 4; have b0 := cells_all HB4.out 0; have b1 := cells_all HB4.out 1; have b2 := cells_all HB4.out 2; have b3 := cells_all HB4.out 3; have b4 := cells_all HB4.out 4; have c0 := frozen_all HB4.out 0; have c1 := frozen_all HB4.out 1; have c2 := frozen_all HB4.out 2; have c3 := frozen_all HB4.out 3; have c4 := frozen_all HB4.out 4; clear ho)
      | fail)
    have q := box5 HB3.out (.int .i64 0) (.int .i64 0) (.int .i64 0) (.int .i64 0) (.string ⟨#[]⟩)
    have q0 := cells_all q 0
    have q1 := cells_all q 1
    have q2 := cells_all q 2
    have q3 := cells_all q 3
    have q4 := cells_all q 4
    simp at q0 q1 q2 q3 q4
    have ofin := out5 (HO0.out.trans OO3.out) (Nat.le_of_eq hB) (.int .i64 0) (.int .i64 0) (.int .i64 0) (.int .i64 0) (.string ⟨#[]⟩)
    exact bodyPost_ret (v := .tuple #[.agg #[.int .i64 0, .int .i64 0, .int .i64 0, .int .i64 0, .string ⟨#[]⟩], .int .i64 21]) (by simp [results, Tryz.results8, go_sem, q0, q1, q2, q3, q4]) rfl ⟨rfl, ofin⟩
end Go.Proofs.YtlgoenimjmiapaaGreat

/-! GetNote, the document's. -/
set_option linter.unusedVariables false
set_option linter.unusedSimpArgs false
namespace Go.Proofs.YtlgoenimjmiapaaGreat
open Go.RowKit

set_option maxRecDepth 100000 in
set_option maxHeartbeats 1000000 in
theorem rgnote_is (w : World) (v : Value) (L : List UInt8) (hr : Row Zone.no w v (bytes L)) (hl : L.length ≤ 140737488355328) :
    Calls Tryz.prog 9 #[v] w fun e w' => e = .returned (.tuple #[.agg (gnote L).1.cells, .int .i64 (gnote L).2]) ∧ Out Zone.no w w' := by
  obtain ⟨B, hB⟩ : ∃ B, w.heap.size = B := ⟨_, rfl⟩
  obtain ⟨W0, hW0⟩ : ∃ W0, w.alloc (.cells #[.int .i64 0, .int .i64 0, .int .i64 0, .int .i64 0, .string ⟨#[]⟩] 25) = W0 := ⟨_, rfl⟩
  have HB : Hid (W0.heap[B]? = some (.cells #[.int .i64 0, .int .i64 0, .int .i64 0, .int .i64 0, .string ⟨#[]⟩] 25 (0, 0))) := by rw [← hW0, ← hB]; exact heap_alloc_new w _
  have HO0 : Hid (Out Zone.no w W0) := by rw [← hW0]; exact (Out.refl _ _).alloc _
  have HS0 : Hid (W0.heap.size = B + 1) := by rw [← hW0, ← hB]; show _ = _; simp
  have HNEW := Lib.hid (newrr_is W0 v L (hr.out HO0.out) hl)
  clear hr
  unfold gnote
  simp only
  have a1 := rnum_len L 0
  obtain ⟨⟨n1, L1, e1⟩, h1⟩ : ∃ q, rnum L 0 = q := ⟨_, rfl⟩
  have C1 : Hid (∀ W x, RR W x L 0 → Calls Tryz.prog 30 #[.pointer (some ⟨x, 0, none⟩)] W fun en w' => en = .returned (.int .i64 n1) ∧ RR w' x L1 e1 ∧ Out (zx x) W w') := fun W x hp => by have := rrnum_is hp; rw [h1] at this; exact this
  rw [h1] at a1 ⊢
  simp only at a1 ⊢
  have a2 := rnum_len L1 e1
  obtain ⟨⟨n2, L2, e2⟩, h2⟩ : ∃ q, rnum L1 e1 = q := ⟨_, rfl⟩
  have C2 : Hid (∀ W x, RR W x L1 e1 → Calls Tryz.prog 30 #[.pointer (some ⟨x, 0, none⟩)] W fun en w' => en = .returned (.int .i64 n2) ∧ RR w' x L2 e2 ∧ Out (zx x) W w') := fun W x hp => by have := rrnum_is hp; rw [h2] at this; exact this
  rw [h2] at a2 ⊢
  simp only at a2 ⊢
  have a3 := rnum_len L2 e2
  obtain ⟨⟨n3, L3, e3⟩, h3⟩ : ∃ q, rnum L2 e2 = q := ⟨_, rfl⟩
  have C3 : Hid (∀ W x, RR W x L2 e2 → Calls Tryz.prog 30 #[.pointer (some ⟨x, 0, none⟩)] W fun en w' => en = .returned (.int .i64 n3) ∧ RR w' x L3 e3 ∧ Out (zx x) W w') := fun W x hp => by have := rrnum_is hp; rw [h3] at this; exact this
  rw [h3] at a3 ⊢
  simp only at a3 ⊢
  have a4 := rnum_len L3 e3
  obtain ⟨⟨n4, L4, e4⟩, h4⟩ : ∃ q, rnum L3 e3 = q := ⟨_, rfl⟩
  have C4 : Hid (∀ W x, RR W x L3 e3 → Calls Tryz.prog 30 #[.pointer (some ⟨x, 0, none⟩)] W fun en w' => en = .returned (.int .i64 n4) ∧ RR w' x L4 e4 ∧ Out (zx x) W w') := fun W x hp => by have := rrnum_is hp; rw [h4] at this; exact this
  rw [h4] at a4 ⊢
  simp only at a4 ⊢
  have a5 := rtxt_len L4 e4
  obtain ⟨⟨d, L5, e5⟩, h5⟩ : ∃ q, rtxt L4 e4 = q := ⟨_, rfl⟩
  have C5 : Hid (∀ W x, RR W x L4 e4 → Calls Tryz.prog 31 #[.pointer (some ⟨x, 0, none⟩)] W fun en w' => en = .returned (.string (str d)) ∧ RR w' x L5 e5 ∧ Out (zx x) W w') := fun W x hp => by have := rrtxt_is hp; rw [h5] at this; exact this
  rw [h5] at a5 ⊢
  simp only at a5 ⊢
  have C6 : Hid (∀ W x, RR W x L5 e5 → Calls Tryz.prog 32 #[.pointer (some ⟨x, 0, none⟩)] W fun en w' => en = .returned (.int .i64 (rdone L5 e5)) ∧ Out Zone.no W w') := fun W x hp => rdone_is hp
  have C7 : Hid (∀ W, Calls Tryz.prog 22 #[.agg #[.int .i64 n1, .int .i64 n2, .int .i64 n3, .int .i64 n4, .string (str d)]] W fun e w' => e = .returned (.bool (Nt.right ⟨n1, n2, n3, ⟨n4, d⟩⟩)) ∧ Out Zone.no W w') := fun W => rright_is W n1 n2 n3 n4 d (by omega)
  obtain ⟨f, hf⟩ : ∃ f, rdone L5 e5 = f := ⟨_, rfl⟩
  obtain ⟨g, hg⟩ : ∃ g, Nt.right ⟨n1, n2, n3, ⟨n4, d⟩⟩ = g := ⟨_, rfl⟩
  rw [hf] at C6 ⊢
  rw [hg] at C7 ⊢
  clear h1 h2 h3 h4 h5 hf hg a1 a2 a3 a4 a5 hl
  obtain hf | ⟨hf, hf'⟩ : f = 0 ∨ (¬ f = 0 ∧ (f == 0) = false) := by
    by_cases h : f = 0
    · exact Or.inl h
    · exact Or.inr ⟨h, by simpa using h⟩
  · subst hf
    cases g with
    | true =>
      rw [if_pos ⟨rfl, rfl⟩]
      go_enter Tryz.func9, Tryz.ntmps9
      go_wp2_with (first
        | (go_at_call 29; refine HNEW.out.mono ?_; rintro e w1 ⟨x, rfl, hx, hp, ho⟩; have PP := Lib.hid hp; have OO := Lib.hid ho; have HPA : Hid ((zx x).Past W0.heap.size) := (fun k hk => by cases hk; exact hx); clear hp ho hx)
        | (go_at_call 30; refine (C1.out _ _ PP.out).mono ?_; rintro e w2 ⟨rfl, hp, ho⟩; have HXS : Hid (x < w2.heap.size) := (heap_lt hp.at_.choose_spec.choose_spec.choose_spec.choose_spec.1); have OO2 := Lib.hid (OO.out.fresh ho HPA.out); have TT : Hid ((w2.alloc (.cells #[.int .i64 n1, .int .i64 0, .int .i64 0, .int .i64 0, .string ⟨#[]⟩] 25)).heap[w2.heap.size]? = some (.cells #[.int .i64 n1, .int .i64 0, .int .i64 0, .int .i64 0, .string ⟨#[]⟩] 25 (0, 0))) := (heap_alloc_new w2 _); have o3 : Out Zone.no w2 (w2.alloc (.cells #[.int .i64 n1, .int .i64 0, .int .i64 0, .int .i64 0, .string ⟨#[]⟩] 25)) := ((Out.refl _ _).alloc _); have PP := Lib.hid (hp.out o3); have OO := Lib.hid (OO2.out.trans o3); have HXT : Hid (x < w2.heap.size) := HXS.out; have HNE : Hid (¬ (zx x).S w2.heap.size) := (fun e => by have e' : w2.heap.size = x := e; have := HXT.out; omega); have HTS : Hid (W0.heap.size ≤ w2.heap.size) := OO2.out.size; clear hp ho o3)
        | (go_at_call 30; refine (C2.out _ _ PP.out).mono ?_; rintro e w4 ⟨rfl, hp, ho⟩; have tt := ho.get TT.out HNE.out; have tc := cells_all tt 1; have tf := frozen_all tt 1; simp at tc; have tt2 := heap_set tt 1 (.int .i64 n2); simp at tt2; have TT := Lib.hid tt2; have PP := Lib.hid (hp.set HXT.out 1 (.int .i64 n2)); have OO := Lib.hid ((OO.out.fresh ho HPA.out).setCell (p := ⟨w2.heap.size, 1, none⟩) (Or.inr HTS.out) (.int .i64 n2)); clear hp ho tt tt2)
        | (go_at_call 30; refine (C3.out _ _ PP.out).mono ?_; rintro e w4 ⟨rfl, hp, ho⟩; have tt := ho.get TT.out HNE.out; have tc := cells_all tt 2; have tf := frozen_all tt 2; simp at tc; have tt2 := heap_set tt 2 (.int .i64 n3); simp at tt2; have TT := Lib.hid tt2; have PP := Lib.hid (hp.set HXT.out 2 (.int .i64 n3)); have OO := Lib.hid ((OO.out.fresh ho HPA.out).setCell (p := ⟨w2.heap.size, 2, none⟩) (Or.inr HTS.out) (.int .i64 n3)); clear hp ho tt tt2)
        | (go_at_call 30; refine (C4.out _ _ PP.out).mono ?_; rintro e w4 ⟨rfl, hp, ho⟩; have tt := ho.get TT.out HNE.out; have tc := cells_all tt 3; have tf := frozen_all tt 3; simp at tc; have tt2 := heap_set tt 3 (.int .i64 n4); simp at tt2; have TT := Lib.hid tt2; have PP := Lib.hid (hp.set HXT.out 3 (.int .i64 n4)); have OO := Lib.hid ((OO.out.fresh ho HPA.out).setCell (p := ⟨w2.heap.size, 3, none⟩) (Or.inr HTS.out) (.int .i64 n4)); clear hp ho tt tt2)
        | (go_at_call 31; refine (C5.out _ _ PP.out).mono ?_; rintro e w4 ⟨rfl, hp, ho⟩; have tt := ho.get TT.out HNE.out; have tc := cells_all tt 4; have tf := frozen_all tt 4; simp at tc; have tt2 := heap_set tt 4 (.string (str d)); simp at tt2; have TT := Lib.hid tt2; have PP := Lib.hid (hp.set HXT.out 4 (.string (str d))); have OO := Lib.hid ((OO.out.fresh ho HPA.out).setCell (p := ⟨w2.heap.size, 4, none⟩) (Or.inr HTS.out) (.string (str d))); clear hp ho tt tt2)
        | (go_at_call 32; refine (C6.out _ _ PP.out).mono ?_; rintro e w6 ⟨rfl, ho⟩; have tt := ho.get TT.out id; have TT := Lib.hid tt; have OO := Lib.hid (OO.out.trans ho); have t0 := cells_all tt 0; have t1 := cells_all tt 1; have t2 := cells_all tt 2; have t3 := cells_all tt 3; have t4 := cells_all tt 4; simp at t0 t1 t2 t3 t4; have HB3 := Lib.hid (OO.out.get HB.out id); have b0 := cells_all HB3.out 0; have b1 := cells_all HB3.out 1; have b2 := cells_all HB3.out 2; have b3 := cells_all HB3.out 3; have b4 := cells_all HB3.out 4; have c0 := frozen_all HB3.out 0; have c1 := frozen_all HB3.out 1; have c2 := frozen_all HB3.out 2; have c3 := frozen_all HB3.out 3; have c4 := frozen_all HB3.out 4; clear ho tt)
        | (go_at_call 22; refine (C7.out _).mono ?_; rintro e w7 ⟨rfl, ho⟩; have tt := ho.get TT.out id; have TT := Lib.hid tt; have OO := Lib.hid (OO.out.trans ho); have t0 := cells_all tt 0; have t1 := cells_all tt 1; have t2 := cells_all tt 2; have t3 := cells_all tt 3; have t4 := cells_all tt 4; simp at t0 t1 t2 t3 t4; have HB4 := Lib.hid (OO.out.get HB.out id); have b0 := cells_all HB4.out 0; have b1 := cells_all HB4.out 1; have b2 := cells_all HB4.out 2; have b3 := cells_all HB4.out 3; have b4 := cells_all HB4.out 4; have c0 := frozen_all HB4.out 0; have c1 := frozen_all HB4.out 1; have c2 := frozen_all HB4.out 2; have c3 := frozen_all HB4.out 3; have c4 := frozen_all HB4.out 4; clear ho tt)
        | fail)
      have q := box5 HB4.out (.int .i64 n1) (.int .i64 n2) (.int .i64 n3) (.int .i64 n4) (.string (str d))
      have q0 := cells_all q 0
      have q1 := cells_all q 1
      have q2 := cells_all q 2
      have q3 := cells_all q 3
      have q4 := cells_all q 4
      simp at q0 q1 q2 q3 q4
      have ofin := out5 (HO0.out.trans OO.out) (Nat.le_of_eq hB) (.int .i64 n1) (.int .i64 n2) (.int .i64 n3) (.int .i64 n4) (.string (str d))
      exact bodyPost_ret (v := .tuple #[.agg #[.int .i64 n1, .int .i64 n2, .int .i64 n3, .int .i64 n4, .string (str d)], .int .i64 0]) (by simp [results, Tryz.results9, go_sem, q0, q1, q2, q3, q4]) rfl ⟨rfl, ofin⟩
    | false =>
      rw [if_neg (by simp)]
      go_enter Tryz.func9, Tryz.ntmps9
      go_wp2_with (first
        | (go_at_call 29; refine HNEW.out.mono ?_; rintro e w1 ⟨x, rfl, hx, hp, ho⟩; have PP := Lib.hid hp; have OO := Lib.hid ho; have HPA : Hid ((zx x).Past W0.heap.size) := (fun k hk => by cases hk; exact hx); clear hp ho hx)
        | (go_at_call 30; refine (C1.out _ _ PP.out).mono ?_; rintro e w2 ⟨rfl, hp, ho⟩; have HXS : Hid (x < w2.heap.size) := (heap_lt hp.at_.choose_spec.choose_spec.choose_spec.choose_spec.1); have OO2 := Lib.hid (OO.out.fresh ho HPA.out); have TT : Hid ((w2.alloc (.cells #[.int .i64 n1, .int .i64 0, .int .i64 0, .int .i64 0, .string ⟨#[]⟩] 25)).heap[w2.heap.size]? = some (.cells #[.int .i64 n1, .int .i64 0, .int .i64 0, .int .i64 0, .string ⟨#[]⟩] 25 (0, 0))) := (heap_alloc_new w2 _); have o3 : Out Zone.no w2 (w2.alloc (.cells #[.int .i64 n1, .int .i64 0, .int .i64 0, .int .i64 0, .string ⟨#[]⟩] 25)) := ((Out.refl _ _).alloc _); have PP := Lib.hid (hp.out o3); have OO := Lib.hid (OO2.out.trans o3); have HXT : Hid (x < w2.heap.size) := HXS.out; have HNE : Hid (¬ (zx x).S w2.heap.size) := (fun e => by have e' : w2.heap.size = x := e; have := HXT.out; omega); have HTS : Hid (W0.heap.size ≤ w2.heap.size) := OO2.out.size; clear hp ho o3)
        | (go_at_call 30; refine (C2.out _ _ PP.out).mono ?_; rintro e w4 ⟨rfl, hp, ho⟩; have tt := ho.get TT.out HNE.out; have tc := cells_all tt 1; have tf := frozen_all tt 1; simp at tc; have tt2 := heap_set tt 1 (.int .i64 n2); simp at tt2; have TT := Lib.hid tt2; have PP := Lib.hid (hp.set HXT.out 1 (.int .i64 n2)); have OO := Lib.hid ((OO.out.fresh ho HPA.out).setCell (p := ⟨w2.heap.size, 1, none⟩) (Or.inr HTS.out) (.int .i64 n2)); clear hp ho tt tt2)
        | (go_at_call 30; refine (C3.out _ _ PP.out).mono ?_; rintro e w4 ⟨rfl, hp, ho⟩; have tt := ho.get TT.out HNE.out; have tc := cells_all tt 2; have tf := frozen_all tt 2; simp at tc; have tt2 := heap_set tt 2 (.int .i64 n3); simp at tt2; have TT := Lib.hid tt2; have PP := Lib.hid (hp.set HXT.out 2 (.int .i64 n3)); have OO := Lib.hid ((OO.out.fresh ho HPA.out).setCell (p := ⟨w2.heap.size, 2, none⟩) (Or.inr HTS.out) (.int .i64 n3)); clear hp ho tt tt2)
        | (go_at_call 30; refine (C4.out _ _ PP.out).mono ?_; rintro e w4 ⟨rfl, hp, ho⟩; have tt := ho.get TT.out HNE.out; have tc := cells_all tt 3; have tf := frozen_all tt 3; simp at tc; have tt2 := heap_set tt 3 (.int .i64 n4); simp at tt2; have TT := Lib.hid tt2; have PP := Lib.hid (hp.set HXT.out 3 (.int .i64 n4)); have OO := Lib.hid ((OO.out.fresh ho HPA.out).setCell (p := ⟨w2.heap.size, 3, none⟩) (Or.inr HTS.out) (.int .i64 n4)); clear hp ho tt tt2)
        | (go_at_call 31; refine (C5.out _ _ PP.out).mono ?_; rintro e w4 ⟨rfl, hp, ho⟩; have tt := ho.get TT.out HNE.out; have tc := cells_all tt 4; have tf := frozen_all tt 4; simp at tc; have tt2 := heap_set tt 4 (.string (str d)); simp at tt2; have TT := Lib.hid tt2; have PP := Lib.hid (hp.set HXT.out 4 (.string (str d))); have OO := Lib.hid ((OO.out.fresh ho HPA.out).setCell (p := ⟨w2.heap.size, 4, none⟩) (Or.inr HTS.out) (.string (str d))); clear hp ho tt tt2)
        | (go_at_call 32; refine (C6.out _ _ PP.out).mono ?_; rintro e w6 ⟨rfl, ho⟩; have tt := ho.get TT.out id; have TT := Lib.hid tt; have OO := Lib.hid (OO.out.trans ho); have t0 := cells_all tt 0; have t1 := cells_all tt 1; have t2 := cells_all tt 2; have t3 := cells_all tt 3; have t4 := cells_all tt 4; simp at t0 t1 t2 t3 t4; have HB3 := Lib.hid (OO.out.get HB.out id); have b0 := cells_all HB3.out 0; have b1 := cells_all HB3.out 1; have b2 := cells_all HB3.out 2; have b3 := cells_all HB3.out 3; have b4 := cells_all HB3.out 4; have c0 := frozen_all HB3.out 0; have c1 := frozen_all HB3.out 1; have c2 := frozen_all HB3.out 2; have c3 := frozen_all HB3.out 3; have c4 := frozen_all HB3.out 4; clear ho tt)
        | (go_at_call 22; refine (C7.out _).mono ?_; rintro e w7 ⟨rfl, ho⟩; have tt := ho.get TT.out id; have TT := Lib.hid tt; have OO := Lib.hid (OO.out.trans ho); have t0 := cells_all tt 0; have t1 := cells_all tt 1; have t2 := cells_all tt 2; have t3 := cells_all tt 3; have t4 := cells_all tt 4; simp at t0 t1 t2 t3 t4; have HB4 := Lib.hid (OO.out.get HB.out id); have b0 := cells_all HB4.out 0; have b1 := cells_all HB4.out 1; have b2 := cells_all HB4.out 2; have b3 := cells_all HB4.out 3; have b4 := cells_all HB4.out 4; have c0 := frozen_all HB4.out 0; have c1 := frozen_all HB4.out 1; have c2 := frozen_all HB4.out 2; have c3 := frozen_all HB4.out 3; have c4 := frozen_all HB4.out 4; clear ho tt)
        | fail)
      have q := box5 HB4.out (.int .i64 0) (.int .i64 0) (.int .i64 0) (.int .i64 0) (.string ⟨#[]⟩)
      have q0 := cells_all q 0
      have q1 := cells_all q 1
      have q2 := cells_all q 2
      have q3 := cells_all q 3
      have q4 := cells_all q 4
      simp at q0 q1 q2 q3 q4
      have ofin := out5 (HO0.out.trans OO.out) (Nat.le_of_eq hB) (.int .i64 0) (.int .i64 0) (.int .i64 0) (.int .i64 0) (.string ⟨#[]⟩)
      exact bodyPost_ret (v := .tuple #[.agg #[.int .i64 0, .int .i64 0, .int .i64 0, .int .i64 0, .string ⟨#[]⟩], .int .i64 21]) (by simp [results, Tryz.results9, go_sem, q0, q1, q2, q3, q4]) rfl ⟨rfl, ofin⟩
  · rw [if_neg (by simp [hf])]
    go_enter Tryz.func9, Tryz.ntmps9
    go_wp2_with (first
      | (go_at_call 29; refine HNEW.out.mono ?_; rintro e w1 ⟨x, rfl, hx, hp, ho⟩; have PP := Lib.hid hp; have OO := Lib.hid ho; have HPA : Hid ((zx x).Past W0.heap.size) := (fun k hk => by cases hk; exact hx); clear hp ho hx)
      | (go_at_call 30; refine (C1.out _ _ PP.out).mono ?_; rintro e w2 ⟨rfl, hp, ho⟩; have HXS : Hid (x < w2.heap.size) := (heap_lt hp.at_.choose_spec.choose_spec.choose_spec.choose_spec.1); have OO2 := Lib.hid (OO.out.fresh ho HPA.out); have TT : Hid ((w2.alloc (.cells #[.int .i64 n1, .int .i64 0, .int .i64 0, .int .i64 0, .string ⟨#[]⟩] 25)).heap[w2.heap.size]? = some (.cells #[.int .i64 n1, .int .i64 0, .int .i64 0, .int .i64 0, .string ⟨#[]⟩] 25 (0, 0))) := (heap_alloc_new w2 _); have o3 : Out Zone.no w2 (w2.alloc (.cells #[.int .i64 n1, .int .i64 0, .int .i64 0, .int .i64 0, .string ⟨#[]⟩] 25)) := ((Out.refl _ _).alloc _); have PP := Lib.hid (hp.out o3); have OO := Lib.hid (OO2.out.trans o3); have HXT : Hid (x < w2.heap.size) := HXS.out; have HNE : Hid (¬ (zx x).S w2.heap.size) := (fun e => by have e' : w2.heap.size = x := e; have := HXT.out; omega); have HTS : Hid (W0.heap.size ≤ w2.heap.size) := OO2.out.size; clear hp ho o3)
      | (go_at_call 30; refine (C2.out _ _ PP.out).mono ?_; rintro e w4 ⟨rfl, hp, ho⟩; have tt := ho.get TT.out HNE.out; have tc := cells_all tt 1; have tf := frozen_all tt 1; simp at tc; have tt2 := heap_set tt 1 (.int .i64 n2); simp at tt2; have TT := Lib.hid tt2; have PP := Lib.hid (hp.set HXT.out 1 (.int .i64 n2)); have OO := Lib.hid ((OO.out.fresh ho HPA.out).setCell (p := ⟨w2.heap.size, 1, none⟩) (Or.inr HTS.out) (.int .i64 n2)); clear hp ho tt tt2)
      | (go_at_call 30; refine (C3.out _ _ PP.out).mono ?_; rintro e w4 ⟨rfl, hp, ho⟩; have tt := ho.get TT.out HNE.out; have tc := cells_all tt 2; have tf := frozen_all tt 2; simp at tc; have tt2 := heap_set tt 2 (.int .i64 n3); simp at tt2; have TT := Lib.hid tt2; have PP := Lib.hid (hp.set HXT.out 2 (.int .i64 n3)); have OO := Lib.hid ((OO.out.fresh ho HPA.out).setCell (p := ⟨w2.heap.size, 2, none⟩) (Or.inr HTS.out) (.int .i64 n3)); clear hp ho tt tt2)
      | (go_at_call 30; refine (C4.out _ _ PP.out).mono ?_; rintro e w4 ⟨rfl, hp, ho⟩; have tt := ho.get TT.out HNE.out; have tc := cells_all tt 3; have tf := frozen_all tt 3; simp at tc; have tt2 := heap_set tt 3 (.int .i64 n4); simp at tt2; have TT := Lib.hid tt2; have PP := Lib.hid (hp.set HXT.out 3 (.int .i64 n4)); have OO := Lib.hid ((OO.out.fresh ho HPA.out).setCell (p := ⟨w2.heap.size, 3, none⟩) (Or.inr HTS.out) (.int .i64 n4)); clear hp ho tt tt2)
      | (go_at_call 31; refine (C5.out _ _ PP.out).mono ?_; rintro e w4 ⟨rfl, hp, ho⟩; have tt := ho.get TT.out HNE.out; have tc := cells_all tt 4; have tf := frozen_all tt 4; simp at tc; have tt2 := heap_set tt 4 (.string (str d)); simp at tt2; have TT := Lib.hid tt2; have PP := Lib.hid (hp.set HXT.out 4 (.string (str d))); have OO := Lib.hid ((OO.out.fresh ho HPA.out).setCell (p := ⟨w2.heap.size, 4, none⟩) (Or.inr HTS.out) (.string (str d))); clear hp ho tt tt2)
      | (go_at_call 32; refine (C6.out _ _ PP.out).mono ?_; rintro e w6 ⟨rfl, ho⟩; have tt := ho.get TT.out id; have TT := Lib.hid tt; have OO := Lib.hid (OO.out.trans ho); have t0 := cells_all tt 0; have t1 := cells_all tt 1; have t2 := cells_all tt 2; have t3 := cells_all tt 3; have t4 := cells_all tt 4; simp at t0 t1 t2 t3 t4; have HB3 := Lib.hid (OO.out.get HB.out id); have b0 := cells_all HB3.out 0; have b1 := cells_all HB3.out 1; have b2 := cells_all HB3.out 2; have b3 := cells_all HB3.out 3; have b4 := cells_all HB3.out 4; have c0 := frozen_all HB3.out 0; have c1 := frozen_all HB3.out 1; have c2 := frozen_all HB3.out 2; have c3 := frozen_all HB3.out 3; have c4 := frozen_all HB3.out 4; clear ho tt)
      | (go_at_call 22; refine (C7.out _).mono ?_; rintro e w7 ⟨rfl, ho⟩; have tt := ho.get TT.out id; have TT := Lib.hid tt; have OO := Lib.hid (OO.out.trans ho); have t0 := cells_all tt 0; have t1 := cells_all tt 1; have t2 := cells_all tt 2; have t3 := cells_all tt 3; have t4 := cells_all tt 4; simp at t0 t1 t2 t3 t4; have HB4 := Lib.hid (OO.out.get HB.out id); have b0 := cells_all HB4.out 0; have b1 := cells_all HB4.out 1; have b2 := cells_all HB4.out 2; have b3 := cells_all HB4.out 3; have b4 := cells_all HB4.out 4; have c0 := frozen_all HB4.out 0; have c1 := frozen_all HB4.out 1; have c2 := frozen_all HB4.out 2; have c3 := frozen_all HB4.out 3; have c4 := frozen_all HB4.out 4; clear ho tt)
      | fail)
    have q := box5 HB3.out (.int .i64 0) (.int .i64 0) (.int .i64 0) (.int .i64 0) (.string ⟨#[]⟩)
    have q0 := cells_all q 0
    have q1 := cells_all q 1
    have q2 := cells_all q 2
    have q3 := cells_all q 3
    have q4 := cells_all q 4
    simp at q0 q1 q2 q3 q4
    have ofin := out5 (HO0.out.trans OO.out) (Nat.le_of_eq hB) (.int .i64 0) (.int .i64 0) (.int .i64 0) (.int .i64 0) (.string ⟨#[]⟩)
    exact bodyPost_ret (v := .tuple #[.agg #[.int .i64 0, .int .i64 0, .int .i64 0, .int .i64 0, .string ⟨#[]⟩], .int .i64 21]) (by simp [results, Tryz.results9, go_sem, q0, q1, q2, q3, q4]) rfl ⟨rfl, ofin⟩
end Go.Proofs.YtlgoenimjmiapaaGreat
