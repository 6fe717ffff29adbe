import Derived.Test.YtlgoenimjmiapaaQ41
/-! QuorumVotes, walked. -/
set_option linter.unusedVariables false
namespace Go.Proofs.Ytlgoenimjmiapaa
open Go.RowKit Go.Maps

theorem tmod_bounds (e : Int) (k : Int) (hk : 0 < k) : -k < e.tmod k ∧ e.tmod k < k := by
  have h1 := Int.tmod_lt_of_pos e hk
  refine ⟨?_, h1⟩
  by_cases he : 0 ≤ e
  · have := Int.tmod_nonneg k he
    omega
  · have h2 := Int.tmod_lt_of_pos (-e) hk
    rw [Int.neg_tmod] at h2
    omega

set_option maxRecDepth 100000 in
set_option maxHeartbeats 600000 in
theorem votes_is (w : World) (a0 b0 e0 : Int) : Calls Try.prog 3 #[.int .i64 a0, .int .i64 b0, .int .i64 e0] w fun e w' => e = .returned (.bool true) ∧ Out Zone.no w w' := by
  have be := tmod_bounds e0 1000 (by omega)
  have ba := tmod_bounds a0 2 (by omega)
  have bb := tmod_bounds b0 2 (by omega)
  have be2 := tmod_bounds (e0.tmod 1000 + 1000) 1000 (by omega)
  have ba2 := tmod_bounds (a0.tmod 2 + 2) 2 (by omega)
  have bb2 := tmod_bounds (b0.tmod 2 + 2) 2 (by omega)
  have je : 0 ≤ (e0.tmod 1000 + 1000).tmod 1000 := Int.tmod_nonneg _ (by omega)
  have ja : 0 ≤ (a0.tmod 2 + 2).tmod 2 := Int.tmod_nonneg _ (by omega)
  have jb : 0 ≤ (b0.tmod 2 + 2).tmod 2 := Int.tmod_nonneg _ (by omega)
  have w1 : IntKind.i64.wrap (e0.tmod 1000 + 1000) = e0.tmod 1000 + 1000 := IntWalk.i64_in _ (by omega)
  have w2 : IntKind.i64.wrap (a0.tmod 2 + 2) = a0.tmod 2 + 2 := IntWalk.i64_in _ (by omega)
  have w3 : IntKind.i64.wrap (b0.tmod 2 + 2) = b0.tmod 2 + 2 := IntWalk.i64_in _ (by omega)
  obtain ⟨E, hE⟩ : ∃ E, 2 + (e0.tmod 1000 + 1000).tmod 1000 = E := ⟨_, rfl⟩
  obtain ⟨a, ha⟩ : ∃ a, 1 + (a0.tmod 2 + 2).tmod 2 = a := ⟨_, rfl⟩
  obtain ⟨b, hb⟩ : ∃ b, 1 + (b0.tmod 2 + 2).tmod 2 = b := ⟨_, rfl⟩
  have w4 : IntKind.i64.wrap (2 + (e0.tmod 1000 + 1000).tmod 1000) = E := by rw [← hE]; exact IntWalk.i64_in _ (by omega)
  have w5 : IntKind.i64.wrap (1 + (a0.tmod 2 + 2).tmod 2) = a := by rw [← ha]; exact IntWalk.i64_in _ (by omega)
  have w6 : IntKind.i64.wrap (1 + (b0.tmod 2 + 2).tmod 2) = b := by rw [← hb]; exact IntWalk.i64_in _ (by omega)
  have w8 : wrap64 E = E := IntWalk.wrap64_in _ (by omega)
  have w9 : wrap64 a = a := IntWalk.wrap64_in _ (by omega)
  have w10 : wrap64 b = b := IntWalk.wrap64_in _ (by omega)
  have w7 : IntKind.i64.wrap (E - 1) = E - 1 := IntWalk.i64_in _ (by omega)
  have h2E : 2 ≤ E ∧ E ≤ 1001 := by omega
  have ha12 : a = 1 ∨ a = 2 := by omega
  have hb12 : b = 1 ∨ b = 2 := by omega
  have hER : 0 < E ∧ E ≤ 1099511627776 := by omega
  have NEW : Hid (∀ W, Out Zone.no w W → Calls Try.prog 7 #[.int .i64 0, .int .i64 3, .agg #[.int .i64 0, .int .i64 (-1), .slice none 0 0]] W fun e w' => ∃ x V, e = .returned (.tuple #[.pointer (some ⟨x, 0, none⟩), .int .i64 0]) ∧ Hid (NAt w' x ⟨kq0, [], []⟩ V) ∧ Hid (Out Zone.no w w' ∧ ∀ k, V.own x k → w.heap.size ≤ k)) := fun W hW => by
    refine (new_is W (fun _ => False) ⟨0, -1, []⟩ (.slice none 0 0) (rrow_nil _ _ _) good0 3 0 (by omega) (by omega) (by omega)).mono ?_
    rintro e w' ⟨x, V, rfl, h, ho, hb⟩
    exact ⟨x, V, rfl, h, hW.trans ho, fun k hk => Nat.le_trans hW.size (hb k hk)⟩
  have ASK1 : Hid (∀ W x V, NAt W x ⟨kq0, [], []⟩ V → Calls Try.prog 8 #[.pointer (some ⟨x, 0, none⟩), .agg #[.int .i64 1, .int .i64 a, .int .i64 0, .int .i64 E, .int .i64 0, .int .i64 0, .int .i64 0, .slice none 0 0]] W fun e w' => ∃ A1 n1 c1 g c2 V', e = .returned (.tuple #[.agg #[.slice A1 n1 c1, .slice (some ⟨g, 0, none⟩) 1 c2], .int .i64 0]) ∧ Hid (NAt w' x ⟨vq1 E a, [], []⟩ V') ∧ Hid (Next (V.own x) W (V'.own x) w') ∧ Hid (Safe x w' V' g 0 (.int .i64 2))) := fun W x V h => by
    refine (step_ask h fit0 (vask E a) (.slice none 0 0) (rrow_nil _ _ _) (by show (0 : Nat) ≤ _; omega) fits_nil (vask_right hER ha12) rfl (by show a ≠ 0; omega) (by show a < 3; omega) (by show ¬ E < 0; omega) rfl).mono ?_
    intro e w' h
    obtain ⟨ns, hk⟩ := v1 hER ha12
    rw [hk] at h
    obtain ⟨v, rfl, h⟩ := h
    obtain ⟨A1, c1, g, c2, V', rfl, k1, k2, k3, _⟩ := h.first rfl
    exact ⟨A1, _, c1, g, c2, V', rfl, k1, k2, k3⟩
  have ASK2 : Hid (∀ W x V, NAt W x ⟨vq1 E a, [], []⟩ V → Calls Try.prog 8 #[.pointer (some ⟨x, 0, none⟩), .agg #[.int .i64 1, .int .i64 b, .int .i64 0, .int .i64 E, .int .i64 0, .int .i64 0, .int .i64 0, .slice none 0 0]] W fun e w' => ∃ A1 n1 c1 A2 k2 c2 V', e = .returned (.tuple #[.agg #[.slice A1 n1 c1, .slice A2 k2 c2], .int .i64 0]) ∧ k2 = (if a = b then 1 else 0) ∧ Hid (NAt w' x ⟨vq1 E a, [], []⟩ V') ∧ Hid (Next (V.own x) W (V'.own x) w')) := fun W x V h => by
    refine (step_ask h (vfit (by omega)) (vask E b) (.slice none 0 0) (rrow_nil _ _ _) (by show (0 : Nat) ≤ _; omega) fits_nil (vask_right hER hb12) rfl (by show b ≠ 0; omega) (by show b < 3; omega) (by show ¬ E < E; omega) rfl).mono ?_
    intro e w' h
    obtain ⟨ns, ms, hk, hm⟩ := v2 (E := E) (b := b) ha12
    rw [hk] at h
    obtain ⟨v, rfl, h⟩ := h
    obtain ⟨A1, c1, A2, c2, ss, V', rfl, _, _, k3, k4⟩ := h.open
    exact ⟨A1, _, c1, A2, _, c2, V', rfl, hm, k3, k4⟩
  have OLD : Hid (∀ W x V g, NAt W x ⟨vq1 E a, [], []⟩ V → RRow (V.own x) W (.slice (some ⟨g, 0, none⟩) 1 1) 1 2 (encL [⟨1, [111, 108, 100]⟩]) → Calls Try.prog 8 #[.pointer (some ⟨x, 0, none⟩), .agg #[.int .i64 3, .int .i64 b, .int .i64 0, .int .i64 (E - 1), .int .i64 0, .int .i64 0, .int .i64 0, .slice (some ⟨g, 0, none⟩) 1 1]] W fun e w' => ∃ A1 c1 g c2 V', e = .returned (.tuple #[.agg #[.slice A1 0 c1, .slice (some ⟨g, 0, none⟩) 1 c2], .int .i64 0]) ∧ Hid (NAt w' x ⟨vq1 E a, [], []⟩ V') ∧ Hid (Next (V.own x) W (V'.own x) w') ∧ Hid (Safe x w' V' g 0 (.int .i64 5) ∧ Safe x w' V' g 3 (.int .i64 E))) := fun W x V g h hr => by
    refine (step_low h (vfit (by omega)) (vold E b) (.slice (some ⟨g, 0, none⟩) 1 1) hr (by show (1 : Nat) ≤ _; omega) (fun y hy => by rw [List.mem_singleton.1 hy]; decide) (vold_right hER hb12) rfl (by show b ≠ 0; omega) (by show b < 3; omega) (by show E - 1 < E; omega)).mono ?_
    intro e w' h
    rw [if_pos (show (vold E b).kind = 1 ∨ (vold E b).kind = 3 from Or.inr rfl)] at h
    obtain ⟨v, rfl, h⟩ := h
    obtain ⟨A1, c1, g, c2, V', rfl, k1, k2, k3, k4⟩ := h.first rfl
    exact ⟨A1, c1, g, c2, V', rfl, k1, k2, k3, k4⟩
  have STA : Hid (∀ W x V, NAt W x ⟨vq1 E a, [], []⟩ V → Calls Try.prog 10 #[.pointer (some ⟨x, 0, none⟩)] W fun e w' => ∃ A c, e = .returned (.agg #[.int .i64 E, .int .i64 a, .slice A 0 c]) ∧ Hid (Out Zone.no W w')) := fun W x V h => by
    obtain ⟨ss, _, h⟩ := h
    refine (state_is h (by show 0 < 3; decide) (by show 3 ≤ 7; decide) (by show (0 : Nat) ≤ _; decide)).mono ?_
    rintro e w' ⟨lv, rfl, hg, _, ho⟩
    obtain ⟨A, c, rfl⟩ := GRow.form hg
    exact ⟨A, c, rfl, ho⟩
  have KNO : Hid (∀ W, Calls Try.prog 11 #[] W fun e w' => e = .returned (.bool true) ∧ Hid (Out Zone.no W w')) := fun W => knows_is W
  clear be ba bb be2 ba2 bb2 je ja jb
  have HAB := Lib.hid (And.intro ha12 hb12)
  clear ha12 hb12 h2E hER
  go_enter Try.func3, Try.ntmps3
  go_wp2_with (first
    | (go_at_call 7; with_reducible refine (NEW.out _ (Out.refl _ _)).mono ?_; rintro e w1 ⟨x, V1, rfl, h1, p1⟩))
  go_wp2_with (first
    | (go_at_call 8; with_reducible refine (ASK1.out _ _ _ h1.out).mono ?_; rintro e w2 ⟨A1, n1, c1, g1, c2, V2, rfl, h2, n2, s2⟩))
  have hlt2 : ¬ V2.own x w2.heap.size := fun e => Nat.lt_irrefl _ (own_lt h2.out e)
  obtain ⟨W2, hW2⟩ : ∃ W2, w2.alloc (.cells #[.slice A1 n1 c1, .slice (some ⟨g1, 0, none⟩) 1 c2] 32) = W2 := ⟨_, rfl⟩
  have o2 : Out Zone.no w2 W2 := by rw [← hW2]; exact (Out.refl _ _).alloc _
  have bx1 : Safe x W2 V2 w2.heap.size 1 (.slice (some ⟨g1, 0, none⟩) 1 c2) := ⟨by rw [← hW2]; exact cell_new w2 _ 32 1, hlt2⟩
  have H2 := Lib.hid (h2.out.any o2)
  have P2 := Lib.hid (fresh_next p1.out.1 p1.out.2 n2.out)
  have P2' := Lib.hid (And.intro (P2.out.1.trans o2) P2.out.2)
  have S1 := Lib.hid (And.intro (s2.out.any o2) bx1)
  obtain ⟨k1, hk1⟩ : ∃ k1, w2.heap.size = k1 := ⟨_, rfl⟩
  rw [hk1] at S1
  rw [hW2] at ⊢
  clear bx1 o2 hW2 hlt2 h2 s2 n2 p1 P2 h1
  go_wp2_with (first
    | (go_at_call 8; with_reducible refine (ASK2.out _ _ _ H2.out).mono ?_; rintro e w3 ⟨B1, m1, d1, B2, kk, d2, V3, rfl, hkk, h3, n3⟩; have HKK := Lib.hid hkk; clear hkk))
  have hlt3 : ¬ V3.own x w3.heap.size := fun e => Nat.lt_irrefl _ (own_lt h3.out e)
  obtain ⟨W3, hW3⟩ : ∃ W3, w3.alloc (.cells #[.slice B1 m1 d1, .slice B2 kk d2] 32) = W3 := ⟨_, rfl⟩
  have o3 : Out Zone.no w3 W3 := by rw [← hW3]; exact (Out.refl _ _).alloc _
  have hs3 : W3.heap.size = w3.heap.size + 1 := by rw [← hW3]; simp
  have bx2 : Safe x W3 V3 w3.heap.size 1 (.slice B2 kk d2) := ⟨by rw [← hW3]; exact cell_new w3 _ 32 1, hlt3⟩
  have h3w := h3.out.any o3
  have hlt3' : ¬ V3.own x W3.heap.size := fun e => Nat.lt_irrefl _ (own_lt h3w e)
  have hrr := rrow_new (N := V3.own x) (w := W3) (e := 38) (cs := encL [⟨1, [111, 108, 100]⟩]) (n := 1) (sz := 2) hlt3' rfl (by omega)
  rw [hs3] at hrr
  obtain ⟨W4, hW4⟩ : ∃ W4, W3.alloc (.cells #[.int .i64 1, .string ⟨#[111, 108, 100]⟩] 38) = W4 := ⟨_, rfl⟩
  have o4 : Out Zone.no W3 W4 := by rw [← hW4]; exact (Out.refl _ _).alloc _
  have HRR : Hid (RRow (V3.own x) W4 (.slice (some ⟨w3.heap.size + 1, 0, none⟩) 1 1) 1 2 (encL [⟨1, [111, 108, 100]⟩])) := by rw [← hW4]; exact hrr
  have P3 := fresh_next P2'.out.1 P2'.out.2 n3.out
  have H4 := Lib.hid (h3w.any o4)
  have P4 := Lib.hid (And.intro ((P3.1.trans o3).trans o4) P3.2)
  have S4 := Lib.hid (And.intro (((S1.out.1.next n3.out).any o3).any o4) (And.intro (((S1.out.2.next n3.out).any o3).any o4) (bx2.any o4)))
  obtain ⟨k2, hk2⟩ : ∃ k2, w3.heap.size = k2 := ⟨_, rfl⟩
  rw [hk2] at S4 HRR
  rw [hW3, hW4, hk2]
  clear hW4 o4 hrr hlt3' h3w bx2 hs3 o3 hW3 hlt3 P3 h3 n3 S1 P2' H2
  go_wp2_with (first
    | (go_at_call 8; with_reducible refine (OLD.out _ _ _ _ H4.out HRR.out).mono ?_; rintro e w5 ⟨C1, e1, g5, e2, V5, rfl, h5, n5, s5⟩))
  have hlt5 : ¬ V5.own x w5.heap.size := fun e => Nat.lt_irrefl _ (own_lt h5.out e)
  obtain ⟨W5, hW5⟩ : ∃ W5, w5.alloc (.cells #[.slice C1 0 e1, .slice (some ⟨g5, 0, none⟩) 1 e2] 32) = W5 := ⟨_, rfl⟩
  have o5 : Out Zone.no w5 W5 := by rw [← hW5]; exact (Out.refl _ _).alloc _
  have b31 : W5.cell? ⟨w5.heap.size, 1, none⟩ = some (.slice (some ⟨g5, 0, none⟩) 1 e2) := by rw [← hW5]; exact cell_new w5 _ 32 1
  have b30 : W5.cell? ⟨w5.heap.size, 0, none⟩ = some (.slice C1 0 e1) := by rw [← hW5]; exact cell_new w5 _ 32 0
  have bg0 := (s5.out.1.any o5).1
  have bg3 := (s5.out.2.any o5).1
  have H5 := Lib.hid (h5.out.any o5)
  have P5 := Lib.hid ((fresh_next P4.out.1 P4.out.2 n5.out).1.trans o5)
  have a10 := ((S4.out.1.next n5.out).any o5).1
  have a11 := ((S4.out.2.1.next n5.out).any o5).1
  have a21 := ((S4.out.2.2.next n5.out).any o5).1
  rw [hW5]
  have hkk := HKK.out
  clear hW5 o5 hlt5 h5 s5 n5 S4 HRR H4 P4 HKK NEW ASK1 ASK2 OLD
  by_cases hab : a = b
  · rw [if_pos hab] at hkk
    subst hkk
    have e1 : (a == b) = true := by rw [beq_iff_eq]; exact hab
    have e1b : (a != b) = false := by rw [bne_eq_false_iff_eq]; exact hab
    have e1c : decide (a = b) = true := decide_eq_true hab
    clear hab
    have STB : Hid (Calls Try.prog 10 #[.pointer (some ⟨x, 0, none⟩)] W5 fun e w' => ∃ A c, e = .returned (.agg #[.int .i64 E, .int .i64 a, .slice A 0 c]) ∧ Hid (Out Zone.no W5 (w'.alloc (.cells #[.int .i64 E, .int .i64 a, .slice A 0 c] 28)))) := by
      refine (STA.out _ _ _ H5.out).mono ?_
      rintro e w' ⟨A, c, rfl, o⟩
      exact ⟨A, c, rfl, o.out.alloc _⟩
    go_wp2_with (first
      | (go_at_call 9; with_reducible refine (num_is _ _).mono ?_; rintro e w' ⟨rfl, rfl⟩)
      | (go_at_call 10; with_reducible refine STB.out.mono ?_; rintro e w6 ⟨A6, c6, rfl, o6⟩; have z0 := cell_new w6 #[.int .i64 E, .int .i64 a, .slice A6 0 c6] 28 0; have z1 := cell_new w6 #[.int .i64 E, .int .i64 a, .slice A6 0 c6] 28 1; have z2 := cell_new w6 #[.int .i64 E, .int .i64 a, .slice A6 0 c6] 28 2; have y1 := o6.out.cell b31 id; have y0 := o6.out.cell b30 id; have yg0 := o6.out.cell bg0 id; have yg3 := o6.out.cell bg3 id)
      | (go_at_call 11; with_reducible refine (KNO.out _).mono ?_; rintro e w8 ⟨rfl, o8⟩))
    go_ret
    exact ⟨rfl, (P5.out.trans o6.out).trans o8.out⟩
  · rw [if_neg hab] at hkk
    subst hkk
    have e1 : (a == b) = false := by rw [beq_eq_false_iff_ne]; exact hab
    have e1b : (a != b) = true := by rw [bne_iff_ne]; exact hab
    have e1c : decide (a = b) = false := decide_eq_false hab
    clear hab
    have STB : Hid (Calls Try.prog 10 #[.pointer (some ⟨x, 0, none⟩)] W5 fun e w' => ∃ A c, e = .returned (.agg #[.int .i64 E, .int .i64 a, .slice A 0 c]) ∧ Hid (Out Zone.no W5 (w'.alloc (.cells #[.int .i64 E, .int .i64 a, .slice A 0 c] 28)))) := by
      refine (STA.out _ _ _ H5.out).mono ?_
      rintro e w' ⟨A, c, rfl, o⟩
      exact ⟨A, c, rfl, o.out.alloc _⟩
    go_wp2_with (first
      | (go_at_call 9; with_reducible refine (num_is _ _).mono ?_; rintro e w' ⟨rfl, rfl⟩)
      | (go_at_call 10; with_reducible refine STB.out.mono ?_; rintro e w6 ⟨A6, c6, rfl, o6⟩; have z0 := cell_new w6 #[.int .i64 E, .int .i64 a, .slice A6 0 c6] 28 0; have z1 := cell_new w6 #[.int .i64 E, .int .i64 a, .slice A6 0 c6] 28 1; have z2 := cell_new w6 #[.int .i64 E, .int .i64 a, .slice A6 0 c6] 28 2; have y1 := o6.out.cell b31 id; have y0 := o6.out.cell b30 id; have yg0 := o6.out.cell bg0 id; have yg3 := o6.out.cell bg3 id)
      | (go_at_call 11; with_reducible refine (KNO.out _).mono ?_; rintro e w8 ⟨rfl, o8⟩))
    go_ret
    exact ⟨rfl, (P5.out.trans o6.out).trans o8.out⟩
end Go.Proofs.Ytlgoenimjmiapaa
