import Derived.Test.YtddcojikbcbihaaS3
import Derived.Test.YtddcojikbcbihaaK7
import Derived.Deep.RegionHeld3
import Derived.RegionTactic
/-! The document's Unrecord. -/
set_option linter.unusedVariables false
namespace Go.Proofs.Ytddcojikbcbihaa
open Go.RowKit

/-- 'append([]byte{}, s...)'. -/
theorem copy_run (w : World) (s : Value) (X : List UInt8) (h : Row Zone.no w s (bytes X)) (hl : X.length ≤ 140737488355328) :
    ∃ v' w', (Builtin.append_ #[22, 22] 22 #[.slice (some ⟨w.heap.size, 0, none⟩) 0 0, s]).run Try.prog (w.alloc (.cells #[] 5)) = .ok v' w' ∧ Owns w.heap.size w' v' X ∧ Out Zone.no w w' := by
  have o0 : Owns w.heap.size (w.alloc (.cells #[] 5)) (.slice (some ⟨w.heap.size, 0, none⟩) 0 0) [] :=
    ⟨by simp [bytes], Or.inr ⟨_, _, _, rfl, Nat.le_refl _, heap_alloc_new w _, Nat.le_refl _, Nat.zero_le _, by simp, by simp [bytes]⟩⟩
  obtain ⟨v', w', hrun, ho, hg, _⟩ := o0.append (by simp) (h.out ((Out.refl Zone.no w).alloc (.cells #[] 5))) (by simp; omega) 22
  exact ⟨v', w', hrun, ho, ((Out.refl Zone.no w).alloc (.cells #[] 5)).grown hg (fun k hk => by cases hk; exact Or.inr (Nat.le_refl _))⟩

theorem string_of {Z : Zone} {w : World} {v : Value} {L : List UInt8} (h : Row Z w v (bytes L)) : (convert 22 9 v).run Try.prog w = .ok (.string (str L)) w :=
  run_string Try.underlying22 Try.underlying5 Try.underlying9 h

set_option maxRecDepth 100000 in
set_option maxHeartbeats 2000000 in
theorem runrecord_is (w : World) (v : Value) (L : List UInt8) (hr : Row Zone.no w v (bytes L)) (hl0 : L.length ≤ 100000000) :
    Calls Try.prog 65 #[v] w fun e w' => ∃ v', e = .returned (.tuple #[v', .int .i64 ((unrec L).2.1 : Int), .int .i64 (unrec L).2.2]) ∧ Owns w.heap.size w' v' (unrec L).1 ∧ Out Zone.no w w' := by
  obtain ⟨A, c, rfl, hc1, hc2⟩ := hr.form
  have N78 := rnumber_is w _ L hr
  unfold NumOk at N78
  obtain ⟨n, s, er, hN⟩ : ∃ n s er, numN L 0 0 = (n, s, er) := ⟨_, _, _, rfl⟩
  have hsz := numN_size L 0 0 (by omega)
  rw [hN] at N78 hsz
  simp only at N78 hsz
  have H78 := Lib.hid N78
  have HR := Lib.hid hr
  obtain ⟨hs10, he⟩ := hsz
  unfold maxLen at hc2
  clear N78 hr
  by_cases h0 : er = 0
  · subst h0
    clear he
    by_cases hn : n < 0 ∨ 1048576 < n
    · rw [unrec_form hN hn]
      clear hN
      go_enter Try.func65, Try.ntmps65
      rcases hn with hn | hn
      · go_wp2_with (go_at_call 78; refine H78.out.mono ?_; rintro e w1 ⟨rfl, rfl⟩)
        exact bodyPost_ret (v := .tuple #[.slice none 0 0, .int .i64 0, .int .i64 21]) (by simp [results, Try.results65, go_sem]) rfl ⟨_, rfl, owns_nil _ _, Out.refl _ _⟩
      · go_wp2_with (go_at_call 78; refine H78.out.mono ?_; rintro e w1 ⟨rfl, rfl⟩)
        exact bodyPost_ret (v := .tuple #[.slice none 0 0, .int .i64 0, .int .i64 21]) (by simp [results, Try.results65, go_sem]) rfl ⟨_, rfl, owns_nil _ _, Out.refl _ _⟩
    · obtain ⟨m, rfl⟩ : ∃ m : Nat, n = (m : Int) := ⟨n.toNat, by omega⟩
      have hm : m ≤ 1048576 := by omega
      clear hn
      by_cases hl : L.length < s + m + 8
      · rw [unrec_end hN hm hl]
        clear hN
        go_enter Try.func65, Try.ntmps65
        go_wp2_with (go_at_call 78; refine H78.out.mono ?_; rintro e w1 ⟨rfl, rfl⟩)
        exact bodyPost_ret (v := .tuple #[.slice none 0 0, .int .i64 0, .int .i64 20]) (by simp [results, Try.results65, go_sem]) rfl ⟨_, rfl, owns_nil _ _, Out.refl _ _⟩
      · have C1 := row_cut HR.out (s := s) (n := m) (by omega)
        have C2 := row_cut HR.out (s := s + m) (n := 8) (by omega)
        have hs1 := fun W => run_slice_lh elem22 A L.length c s (s + m) (by omega) (by omega) W
        have hs2 := fun W => run_slice_lh elem22 A L.length c (s + m) (s + m + 8) (by omega) (by omega) W
        obtain ⟨S1, hS1⟩ : ∃ S1, cut3 A s (s + m) c = S1 := ⟨_, rfl⟩
        obtain ⟨S2, hS2⟩ : ∃ S2, cut3 A (s + m) (s + m + 8) c = S2 := ⟨_, rfl⟩
        rw [hS1] at C1 hs1
        rw [hS2] at C2 hs2
        obtain ⟨X, hX⟩ : ∃ X, (L.drop s).take m = X := ⟨_, rfl⟩
        obtain ⟨Y, hY⟩ : ∃ Y, (L.drop (s + m)).take 8 = Y := ⟨_, rfl⟩
        rw [hX] at C1
        rw [hY] at C2
        have hXl : X.length = m := by rw [← hX, List.length_take, List.length_drop]; omega
        have HU : Hid (unrec L = if Y = eightI (crcI X) then (X, s + m + 8, 0) else ([], 0, 22)) := by
          show _ = _
          by_cases h : Y = eightI (crcI X)
          · rw [if_pos h, unrec_ok hN hm hl (by rw [hX, hY]; exact h), hX]
          · rw [if_neg h, unrec_sum hN hm hl (by rw [hX, hY]; exact h)]
        obtain ⟨v1, w1, hrun, ho1, hout1⟩ := copy_run w S1 X C1 (by omega)
        have HRUN := Lib.hid hrun
        have H1 := Lib.hid ho1
        have HO1 := Lib.hid hout1
        have HC2 := Lib.hid (C2.out hout1)
        simp only [Int.natCast_add, Int.cast_ofNat_Int] at hs1 hs2
        have E8 : ∀ w, Hid (Calls Try.prog 79 #[.int .u64 (crcI X)] w fun e w' => ∃ v, e = .returned v ∧ Row Zone.no w' v (bytes (eightI (crcI X))) ∧ Out Zone.no w w') := fun w => reight_is w (crcI X)
        have ES : ∀ w v, Row Zone.no w v (bytes X) → Hid (Calls Try.prog 80 #[v] w fun e w' => e = .returned (.int .u64 (crcI X)) ∧ w = w') := fun w v h => rsum_is w v X h (by omega)
        obtain ⟨M, hM⟩ : ∃ M, eightI (crcI X) = M := ⟨_, rfl⟩
        rw [hM] at HU
        simp only [hM] at E8
        obtain ⟨K, hK⟩ : ∃ K, crcI X = K := ⟨_, rfl⟩
        simp only [hK] at E8 ES
        have hY1 := string_of (show Row Zone.no w1.drew S2 (bytes Y) from HC2.out)
        clear hS1 hS2 hX hY C1 C2 hN hM hK hrun ho1 hout1 hXl
        have hw1 : IntKind.i64.wrap ((s : Int) + m) = (s : Int) + m := by simp [IntKind.wrap, IntKind.bits, IntKind.signed]; omega
        have hw2 : IntKind.i64.wrap ((s : Int) + m + 8) = (s : Int) + m + 8 := by simp [IntKind.wrap, IntKind.bits, IntKind.signed]; omega
        have es1 : (str M).toList = M := str_toList _
        have es2 : (str Y).toList = Y := str_toList _
        have T1 : Hid (∀ W V, Out Zone.no w1.drew W → Out Zone.no W V → Owns w.heap.size V v1 X ∧ Out Zone.no w V) := fun W V h h' => ⟨(H1.out.out h.undrew (fun _ _ h => h)).out h' (fun _ _ h => h), (HO1.out.trans h.undrew).trans h'⟩
        by_cases hYM : Y = M
        · have HU2 := HU.out
          rw [if_pos hYM] at HU2
          have hbe : (M == Y) = true := by rw [hYM]; exact beq_self_eq_true _
          have HU3 := Lib.hid HU2
          clear HU HU2 hYM
          go_enter Try.func65, Try.ntmps65
          go_wp2_with (first
            | (go_at_call 78; refine H78.out.mono ?_; rintro e w1 ⟨rfl, rfl⟩)
            | (at_builtin; refine wpList_builtin rfl _ _ _ rfl HRUN.out ?_)
            | fail)
          go_region_with (first
              | (go_at_call 80; refine (ES _ _ (show Row Zone.no w1.drew v1 (bytes X) from H1.out.row fun _ _ h => h)).out.mono ?_; rintro e w2 ⟨rfl, rfl⟩)
              | (go_at_call 79; refine (E8 _).out.mono ?_; rintro e w3 ⟨v3, rfl, h3, ho3⟩; have hM3 := string_of h3; have hY3 := string_of (HC2.out.out ho3.undrew); have HO3 := Lib.hid ho3; clear h3 ho3)
              | fail)
          all_goals
            go_wp2_with fail
            refine bodyPost_ret (v := .tuple #[v1, .int .i64 ((s : Int) + m + 8), .int .i64 0]) (by simp [results, Try.results65, go_sem]) rfl ?_
            rw [HU3.out]
            exact ⟨v1, by simp only [Int.natCast_add, Int.cast_ofNat_Int], T1.out _ _ HO3.out (Out.refl _ _)⟩
        · have HU2 := HU.out
          rw [if_neg hYM] at HU2
          have hbe : (M == Y) = false := by rw [beq_eq_false_iff_ne]; exact fun e => hYM e.symm
          have HU3 := Lib.hid HU2
          clear HU HU2 hYM
          go_enter Try.func65, Try.ntmps65
          go_wp2_with (first
            | (go_at_call 78; refine H78.out.mono ?_; rintro e w1 ⟨rfl, rfl⟩)
            | (at_builtin; refine wpList_builtin rfl _ _ _ rfl HRUN.out ?_)
            | fail)
          go_region_with (first
              | (go_at_call 80; refine (ES _ _ (show Row Zone.no w1.drew v1 (bytes X) from H1.out.row fun _ _ h => h)).out.mono ?_; rintro e w2 ⟨rfl, rfl⟩)
              | (go_at_call 79; refine (E8 _).out.mono ?_; rintro e w3 ⟨v3, rfl, h3, ho3⟩; have hM3 := string_of h3; have hY3 := string_of (HC2.out.out ho3.undrew); have HO3 := Lib.hid ho3; clear h3 ho3)
              | fail)
          all_goals
            go_wp2_with fail
            refine bodyPost_ret (v := .tuple #[.slice none 0 0, .int .i64 0, .int .i64 22]) (by simp [results, Try.results65, go_sem]) rfl ?_
            rw [HU3.out]
            exact ⟨_, rfl, owns_nil _ _, (T1.out _ _ HO3.out (Out.refl _ _)).2⟩
  · have hse : ((er : Int) == 0) = false := by rw [beq_eq_false_iff_ne]; exact h0
    rw [unrec_err hN h0]
    clear hN he
    go_enter Try.func65, Try.ntmps65
    go_wp2_with (go_at_call 78; refine H78.out.mono ?_; rintro e w1 ⟨rfl, rfl⟩)
    exact bodyPost_ret (v := .tuple #[.slice none 0 0, .int .i64 0, .int .i64 er]) (by simp [results, Try.results65, go_sem]) rfl ⟨_, rfl, owns_nil _ _, Out.refl _ _⟩
end Go.Proofs.Ytddcojikbcbihaa
