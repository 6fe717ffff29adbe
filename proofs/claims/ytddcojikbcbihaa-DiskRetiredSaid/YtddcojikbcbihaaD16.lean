import Derived.Test.YtddcojikbcbihaaD18
import Derived.Test.YtddcojikbcbihaaD15
import Derived.Test.YtddcojikbcbihaaD17
/-! The law DiskRetired, walked. -/
set_option linter.unusedVariables false
namespace Go.Proofs.Ytddcojikbcbihaa
open Go.RowKit

theorem tmod_bd (F m : Int) (hm : 0 < m) : -m < F.tmod m ∧ F.tmod m < m := by
  have := Int.tmod_eq_emod (a := F) (b := m)
  have h2 := Int.emod_nonneg F (show m ≠ 0 by omega)
  have h3 := Int.emod_lt_of_pos F hm
  rw [this]
  have e : (m.natAbs : Int) = m := by omega
  split <;> omega

theorem nat_mod (x m : Int) (hm : 0 < m) : ∃ f : Nat, x % m = f ∧ (f : Int) < m := by
  have h2 := Int.emod_nonneg x (show m ≠ 0 by omega)
  have h3 := Int.emod_lt_of_pos x hm
  exact ⟨(x % m).toNat, by omega, by omega⟩

theorem Row.old {w : World} {hi : Nat} {v : Value} {xs : List Value} (h : Row 0 0 w v xs) : Row w.heap.size hi w v xs := by
  obtain ⟨A, c, hv, h1, h2, h3⟩ := h
  refine ⟨A, c, hv, h1, h2, fun j u hu => ?_⟩
  obtain ⟨a, ha, _, hc⟩ := h3 j u hu
  refine ⟨a, ha, Or.inl ?_, hc⟩
  have := World.block_lt_of_cell? w _ hc
  rwa [addr_add_block] at this

set_option maxRecDepth 100000 in
set_option maxHeartbeats 4000000 in
theorem retired_is (w : World) (v : Value) (L : List UInt8) (h : Row 0 0 w v (bytes L)) (F T K : Int) (hF : -9223372036854775808 ≤ F ∧ F ≤ 9223372036854775807) (hT : -9223372036854775808 ≤ T ∧ T ≤ 9223372036854775807) (hK : -9223372036854775808 ≤ K ∧ K ≤ 9223372036854775807) (hsmall : L.length ≤ 10000) :
    Calls Try.prog 3 #[v, .int .i64 F, .int .i64 T, .int .i64 K] w fun e w' => e = .returned (.bool true) ∧ Out 0 0 w w' := by
  have kc := fun (w : World) (C : Array Value) (n c : Nat) => Lib.run_convert_bytes_const (P := Try.prog) w 22 5 C n c Try.underlying22 Try.underlying5
  obtain ⟨A, c, rfl, hc, hcm⟩ := h.form
  have N1 := Lib.hid (new_ok w 1048576 0 (by omega) (by omega) (by omega) (by omega))
  have HR := Lib.hid h
  clear h hcm
  go_enter Try.func3, Try.ntmps3
  go_wp2_with fail
  refine N1.out.mono ?_
  rintro e w1 ⟨d, rfl, hd, hd1, hd2, ho⟩
  have H1 := Lib.hid hd
  have HO1 := Lib.hid ho
  clear hd ho N1
  go_wp2_with (first | (go_at_call 11; refine (num_is _ _).mono ?_; rintro e w' ⟨rfl, rfl⟩) | (go_at_call 12; refine (knows_is _).mono ?_; rintro e w2 ⟨rfl, hok⟩; have HOK := Lib.hid hok; clear hok))
  rw [r_new] at H1
  have H2 := Lib.hid (H1.out.any HOK.out)
  have HRL := Lib.hid (((HR.out.old (hi := w1.heap.size)).out HO1.out.mono0).out HOK.out.mono0)
  refine (append_is H2.out _ L HRL.out (by omega)).mono ?_
  rintro e w3 ⟨rfl, hd3, ho3⟩
  rw [show (0 : Int) = ((0 : Nat) : Int) from rfl, r_append [] L 0 0 (by simp) hsmall, List.nil_append] at hd3 ⊢
  have H3 := Lib.hid hd3
  have HO3 := Lib.hid ho3
  clear hd3 ho3
  obtain ⟨t1, t2⟩ := tmod_bd F ((L.length : Int) + 1) (by omega)
  obtain ⟨f, hf, hfl⟩ := nat_mod (F.tmod ((L.length : Int) + 1) + (L.length : Int) + 1) ((L.length : Int) + 1) (by omega)
  obtain ⟨t3, t4⟩ := tmod_bd T ((L.length : Int) - (f : Int) + 1) (by omega)
  obtain ⟨g, hg, hgl⟩ := nat_mod (T.tmod ((L.length : Int) - (f : Int) + 1) + (L.length : Int) - (f : Int) + 1) ((L.length : Int) - (f : Int) + 1) (by omega)
  go_wp2_with fail
  rw [hf]
  clear hf hg t1 t2 t3 t4
  have f1 : f ≤ L.length := by omega
  have g1 : g ≤ (L.drop f).length := by rw [List.length_drop]; omega
  have g2 : g ≤ L.length - f := by omega
  go_wp2_with (go_at_call 11; refine (num_is _ _).mono ?_; rintro e w' ⟨rfl, rfl⟩)
  refine (sync_is H3.out).mono ?_
  rintro e w4 ⟨rfl, hd4, ho4⟩
  rw [r_sync] at hd4 ⊢
  have H4 := Lib.hid hd4
  have HO4 := Lib.hid ho4
  clear hd4 ho4
  go_wp2_with (go_at_call 11; refine (num_is _ _).mono ?_; rintro e w' ⟨rfl, rfl⟩)
  have RT := Lib.hid (r_retire L L.length 0 (by omega) f f1)
  rw [Nat.zero_add] at RT
  refine (retire_is H4.out _).mono ?_
  rintro e w5 ⟨rfl, hd5, ho5⟩
  have RT' := RT.out
  rw [show ((0 : Nat) : Int) = 0 from rfl] at RT' hd5
  rw [show ((0 : Nat) : Int) = 0 from rfl, RT']
  rw [RT'] at hd5
  have H5 := Lib.hid hd5
  have HO5 := Lib.hid ho5
  clear hd5 ho5 RT RT'
  go_wp2_with (go_at_call 11; refine (num_is _ _).mono ?_; rintro e w' ⟨rfl, rfl⟩)
  have CT := r_cut (L.drop f) (L.length - f) f (by rw [List.length_drop]; omega) g g1
  have eM : ((L.drop f).take g).length = g := by rw [List.length_take]; omega
  rw [show min (L.length - f) g = ((L.drop f).take g).length from by rw [eM]; omega, show ((f + g : Nat) : Int) = (f : Int) + (g : Int) from by omega] at CT
  have EM := Lib.hid eM
  obtain ⟨M, hM⟩ : ∃ M, (L.drop f).take g = M := ⟨_, rfl⟩
  rw [hM] at CT EM
  have HM := Lib.hid hM
  clear hM eM
  refine (cut_is H5.out _).mono ?_
  rintro e w6 ⟨rfl, hd6, ho6⟩
  rw [CT] at hd6 ⊢
  have H6 := Lib.hid hd6
  have HO6 := Lib.hid ho6
  clear hd6 ho6 CT
  go_wp2_with (go_at_call 11; refine (num_is _ _).mono ?_; rintro e w' ⟨rfl, rfl⟩)
  refine (crash_is H6.out K hK true _ [] (row_nil _ _ _ _ _ (Nat.zero_le _)) (by simp)).mono ?_
  rintro e w7 ⟨rfl, hd7, ho7⟩
  rw [r_crash] at hd7
  have H7 := Lib.hid hd7
  have HO7 := Lib.hid ho7
  clear hd7 ho7
  go_wp2_with fail
  have gl : f + M.length ≤ 100000 := by have := EM.out; omega
  obtain ⟨p, o, q, lv, h7⟩ := H7.out
  refine (read_is h7 _).mono ?_
  rintro e w8 ⟨v8, rfl, hr8, hd8, ho8⟩
  rw [r_read M M.length f gl] at hr8 ⊢
  have H8 := Lib.hid hd8
  have HO8 := Lib.hid ho8
  have HR8 := Lib.hid hr8
  clear hr8 hd8 ho8 h7
  go_wp2_with fail
  refine (read_is H8.out _).mono ?_
  rintro e w9 ⟨v9, rfl, hr9, hd9, ho9⟩
  rw [r_below] at hr9 ⊢
  have H9 := Lib.hid hd9.at_
  have HO9 := Lib.hid ho9
  clear hr9 hd9 ho9
  have AP := Lib.hid (append_is (H9.out.any ((Out.refl 0 0 w9).alloc (.cells #[.int .u8 120] 5 (1, 2)))) (.slice (some ⟨w9.heap.size, 0, none⟩) 1 1) [120]
    (row_block (heap_alloc_new w9 (.cells #[.int .u8 120] 5 (1, 2))) (Or.inr H9.out.top) (le_maxLen (by simp))) (by simp))
  rw [r_append M [120] M.length f gl (by simp), EM.out] at AP
  have HOA := Lib.hid ((Out.refl 0 0 w9).alloc (.cells #[.int .u8 120] 5 (1, 2)))
  go_wp2_with fail
  refine AP.out.mono ?_
  rintro e w10 ⟨rfl, hd10, ho10⟩
  obtain ⟨p', o', q', lv', hd10⟩ := hd10
  have H10 := Lib.hid hd10
  have HO10 := Lib.hid ho10
  clear AP hd10 ho10
  have EN := end_is H10.out
  rw [show (R (M ++ [120]) g (f : Int)).fin = (f : Int) + (g : Int) + 1 from by
    have := EM.out
    rw [r_fin _ _ _ (by simp; omega), List.length_append]
    simp only [List.length_cons, List.length_nil]
    omega] at EN
  have BA := base_is H10.out
  rw [show (R (M ++ [120]) g (f : Int)).base = (f : Int) from rfl] at BA
  have EN' : Hid (∀ n, Calls Try.prog 20 #[.pointer (some ⟨d, 0, none⟩)] (w10.drewN n) fun e w'' => e = .returned (.int .i64 ((f : Int) + (g : Int) + 1)) ∧ ∃ m, w'' = w10.drewN m) := fun n => by
    have EN := end_is (H10.out.drewN n)
    rw [show (R (M ++ [120]) g (f : Int)).fin = (f : Int) + (g : Int) + 1 from by
      have := EM.out
      rw [r_fin _ _ _ (by simp; omega), List.length_append]
      simp only [List.length_cons, List.length_nil]
      omega] at EN
    refine EN.mono ?_
    rintro e w'' ⟨rfl, m, rfl⟩
    exact ⟨rfl, n + m, by rw [World.drewN_drewN]⟩
  have BA' : Hid (∀ n, Calls Try.prog 19 #[.pointer (some ⟨d, 0, none⟩)] (w10.drewN n) fun e w'' => e = .returned (.int .i64 (f : Int)) ∧ ∃ m, w'' = w10.drewN m) := fun n => by
    have BA := base_is (H10.out.drewN n)
    refine BA.mono ?_
    rintro e w'' ⟨rfl, rfl⟩
    exact ⟨rfl, n, rfl⟩
  have NU : Hid (∀ (x : Int) n, Calls Try.prog 11 #[.int .i64 x] (w10.drewN n) fun e w'' => e = .returned (.int .i64 x) ∧ ∃ m, w'' = w10.drewN m) := fun x n => by
    refine (num_is x _).mono ?_
    rintro e w'' ⟨rfl, rfl⟩
    exact ⟨rfl, n, rfl⟩
  clear EN BA
  have hs8 : ∀ n, (convert 22 9 v8).run Try.prog (w10.drewN n) = .ok (.string (str M)) (w10.drewN n) := fun n =>
    run_string Try.underlying22 Try.underlying5 Try.underlying9 ((((HR8.out.out HO9.out.mono0).out HOA.out.mono0).out HO10.out).drewN n)
  obtain ⟨A'', hA⟩ : ∃ A'', (if c = f then A else Option.map (fun x => x.add f) A) = A'' := ⟨_, rfl⟩
  have hsA : ∀ n, (convert 22 9 (.slice A'' g (c - f))).run Try.prog (w10.drewN n) = .ok (.string (str M)) (w10.drewN n) := fun n => by
    refine run_string Try.underlying22 Try.underlying5 Try.underlying9 (lo := w.heap.size) (hi := w1.heap.size) ?_
    have h9 := ((((((((HRL.out.out HO3.out).out HO4.out).out HO5.out).out HO6.out).out HO7.out).out HO8.out.mono0).out HO9.out.mono0).out HOA.out.mono0).out HO10.out
    have h10 := h9.cut3 (l := f) (k := f + g) (m := c) (by omega) (by omega) (by omega) (Nat.le_refl _)
    have e1 : (List.take (f + g) (bytes L)).drop f = bytes M := by
      rw [← HM.out, bytes_take, bytes_drop, List.take_drop, Nat.add_comm]
    rw [e1] at h10
    unfold cut3 at h10
    rw [hA, show f + g - f = g from by omega] at h10
    exact h10.drewN n
  clear hF hT hK
  go_wp2_with fail
  go_quiet (first | (go_at_call 11; exact NU.out _ _) | (go_at_call 19; exact BA'.out _) | (go_at_call 20; exact EN'.out _))
  all_goals
    go_wp2_with fail
    go_ret
    exact ⟨rfl, (((((((((((HO1.out.trans HOK.out).fresh HO3.out).fresh HO4.out).fresh HO5.out).fresh HO6.out).fresh HO7.out).trans HO8.out).trans HO9.out).trans HOA.out).fresh HO10.out)).drewN _⟩

theorem retired_big (w : World) (A : Option Addr) (n c : Nat) (F T K : Int) (hbig : 10000 < n) (hn : n ≤ 9223372036854775807) :
    Calls Try.prog 3 #[.slice A n c, .int .i64 F, .int .i64 T, .int .i64 K] w fun e w' => e = .returned (.bool true) ∧ Out 0 0 w w' := by
  have N1 := Lib.hid (new_ok w 1048576 0 (by omega) (by omega) (by omega) (by omega))
  go_enter Try.func3, Try.ntmps3
  go_wp2_with fail
  refine N1.out.mono ?_
  rintro e w1 ⟨d, rfl, hd, hd1, hd2, ho⟩
  have HO1 := Lib.hid ho
  clear hd ho N1
  go_wp2_with (first | (go_at_call 11; refine (num_is _ _).mono ?_; rintro e w' ⟨rfl, rfl⟩) | (go_at_call 12; refine (knows_is _).mono ?_; rintro e w2 ⟨rfl, hok⟩; have HOK := Lib.hid hok; clear hok))
  go_ret
  exact ⟨rfl, HO1.out.trans HOK.out⟩
end Go.Proofs.Ytddcojikbcbihaa
