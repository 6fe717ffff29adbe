import Derived.Test.YtddcojikbcbihaaK6
import Derived.Test.YtddcojikbcbihaaK3
/-! codec.Unrecord. -/
set_option linter.unusedVariables false
namespace Go.Proofs.Ytddcojikbcbihaa
open Go.RowKit

/-- A record that bytes begin with: its bytes, where it ends, the error. -/
def unrec (L : List UInt8) : List UInt8 × Nat × Int :=
  if (numN L 0 0).2.2 ≠ 0 then ([], 0, (numN L 0 0).2.2)
  else if (numN L 0 0).1 < 0 ∨ 1048576 < (numN L 0 0).1 then ([], 0, 21)
  else if L.length < (numN L 0 0).2.1 + (numN L 0 0).1.toNat + 8 then ([], 0, 20)
  else if (L.drop ((numN L 0 0).2.1 + (numN L 0 0).1.toNat)).take 8 = eightI (crcI ((L.drop (numN L 0 0).2.1).take (numN L 0 0).1.toNat)) then
    ((L.drop (numN L 0 0).2.1).take (numN L 0 0).1.toNat, (numN L 0 0).2.1 + (numN L 0 0).1.toNat + 8, 0)
  else ([], 0, 22)

theorem unrec_err {L : List UInt8} {n : Int} {s : Nat} {e : Int} (h : numN L 0 0 = (n, s, e)) (he : e ≠ 0) : unrec L = ([], 0, e) := by
  unfold unrec; rw [h]; simp only; rw [if_pos he]
theorem unrec_form {L : List UInt8} {n : Int} {s : Nat} (h : numN L 0 0 = (n, s, 0)) (hn : n < 0 ∨ 1048576 < n) : unrec L = ([], 0, 21) := by
  unfold unrec; rw [h]; simp only; rw [if_neg (by simp), if_pos hn]
theorem unrec_end {L : List UInt8} {n s : Nat} (h : numN L 0 0 = ((n : Int), s, 0)) (hn : n ≤ 1048576) (hl : L.length < s + n + 8) : unrec L = ([], 0, 20) := by
  unfold unrec; rw [h]; simp only [Int.toNat_natCast]; rw [if_neg (by simp), if_neg (by omega), if_pos hl]
theorem unrec_ok {L : List UInt8} {n s : Nat} (h : numN L 0 0 = ((n : Int), s, 0)) (hn : n ≤ 1048576) (hl : ¬ L.length < s + n + 8) (hs : (L.drop (s + n)).take 8 = eightI (crcI ((L.drop s).take n))) :
    unrec L = ((L.drop s).take n, s + n + 8, 0) := by
  unfold unrec; rw [h]; simp only [Int.toNat_natCast]; rw [if_neg (by simp), if_neg (by omega), if_neg hl, if_pos hs]
theorem unrec_sum {L : List UInt8} {n s : Nat} (h : numN L 0 0 = ((n : Int), s, 0)) (hn : n ≤ 1048576) (hl : ¬ L.length < s + n + 8) (hs : ¬ (L.drop (s + n)).take 8 = eightI (crcI ((L.drop s).take n))) :
    unrec L = ([], 0, 22) := by
  unfold unrec; rw [h]; simp only [Int.toNat_natCast]; rw [if_neg (by simp), if_neg (by omega), if_neg hl, if_neg hs]

theorem numN_size (L : List UInt8) (s u : Nat) (hs : s ≤ 10) : (numN L s u).2.1 ≤ 10 ∧ ((numN L s u).2.2 = 0 ∨ (numN L s u).2.2 = 20 ∨ (numN L s u).2.2 = 21) := by
  induction hk : 10 - s generalizing s u with
  | zero => rw [numN, dif_neg (by omega)]; simp
  | succ k ih =>
    rw [numN, dif_pos (by omega)]
    split
    · simp
    · split
      · simp
      · split
        · exact ih _ _ (by omega) (by omega)
        · split
          · simp
          · simp only; exact ⟨by omega, by simp⟩

theorem row_cut {Z : Zone} {w : World} {A : Option Addr} {c : Nat} {L : List UInt8} (h : Row Z w (.slice A L.length c) (bytes L)) {s n : Nat} (hs : s + n ≤ L.length) :
    Row Z w (cut3 A s (s + n) c) (bytes ((L.drop s).take n)) := by
  have := h.cut3 (l := s) (k := s + n) (m := c) (by omega) hs (Nat.le_trans hs h.len.2) (Nat.le_refl _)
  rw [bytes_take, bytes_drop]
  rw [List.drop_take, Nat.add_sub_cancel_left] at this
  exact this

theorem clone_owns (w : World) (v : Value) (L : List UInt8) (h : Row Zone.no w v (bytes L)) (hl : L.length ≤ 10000000) :
    Calls Try.prog 47 #[v] w fun e w' => ∃ v', e = .returned v' ∧ Out Zone.no w w' ∧ Owns w.heap.size w' v' L := by
  obtain ⟨A, c, rfl, h1, h2, h3⟩ := id h
  cases A with
  | none =>
    have hx : L = [] := by
      cases L with
      | nil => rfl
      | cons x r => obtain ⟨a, ha, _⟩ := h3 0 (.int .u8 x.toNat) (by simp [bytes]); cases ha
    subst hx
    have e0 := Lib.run_eql_slice_nil (P := Try.prog) w 22 5 none 0 c 0 0 Try.underlying22
    clear h h1 h2 h3 hl
    go_enter Try.func47, Try.ntmps47
    simp only [bytes, List.map_nil, List.length_nil]
    go_wp2_with fail
    go_ret
    exact ⟨_, rfl, Out.refl _ _, owns_nil _ _⟩
  | some a =>
    have e0 := Lib.run_eql_slice_nil (P := Try.prog) w 22 5 (some a) (bytes L).length c 0 0 Try.underlying22
    have o0 : Owns w.heap.size (w.alloc (.cells #[] 5)) (.slice (some ⟨w.heap.size, 0, none⟩) 0 0) [] :=
      ⟨by simp [bytes], Or.inr ⟨_, _, _, rfl, Nat.le_refl _, heap_alloc_new w _, Nat.le_refl _, Nat.zero_le _, by simp, by simp [bytes]⟩⟩
    obtain ⟨v', w', hrun, ho, hg, _⟩ := o0.append (by simp) (h.out ((Out.refl Zone.no w).alloc (.cells #[] 5))) (by simp; omega) 22
    have HR := Lib.hid hrun
    have HO := Lib.hid (((Out.refl Zone.no w).alloc (.cells #[] 5)).grown hg (fun k hk => by cases hk; exact Or.inr (Nat.le_refl _)))
    have HW := Lib.hid ho
    obtain ⟨k, hk⟩ : ∃ k, (bytes L).length = k := ⟨_, rfl⟩
    rw [hk] at e0 HR ⊢
    clear h h1 h2 h3 hl hrun ho hg o0 hk
    go_enter Try.func47, Try.ntmps47
    go_wp2_with (at_builtin; refine wpList_builtin rfl _ _ _ rfl HR.out ?_)
    go_ret
    exact ⟨_, rfl, HO.out, HW.out⟩

def UnrecOk (R : List UInt8 × Nat × Int) (w : World) (e : Ending) (w' : World) : Prop :=
  ∃ v, e = .returned (.tuple #[v, .int .i64 (R.2.1 : Int), .int .i64 R.2.2]) ∧ Owns w.heap.size w' v R.1 ∧ Out Zone.no w w'

set_option maxRecDepth 100000 in
set_option maxHeartbeats 1000000 in
theorem unrecord_is (w : World) (v : Value) (L : List UInt8) (hr : Row Zone.no w v (bytes L)) : Calls Try.prog 77 #[v] w (UnrecOk (unrec L) w) := by
  obtain ⟨A, c, rfl, hc1, hc2⟩ := hr.form
  unfold maxLen at hc2
  obtain ⟨N, hN⟩ : ∃ N, numN L 0 0 = N := ⟨_, rfl⟩
  have N90 := num90 w (.slice A L.length c) L hr
  unfold NumOk at N90
  have hsz := numN_size L 0 0 (by omega)
  rw [hN] at N90 hsz
  obtain ⟨n, s, er⟩ := N
  simp only at N90 hsz
  have H90 := Lib.hid N90
  have HR := Lib.hid hr
  obtain ⟨hs10, he⟩ := hsz
  clear N90 hr
  by_cases h0 : er = 0
  · subst h0
    clear he
    by_cases hn : n < 0 ∨ 1048576 < n
    · rw [unrec_form hN hn]
      clear hN
      go_enter Try.func77, Try.ntmps77
      rcases hn with hn | hn
      · go_wp2_with (go_at_call 90; refine H90.out.mono ?_; rintro e w1 ⟨rfl, rfl⟩)
        exact bodyPost_ret (v := .tuple #[.slice none 0 0, .int .i64 0, .int .i64 21]) (by simp [results, Try.results77, go_sem]) rfl ⟨_, rfl, owns_nil _ _, Out.refl _ _⟩
      · go_wp2_with (go_at_call 90; refine H90.out.mono ?_; rintro e w1 ⟨rfl, rfl⟩)
        exact bodyPost_ret (v := .tuple #[.slice none 0 0, .int .i64 0, .int .i64 21]) (by simp [results, Try.results77, go_sem]) rfl ⟨_, rfl, owns_nil _ _, Out.refl _ _⟩
    · obtain ⟨m, rfl⟩ : ∃ m : Nat, n = (m : Int) := ⟨n.toNat, by omega⟩
      have hm : m ≤ 1048576 := by omega
      clear hn
      by_cases hl : L.length < s + m + 8
      · rw [unrec_end hN hm hl]
        clear hN
        go_enter Try.func77, Try.ntmps77
        go_wp2_with (go_at_call 90; refine H90.out.mono ?_; rintro e w1 ⟨rfl, rfl⟩)
        exact bodyPost_ret (v := .tuple #[.slice none 0 0, .int .i64 0, .int .i64 20]) (by simp [results, Try.results77, go_sem]) rfl ⟨_, rfl, owns_nil _ _, Out.refl _ _⟩
      · have C1 := row_cut HR.out (s := s) (n := m) (by omega)
        have C2 := row_cut HR.out (s := s + m) (n := 8) (by omega)
        have hs1 := fun W => run_slice_lh elem22 A L.length c s (s + m) (by omega) (by omega) W
        have hs2 := fun W => run_slice_lh elem22 A L.length c (s + m) (s + m + 8) (by omega) (by omega) W
        obtain ⟨S1, hS1⟩ : ∃ S1, cut3 A s (s + m) c = S1 := ⟨_, rfl⟩
        have hS2 : cut3 A (s + m) (s + m + 8) c = .slice (Option.map (fun x => x.add (s + m)) A) 8 (c - (s + m)) := by
          unfold cut3
          rw [if_neg (by omega), Nat.add_sub_cancel_left]
        rw [hS1] at C1 hs1
        rw [hS2] at C2
        clear hs2
        obtain ⟨X, hX⟩ : ∃ X, (L.drop s).take m = X := ⟨_, rfl⟩
        obtain ⟨Y, hY⟩ : ∃ Y, (L.drop (s + m)).take 8 = Y := ⟨_, rfl⟩
        rw [hX] at C1
        rw [hY] at C2
        have hXl : X.length = m := by rw [← hX, List.length_take, List.length_drop]; omega
        have HU : Hid (unrec L = if Y = eightI (crcI X) then (X, s + m + 8, 0) else ([], 0, 22)) := by
          show _ = _
          by_cases h : Y = eightI (crcI X)
          · rw [if_pos h, unrec_ok hN hm hl (by rw [hX, hY]; exact h), hX]
          · rw [if_neg h, unrec_sum hN hm hl (by rw [hX, hY]; exact h)]
        have HC := Lib.hid (clone_owns w _ X C1 (by omega))
        have HC2 := Lib.hid C2
        push_cast at hs1
        have E8 : ∀ w, Hid (Calls Try.prog 83 #[.int .u64 (crcI X)] w fun e w' => e = .returned (.slice (some ⟨w.heap.size, 0, none⟩) 8 8) ∧ Row Zone.no w' (.slice (some ⟨w.heap.size, 0, none⟩) 8 8) (bytes (eightI (crcI X))) ∧ Out Zone.no w w') := fun w => eight_is w (crcI X)
        have ES : ∀ w v, Row Zone.no w v (bytes X) → Hid (Calls Try.prog 84 #[v] w fun e w' => e = .returned (.int .u64 (crcI X)) ∧ w = w') := fun w v h => sum_is w v X h (by omega)
        obtain ⟨M, hM⟩ : ∃ M, eightI (crcI X) = M := ⟨_, rfl⟩
        rw [hM] at HU
        simp only [hM] at E8
        obtain ⟨K, hK⟩ : ∃ K, crcI X = K := ⟨_, rfl⟩
        simp only [hK] at E8 ES
        have EQ : ∀ w v1 v2, Row Zone.no w v1 (bytes Y) → Row Zone.no w v2 (bytes M) → Hid (Calls Try.prog 91 #[v1, v2] w fun e w' => e = .returned (.bool (decide (Y = M))) ∧ ∃ n, w' = w.drewN n) := fun w v1 v2 h1 h2 => equal_is w v1 v2 Y M h1 h2
        clear hS1 hS2 hX hY C1 C2 hN hM hK
        by_cases hYM : Y = M
        · have HU2 := HU.out
          rw [if_pos hYM] at HU2
          have HD := decide_eq_true hYM
          simp only [HD] at EQ
          have HU3 := Lib.hid HU2
          clear HU HU2 HD hYM
          go_enter Try.func77, Try.ntmps77
          go_wp2_with (first
            | (go_at_call 90; refine H90.out.mono ?_; rintro e w1 ⟨rfl, rfl⟩)
            | (go_at_call 47; refine HC.out.mono ?_; rintro e w1 ⟨v1, rfl, ho1, h1⟩; have H1 := Lib.hid h1; have HO1 := Lib.hid ho1; clear h1 ho1)
            | (go_at_call 84; refine (ES w1 _ (H1.out.row fun _ _ h => h)).out.mono ?_; rintro e w2 ⟨rfl, rfl⟩)
            | (go_at_call 83; refine (E8 w1).out.mono ?_; rintro e w3 ⟨rfl, h3, ho3⟩; have H3 := Lib.hid h3; have HO3 := Lib.hid ho3; clear h3 ho3)
            | (go_at_call 91; refine (EQ w3 _ _ (HC2.out.out (HO1.out.trans HO3.out)) H3.out).out.mono ?_; rintro e w4 ⟨rfl, q, rfl⟩)
            | fail)
          refine bodyPost_ret (v := .tuple #[v1, .int .i64 ((s : Int) + m + 8), .int .i64 0]) (by simp [results, Try.results77, go_sem]) rfl ?_
          rw [HU3.out]
          exact ⟨v1, by push_cast; rfl, (H1.out.out HO3.out (fun _ _ h => h)).drewN _, (HO1.out.trans HO3.out).drewN _⟩
        · have HU2 := HU.out
          rw [if_neg hYM] at HU2
          have HD := decide_eq_false hYM
          simp only [HD] at EQ
          have HU3 := Lib.hid HU2
          clear HU HU2 HD hYM
          go_enter Try.func77, Try.ntmps77
          go_wp2_with (first
            | (go_at_call 90; refine H90.out.mono ?_; rintro e w1 ⟨rfl, rfl⟩)
            | (go_at_call 47; refine HC.out.mono ?_; rintro e w1 ⟨v1, rfl, ho1, h1⟩; have H1 := Lib.hid h1; have HO1 := Lib.hid ho1; clear h1 ho1)
            | (go_at_call 84; refine (ES w1 _ (H1.out.row fun _ _ h => h)).out.mono ?_; rintro e w2 ⟨rfl, rfl⟩)
            | (go_at_call 83; refine (E8 w1).out.mono ?_; rintro e w3 ⟨rfl, h3, ho3⟩; have H3 := Lib.hid h3; have HO3 := Lib.hid ho3; clear h3 ho3)
            | (go_at_call 91; refine (EQ w3 _ _ (HC2.out.out (HO1.out.trans HO3.out)) H3.out).out.mono ?_; rintro e w4 ⟨rfl, q, rfl⟩)
            | fail)
          refine bodyPost_ret (v := .tuple #[.slice none 0 0, .int .i64 0, .int .i64 22]) (by simp [results, Try.results77, go_sem]) rfl ?_
          rw [HU3.out]
          exact ⟨.slice none 0 0, rfl, owns_nil _ _, (HO1.out.trans HO3.out).drewN _⟩
  · rw [unrec_err hN h0]
    clear hN
    go_enter Try.func77, Try.ntmps77
    go_wp2_with (go_at_call 90; refine H90.out.mono ?_; rintro e w1 ⟨rfl, rfl⟩)
    exact bodyPost_ret (v := .tuple #[.slice none 0 0, .int .i64 0, .int .i64 er]) (by simp [results, Try.results77, go_sem]) rfl ⟨_, rfl, owns_nil _ _, Out.refl _ _⟩
end Go.Proofs.Ytddcojikbcbihaa
