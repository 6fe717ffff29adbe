import Derived.Test.YtlgoenimjmiapaaGreatT27
import Derived.Test.YtlgoenimjmiapaaGreatT02
import Derived.Deep.RegionHeld3
import Derived.RegionTactic
import Derived.WalkMore
set_option linter.unusedSimpArgs false
set_option linter.unusedVariables false
set_option linter.unusedSectionVars false
/-! The program's Reader. -/
set_option linter.unusedVariables false
set_option linter.unusedSimpArgs false
namespace Go.Proofs.YtlgoenimjmiapaaGreat
open Go.RowKit

/-- A number, a text off the bytes that are left; how it stands. -/
def rnum (L : List UInt8) (e : Int) : Int × List UInt8 × Int := if e = 0 then ((numN L 0 0).1, L.drop (numN L 0 0).2.1, (numN L 0 0).2.2) else (0, L, e)
def rtxt (L : List UInt8) (e : Int) : List UInt8 × List UInt8 × Int :=
  if e = 0 then
    if (numN L 0 0).2.2 ≠ 0 then ([], L, (numN L 0 0).2.2)
    else if (numN L 0 0).1 < 0 ∨ 1048576 < (numN L 0 0).1 then ([], L, 21)
    else if (L.length : Int) - ((numN L 0 0).2.1 : Int) < (numN L 0 0).1 then ([], L, 20)
    else ((L.drop (numN L 0 0).2.1).take (numN L 0 0).1.toNat, L.drop ((numN L 0 0).2.1 + (numN L 0 0).1.toNat), 0)
  else ([], L, e)
def rdone (L : List UInt8) (e : Int) : Int := if e = 0 then (if L = [] then 0 else 21) else e

theorem numN_le (L : List UInt8) (s u : Nat) : (numN L s u).2.1 ≤ L.length := by
  induction hk : 10 - s generalizing s u with
  | zero => rw [numN, dif_neg (by omega)]; simp
  | succ k ih =>
    rw [numN, dif_pos (by omega)]
    split
    · simp
    · rename_i c hc
      have := (List.getElem?_eq_some_iff.1 hc).1
      split
      · simp
      · split
        · exact ih _ _ (by omega)
        · split
          · simp
          · simp only; omega

/-- The block x alone; no row lies in it, nor in what is laid behind it. -/
def zx (x : Nat) : Zone := ⟨fun k => k = x, fun k => x ≤ k, fun _ h => Nat.le_of_eq h.symm⟩

/-- The program's reader in block x: the bytes L are left, the error is e. -/
structure PR (w : World) (x : Nat) (L : List UInt8) (e : Int) : Prop where
  at_ : ∃ A c, w.heap[x]? = some (.cells #[.slice A L.length c, .bool true, .int .i64 e] 99 (0, 0)) ∧ Row (zx x) w (.slice A L.length c) (bytes L)

theorem PR.out {w w' : World} {x : Nat} {L : List UInt8} {e : Int} (h : PR w x L e) (ho : Out Zone.no w w') : PR w' x L e := by
  obtain ⟨A, c, h1, h2⟩ := h.at_
  exact ⟨A, c, ho.get h1 id, h2.out ho.mono0⟩

set_option maxRecDepth 100000 in
theorem ok_is {w : World} {x : Nat} {L : List UInt8} {e : Int} (h : PR w x L e) : Calls Tryz.prog 51 #[.pointer (some ⟨x, 0, none⟩)] w fun en w' => en = .returned (.bool (decide (e = 0))) ∧ w = w' := by
  obtain ⟨A, c, h1, h2⟩ := h.at_
  have p1 := cells_all h1 1
  have p2 := cells_all h1 2
  simp at p1 p2
  clear h h2
  by_cases he : e = 0
  · subst he
    go_enter Tryz.func51, Tryz.ntmps51
    go_wp2_with fail
    go_ret
    exact ⟨by simp [go_sem], rfl⟩
  · have he2 : (e == 0) = false := by simpa using he
    go_enter Tryz.func51, Tryz.ntmps51
    go_wp2_with fail
    go_ret
    exact ⟨by simp [go_sem, he], rfl⟩
set_option maxRecDepth 100000 in
theorem err_is {w : World} {x : Nat} {L : List UInt8} {e : Int} (h : PR w x L e) : Calls Tryz.prog 53 #[.pointer (some ⟨x, 0, none⟩)] w fun en w' => en = .returned (.int .i64 e) ∧ w = w' := by
  obtain ⟨A, c, h1, h2⟩ := h.at_
  have p1 := cells_all h1 1
  have p2 := cells_all h1 2
  simp at p1 p2
  clear h h2
  go_enter Tryz.func53, Tryz.ntmps53
  go_wp2_with fail
  go_ret
  exact ⟨by simp [go_sem], rfl⟩
set_option maxRecDepth 100000 in
theorem done_is_ {w : World} {x : Nat} {L : List UInt8} {e : Int} (h : PR w x L e) : Calls Tryz.prog 28 #[.pointer (some ⟨x, 0, none⟩)] w fun en w' => en = .returned (.int .i64 (rdone L e)) ∧ w = w' := by
  have HE := Lib.hid (err_is h)
  obtain ⟨A, c, h1, h2⟩ := h.at_
  have p0 := cells_all h1 0
  simp at p0
  clear h h2
  unfold rdone
  by_cases he : e = 0
  · subst he
    by_cases hL : L = []
    · subst hL
      go_enter Tryz.func28, Tryz.ntmps28
      go_wp2_with (go_at_call 53; refine HE.out.mono ?_; rintro e w' ⟨rfl, rfl⟩)
      go_ret
      exact ⟨by simp, rfl⟩
    · have hl : ((L.length : Int) == 0) = false := by simpa using hL
      have hl2 : ¬ L.length = 0 := by simpa using hL
      go_enter Tryz.func28, Tryz.ntmps28
      go_wp2_with (go_at_call 53; refine HE.out.mono ?_; rintro e w' ⟨rfl, rfl⟩)
      go_ret
      exact ⟨by simp [hL], rfl⟩
  · have he2 : (e == 0) = false := by simpa using he
    go_enter Tryz.func28, Tryz.ntmps28
    go_wp2_with (go_at_call 53; refine HE.out.mono ?_; rintro e w' ⟨rfl, rfl⟩)
    go_ret
    exact ⟨by simp [he], rfl⟩

set_option maxRecDepth 100000 in
theorem rdnum_is {w : World} {x : Nat} {L : List UInt8} {e : Int} (h : PR w x L e) : Calls Tryz.prog 26 #[.pointer (some ⟨x, 0, none⟩)] w fun en w' => en = .returned (.int .i64 (rnum L e).1) ∧ PR w' x (rnum L e).2.1 (rnum L e).2.2 ∧ Out (zx x) w w' := by
  have HK := Lib.hid (ok_is h)
  by_cases he : e = 0
  · subst he
    have hR : rnum L 0 = ((numN L 0 0).1, L.drop (numN L 0 0).2.1, (numN L 0 0).2.2) := if_pos rfl
    rw [hR]
    obtain ⟨A, c, h1, h2⟩ := h.at_
    have p0 := cells_all h1 0
    simp at p0
    have hle := numN_le L 0 0
    have HN := Lib.hid (num90 w _ L h2.any)
    unfold NumOk at HN
    obtain ⟨⟨n, s, e1⟩, hn⟩ : ∃ q, numN L 0 0 = q := ⟨_, rfl⟩
    rw [hn] at HN hle ⊢
    simp only at HN hle ⊢
    obtain ⟨A', hA⟩ : ∃ A', (if c = s then A else A.map (·.add s)) = A' := ⟨_, rfl⟩
    have hsl : ∀ W, (Instr.slice 29 (.slice A L.length c) (some (.int .i64 (s : Int))) none none).run Tryz.prog W = .ok (.slice A' (L.length - s) (c - s)) W := fun W => by
      have h := run_slice_l elemB A L.length c s hle W
      unfold cut3 at h
      rw [hA] at h
      exact h
    have hrow : Row (zx x) w (.slice A' (L.length - s) (c - s)) (bytes (L.drop s)) := by
      have h := h2.from_ (k := s) hle
      rw [← bytes_drop] at h
      unfold cut3 at h
      rw [hA] at h
      exact h
    have f0 := frozen_all h1 0
    have hb1 := heap_set h1 0 (.slice A' (L.length - s) (c - s))
    have q2 := cells_all hb1 2
    have f2 := frozen_all hb1 2
    have hb2 := heap_set hb1 2 (.int .i64 e1)
    simp at q2 hb2
    have o2 := (((Out.refl (zx x) w).setCell (p := ⟨x, 0, none⟩) (Or.inl rfl) (.slice A' (L.length - s) (c - s))).setCell (p := ⟨x, 2, none⟩) (Or.inl rfl) (.int .i64 e1))
    have hfin : PR ((w.setCell ⟨x, 0, none⟩ (.slice A' (L.length - s) (c - s))).setCell ⟨x, 2, none⟩ (.int .i64 e1)) x (L.drop s) e1 := by
      refine ⟨A', c - s, ?_, ?_⟩
      · rw [List.length_drop]; exact hb2
      · rw [List.length_drop]; exact hrow.out o2
    have HF := Lib.hid hfin
    have HO := Lib.hid o2
    clear h h1 h2 hn hR hA hb1 hb2 hrow hfin o2
    go_enter Tryz.func26, Tryz.ntmps26
    go_wp2_with (first
      | (go_at_call 51; refine HK.out.mono ?_; rintro e w' ⟨rfl, rfl⟩)
      | (go_at_call 52; refine HN.out.mono ?_; rintro e w' ⟨rfl, rfl⟩))
    go_ret
    exact ⟨rfl, HF.out, HO.out⟩
  · have hR : rnum L e = (0, L, e) := if_neg he
    rw [hR]
    have H := Lib.hid h
    have hd : decide (e = 0) = false := by simpa using he
    rw [hd] at HK
    clear h hR
    go_enter Tryz.func26, Tryz.ntmps26
    go_wp2_with (go_at_call 51; refine HK.out.mono ?_; rintro e w' ⟨rfl, rfl⟩)
    go_ret
    exact ⟨rfl, H.out, Out.refl _ _⟩
end Go.Proofs.YtlgoenimjmiapaaGreat

/-! The program's Reader: texts; a new one. -/
set_option linter.unusedVariables false
set_option linter.unusedSimpArgs false
namespace Go.Proofs.YtlgoenimjmiapaaGreat
open Go.RowKit

theorem PR.err {w : World} {x : Nat} {L : List UInt8} {e : Int} (h : PR w x L e) (e' : Int) : PR (w.setCell ⟨x, 2, none⟩ (.int .i64 e')) x L e' := by
  obtain ⟨A, c, h1, h2⟩ := h.at_
  have hb := heap_set h1 2 (.int .i64 e')
  simp at hb
  exact ⟨A, c, hb, h2.out ((Out.refl (zx x) w).setCell (p := ⟨x, 2, none⟩) (Or.inl rfl) _)⟩

set_option maxRecDepth 100000 in
set_option maxHeartbeats 1000000 in
theorem rdtxt_is {w : World} {x : Nat} {L : List UInt8} {e : Int} (h : PR w x L e) (hl : L.length ≤ 9223372036854775807) : Calls Tryz.prog 27 #[.pointer (some ⟨x, 0, none⟩)] w fun en w' => en = .returned (.string (str (rtxt L e).1)) ∧ PR w' x (rtxt L e).2.1 (rtxt L e).2.2 ∧ Out (zx x) w w' := by
  have HK := Lib.hid (ok_is h)
  by_cases he : e = 0
  · subst he
    have H := Lib.hid h
    obtain ⟨A, c, h1, h2⟩ := h.at_
    have p0 := cells_all h1 0
    have p2 := cells_all h1 2
    have f0 := frozen_all h1 0
    have f2 := frozen_all h1 2
    simp at p0 p2
    have hle := numN_le L 0 0
    have HN := Lib.hid (num90 w _ L h2.any)
    unfold NumOk at HN
    unfold rtxt
    rw [if_pos rfl]
    obtain ⟨⟨n, s, e1⟩, hn⟩ : ∃ q, numN L 0 0 = q := ⟨_, rfl⟩
    rw [hn] at HN hle ⊢
    simp only at HN hle ⊢
    have H1 := Lib.hid h1
    have H2 := Lib.hid h2
    have hq := cells_all (heap_set h1 2 (.int .i64 0)) 0
    simp at hq
    clear hn h1 h2 h
    by_cases he1 : e1 = 0
    · subst he1
      rw [if_neg (by simp)]
      by_cases hn1 : n < 0 ∨ 1048576 < n
      · rw [if_pos hn1]
        have HE := Lib.hid (H.out.err 21)
        have HO : Hid (Out (zx x) w (w.setCell ⟨x, 2, none⟩ (.int .i64 21))) := (Out.refl (zx x) w).setCell (p := ⟨x, 2, none⟩) (Or.inl rfl) _
        rcases hn1 with hn1 | hn1
        · go_enter Tryz.func27, Tryz.ntmps27
          go_wp2_with (first
            | (go_at_call 51; refine HK.out.mono ?_; rintro e w' ⟨rfl, rfl⟩)
            | (go_at_call 52; refine HN.out.mono ?_; rintro e w' ⟨rfl, rfl⟩))
          go_ret
          exact ⟨rfl, HE.out, HO.out⟩
        · go_enter Tryz.func27, Tryz.ntmps27
          go_wp2_with (first
            | (go_at_call 51; refine HK.out.mono ?_; rintro e w' ⟨rfl, rfl⟩)
            | (go_at_call 52; refine HN.out.mono ?_; rintro e w' ⟨rfl, rfl⟩))
          all_goals
            go_ret
            exact ⟨rfl, HE.out, HO.out⟩
      · rw [if_neg hn1]
        have hn0 : 0 ≤ n := by omega
        have hn2 : n ≤ 1048576 := by omega
        by_cases hlt : (L.length : Int) - (s : Int) < n
        · rw [if_pos hlt]
          have HE := Lib.hid (H.out.err 20)
          have HO : Hid (Out (zx x) w (w.setCell ⟨x, 2, none⟩ (.int .i64 20))) := (Out.refl (zx x) w).setCell (p := ⟨x, 2, none⟩) (Or.inl rfl) _
          clear hn1
          go_enter Tryz.func27, Tryz.ntmps27
          go_wp2_with (first
            | (go_at_call 51; refine HK.out.mono ?_; rintro e w' ⟨rfl, rfl⟩)
            | (go_at_call 52; refine HN.out.mono ?_; rintro e w' ⟨rfl, rfl⟩))
          all_goals
            go_ret
            exact ⟨rfl, HE.out, HO.out⟩
        · rw [if_neg hlt]
          obtain ⟨m, rfl⟩ : ∃ m : Nat, n = (m : Int) := ⟨n.toNat, by omega⟩
          rw [Int.toNat_natCast]
          have hsm : s + m ≤ L.length := by omega
          obtain ⟨A1, hA1⟩ : ∃ A', (if c = s then A else A.map (·.add s)) = A' := ⟨_, rfl⟩
          obtain ⟨A2, hA2⟩ : ∃ A', (if c = s + m then A else A.map (·.add (s + m))) = A' := ⟨_, rfl⟩
          have hlc := H2.out.len.2
          have ec : (s : Int) + (m : Int) = ((s + m : Nat) : Int) := by omega
          have hsl1 : ∀ W, (Instr.slice 29 (.slice A L.length c) (some (.int .i64 (s : Int))) (some (.int .i64 ((s : Int) + (m : Int)))) none).run Tryz.prog W = .ok (.slice A1 m (c - s)) W := fun W => by
            have h := run_slice_lh elemB A L.length c s (s + m) (by omega) (by omega) W
            unfold cut3 at h
            rw [hA1, Nat.add_sub_cancel_left] at h
            rw [ec]
            exact h
          have hsl2 : ∀ W, (Instr.slice 29 (.slice A L.length c) (some (.int .i64 ((s : Int) + (m : Int)))) none none).run Tryz.prog W = .ok (.slice A2 (L.length - (s + m)) (c - (s + m))) W := fun W => by
            have h := run_slice_l elemB A L.length c (s + m) hsm W
            unfold cut3 at h
            rw [hA2] at h
            rw [ec]
            exact h
          have o1 := (Out.refl (zx x) w).setCell (p := ⟨x, 2, none⟩) (Or.inl rfl) (.int .i64 0)
          have r1 : Row (zx x) (w.setCell ⟨x, 2, none⟩ (.int .i64 0)) (.slice A1 m (c - s)) (bytes ((L.drop s).take m)) := by
            have h := row_cut (s := s) (n := m) (H2.out.out o1) hsm
            unfold cut3 at h
            rw [hA1, Nat.add_sub_cancel_left] at h
            exact h
          have hstr := string_of r1
          have r2 : Row (zx x) w (.slice A2 (L.length - (s + m)) (c - (s + m))) (bytes (L.drop (s + m))) := by
            have h := H2.out.from_ (k := s + m) hsm
            rw [← bytes_drop] at h
            unfold cut3 at h
            rw [hA2] at h
            exact h
          have hb1 := heap_set H1.out 2 (.int .i64 0)
          have fq := frozen_all hb1 0
          have hb2 := heap_set hb1 0 (.slice A2 (L.length - (s + m)) (c - (s + m)))
          simp at hb2
          have o2 := o1.setCell (p := ⟨x, 0, none⟩) (Or.inl rfl) (.slice A2 (L.length - (s + m)) (c - (s + m)))
          have hfin : PR ((w.setCell ⟨x, 2, none⟩ (.int .i64 0)).setCell ⟨x, 0, none⟩ (.slice A2 (L.length - (s + m)) (c - (s + m)))) x (L.drop (s + m)) 0 := by
            refine ⟨A2, c - (s + m), ?_, ?_⟩
            · rw [List.length_drop]; exact hb2
            · rw [List.length_drop]; exact r2.out o2
          have HF := Lib.hid hfin
          have HO := Lib.hid o2
          obtain ⟨S, hS⟩ : ∃ S, (L.drop s).take m = S := ⟨_, rfl⟩
          rw [hS] at hstr ⊢
          have e1 : ¬ (m : Int) < 0 := by omega
          have e2 : ¬ (1048576 : Int) < (m : Int) := by omega
          clear hn1 hn0 hn2 hA1 hA2 hS hb1 hb2 o1 o2 r1 r2 hfin ec hlc
          go_enter Tryz.func27, Tryz.ntmps27
          go_wp2_with (first
            | (go_at_call 51; refine HK.out.mono ?_; rintro e w' ⟨rfl, rfl⟩)
            | (go_at_call 52; refine HN.out.mono ?_; rintro e w' ⟨rfl, rfl⟩))
          go_ret
          exact ⟨rfl, HF.out, HO.out⟩
    · rw [if_pos he1]
      have he2 : (e1 == 0) = false := by simpa using he1
      have HE := Lib.hid (H.out.err e1)
      have HO : Hid (Out (zx x) w (w.setCell ⟨x, 2, none⟩ (.int .i64 e1))) := (Out.refl (zx x) w).setCell (p := ⟨x, 2, none⟩) (Or.inl rfl) _
      go_enter Tryz.func27, Tryz.ntmps27
      go_wp2_with (first
        | (go_at_call 51; refine HK.out.mono ?_; rintro e w' ⟨rfl, rfl⟩)
        | (go_at_call 52; refine HN.out.mono ?_; rintro e w' ⟨rfl, rfl⟩))
      go_ret
      exact ⟨rfl, HE.out, HO.out⟩
  · have hR : rtxt L e = ([], L, e) := if_neg he
    rw [hR]
    have H := Lib.hid h
    have hd : decide (e = 0) = false := by simpa using he
    rw [hd] at HK
    clear h hR
    go_enter Tryz.func27, Tryz.ntmps27
    go_wp2_with (go_at_call 51; refine HK.out.mono ?_; rintro e w' ⟨rfl, rfl⟩)
    go_ret
    exact ⟨rfl, H.out, Out.refl _ _⟩
end Go.Proofs.YtlgoenimjmiapaaGreat
