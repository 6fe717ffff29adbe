import Derived.Test.YtlgoenimjmiapaaGreatT27
import Derived.Test.YtlgoenimjmiapaaGreatT28
set_option linter.unusedSimpArgs false
set_option linter.unusedVariables false
set_option linter.unusedSectionVars false
/-! The document's number. -/
set_option linter.unusedVariables false
set_option linter.unusedSimpArgs false
namespace Go.Proofs.YtlgoenimjmiapaaGreat
open Go.RowKit

set_option maxRecDepth 100000 in
theorem unfold_is (w : World) (U : Nat) (hU : U < 18446744073709551616) : Calls Tryz.prog 74 #[.int .u64 (U : Int)] w fun e w' => e = .returned (.int .i64 (unN U)) ∧ w = w' := by
  have e2 : wrap64 ((U : Int) / 2) = ((U / 2 : Nat) : Int) := by unfold wrap64; omega
  by_cases h : U % 2 = 0
  · have e0 : ((U : Int) % 2 == 0) = true := by rw [beq_iff_eq]; omega
    have HE : Hid (unN U = (U : Int) / 2) := by show _ = _; unfold unN; rw [if_pos h]; omega
    clear h
    go_enter Tryz.func74, Tryz.ntmps74
    go_wp2_with fail
    go_ret
    exact ⟨by rw [HE.out]; rfl, rfl⟩
  · have e0 : ((U : Int) % 2 == 0) = false := by rw [beq_eq_false_iff_ne]; omega
    have HE : Hid (unN U = -((U : Int) / 2) - 1) := by show _ = _; unfold unN; rw [if_neg h]; omega
    clear h
    go_enter Tryz.func74, Tryz.ntmps74
    go_wp2_with fail
    go_ret
    exact ⟨by rw [HE.out]; rfl, rfl⟩

set_option maxRecDepth 1000000 in
set_option maxHeartbeats 4000000 in
theorem rnumber_is (w : World) (v : Value) (L : List UInt8) (hr : Row Zone.no w v (bytes L)) : Calls Tryz.prog 54 #[v] w (NumOk L w) := by
  obtain ⟨A, cA, rfl, hc1, hc2⟩ := hr.form
  have HR := Lib.hid hr
  unfold maxLen at hc2
  clear hr
  go_enter Tryz.func54, Tryz.ntmps54
  go_wp2_with fail
  go_loop [5, 6] (fun vu vs => ∃ (s u : Nat), vs = .int .i64 (s : Int) ∧ vu = .int .u64 (u : Int) ∧ s ≤ 10 ∧ s ≤ L.length ∧ (s ≤ 9 → Hid (u < 2 ^ (7 * s))) ∧ Hid (numN L s u = numN L 0 0)) (fun _ vs => 10 - (intOf vs).toNat)
  case atStart => exact ⟨0, 0, rfl, rfl, by omega, by omega, fun _ => by show _ < _; simp, rfl⟩
  case round =>
    obtain ⟨s, u, rfl, rfl, hs, hsl, hu, hn⟩ := hrel
    by_cases hlt : s < 10
    · have hu := hu (by omega)
      cases hx : L[s]? with
      | none =>
        have hge : L.length ≤ s := List.getElem?_eq_none_iff.1 hx
        have HX := Lib.hid (numOk (w := w) hn.out (numN_none (by omega) hx))
        clear hx
        go_wp2_with fail
        go_ret3
        exact HX.out
      | some c =>
        obtain ⟨a, rfl, _, hcell⟩ := HR.out.byte hx
        have hlt2 : s < L.length := (List.getElem?_eq_some_iff.1 hx).1
        have HX := Lib.hid hx
        have hcl := c.toNat_lt
        clear hx
        by_cases h9 : s = 9 ∧ 1 < c.toNat
        · have HX := Lib.hid (numOk (w := w) hn.out (numN_ten h9.1 HX.out h9.2))
          obtain ⟨h91, h92⟩ := h9
          have hse : ((s : Int) == 9) = true := by rw [beq_iff_eq]; omega
          clear h91
          go_wp2_with fail
          go_ret3
          exact HX.out
        · have h9' : s = 9 → c.toNat ≤ 1 := fun e => by omega
          have hor := num_or (by omega) hu.out hcl h9'
          have hb := num_bound (by omega) hu.out hcl h9'
          obtain ⟨U, hU⟩ : ∃ U, u + c.toNat % 128 * 2 ^ (7 * s) = U := ⟨_, rfl⟩
          rw [hU] at hb
          have hadd : IntKind.u64.wrap ((u : Int) + IntKind.u64.wrap ((c.toNat : Int) % 128 * 2 ^ (7 * s))) = (U : Int) := by
            have hw : ∀ y : Int, IntKind.u64.wrap y = y % 18446744073709551616 := fun y => by simp [IntKind.wrap, IntKind.bits, IntKind.signed]
            have e1 : (c.toNat : Int) % 128 * 2 ^ (7 * s) = ((c.toNat % 128 * 2 ^ (7 * s) : Nat) : Int) := by push_cast; rfl
            rw [hw, hw, e1]
            generalize c.toNat % 128 * 2 ^ (7 * s) = Y at *
            omega
          have HU := Lib.hid hU
          have HB := Lib.hid hb
          have H9 := Lib.hid h9
          have hc1 : (s : Int) = 9 → ¬ (1 : Int) < (c.toNat : Int) := fun e => by omega
          have HC1 := Lib.hid hc1
          clear hU hb h9 hor hc1
          have HS : Hid (s = 9 ∧ ((s : Int) == 9) = true ∧ ¬ (1 : Int) < (c.toNat : Int) ∨ ((s : Int) == 9) = false) := by
            by_cases e : s = 9
            · exact Or.inl ⟨e, by rw [beq_iff_eq]; omega, by have := h9' e; omega⟩
            · exact Or.inr (by rw [beq_eq_false_iff_ne]; omega)
          clear h9'
          by_cases hge : 128 ≤ c.toNat
          · have HN2 : Hid (s + 1 ≤ 10 ∧ s + 1 ≤ L.length ∧ (s + 1 ≤ 9 → Hid (U < 2 ^ (7 * (s + 1)))) ∧ Hid (numN L (s + 1) U = numN L 0 0)) := by
              refine ⟨by omega, by omega, fun h => ?_, ?_⟩
              · show _ < _; rw [← HU.out]; exact num_next (by omega) hu.out
              · show _ = _; rw [← hn.out, numN_go (by omega) HX.out H9.out hge, HU.out]
            rcases HS.out with ⟨-, hse, hc1⟩ | hse <;> (clear HS; go_wp2_with fail; try (go_round; (case rel => exact ⟨s + 1, U, by go_num, rfl, HN2.out⟩); (case measure => simp [intOf]; omega)))
          · by_cases hc0 : c.toNat = 0 ∧ 0 < s
            · have HX2 := Lib.hid (numOk (w := w) hn.out (numN_zero (by omega) HX.out hc0.1 hc0.2))
              have hz : ((c.toNat : Int) == 0) = true := by rw [beq_iff_eq]; omega
              have hs0 : 0 < s := hc0.2
              clear hc0
              rcases HS.out with ⟨-, hse, hc1⟩ | hse <;> (clear HS; go_wp2_with fail; go_ret3; exact HX2.out)
            · have HX2 := Lib.hid (numOk (w := w) hn.out (numN_done (by omega) HX.out H9.out hge hc0))
              rw [HU.out] at HX2
              have HUN := Lib.hid (unfold_is w U HB.out.2.2)
              by_cases hz : c.toNat = 0
              · have hz' : ((c.toNat : Int) == 0) = true := by rw [beq_iff_eq]; omega
                have hs0 : ¬ 0 < s := fun e => hc0 ⟨hz, e⟩
                clear hc0 hz
                rcases HS.out with ⟨-, hse, hc1⟩ | hse <;> (clear HS; go_wp2_with (go_at_call 74; refine HUN.out.mono ?_; rintro e w' ⟨rfl, rfl⟩); go_ret3; exact HX2.out)
              · have hz' : ((c.toNat : Int) == 0) = false := by rw [beq_eq_false_iff_ne]; omega
                clear hc0 hz
                rcases HS.out with ⟨-, hse, hc1⟩ | hse <;> (clear HS; go_wp2_with (go_at_call 74; refine HUN.out.mono ?_; rintro e w' ⟨rfl, rfl⟩); go_ret3; exact HX2.out)
    · obtain rfl : s = 10 := by omega
      have HX : Hid (NumOk L w (.returned (.tuple #[.int .i64 0, .int .i64 ((0 : Nat) : Int), .int .i64 21])) w) := numOk hn.out (by rw [numN, dif_neg (by omega)])
      go_wp2_with fail
      go_ret3
      exact HX.out
end Go.Proofs.YtlgoenimjmiapaaGreat

/-! New readers; the document's Reader. -/
set_option linter.unusedVariables false
set_option linter.unusedSimpArgs false
namespace Go.Proofs.YtlgoenimjmiapaaGreat
open Go.RowKit

theorem Owns.fresh_row {b : Nat} {w : World} {v : Value} {L : List UInt8} (h : Owns b w v L) (o : Obj) : Row (zx w.heap.size) (w.alloc o) v (bytes L) := by
  refine Owns.row (Owns.out h ((Out.refl Zone.no w).alloc o) (fun _ _ h => h)) (fun g hg e => ?_)
  have h1 := (World.ownsRow.lt h g hg).2
  have e' : w.heap.size ≤ g := e
  omega

set_option maxRecDepth 100000 in
theorem newrd_is (w : World) (v : Value) (L : List UInt8) (hr : Row Zone.no w v (bytes L)) (hl : L.length ≤ 140737488355328) :
    Calls Tryz.prog 25 #[v] w fun e w' => ∃ x, e = .returned (.pointer (some ⟨x, 0, none⟩)) ∧ w.heap.size ≤ x ∧ PR w' x L 0 ∧ Out Zone.no w w' := by
  have HC := Lib.hid (clone_owns w v L hr hl)
  clear hr
  go_enter Tryz.func25, Tryz.ntmps25
  go_wp2_with (go_at_call 50; refine HC.out.mono ?_; rintro e w1 ⟨v1, rfl, ho, h1⟩; have HO := Lib.hid ho; have H1 := Lib.hid h1; obtain ⟨A, c, rfl, hc1, hc2⟩ := (h1.row (Z := Zone.no) (fun _ _ h => h)).form; clear ho h1)
  have hb := heap_alloc_new w1 (.cells #[.slice A L.length c, .bool true, .int .i64 0] 99)
  have hp : PR (w1.alloc (.cells #[.slice A L.length c, .bool true, .int .i64 0] 99)) w1.heap.size L 0 := ⟨A, c, hb, H1.out.fresh_row _⟩
  go_ret
  exact ⟨_, rfl, HO.out.size, hp, HO.out.alloc _⟩

/-- The document's reader in block y. -/
structure RR (w : World) (y : Nat) (L : List UInt8) (e : Int) : Prop where
  at_ : ∃ A c F k, w.heap[y]? = some (.cells #[.slice A F.length c, .int .i64 (k : Nat), .int .i64 e] 76 (0, 0)) ∧ Row (zx y) w (.slice A F.length c) (bytes F) ∧ k ≤ F.length ∧ F.drop k = L ∧ F.length ≤ 140737488355328

theorem RR.out {w w' : World} {x : Nat} {L : List UInt8} {e : Int} (h : RR w x L e) (ho : Out Zone.no w w') : RR w' x L e := by
  obtain ⟨A, c, F, k, h1, h2, h3⟩ := h.at_
  exact ⟨A, c, F, k, ho.get h1 id, h2.out ho.mono0, h3⟩

theorem RR.set {w : World} {x T : Nat} {L : List UInt8} {e : Int} (h : RR w x L e) (hT : x < T) (i : Nat) (u : Value) : RR (w.setCell ⟨T, i, none⟩ u) x L e := by
  obtain ⟨A, c, F, k, h1, h2, h3⟩ := h.at_
  refine ⟨A, c, F, k, heap_far h1 (by show x ≠ T; omega) u, Row.far h2 (Z' := zx T) ((Out.refl (zx T) w).setCell (p := ⟨T, i, none⟩) (Or.inl rfl) u) (fun j hj => ?_), h3⟩
  have : j = T := hj
  show x ≤ j
  omega

set_option maxRecDepth 100000 in
theorem newrr_is (w : World) (v : Value) (L : List UInt8) (hr : Row Zone.no w v (bytes L)) (hl : L.length ≤ 140737488355328) :
    Calls Tryz.prog 29 #[v] w fun e w' => ∃ x, e = .returned (.pointer (some ⟨x, 0, none⟩)) ∧ w.heap.size ≤ x ∧ RR w' x L 0 ∧ Out Zone.no w w' := by
  obtain ⟨A, c, rfl, hc1, hc2⟩ := hr.form
  obtain ⟨v1, w1, hrun, ho1, hout1⟩ := copy_run w _ L hr hl
  have HR := Lib.hid hrun
  have HO := Lib.hid hout1
  have H1 := Lib.hid ho1
  obtain ⟨A1, c1, rfl, hc1, hc2⟩ := (ho1.row (Z := Zone.no) (fun _ _ h => h)).form
  clear hr hrun ho1 hout1
  go_enter Tryz.func29, Tryz.ntmps29
  go_wp2_with (at_builtin; refine wpList_builtin rfl _ _ _ rfl HR.out ?_)
  have hb := heap_alloc_new w1 (.cells #[.slice A1 L.length c1, .int .i64 0, .int .i64 0] 76)
  have hp : RR (w1.alloc (.cells #[.slice A1 L.length c1, .int .i64 0, .int .i64 0] 76)) w1.heap.size L 0 := ⟨A1, c1, L, 0, hb, H1.out.fresh_row _, Nat.zero_le _, rfl, hl⟩
  go_ret
  exact ⟨_, rfl, HO.out.size, hp, HO.out.alloc _⟩

theorem RR.err {w : World} {y : Nat} {L : List UInt8} {e : Int} (h : RR w y L e) (e' : Int) : RR (w.setCell ⟨y, 2, none⟩ (.int .i64 e')) y L e' := by
  obtain ⟨A, c, F, k, h1, h2, h3⟩ := h.at_
  have hb := heap_set h1 2 (.int .i64 e')
  simp at hb
  exact ⟨A, c, F, k, hb, h2.out ((Out.refl (zx y) w).setCell (p := ⟨y, 2, none⟩) (Or.inl rfl) _), h3⟩

set_option maxRecDepth 100000 in
theorem left_is {w : World} {y : Nat} {L : List UInt8} {e : Int} (h : RR w y L e) : Calls Tryz.prog 55 #[.pointer (some ⟨y, 0, none⟩)] w fun en w' => en = .returned (.int .i64 (L.length : Int)) ∧ ∃ n, w' = w.drewN n := by
  obtain ⟨A, c, F, k, h1, h2, hk, rfl, hF⟩ := h.at_
  have p0 := cells_all h1 0
  have p1 := cells_all h1 1
  simp at p0 p1
  have hl : ((F.drop k).length : Int) = (F.length : Int) - (k : Int) := by rw [List.length_drop]; omega
  rw [hl]
  clear h h1 h2 hl
  go_enter Tryz.func55, Tryz.ntmps55
  go_wp2_with fail
  go_quiet (fail)
  all_goals
    go_wp2_with fail
    go_ret
    exact ⟨rfl, _, rfl⟩
set_option maxRecDepth 100000 in
theorem rdone_is {w : World} {y : Nat} {L : List UInt8} {e : Int} (h : RR w y L e) : Calls Tryz.prog 32 #[.pointer (some ⟨y, 0, none⟩)] w fun en w' => en = .returned (.int .i64 (rdone L e)) ∧ Out Zone.no w w' := by
  have HL := Lib.hid (left_is h)
  obtain ⟨A, c, F, k, h1, h2⟩ := h.at_
  have p2 := cells_all h1 2
  simp at p2
  clear h h2 h1
  unfold rdone
  by_cases he : e = 0
  · subst he
    by_cases hL : L = []
    · subst hL
      go_enter Tryz.func32, Tryz.ntmps32
      go_wp2_with (go_at_call 55; refine HL.out.mono ?_; rintro e w' ⟨rfl, n, rfl⟩)
      go_ret
      exact ⟨by simp, (Out.refl _ _).drewN _⟩
    · have hl2 : (0 : Int) < (L.length : Int) := by have := List.length_pos_iff.2 hL; omega
      go_enter Tryz.func32, Tryz.ntmps32
      go_wp2_with (go_at_call 55; refine HL.out.mono ?_; rintro e w' ⟨rfl, n, rfl⟩)
      go_ret
      exact ⟨by simp [hL], (Out.refl _ _).drewN _⟩
  · have he2 : (e == 0) = false := by simpa using he
    go_enter Tryz.func32, Tryz.ntmps32
    go_wp2_with fail
    go_ret
    exact ⟨by simp [he], Out.refl _ _⟩

set_option maxRecDepth 100000 in
theorem rrnum_is {w : World} {y : Nat} {L : List UInt8} {e : Int} (h : RR w y L e) : Calls Tryz.prog 30 #[.pointer (some ⟨y, 0, none⟩)] w fun en w' => en = .returned (.int .i64 (rnum L e).1) ∧ RR w' y (rnum L e).2.1 (rnum L e).2.2 ∧ Out (zx y) w w' := by
  obtain ⟨A, c, F, k, h1, h2, hk, hL, hF⟩ := id h.at_
  have p2 := cells_all h1 2
  simp at p2
  by_cases he : e = 0
  · subst he
    have hR : rnum L 0 = ((numN L 0 0).1, L.drop (numN L 0 0).2.1, (numN L 0 0).2.2) := if_pos rfl
    rw [hR]
    have p0 := cells_all h1 0
    have p1 := cells_all h1 1
    simp at p0 p1
    obtain ⟨A', hA⟩ : ∃ A', (if c = k then A else A.map (·.add k)) = A' := ⟨_, rfl⟩
    have hsl : ∀ W, (Instr.slice 29 (.slice A F.length c) (some (.int .i64 (k : Int))) none none).run Tryz.prog W = .ok (.slice A' (F.length - k) (c - k)) W := fun W => by
      have h := run_slice_l elemB A F.length c k hk W
      unfold cut3 at h
      rw [hA] at h
      exact h
    have hrow : Row (zx y) w (.slice A' (F.length - k) (c - k)) (bytes L) := by
      have h := h2.from_ (k := k) hk
      rw [← bytes_drop, hL] at h
      unfold cut3 at h
      rw [hA] at h
      exact h
    have hle := numN_le L 0 0
    have HN := Lib.hid (rnumber_is w.drew _ L hrow.any)
    unfold NumOk at HN
    obtain ⟨⟨n, s, e1⟩, hn⟩ : ∃ q, numN L 0 0 = q := ⟨_, rfl⟩
    rw [hn] at HN hle ⊢
    simp only at HN hle ⊢
    have hLl : L.length = F.length - k := by rw [← hL, List.length_drop]
    have h1d : w.drew.heap[y]? = some (.cells #[.slice A F.length c, .int .i64 (k : Nat), .int .i64 0] 76 (0, 0)) := h1
    have CS : w.drew.cell? ⟨y, 0, none⟩ = some (.slice A F.length c) ∧ w.drew.cell? ⟨y, 1, none⟩ = some (.int .i64 (k : Int)) ∧ w.drew.cell? ⟨y, 2, none⟩ = some (.int .i64 0) := ⟨p0, p1, p2⟩
    have f2 := frozen_all h1d 2
    have hb1 : (w.setCell ⟨y, 2, none⟩ (.int .i64 e1)).drew.heap[y]? = _ := heap_set h1 2 (.int .i64 e1)
    have hks : k + s ≤ 140737488355328 := by omega
    have q1 := cells_all hb1 1
    have g1 := frozen_all hb1 1
    have hb2 := heap_set hb1 1 (.int .i64 ((k + s : Nat) : Int))
    simp at q1 hb2
    have o2 := (((Out.refl (zx y) w).setCell (p := ⟨y, 2, none⟩) (Or.inl rfl) (.int .i64 e1)).drew.setCell (p := ⟨y, 1, none⟩) (Or.inl rfl) (.int .i64 ((k : Int) + (s : Int))))
    have hfin : RR ((w.setCell ⟨y, 2, none⟩ (.int .i64 e1)).drew.setCell ⟨y, 1, none⟩ (.int .i64 ((k : Int) + (s : Int)))) y (L.drop s) e1 := by
      refine ⟨A, c, F, k + s, ?_, h2.out o2, by omega, by rw [← hL, List.drop_drop], hF⟩
      push_cast
      exact hb2
    have HF := Lib.hid hfin
    have HO := Lib.hid o2
    clear h h1 h1d h2 hn hR hA hb1 hb2 hrow hfin o2 hL hLl
    go_enter Tryz.func30, Tryz.ntmps30
    go_wp2_with fail
    go_region_held3 (fun W => W.cell? ⟨y, 0, none⟩ = some (.slice A F.length c) ∧ W.cell? ⟨y, 1, none⟩ = some (.int .i64 (k : Int)) ∧ W.cell? ⟨y, 2, none⟩ = some (.int .i64 0))
      (first | with_reducible assumption)
      (first | (go_at_call 54; refine HN.out.mono ?_; rintro e w' ⟨rfl, rfl⟩))
    all_goals
      go_wp2_with fail
      go_ret
      exact ⟨rfl, HF.out, HO.out⟩
  · have hR : rnum L e = (0, L, e) := if_neg he
    rw [hR]
    have H := Lib.hid h
    have he2 : (e == 0) = false := by simpa using he
    clear h hR h1 h2
    go_enter Tryz.func30, Tryz.ntmps30
    go_wp2_with fail
    go_ret
    exact ⟨rfl, H.out, Out.refl _ _⟩
end Go.Proofs.YtlgoenimjmiapaaGreat

/-! The document's Reader: texts. -/
set_option linter.unusedVariables false
set_option linter.unusedSimpArgs false
namespace Go.Proofs.YtlgoenimjmiapaaGreat
open Go.RowKit

set_option maxRecDepth 100000 in
set_option maxHeartbeats 2000000 in
theorem rrtxt_is {w : World} {y : Nat} {L : List UInt8} {e : Int} (h : RR w y L e) : Calls Tryz.prog 31 #[.pointer (some ⟨y, 0, none⟩)] w fun en w' => en = .returned (.string (str (rtxt L e).1)) ∧ RR w' y (rtxt L e).2.1 (rtxt L e).2.2 ∧ Out (zx y) w w' := by
  have H := Lib.hid h
  obtain ⟨A, c, F, k, h1, h2, hk, hL, hF⟩ := id h.at_
  have p2 := cells_all h1 2
  simp at p2
  by_cases he : e = 0
  · subst he
    have p0 := cells_all h1 0
    have p1 := cells_all h1 1
    simp at p0 p1
    obtain ⟨A', hA⟩ : ∃ A', (if c = k then A else A.map (·.add k)) = A' := ⟨_, rfl⟩
    have hsl : ∀ W, (Instr.slice 29 (.slice A F.length c) (some (.int .i64 (k : Int))) none none).run Tryz.prog W = .ok (.slice A' (F.length - k) (c - k)) W := fun W => by
      have h := run_slice_l elemB A F.length c k hk W
      unfold cut3 at h
      rw [hA] at h
      exact h
    have hrow : Row (zx y) w (.slice A' (F.length - k) (c - k)) (bytes L) := by
      have h := h2.from_ (k := k) hk
      rw [← bytes_drop, hL] at h
      unfold cut3 at h
      rw [hA] at h
      exact h
    have hle := numN_le L 0 0
    have HN := Lib.hid (rnumber_is w.drew _ L hrow.any)
    unfold NumOk at HN
    unfold rtxt
    rw [if_pos rfl]
    obtain ⟨⟨n, s, e1⟩, hn⟩ : ∃ q, numN L 0 0 = q := ⟨_, rfl⟩
    rw [hn] at HN hle ⊢
    simp only at HN hle ⊢
    have hLl : L.length = F.length - k := by rw [← hL, List.length_drop]
    have H1 := Lib.hid h1
    have H2 := Lib.hid h2
    have HL := Lib.hid hL
    have CS : w.drew.cell? ⟨y, 0, none⟩ = some (.slice A F.length c) ∧ w.drew.cell? ⟨y, 1, none⟩ = some (.int .i64 (k : Int)) ∧ w.drew.cell? ⟨y, 2, none⟩ = some (.int .i64 0) := ⟨p0, p1, p2⟩
    have fd2 : w.drew.frozen? ⟨y, 2, none⟩ = false := frozen_all h1 2
    clear hn h1 h2 h hL hrow hA
    by_cases he1 : e1 = 0
    · subst he1
      rw [if_neg (by simp)]
      by_cases hn1 : n < 0 ∨ 1048576 < n
      · rw [if_pos hn1]
        have HE := Lib.hid (H.out.err 21)
        have HO : Hid (Out (zx y) w (w.setCell ⟨y, 2, none⟩ (.int .i64 21))) := (Out.refl (zx y) w).setCell (p := ⟨y, 2, none⟩) (Or.inl rfl) _
        have q2 := cells_all (heap_set H1.out 2 (.int .i64 21)) 2
        simp at q2
        rcases hn1 with hn1 | hn1
        · go_enter Tryz.func31, Tryz.ntmps31
          go_wp2_with fail
          go_region_held3 (fun W => W.cell? ⟨y, 0, none⟩ = some (.slice A F.length c) ∧ W.cell? ⟨y, 1, none⟩ = some (.int .i64 (k : Int)) ∧ W.cell? ⟨y, 2, none⟩ = some (.int .i64 0))
            (first | with_reducible assumption)
            (first | (go_at_call 54; refine HN.out.mono ?_; rintro e w' ⟨rfl, rfl⟩))
          all_goals
            go_wp2_with fail
            go_ret
            exact ⟨rfl, HE.out.out ((Out.refl _ _).drewN 1), HO.out.drewN 1⟩
        · go_enter Tryz.func31, Tryz.ntmps31
          go_wp2_with fail
          go_region_held3 (fun W => W.cell? ⟨y, 0, none⟩ = some (.slice A F.length c) ∧ W.cell? ⟨y, 1, none⟩ = some (.int .i64 (k : Int)) ∧ W.cell? ⟨y, 2, none⟩ = some (.int .i64 0))
            (first | with_reducible assumption)
            (first | (go_at_call 54; refine HN.out.mono ?_; rintro e w' ⟨rfl, rfl⟩))
          all_goals
            go_wp2_with fail
            go_ret
            exact ⟨rfl, HE.out.out ((Out.refl _ _).drewN 1), HO.out.drewN 1⟩
      · rw [if_neg hn1]
        have hn0 : 0 ≤ n := by omega
        have hn2 : n ≤ 1048576 := by omega
        have e1' : ¬ n < 0 := by omega
        have e2' : ¬ (1048576 : Int) < n := by omega
        have HLF := Lib.hid (left_is (H.out.out (Out.refl Zone.no w).drew))
        by_cases hlt : (L.length : Int) - (s : Int) < n
        · rw [if_pos hlt]
          clear hn1
          go_enter Tryz.func31, Tryz.ntmps31
          go_wp2_with fail
          go_region_held3 (fun W => W.cell? ⟨y, 0, none⟩ = some (.slice A F.length c) ∧ W.cell? ⟨y, 1, none⟩ = some (.int .i64 (k : Int)) ∧ W.cell? ⟨y, 2, none⟩ = some (.int .i64 0))
            (first | with_reducible assumption)
            (first | (go_at_call 54; refine HN.out.mono ?_; rintro e w' ⟨rfl, rfl⟩))
          all_goals
            go_wp2_with (go_at_call 55; refine HLF.out.mono ?_; rintro e w' ⟨rfl, nn, rfl⟩; obtain ⟨wB, hwB⟩ : ∃ wB, w.drew.drewN nn = wB := ⟨_, rfl⟩; have hbB : wB.heap[y]? = some (.cells #[.slice A F.length c, .int .i64 (k : Nat), .int .i64 0] 76 (0, 0)) := (by rw [← hwB]; exact H1.out); have HB := Lib.hid hbB; have HRB : Hid (RR wB y L 0) := (by rw [← hwB]; exact H.out.out ((Out.refl _ _).drew.drewN nn)); have HOB : Hid (Out (zx y) w wB) := (by rw [← hwB]; exact (Out.refl _ _).drew.drewN nn); rw [hwB]; clear hwB; have r0 := cells_all hbB 0; have r1 := cells_all hbB 1; have r2 := cells_all hbB 2; have g1 := frozen_all hbB 1; have g2 := frozen_all hbB 2; simp at r0 r1 r2; clear hbB)
            go_ret
            exact ⟨rfl, HRB.out.err 20, HOB.out.setCell (p := ⟨y, 2, none⟩) (Or.inl rfl) _⟩
        · rw [if_neg hlt]
          obtain ⟨m, rfl⟩ : ∃ m : Nat, n = (m : Int) := ⟨n.toNat, by omega⟩
          rw [Int.toNat_natCast]
          have hsm : s + m ≤ L.length := by omega
          have hks : k + s + m ≤ F.length := by omega
          have HKS := Lib.hid hks
          obtain ⟨A2, hA2⟩ : ∃ A2, (if c = k + s then A else A.map (·.add (k + s))) = A2 := ⟨_, rfl⟩
          obtain ⟨S, hS⟩ : ∃ S, (L.drop s).take m = S := ⟨_, rfl⟩
          rw [hS]
          have hcl := H2.out.len.2
          have hsl2 : ∀ W, (Instr.slice 29 (.slice A F.length c) (some (.int .i64 ((k : Int) + (s : Int)))) (some (.int .i64 ((k : Int) + (s : Int) + (m : Int)))) none).run Tryz.prog W = .ok (.slice A2 m (c - (k + s))) W := fun W => by
            have h := run_slice_lh elemB A F.length c (k + s) (k + s + m) (by omega) (by omega) W
            unfold cut3 at h
            rw [hA2, Nat.add_sub_cancel_left] at h
            push_cast at h
            exact h
          have HR2 : Hid (∀ W, Out (zx y) w W → Row (zx y) W (.slice A2 m (c - (k + s))) (bytes S)) := fun W ho => by
            have h := row_cut (s := k + s) (n := m) (H2.out.out ho) (by omega)
            unfold cut3 at h
            rw [hA2, Nat.add_sub_cancel_left, ← List.drop_drop, HL.out, hS] at h
            exact h
          clear hn1 hn0 hn2 hA2 hS hcl
          go_enter Tryz.func31, Tryz.ntmps31
          go_wp2_with fail
          go_region_held3 (fun W => W.cell? ⟨y, 0, none⟩ = some (.slice A F.length c) ∧ W.cell? ⟨y, 1, none⟩ = some (.int .i64 (k : Int)) ∧ W.cell? ⟨y, 2, none⟩ = some (.int .i64 0))
            (first | with_reducible assumption)
            (first | (go_at_call 54; refine HN.out.mono ?_; rintro e w' ⟨rfl, rfl⟩))
          all_goals
            go_wp2_with (go_at_call 55; refine HLF.out.mono ?_; rintro e w' ⟨rfl, nn, rfl⟩; obtain ⟨wB, hwB⟩ : ∃ wB, w.drew.drewN nn = wB := ⟨_, rfl⟩; have hbB : wB.heap[y]? = some (.cells #[.slice A F.length c, .int .i64 (k : Nat), .int .i64 0] 76 (0, 0)) := (by rw [← hwB]; exact H1.out); have HB := Lib.hid hbB; have HRB : Hid (RR wB y L 0) := (by rw [← hwB]; exact H.out.out ((Out.refl _ _).drew.drewN nn)); have HOB : Hid (Out (zx y) w wB) := (by rw [← hwB]; exact (Out.refl _ _).drew.drewN nn); rw [hwB]; clear hwB; have r0 := cells_all hbB 0; have r1 := cells_all hbB 1; have r2 := cells_all hbB 2; have g1 := frozen_all hbB 1; have g2 := frozen_all hbB 2; simp at r0 r1 r2; have hbC := heap_set hbB 1 (.int .i64 ((k : Int) + (s : Int) + (m : Int))); have HC := Lib.hid hbC; have t0 := cells_all hbC 0; have t1 := cells_all hbC 1; have t2 := cells_all hbC 2; simp at t0 t1 t2; clear hbB hbC)
            have OC : Hid (Out (zx y) w (wB.setCell ⟨y, 1, none⟩ (.int .i64 ((k : Int) + (s : Int) + (m : Int))))) := HOB.out.setCell (p := ⟨y, 1, none⟩) (Or.inl rfl) _
            have hstr := string_of (show Row (zx y) (wB.setCell ⟨y, 1, none⟩ (.int .i64 ((k : Int) + (s : Int) + (m : Int)))).drew (.slice A2 m (c - (k + s))) (bytes S) from (HR2.out _ OC.out.drew))
            have hfin : RR (wB.setCell ⟨y, 1, none⟩ (.int .i64 ((k : Int) + (s : Int) + (m : Int)))) y (L.drop (s + m)) 0 := by
              refine ⟨A, c, F, k + s + m, ?_, H2.out.out OC.out, HKS.out, by rw [← HL.out, List.drop_drop, Nat.add_assoc], hF⟩
              have h := HC.out
              simp at h
              push_cast
              exact h
            have HF := Lib.hid hfin
            clear hfin
            go_region
            all_goals
              go_wp2_with fail
              go_ret
              exact ⟨rfl, HF.out.out ((Out.refl _ _).drewN 1), OC.out.drewN 1⟩
    · rw [if_pos he1]
      have he3 : (e1 == 0) = false := by simpa using he1
      have HE := Lib.hid (H.out.err e1)
      have HO : Hid (Out (zx y) w (w.setCell ⟨y, 2, none⟩ (.int .i64 e1))) := (Out.refl (zx y) w).setCell (p := ⟨y, 2, none⟩) (Or.inl rfl) _
      have q2 := cells_all (heap_set H1.out 2 (.int .i64 e1)) 2
      simp at q2
      go_enter Tryz.func31, Tryz.ntmps31
      go_wp2_with fail
      go_region_held3 (fun W => W.cell? ⟨y, 0, none⟩ = some (.slice A F.length c) ∧ W.cell? ⟨y, 1, none⟩ = some (.int .i64 (k : Int)) ∧ W.cell? ⟨y, 2, none⟩ = some (.int .i64 0))
        (first | with_reducible assumption)
        (first | (go_at_call 54; refine HN.out.mono ?_; rintro e w' ⟨rfl, rfl⟩))
      all_goals
        go_wp2_with fail
        go_ret
        exact ⟨rfl, HE.out.out ((Out.refl _ _).drewN 1), HO.out.drewN 1⟩
  · have hR : rtxt L e = ([], L, e) := if_neg he
    rw [hR]
    have he2 : (e == 0) = false := by simpa using he
    clear h hR h1 h2
    go_enter Tryz.func31, Tryz.ntmps31
    go_wp2_with fail
    go_ret
    exact ⟨rfl, H.out, Out.refl _ _⟩
end Go.Proofs.YtlgoenimjmiapaaGreat
