import Derived.Test.YtlgoenimjmiapaaGreatT26
import Derived.Test.YtlgoenimjmiapaaGreatT22
set_option linter.unusedSimpArgs false
set_option linter.unusedVariables false
set_option linter.unusedSectionVars false
/-! The document's RightNote and PutNote. -/
set_option linter.unusedVariables false
set_option linter.unusedSimpArgs false
namespace Go.Proofs.YtlgoenimjmiapaaGreat
open Go.RowKit

set_option maxRecDepth 100000 in
set_option maxHeartbeats 4000000 in
theorem rright_is (w : World) (k ep n ee : Int) (d : List UInt8) (hl : d.length ≤ 9223372036854775807) :
    Calls Tryz.prog 22 #[.agg #[.int .i64 k, .int .i64 ep, .int .i64 n, .int .i64 ee, .string (str d)]] w fun e w' => e = .returned (.bool (Nt.right ⟨k, ep, n, ⟨ee, d⟩⟩)) ∧ Out Zone.no w w' := by
  have o1 := (Out.refl Zone.no w).alloc (.cells #[.int .i64 k, .int .i64 ep, .int .i64 n, .int .i64 ee, .string (str d)] 25)
  have HO1 := Lib.hid o1
  have hd : (str d).toList = d := str_toList d
  have HP := Lib.hid (fun W => refin_is W ep)
  have HN := Lib.hid (fun W => refin_is W n)
  have HE := Lib.hid (fun W => refentry_is W ⟨ee, d⟩ hl)
  by_cases k1 : k = 1
  · have HR : Hid (Nt.right ⟨k, ep, n, ⟨ee, d⟩⟩ = (decide (ee = 0) && decide (d = []) && inB ep && decide (-1 ≤ n) && decide (n ≤ 6))) := by show _ = _; subst k1; rfl
    have e1 : (k == 1) = true := by simpa using k1
    subst k1
    obtain ⟨g, hg⟩ : ∃ g, inB ep = g := ⟨_, rfl⟩
    rw [hg] at HP HR
    clear hg o1 HN HE
    by_cases h0 : ee = 0
    · subst h0
      by_cases h1 : d = []
      · subst h1
        by_cases h2 : -1 ≤ n
        · by_cases h3 : n ≤ 6
          · cases g <;>
            · go_enter Tryz.func22, Tryz.ntmps22
              go_wp2_with (go_at_call 48; refine (HP.out _).mono ?_; rintro e w' ⟨rfl, rfl⟩)
              go_ret
              exact ⟨by rw [HR.out]; simp [go_sem, h2, h3] <;> omega, HO1.out⟩
          · cases g <;>
            · go_enter Tryz.func22, Tryz.ntmps22
              go_wp2_with (go_at_call 48; refine (HP.out _).mono ?_; rintro e w' ⟨rfl, rfl⟩)
              go_ret
              exact ⟨by rw [HR.out]; simp [go_sem, h2, h3] <;> omega, HO1.out⟩
        · cases g <;>
          · go_enter Tryz.func22, Tryz.ntmps22
            go_wp2_with (go_at_call 48; refine (HP.out _).mono ?_; rintro e w' ⟨rfl, rfl⟩)
            go_ret
            exact ⟨by rw [HR.out]; simp [go_sem, h2] <;> omega, HO1.out⟩
      · cases g <;>
        · go_enter Tryz.func22, Tryz.ntmps22
          go_wp2_with (go_at_call 48; refine (HP.out _).mono ?_; rintro e w' ⟨rfl, rfl⟩)
          all_goals
            go_ret
            exact ⟨by rw [HR.out]; simp [go_sem, h1] <;> omega, HO1.out⟩
    · cases g <;>
      · go_enter Tryz.func22, Tryz.ntmps22
        go_wp2_with (go_at_call 48; refine (HP.out _).mono ?_; rintro e w' ⟨rfl, rfl⟩)
        all_goals
          go_ret
          exact ⟨by rw [HR.out]; simp [go_sem, h0] <;> omega, HO1.out⟩
  · have e1 : (k == 1) = false := by simpa using k1
    by_cases k2 : k = 2
    · have HR : Hid (Nt.right ⟨k, ep, n, ⟨ee, d⟩⟩ = (decide (ep = 0) && decide (ee = 0) && decide (d = []) && inB n)) := by show _ = _; subst k2; rfl
      have e2 : (k == 2) = true := by simpa using k2
      subst k2
      obtain ⟨g, hg⟩ : ∃ g, inB n = g := ⟨_, rfl⟩
      rw [hg] at HN HR
      clear hg o1 HP HE
      by_cases hp : ep = 0
      · subst hp
        by_cases h0 : ee = 0
        · subst h0
          by_cases h1 : d = []
          · subst h1
            cases g <;>
            · go_enter Tryz.func22, Tryz.ntmps22
              go_wp2_with (go_at_call 48; refine (HN.out _).mono ?_; rintro e w' ⟨rfl, rfl⟩)
              go_ret
              exact ⟨by rw [HR.out]; simp [go_sem], HO1.out⟩
          · cases g <;>
            · go_enter Tryz.func22, Tryz.ntmps22
              go_wp2_with (go_at_call 48; refine (HN.out _).mono ?_; rintro e w' ⟨rfl, rfl⟩)
              all_goals
                go_ret
                exact ⟨by rw [HR.out]; simp [go_sem, h1], HO1.out⟩
        · cases g <;>
          · go_enter Tryz.func22, Tryz.ntmps22
            go_wp2_with (go_at_call 48; refine (HN.out _).mono ?_; rintro e w' ⟨rfl, rfl⟩)
            all_goals
              go_ret
              exact ⟨by rw [HR.out]; simp [go_sem, h0], HO1.out⟩
      · go_enter Tryz.func22, Tryz.ntmps22
        go_wp2_with fail
        all_goals
          go_ret
          exact ⟨by rw [HR.out]; simp [go_sem, hp], (Out.refl _ _).alloc _⟩
    · have e2 : (k == 2) = false := by simpa using k2
      have HR : Hid (Nt.right ⟨k, ep, n, ⟨ee, d⟩⟩ = (decide (k = 3) && decide (ep = 0) && decide (n = 0) && Ent.right ⟨ee, d⟩)) := by
        show _ = _
        unfold Nt.right
        simp only
        rw [if_neg k1, if_neg k2]
      obtain ⟨g, hg⟩ : ∃ g, Ent.right ⟨ee, d⟩ = g := ⟨_, rfl⟩
      rw [hg] at HE HR
      clear hg o1 HN HP
      obtain ⟨h0, h0'⟩ | ⟨e0, he0, h0'⟩ : (ee = 0 ∧ (ee == 0) = true) ∨ ∃ e0, e0 = ee ∧ (e0 == 0) = false := by
        by_cases h : ee = 0
        · exact Or.inl ⟨h, by simpa using h⟩
        · exact Or.inr ⟨ee, rfl, by simpa using h⟩
      all_goals
        first
        | subst h0
        | subst he0
        by_cases h1 : d = []
        · subst h1
          by_cases k3 : k = 3
          · have e3 : (k == 3) = true := by simpa using k3
            subst k3
            by_cases hp : ep = 0
            · subst hp
              by_cases hn : n = 0
              · subst hn
                go_enter Tryz.func22, Tryz.ntmps22
                go_wp2_with (go_at_call 49; refine (HE.out _).mono ?_; rintro e w1 ⟨rfl, ho⟩; have HO := Lib.hid ho; clear ho)
                all_goals
                  go_ret
                  exact ⟨by rw [HR.out]; simp [go_sem], ((Out.refl _ w).alloc _).trans HO.out⟩
              · go_enter Tryz.func22, Tryz.ntmps22
                go_wp2_with fail
                all_goals
                  go_ret
                  exact ⟨by rw [HR.out]; simp [go_sem, hn], (Out.refl _ _).alloc _⟩
            · go_enter Tryz.func22, Tryz.ntmps22
              go_wp2_with fail
              all_goals
                go_ret
                exact ⟨by rw [HR.out]; simp [go_sem, hp], (Out.refl _ _).alloc _⟩
          · have e3 : (k == 3) = false := by simpa using k3
            go_enter Tryz.func22, Tryz.ntmps22
            go_wp2_with fail
            all_goals
              go_ret
              exact ⟨by rw [HR.out]; simp [go_sem, k3], (Out.refl _ _).alloc _⟩
        · by_cases k3 : k = 3
          · have e3 : (k == 3) = true := by simpa using k3
            subst k3
            by_cases hp : ep = 0
            · subst hp
              by_cases hn : n = 0
              · subst hn
                go_enter Tryz.func22, Tryz.ntmps22
                go_wp2_with (go_at_call 49; refine (HE.out _).mono ?_; rintro e w1 ⟨rfl, ho⟩; have HO := Lib.hid ho; clear ho)
                all_goals
                  go_ret
                  exact ⟨by rw [HR.out]; simp [go_sem], ((Out.refl _ w).alloc _).trans HO.out⟩
              · go_enter Tryz.func22, Tryz.ntmps22
                go_wp2_with fail
                all_goals
                  go_ret
                  exact ⟨by rw [HR.out]; simp [go_sem, hn], (Out.refl _ _).alloc _⟩
            · go_enter Tryz.func22, Tryz.ntmps22
              go_wp2_with fail
              all_goals
                go_ret
                exact ⟨by rw [HR.out]; simp [go_sem, hp], (Out.refl _ _).alloc _⟩
          · have e3 : (k == 3) = false := by simpa using k3
            go_enter Tryz.func22, Tryz.ntmps22
            go_wp2_with fail
            all_goals
              go_ret
              exact ⟨by rw [HR.out]; simp [go_sem, k3], (Out.refl _ _).alloc _⟩
end Go.Proofs.YtlgoenimjmiapaaGreat

/-! The document's PutNote. -/
set_option linter.unusedVariables false
set_option linter.unusedSimpArgs false
namespace Go.Proofs.YtlgoenimjmiapaaGreat
open Go.RowKit

theorem noteB_eq (k ep n ee : Int) (d : List UInt8) : noteB ⟨k, ep, n, ⟨ee, d⟩⟩ = numsB [k, ep, n, ee] ++ (numB (zz d.length) ++ d) := by
  simp [noteB, numsB, entB]
theorem rnumbers4_is (W : World) (a b c d : Int) (hb : ∀ x ∈ [a, b, c, d], -1 ≤ x ∧ x ≤ 1099511627776) :
    Calls Tryz.prog 23 #[.slice (some ⟨W.heap.size, 0, none⟩) 4 4] (W.alloc (.cells #[.int .i64 a, .int .i64 b, .int .i64 c, .int .i64 d] 3)) fun e w' => ∃ v', e = .returned v' ∧ Owns W.heap.size w' v' (numsB [a, b, c, d]) ∧ Out Zone.no W w' := by
  refine (rnumbers_is _ (fun _ => False) _ [a, b, c, d] (rrow_new (w := W) (e := 3) (cs := [.int .i64 a, .int .i64 b, .int .i64 c, .int .i64 d]) (n := 4) (sz := 1) (fun h => h) (by simp) (by omega)) (by simp) hb).mono ?_
  rintro e w' ⟨v', rfl, h1, h2⟩
  exact ⟨v', rfl, h1.base_le (by simp), ((Out.refl Zone.no W).alloc _).trans h2⟩

set_option maxRecDepth 100000 in
set_option maxHeartbeats 1000000 in
theorem rpnote_is (w : World) (k ep n ee : Int) (d : List UInt8) (hl : d.length ≤ 9223372036854775807) :
    Calls Tryz.prog 7 #[.agg #[.int .i64 k, .int .i64 ep, .int .i64 n, .int .i64 ee, .string (str d)]] w fun e w' => ∃ v, e = .returned (.tuple #[v, .int .i64 (if Nt.right ⟨k, ep, n, ⟨ee, d⟩⟩ then 0 else 1)]) ∧ Owns w.heap.size w' v (if Nt.right ⟨k, ep, n, ⟨ee, d⟩⟩ then noteB ⟨k, ep, n, ⟨ee, d⟩⟩ else []) ∧ Out Zone.no w w' := by
  obtain ⟨B, hB⟩ : ∃ B, w.heap.size = B := ⟨_, rfl⟩
  obtain ⟨W0, hW0⟩ : ∃ W0, w.alloc (.cells #[.int .i64 k, .int .i64 ep, .int .i64 n, .int .i64 ee, .string (str d)] 25) = W0 := ⟨_, rfl⟩
  have HB : Hid (W0.heap[B]? = some (.cells #[.int .i64 k, .int .i64 ep, .int .i64 n, .int .i64 ee, .string (str d)] 25 (0, 0))) := by rw [← hW0, ← hB]; exact heap_alloc_new w _
  have HO0 : Hid (Out Zone.no w W0) := by rw [← hW0]; exact (Out.refl _ _).alloc _
  have CS : Hid (∀ W, Out Zone.no W0 W → W.cell? ⟨B, 0, none⟩ = some (.int .i64 k) ∧ W.cell? ⟨B, 1, none⟩ = some (.int .i64 ep) ∧ W.cell? ⟨B, 2, none⟩ = some (.int .i64 n) ∧ W.cell? ⟨B, 3, none⟩ = some (.int .i64 ee) ∧ W.cell? ⟨B, 4, none⟩ = some (.string (str d))) := fun W ho => by
    have hb := ho.get HB.out id
    exact ⟨cells_all hb 0, cells_all hb 1, cells_all hb 2, cells_all hb 3, cells_all hb 4⟩
  have CS0 := CS.out W0 (Out.refl _ _)
  have HR := Lib.hid (rright_is W0 k ep n ee d hl)
  obtain ⟨g, hg⟩ : ∃ g, Nt.right ⟨k, ep, n, ⟨ee, d⟩⟩ = g := ⟨_, rfl⟩
  rw [hg] at HR ⊢
  cases g with
  | false =>
    clear hg
    go_enter Tryz.func7, Tryz.ntmps7
    go_wp2_with (go_at_call 22; refine HR.out.mono ?_; rintro e w1 ⟨rfl, ho⟩; have HO1 := Lib.hid (HO0.out.trans ho); clear ho)
    go_ret2
    exact ⟨_, rfl, owns_nil _ _, HO1.out⟩
  | true =>
    obtain ⟨hb1, hb2, hb3, hb4⟩ := nright_bounds hg
    have N23 : Hid (∀ W, Calls Tryz.prog 23 #[.slice (some ⟨W.heap.size, 0, none⟩) 4 4] (W.alloc (.cells #[.int .i64 k, .int .i64 ep, .int .i64 n, .int .i64 ee] 3)) fun e w' => ∃ v', e = .returned v' ∧ Owns W.heap.size w' v' (numsB [k, ep, n, ee]) ∧ Out Zone.no W w') := fun W => rnumbers4_is W k ep n ee (fun x hx => by
      simp only [List.mem_cons, List.not_mem_nil, or_false] at hx hb1
      rcases hx with h | h | h | h
      · exact hb1 x (Or.inl h)
      · exact hb1 x (Or.inr (Or.inl h))
      · exact hb1 x (Or.inr (Or.inr h))
      · omega)
    have N24 : Hid (∀ W, Calls Tryz.prog 24 #[.string (str d)] W fun e w' => ∃ v, e = .returned v ∧ Owns W.heap.size w' v (numB (zz d.length) ++ d) ∧ Out Zone.no W w') := fun W => text24 W d (by omega)
    have HLN : Hid ((numsB [k, ep, n, ee]).length + (numB (zz d.length) ++ d).length ≤ 140737488355328) := by
      have a := numsB_len (l := [k, ep, n, ee]) (fun x hx => by
        simp only [List.mem_cons, List.not_mem_nil, or_false] at hx hb1
        rcases hx with h | h | h | h
        · exact hb1 x (Or.inl h)
        · exact hb1 x (Or.inr (Or.inl h))
        · exact hb1 x (Or.inr (Or.inr h))
        · omega)
      have b := numB_len (n := d.length) (by omega) (by omega)
      simp only [List.length_cons, List.length_nil] at a
      show _ ≤ _
      rw [List.length_append]
      omega
    rw [noteB_eq]
    obtain ⟨X, hX⟩ : ∃ X, numsB [k, ep, n, ee] = X := ⟨_, rfl⟩
    obtain ⟨Y, hY⟩ : ∃ Y, numB (zz d.length) ++ d = Y := ⟨_, rfl⟩
    rw [hX] at N23 HLN ⊢
    rw [hY] at N24 HLN ⊢
    clear hg hb1 hb2 hb3 hb4 hX hY hl
    go_enter Tryz.func7, Tryz.ntmps7
    go_wp2_with (go_at_call 22; refine HR.out.mono ?_; rintro e w1 ⟨rfl, ho⟩; have OW := Lib.hid ho; have OW1 := Lib.hid ho; have HO1 := Lib.hid (HO0.out.trans ho); clear ho)
    have CS1 := CS.out w1.drew OW.out.drew
    have N23d := Lib.hid (N23.out w1.drew)
    go_region_held3 (fun W => W.cell? ⟨B, 0, none⟩ = some (.int .i64 k) ∧ W.cell? ⟨B, 1, none⟩ = some (.int .i64 ep) ∧ W.cell? ⟨B, 2, none⟩ = some (.int .i64 n) ∧ W.cell? ⟨B, 3, none⟩ = some (.int .i64 ee) ∧ W.cell? ⟨B, 4, none⟩ = some (.string (str d)))
      (first | with_reducible assumption | with_reducible exact CS.out _ OW.out | with_reducible exact CS.out _ OW4.out | with_reducible exact CS.out _ (OW.out.drew.alloc _) | with_reducible exact CS.out _ (OW.out.alloc _).drew)
      (first
        | (go_at_call 23; refine N23d.out.mono ?_; rintro e w2 ⟨v2, rfl, h2, ho2⟩; have H2 := Lib.hid h2; have OW2 := Lib.hid (OW.out.drew.trans ho2); have OW := Lib.hid (OW.out.drew.trans ho2); clear h2 ho2)
        | (go_at_call 24; refine (N24.out _).mono ?_; rintro e w3 ⟨v3, rfl, h3, ho3⟩; obtain ⟨v4, w4, hrun, h4, ho4⟩ := ((H2.out.out ho3 (fun _ _ h => h)).base_le (OW1.out.drew.size)).more ((OW.out.trans ho3).size) (h3.row (Z := Zone.no) (fun _ _ h => h)) HLN.out 29; have HR2 := Lib.hid hrun; have H4 := Lib.hid h4; have HO4 := Lib.hid (ho4 w (HO0.out.trans (OW.out.trans ho3)) HO0.out.size); have OW4 := Lib.hid (ho4 W0 (OW.out.trans ho3) (Nat.le_refl _)); have OW := Lib.hid (OW.out.trans ho3); clear hrun h4 ho4 h3 ho3)
        | (refine step_builtin rfl _ _ _ rfl (by exact HR2.out) ?_))
    all_goals
      go_wp2_with fail
      go_ret2
      exact ⟨_, rfl, H4.out.base_le (by rw [← hB]; exact HO0.out.size), HO4.out⟩
end Go.Proofs.YtlgoenimjmiapaaGreat
