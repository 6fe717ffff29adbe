import Derived.Test.YtlgoenimjmiapaaT07
import Derived.WalkSpells
set_option linter.unusedSimpArgs false
set_option linter.unusedVariables false
set_option linter.unusedSectionVars false
/-! slices.Clone of a log; State. -/
namespace Go.Proofs.Ytlgoenimjmiapaa
open Go.RowKit Go.Maps

set_option maxRecDepth 20000 in
/-- append([]T{}, s...). -/
theorem gcopy {w : World} {N : Nat → Prop} {A : Option Addr} {c : Nat} {l : List Ent} (hr : RRow N w (.slice A l.length c) l.length 2 (encL l)) (hl : l.length ≤ 1000000) :
    ∃ v' w', (Builtin.append_ #[26, 26] 26 #[.slice (some ⟨w.heap.size, 0, none⟩) 0 0, .slice A l.length c]).run Try.prog (w.alloc (.cells #[] 38)) = .ok v' w' ∧ GR w' 38 2 v' l.length (encL l) ∧ Out Zone.no w w' ∧ ∀ k, v'.ownBlock = some k → w.heap.size ≤ k := by
  have o := (Out.refl Zone.no w).alloc (.cells #[] 38)
  have h0 : GRow (fun _ => True) (w.alloc (.cells #[] 38)) 38 2 (.slice (some ⟨w.heap.size, 0, none⟩) 0 0) 0 [] :=
    ⟨by simp, Or.inr ⟨_, _, _, rfl, trivial, heap_alloc_new w _, Nat.le_refl _, Nat.zero_le _, by simp, by simp⟩⟩
  obtain ⟨hlen, A', c', hv, h1, h2, hc⟩ := hr.any o
  obtain ⟨hu, ⟨i, hi1, hz, hsz, hby⟩, hz1, hp⟩ := elem26
  have eA : A = A' := by injection hv
  subst eA
  cases hA : A with
  | none =>
    subst hA
    have hx : l = [] := by
      cases l with
      | nil => rfl
      | cons x r =>
        obtain ⟨b, o, hA, _⟩ := hc 0 (.int .i64 x.ep) rfl
        cases hA
    subst hx
    refine ⟨.slice (some ⟨w.heap.size, 0, none⟩) 0 0, w.alloc (.cells #[] 38), ?_, h0, o, fun k hk => by cases hk; exact Nat.le_refl _⟩
    clear hr hc hlen hv h0 o h1 h2
    simp [Builtin.append_, run_underlying hu, sizeOf, typeInfo, hi1, Builtin.lenOf, Builtin.firstCells, storeCells]
  | some a =>
    subst hA
    obtain ⟨v', w', hrun, hg, hgr, hat⟩ := h0.append elem26 26 a l.length c (encL l) (encL_length l) (fun j u hu => by
      obtain ⟨b, o, hA, _, hx⟩ := hc j u hu
      injection hA with hA
      subst hA
      have : (⟨b, o, none⟩ : Addr).add j = ⟨b, o + j, none⟩ := by unfold Addr.add; split <;> simp_all
      rw [this]; exact hx) (encL_one l) (le_maxLen (by omega)) (by omega)
    simp only [Nat.zero_add, List.nil_append] at hg
    refine ⟨v', w', hrun, hg.wide (fun _ _ => trivial), o.grown hgr (fun k hk => by cases hk; exact Or.inr (Nat.le_refl _)), fun k hk => ?_⟩
    rcases hat with e | e
    · rw [hk] at e; cases e; exact Nat.le_refl _
    · rw [hk] at e; injection e with e; rw [e]; simp

set_option maxRecDepth 100000 in
theorem clone_is (w : World) (N : Nat → Prop) (v : Value) (l : List Ent) (hr : RRow N w v l.length 2 (encL l)) (hl : l.length ≤ 1000000) :
    Calls Try.prog 26 #[v] w fun e w' => ∃ v', e = .returned v' ∧ GR w' 38 2 v' l.length (encL l) ∧ Out Zone.no w w' ∧ ∀ k, v'.ownBlock = some k → w.heap.size ≤ k := by
  obtain ⟨A, c, rfl, _, _⟩ := hr.form
  obtain ⟨v', w', hrun, h1, h2, h3⟩ := gcopy hr hl
  have HRUN := Lib.hid hrun
  have H1 := Lib.hid h1
  have H2 := Lib.hid h2
  have H3 := Lib.hid h3
  cases hA : A with
  | none =>
    subst hA
    have hx : l = [] := by
      cases l with
      | nil => rfl
      | cons x r =>
        obtain ⟨_, A', c', hv, _, _, hc⟩ := hr
        obtain ⟨b, o, hA, _⟩ := hc 0 (.int .i64 x.ep) rfl
        injection hv with e1 _ _
        rw [← e1] at hA
        cases hA
    subst hx
    have e0 := Lib.run_eql_slice_nil (P := Try.prog) w 26 38 none 0 c 0 0 Try.underlying26
    clear hr hrun h1 h2 h3 HRUN H1 H2 H3
    go_enter Try.func26, Try.ntmps26
    try simp only [List.length_nil]
    go_wp2_with fail
    go_ret
    exact ⟨_, rfl, grow_nil _ _ _ _, Out.refl _ _, fun k hk => by cases hk⟩
  | some a =>
    subst hA
    obtain ⟨L, hL⟩ : ∃ L, l.length = L := ⟨_, rfl⟩
    rw [hL] at HRUN H1 ⊢
    have e0 := Lib.run_eql_slice_nil (P := Try.prog) w 26 38 (some a) L c 0 0 Try.underlying26
    clear hr hrun h1 h2 h3 hL
    go_enter Try.func26, Try.ntmps26
    go_wp2_with (at_builtin; refine wpList_builtin rfl _ _ _ rfl HRUN.out ?_)
    go_ret
    exact ⟨_, rfl, H1.out, H2.out, H3.out⟩
end Go.Proofs.Ytlgoenimjmiapaa

/-! State. -/
namespace Go.Proofs.Ytlgoenimjmiapaa
open Go.RowKit Go.Maps

/-- A row that grows is read alone by others. -/
theorem GR.reads {w : World} {v : Value} {l : List Ent} (h : GR w 38 2 v l.length (encL l)) : RRow (fun _ => False) w v l.length 2 (encL l) := by
  refine ⟨encL_length l, ?_⟩
  rcases h.2 with ⟨hv, h0⟩ | ⟨g, cap, cur, hv, hm, hh, h1, h2, h3, h4⟩
  · refine ⟨none, 0, by rw [hv, h0], by omega, Nat.zero_le _, fun j u hu => ?_⟩
    have := h.1
    rw [h0, Nat.zero_mul] at this
    rw [List.eq_nil_of_length_eq_zero this] at hu
    cases hu
  · refine ⟨some ⟨g, 0, none⟩, cap, hv, h1, h2, fun j u hu => ⟨g, 0, rfl, id, ?_⟩⟩
    obtain ⟨g', c', hv', hc⟩ := GRow.cell h hu
    rw [hv] at hv'
    injection hv' with e1 _ _
    injection e1 with e1
    injection e1 with e1
    rw [Nat.zero_add, e1]
    exact hc

section
variable [Far] {w w' : World} {x : Nat} {q : ND} {ns : List Nt} {ss : List (Msg × Value)} {V : NV}

set_option maxRecDepth 100000 in
set_option maxHeartbeats 2000000 in
theorem state_is (h : NodeAt w x q ns ss V) (hn : 0 < q.n) (hn2 : q.n ≤ 7) (hl : q.st.log.length ≤ 1000000) :
    Calls Try.prog 10 #[.pointer (some ⟨x, 0, none⟩)] w fun e w' => ∃ lv', e = .returned (.agg #[.int .i64 q.st.ep, .int .i64 q.st.voted, lv']) ∧ GR w' 38 2 lv' q.st.log.length (encL q.st.log) ∧ (∀ k, lv'.ownBlock = some k → w.heap.size ≤ k) ∧ Out Zone.no w w' := by
  have o1 := (Out.refl Zone.no w).alloc (.cells #[.int .i64 0, .int .i64 0, .slice none 0 0] 28)
  have h1 := h.any o1
  have hb := heap_alloc_new w (.cells #[.int .i64 0, .int .i64 0, .slice none 0 0] 28)
  have NO := Lib.hid (none_is h1 hn hn2)
  have H1 := Lib.hid h1
  have HB := Lib.hid hb
  have HO1 := Lib.hid o1
  obtain ⟨AL, cL, hlv⟩ := GRow.form h.log
  have HCL := Lib.hid (fun W (hg : GR W 38 2 V.lv q.st.log.length (encL q.st.log)) => clone_is W _ V.lv q.st.log hg.reads hl)
  have d0 : (w.alloc (.cells #[.int .i64 0, .int .i64 0, .slice none 0 0] 28)).drew.cell? ⟨x, 0, none⟩ = some (.int .i64 q.st.ep) := h1.blk.c0
  have d1 : (w.alloc (.cells #[.int .i64 0, .int .i64 0, .slice none 0 0] 28)).drew.cell? ⟨x, 1, none⟩ = some (.int .i64 q.st.voted) := h1.blk.c1
  have d2 : (w.alloc (.cells #[.int .i64 0, .int .i64 0, .slice none 0 0] 28)).drew.cell? ⟨x, 2, none⟩ = some V.lv := h1.blk.c2
  have hlt : x ≠ w.heap.size := Nat.ne_of_lt (heap_lt h.blk)
  clear h h1 hb o1
  go_enter Try.func10, Try.ntmps10
  go_wp2_with (go_at_call 27; refine NO.out.mono ?_; rintro e w' ⟨rfl, rfl⟩)
  obtain ⟨W, hW⟩ : ∃ W, w.alloc (.cells #[.int .i64 0, .int .i64 0, .slice none 0 0] 28) = W := ⟨_, rfl⟩
  rw [hW] at H1 HB HO1 d0 d1 d2 ⊢
  rw [hlv] at d2 HCL
  have G1 := Lib.hid (H1.out.any ((Out.refl Zone.no W).drew)).log
  rw [hlv] at G1
  have CSD := (show W.drew.cell? ⟨x, 0, none⟩ = some (.int .i64 q.st.ep) ∧ W.drew.cell? ⟨x, 1, none⟩ = some (.int .i64 q.st.voted) ∧ W.drew.cell? ⟨x, 2, none⟩ = some (.slice AL q.st.log.length cL) from ⟨d0, d1, d2⟩)
  have K1 : ∀ (U : World) (i j : Nat) (u v : Value), U.cell? ⟨x, i, none⟩ = some v → (U.setCell ⟨w.heap.size, j, none⟩ u).cell? ⟨x, i, none⟩ = some v := fun U i j u v h => by
    rw [World.cell?_setCell_far _ _ _ _ (Ne.symm hlt)]; exact h
  have K3 : Hid (∀ (U : World) (a b c : Value), (U.cell? ⟨x, 0, none⟩ = some (.int .i64 q.st.ep) ∧ U.cell? ⟨x, 1, none⟩ = some (.int .i64 q.st.voted) ∧ U.cell? ⟨x, 2, none⟩ = some (.slice AL q.st.log.length cL)) →
      ((((U.setCell ⟨w.heap.size, 0, none⟩ a).setCell ⟨w.heap.size, 1, none⟩ b).setCell ⟨w.heap.size, 2, none⟩ c).cell? ⟨x, 0, none⟩ = some (.int .i64 q.st.ep) ∧ (((U.setCell ⟨w.heap.size, 0, none⟩ a).setCell ⟨w.heap.size, 1, none⟩ b).setCell ⟨w.heap.size, 2, none⟩ c).cell? ⟨x, 1, none⟩ = some (.int .i64 q.st.voted) ∧ (((U.setCell ⟨w.heap.size, 0, none⟩ a).setCell ⟨w.heap.size, 1, none⟩ b).setCell ⟨w.heap.size, 2, none⟩ c).cell? ⟨x, 2, none⟩ = some (.slice AL q.st.log.length cL))) :=
    fun U a b c h => ⟨K1 _ _ _ _ _ (K1 _ _ _ _ _ (K1 _ _ _ _ _ h.1)), K1 _ _ _ _ _ (K1 _ _ _ _ _ (K1 _ _ _ _ _ h.2.1)), K1 _ _ _ _ _ (K1 _ _ _ _ _ (K1 _ _ _ _ _ h.2.2))⟩
  clear K1
  have HW := Lib.hid hW
  clear hW hlv d0 d1 d2 NO
  go_region_held3 (fun W' => W'.cell? ⟨x, 0, none⟩ = some (.int .i64 q.st.ep) ∧ W'.cell? ⟨x, 1, none⟩ = some (.int .i64 q.st.voted) ∧ W'.cell? ⟨x, 2, none⟩ = some (.slice AL q.st.log.length cL))
    (first | assumption | exact K3.out _ _ _ _ CS)
    (first
      | (go_at_call 26; refine (HCL.out _ G1.out).mono ?_; rintro e w3 ⟨v3, rfl, hg3, ho3, hf3⟩; have CS := (show w3.cell? ⟨x, 0, none⟩ = some (.int .i64 q.st.ep) ∧ w3.cell? ⟨x, 1, none⟩ = some (.int .i64 q.st.voted) ∧ w3.cell? ⟨x, 2, none⟩ = some (.slice AL q.st.log.length cL) from ⟨ho3.cell CSD.1 id, ho3.cell CSD.2.1 id, ho3.cell CSD.2.2 id⟩); have r := ho3.get (show W.drew.heap[w.heap.size]? = _ from HB.out) id; have r0 := cells_all r 0; have r1 := cells_all r 1; have r2 := cells_all r 2; have u0 := frozen_all r 0; have u1 := frozen_all r 1; have u2 := frozen_all r 2; have R := Lib.hid r; have HG3 := Lib.hid hg3; have HO3 := Lib.hid ho3; have HF3 := Lib.hid hf3; obtain ⟨A3, c3, rfl⟩ := GRow.form hg3; clear r hg3 ho3 hf3))
  all_goals
    go_wp2_with fail
    have hsz : W.drew.heap.size = w.heap.size + 1 := by show W.heap.size = _; rw [← HW.out]; simp
    have hne : ∀ k, (Value.slice A3 q.st.log.length c3).ownBlock = some k → k ≠ w.heap.size := fun k hk => by have := HF3.out k hk; omega
    have hfin := heap_set (heap_set (heap_set R.out 0 (.int .i64 q.st.ep)) 1 (.int .i64 q.st.voted)) 2 (.slice A3 q.st.log.length c3)
    have z0 := cells_all hfin 0
    have z1 := cells_all hfin 1
    have z2 := cells_all hfin 2
    have ofin : Out Zone.no w (((w3.setCell ⟨w.heap.size, 0, none⟩ (.int .i64 q.st.ep)).setCell ⟨w.heap.size, 1, none⟩ (.int .i64 q.st.voted)).setCell ⟨w.heap.size, 2, none⟩ (.slice A3 q.st.log.length c3)) :=
      (((HO1.out.drew.trans HO3.out).setCell (Or.inr (Nat.le_refl _)) _).setCell (Or.inr (Nat.le_refl _)) _).setCell (Or.inr (Nat.le_refl _)) _
    have gfin := gr_set (gr_set (gr_set HG3.out (a := ⟨w.heap.size, 0, none⟩) (fun e => hne _ e rfl) (.int .i64 q.st.ep)) (a := ⟨w.heap.size, 1, none⟩) (fun e => hne _ e rfl) (.int .i64 q.st.voted)) (a := ⟨w.heap.size, 2, none⟩) (fun e => hne _ e rfl) (.slice A3 q.st.log.length c3)
    refine bodyPost_ret (v := .agg #[.int .i64 q.st.ep, .int .i64 q.st.voted, .slice A3 q.st.log.length c3]) ?_ rfl ⟨_, rfl, gfin, fun k hk => by have := HF3.out k hk; omega, ofin⟩
    clear CSD
    simp at z0 z1 z2
    simp [results, Try.results10, go_sem, z0, z1, z2]
end
end Go.Proofs.Ytlgoenimjmiapaa
