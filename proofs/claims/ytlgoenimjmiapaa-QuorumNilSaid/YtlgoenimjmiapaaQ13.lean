import Derived.Test.YtlgoenimjmiapaaQ12
import Derived.WalkSpells
/-! slices.Clone of a log; State. -/
set_option linter.unusedVariables false
namespace Go.Proofs.Ytlgoenimjmiapaa
open Go.RowKit Go.Maps

set_option maxRecDepth 20000 in
/-- append([]T{}, s...). -/
theorem gcopy {w : World} {N : Nat → Prop} {A : Option Addr} {c : Nat} {l : List Ent} (hr : RRow N w (.slice A l.length c) l.length 2 (encL l)) (hl : l.length ≤ 1000000) :
    ∃ v' w', (Builtin.append_ #[26, 26] 26 #[.slice (some ⟨w.heap.size, 0, none⟩) 0 0, .slice A l.length c]).run Try.prog (w.alloc (.cells #[] 38)) = .ok v' w' ∧ GR w' 38 2 v' l.length (encL l) ∧ Out Zone.no w w' ∧ ∀ k, v'.ownBlock = some k → w.heap.size ≤ k := by
  have o := (Out.refl Zone.no w).alloc (.cells #[] 38)
  have h0 : GRow (fun _ => True) (w.alloc (.cells #[] 38)) 38 2 (.slice (some ⟨w.heap.size, 0, none⟩) 0 0) 0 [] :=
    ⟨by simp, Or.inr ⟨_, _, _, rfl, trivial, heap_alloc_new w _, Nat.le_refl _, Nat.zero_le _, by simp, by simp⟩⟩
  obtain ⟨hlen, A', c', hv, h1, h2, hc⟩ := hr.any o
  obtain ⟨hu, ⟨i, hi1, hz, hsz, hby⟩, hz1, hp⟩ := elem26
  have eA : A = A' := by injection hv
  subst eA
  cases hA : A with
  | none =>
    subst hA
    have hx : l = [] := by
      cases l with
      | nil => rfl
      | cons x r =>
        obtain ⟨b, o, hA, _⟩ := hc 0 (.int .i64 x.ep) rfl
        cases hA
    subst hx
    refine ⟨.slice (some ⟨w.heap.size, 0, none⟩) 0 0, w.alloc (.cells #[] 38), ?_, h0, o, fun k hk => by cases hk; exact Nat.le_refl _⟩
    clear hr hc hlen hv h0 o h1 h2
    simp [Builtin.append_, run_underlying hu, sizeOf, typeInfo, hi1, Builtin.lenOf, Builtin.firstCells, storeCells]
  | some a =>
    subst hA
    obtain ⟨v', w', hrun, hg, hgr, hat⟩ := h0.append elem26 26 a l.length c (encL l) (encL_length l) (fun j u hu => by
      obtain ⟨b, o, hA, _, hx⟩ := hc j u hu
      injection hA with hA
      subst hA
      have : (⟨b, o, none⟩ : Addr).add j = ⟨b, o + j, none⟩ := by unfold Addr.add; split <;> simp_all
      rw [this]; exact hx) (encL_one l) (le_maxLen (by omega)) (by omega)
    simp only [Nat.zero_add, List.nil_append] at hg
    refine ⟨v', w', hrun, hg.wide (fun _ _ => trivial), o.grown hgr (fun k hk => by cases hk; exact Or.inr (Nat.le_refl _)), fun k hk => ?_⟩
    rcases hat with e | e
    · rw [hk] at e; cases e; exact Nat.le_refl _
    · rw [hk] at e; injection e with e; rw [e]; simp

set_option maxRecDepth 100000 in
theorem clone_is (w : World) (N : Nat → Prop) (v : Value) (l : List Ent) (hr : RRow N w v l.length 2 (encL l)) (hl : l.length ≤ 1000000) :
    Calls Try.prog 26 #[v] w fun e w' => ∃ v', e = .returned v' ∧ GR w' 38 2 v' l.length (encL l) ∧ Out Zone.no w w' ∧ ∀ k, v'.ownBlock = some k → w.heap.size ≤ k := by
  obtain ⟨A, c, rfl, _, _⟩ := hr.form
  obtain ⟨v', w', hrun, h1, h2, h3⟩ := gcopy hr hl
  have HRUN := Lib.hid hrun
  have H1 := Lib.hid h1
  have H2 := Lib.hid h2
  have H3 := Lib.hid h3
  cases hA : A with
  | none =>
    subst hA
    have hx : l = [] := by
      cases l with
      | nil => rfl
      | cons x r =>
        obtain ⟨_, A', c', hv, _, _, hc⟩ := hr
        obtain ⟨b, o, hA, _⟩ := hc 0 (.int .i64 x.ep) rfl
        injection hv with e1 _ _
        rw [← e1] at hA
        cases hA
    subst hx
    have e0 := Lib.run_eql_slice_nil (P := Try.prog) w 26 38 none 0 c 0 0 Try.underlying26
    clear hr hrun h1 h2 h3 HRUN H1 H2 H3
    go_enter Try.func26, Try.ntmps26
    try simp only [List.length_nil]
    go_wp2_with fail
    go_ret
    exact ⟨_, rfl, grow_nil _ _ _ _, Out.refl _ _, fun k hk => by cases hk⟩
  | some a =>
    subst hA
    obtain ⟨L, hL⟩ : ∃ L, l.length = L := ⟨_, rfl⟩
    rw [hL] at HRUN H1 ⊢
    have e0 := Lib.run_eql_slice_nil (P := Try.prog) w 26 38 (some a) L c 0 0 Try.underlying26
    clear hr hrun h1 h2 h3 hL
    go_enter Try.func26, Try.ntmps26
    go_wp2_with (at_builtin; refine wpList_builtin rfl _ _ _ rfl HRUN.out ?_)
    go_ret
    exact ⟨_, rfl, H1.out, H2.out, H3.out⟩
end Go.Proofs.Ytlgoenimjmiapaa
