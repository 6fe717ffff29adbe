import Derived.Test.YtlgoenimjmiapaaQ18
import Derived.Test.YtlgoenimjmiapaaQ13
/-! slices.Clone of ints. -/
set_option linter.unusedVariables false
namespace Go.Proofs.Ytlgoenimjmiapaa
open Go.RowKit Go.Maps

theorem elem52 : ElemN Try.prog 52 3 (.int .i64 0) 1 8 := ElemN.mk' Try.underlying52 (by kernel_rfl) (by kernel_rfl) (by omega)
theorem ints_length (l : List Int) : (ints l).length = l.length * 1 := by simp [ints]
theorem ints_one (l : List Int) : ∀ u ∈ ints l, u.oneCell' = true := by
  intro u hu
  obtain ⟨x, _, rfl⟩ := List.mem_map.1 hu
  rfl
set_option maxRecDepth 20000 in
/-- append([]T{}, s...). -/
theorem gcopyI {w : World} {N : Nat → Prop} {A : Option Addr} {c : Nat} {l : List Int} (hr : RRow N w (.slice A l.length c) l.length 1 (ints l)) (hl : l.length ≤ 1000000) :
    ∃ v' w', (Builtin.append_ #[52, 52] 52 #[.slice (some ⟨w.heap.size, 0, none⟩) 0 0, .slice A l.length c]).run Try.prog (w.alloc (.cells #[] 3)) = .ok v' w' ∧ GR w' 3 1 v' l.length (ints l) ∧ Out Zone.no w w' ∧ ∀ k, v'.ownBlock = some k → w.heap.size ≤ k := by
  have o := (Out.refl Zone.no w).alloc (.cells #[] 3)
  have h0 : GRow (fun _ => True) (w.alloc (.cells #[] 3)) 3 1 (.slice (some ⟨w.heap.size, 0, none⟩) 0 0) 0 [] :=
    ⟨by simp, Or.inr ⟨_, _, _, rfl, trivial, heap_alloc_new w _, Nat.le_refl _, Nat.zero_le _, by simp, by simp⟩⟩
  obtain ⟨hlen, A', c', hv, h1, h2, hc⟩ := hr.any o
  obtain ⟨hu, ⟨i, hi1, hz, hsz, hby⟩, hz1, hp⟩ := elem52
  have eA : A = A' := by injection hv
  subst eA
  cases hA : A with
  | none =>
    subst hA
    have hx : l = [] := by
      cases l with
      | nil => rfl
      | cons x r =>
        obtain ⟨b, o, hA, _⟩ := hc 0 (.int .i64 x) rfl
        cases hA
    subst hx
    refine ⟨.slice (some ⟨w.heap.size, 0, none⟩) 0 0, w.alloc (.cells #[] 3), ?_, h0, o, fun k hk => by cases hk; exact Nat.le_refl _⟩
    clear hr hc hlen hv h0 o h1 h2
    simp [Builtin.append_, run_underlying hu, sizeOf, typeInfo, hi1, Builtin.lenOf, Builtin.firstCells, storeCells]
  | some a =>
    subst hA
    obtain ⟨v', w', hrun, hg, hgr, hat⟩ := h0.append elem52 52 a l.length c (ints l) (ints_length l) (fun j u hu => by
      obtain ⟨b, o, hA, _, hx⟩ := hc j u hu
      injection hA with hA
      subst hA
      have : (⟨b, o, none⟩ : Addr).add j = ⟨b, o + j, none⟩ := by unfold Addr.add; split <;> simp_all
      rw [this]; exact hx) (ints_one l) (le_maxLen (by omega)) (by omega)
    simp only [Nat.zero_add, List.nil_append] at hg
    refine ⟨v', w', hrun, hg.wide (fun _ _ => trivial), o.grown hgr (fun k hk => by cases hk; exact Or.inr (Nat.le_refl _)), fun k hk => ?_⟩
    rcases hat with e | e
    · rw [hk] at e; cases e; exact Nat.le_refl _
    · rw [hk] at e; injection e with e; rw [e]; simp

set_option maxRecDepth 100000 in
theorem cloneI_is (w : World) (N : Nat → Prop) (v : Value) (l : List Int) (hr : RRow N w v l.length 1 (ints l)) (hl : l.length ≤ 1000000) :
    Calls Try.prog 54 #[v] w fun e w' => ∃ v', e = .returned v' ∧ GR w' 3 1 v' l.length (ints l) ∧ Out Zone.no w w' ∧ ∀ k, v'.ownBlock = some k → w.heap.size ≤ k := by
  obtain ⟨A, c, rfl, _, _⟩ := hr.form
  obtain ⟨v', w', hrun, h1, h2, h3⟩ := gcopyI hr hl
  have HRUN := Lib.hid hrun
  have H1 := Lib.hid h1
  have H2 := Lib.hid h2
  have H3 := Lib.hid h3
  cases hA : A with
  | none =>
    subst hA
    have hx : l = [] := by
      cases l with
      | nil => rfl
      | cons x r =>
        obtain ⟨_, A', c', hv, _, _, hc⟩ := hr
        obtain ⟨b, o, hA, _⟩ := hc 0 (.int .i64 x) rfl
        injection hv with e1 _ _
        rw [← e1] at hA
        cases hA
    subst hx
    have e0 := Lib.run_eql_slice_nil (P := Try.prog) w 52 3 none 0 c 0 0 Try.underlying52
    clear hr hrun h1 h2 h3 HRUN H1 H2 H3
    go_enter Try.func54, Try.ntmps54
    try simp only [List.length_nil]
    go_wp2_with fail
    go_ret
    exact ⟨_, rfl, grow_nil _ _ _ _, Out.refl _ _, fun k hk => by cases hk⟩
  | some a =>
    subst hA
    obtain ⟨L, hL⟩ : ∃ L, l.length = L := ⟨_, rfl⟩
    rw [hL] at HRUN H1 ⊢
    have e0 := Lib.run_eql_slice_nil (P := Try.prog) w 52 3 (some a) L c 0 0 Try.underlying52
    clear hr hrun h1 h2 h3 hL
    go_enter Try.func54, Try.ntmps54
    go_wp2_with (at_builtin; refine wpList_builtin rfl _ _ _ rfl HRUN.out ?_)
    go_ret
    exact ⟨_, rfl, H1.out, H2.out, H3.out⟩
end Go.Proofs.Ytlgoenimjmiapaa
