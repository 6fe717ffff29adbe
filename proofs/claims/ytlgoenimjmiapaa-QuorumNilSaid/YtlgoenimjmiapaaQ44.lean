import Derived.Test.YtlgoenimjmiapaaQ43
/-! The law's Log: the document's entries as the program's. -/
set_option linter.unusedVariables false
namespace Go.Proofs.Ytlgoenimjmiapaa
open Go.RowKit Go.Maps

set_option maxRecDepth 100000 in
set_option maxHeartbeats 2000000 in
theorem log_is (w : World) (N : Nat → Prop) (v : Value) (l : List Ent) (hr : RRow N w v l.length 2 (encL l)) (hl : (l.length + 1) * 24 ≤ 140737488355328) :
    Calls Try.prog 39 #[v] w fun e w' => ∃ v', e = .returned v' ∧ GR w' 38 2 v' l.length (encL l) ∧ Out Zone.no w w' ∧ ∀ k, v'.ownBlock = some k → w.heap.size ≤ k := by
  obtain ⟨A, c, rfl, hc1, hc2⟩ := hr.form
  have HR := Lib.hid hr
  have hl2 : l.length ≤ 9223372036854775807 := by omega
  obtain ⟨L, hL⟩ : ∃ L, l.length = L := ⟨_, rfl⟩
  have HL := Lib.hid hL
  rw [hL] at hl hl2 hc1 ⊢
  clear hr hL
  go_enter Try.func39, Try.ntmps39
  go_wp2_with fail
  go_loopw [4, 3] (fun vi vo wr => ∃ i : Nat, i ≤ L ∧ vi = .int .i64 (i : Int) ∧ ∃ Ao co, vo = .slice Ao i co ∧ Hid (GR wr 38 2 (.slice Ao i co) i (encL (l.take i)) ∧ Out Zone.no w wr ∧ ∀ k, (Value.slice Ao i co).ownBlock = some k → w.heap.size ≤ k)) (fun vi _ _ => L - (intOf vi).toNat)
  case atStart => exact ⟨0, by omega, rfl, none, 0, rfl, grow_nil _ _ _ _, Out.refl _ _, fun k hk => by cases hk⟩
  case round =>
    obtain ⟨i, hi, rfl, Ao, co, rfl, hinv⟩ := hrel
    by_cases hlt : i < L
    · obtain ⟨y, hy⟩ : ∃ y, l[i]? = some y := ⟨_, List.getElem?_eq_getElem (by rw [HL.out]; exact hlt)⟩
      obtain ⟨_, A', c', hv, _, _, hc⟩ := HR.out
      obtain ⟨e1, e2⟩ := encL_at hy
      obtain ⟨b, o, hA, _, hcc1⟩ := hc _ _ e1
      obtain ⟨b', o', hA', _, hcc2⟩ := hc _ _ e2
      obtain rfl : A = A' := by injection hv
      rw [hA] at hA'
      obtain ⟨rfl, rfl⟩ : b = b' ∧ o = o' := by injection hA' with h; injection h with h1 h2; exact ⟨h1, h2⟩
      subst hA
      have HP : Hid (∀ W, Out Zone.no wr W → W.cell? ⟨b, o + i * 2, none⟩ = some (.int .i64 y.ep) ∧ W.cell? ⟨b, o + i * 2 + 1, none⟩ = some (.string (str y.data))) := fun W ho => by
        have ho2 := hinv.out.2.1.trans ho
        exact ⟨ho2.cell hcc1 id, by rw [Nat.add_assoc]; exact ho2.cell hcc2 id⟩
      have hnext : Hid (encL (l.take (i + 1)) = encL (l.take i) ++ [.int .i64 y.ep, .string (str y.data)]) := by
        obtain ⟨hi', rfl⟩ := List.getElem?_eq_some_iff.1 hy
        show _ = _
        rw [List.take_succ_eq_append_getElem hi', encL_append]
        rfl
      clear hv hc hcc1 hcc2 e1 e2 hA' hy
      obtain ⟨ye, hye⟩ : ∃ ye, y.ep = ye := ⟨_, rfl⟩
      obtain ⟨yd, hyd⟩ : ∃ yd, str y.data = yd := ⟨_, rfl⟩
      rw [hye, hyd] at HP hnext
      clear hye hyd
      have o0 : Out Zone.no wr wr.drew := (Out.refl _ _).drew
      have o1 : Out Zone.no wr (wr.drew.alloc (.cells #[.int .i64 ye, .string yd] 38)) := o0.alloc _
      obtain ⟨p1, p2⟩ := HP.out _ (Out.refl Zone.no wr)
      obtain ⟨q1, q2⟩ := HP.out _ o0
      obtain ⟨r1, r2⟩ := HP.out _ o1
      have HGA : Hid (GR (wr.drew.alloc (.cells #[.int .i64 ye, .string yd] 38)) 38 2 (.slice Ao i co) i (encL (l.take i))) := GRow.any hinv.out.1 o1
      have HNW : Hid (∀ (j : Nat) (u : Value), [Value.int .i64 ye, Value.string yd][j]? = some u → (wr.drew.alloc (.cells #[.int .i64 ye, .string yd] 38)).cell? ⟨wr.heap.size, j, none⟩ = some u) := fun j u hu => by
        have h := heap_alloc_new wr.drew (.cells #[.int .i64 ye, .string yd] 38)
        rw [cell_of_row _ wr.heap.size j _ _ _ h]
        simpa using hu
      have hlm : i + 1 ≤ maxLen := le_maxLen (by omega)
      have hlb : (i + 1) * 24 ≤ 140737488355328 := by omega
      have HO1 := Lib.hid o1
      clear o0 o1
      go_wp2_with fail
      go_region_law (refine step_gappend rfl _ _ 26 rfl elem26 i (encL (l.take i)) (by exact HGA.out) wr.heap.size 1 [.int .i64 ye, .string yd] (by rfl) rfl (by exact HNW.out) (by simp [Value.oneCell']) hlm hlb ?_; intro v' w' hg1 hgr hat; obtain ⟨A2, x2, rfl⟩ := GRow.form hg1; have HG1 := Lib.hid hg1; have HGR := Lib.hid hgr; have HAT := Lib.hid hat; clear hg1 hgr hat)
      all_goals
        go_wp2_with fail
        go_roundw
        case rel =>
          refine ⟨i + 1, by omega, by go_num, A2, x2, rfl, ?_⟩
          have hfr : ∀ k, (Value.slice A2 (i + 1) x2).ownBlock = some k → w.heap.size ≤ k := fun k hk => by
            rcases HAT.out with e | e
            · have e' : (Value.slice A2 (i + 1) x2).ownBlock = (Value.slice Ao i co).ownBlock := e
              exact hinv.out.2.2 k (by rw [← e', hk])
            · have e' : (Value.slice A2 (i + 1) x2).ownBlock = some (wr.drew.alloc (.cells #[.int .i64 ye, .string yd] 38)).heap.size := e
              rw [hk] at e'
              injection e' with e'
              have h1 := hinv.out.2.1.size
              have h2 := HO1.out.size
              omega
          refine ⟨by rw [hnext.out]; exact HG1.out, ?_, hfr⟩
          exact (hinv.out.2.1.trans HO1.out).grown HGR.out (fun k hk => Or.inr (hinv.out.2.2 k hk))
        case measure => simp [intOf]; omega
    · obtain rfl : i = L := by omega
      go_wp2_with fail
      go_ret
      refine ⟨_, rfl, ?_, hinv.out.2.1, hinv.out.2.2⟩
      have := hinv.out.1
      rw [List.take_of_length_le (by rw [HL.out]; exact Nat.le_refl _)] at this
      exact this
end Go.Proofs.Ytlgoenimjmiapaa
