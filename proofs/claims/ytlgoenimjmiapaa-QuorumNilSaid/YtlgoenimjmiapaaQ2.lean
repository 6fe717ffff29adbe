import Derived.Test.YtlgoenimjmiapaaQ1
/-! Entries, messages and notes that may be. -/
set_option linter.unusedVariables false
namespace Go.Proofs.Ytlgoenimjmiapaa
open Go.RowKit

theorem rrow_new {N : Nat → Prop} {w : World} {e : TypeId} {cs : List Value} {n sz : Nat} (hN : ¬ N w.heap.size) (hl : cs.length = n * sz) (hn : n ≤ 1000000) : RRow N (w.alloc (.cells cs.toArray e)) (.slice (some ⟨w.heap.size, 0, none⟩) n n) n sz cs := by
  refine ⟨hl, some ⟨w.heap.size, 0, none⟩, n, rfl, Nat.le_refl _, le_maxLen (by omega), fun j u hu => ⟨w.heap.size, 0, rfl, hN, ?_⟩⟩
  rw [Nat.zero_add, cell_of_row _ w.heap.size j _ _ _ (heap_alloc_new w _)]
  simpa using hu

/-- in(n). -/
theorem in1_is (w : World) (n : Int) : Calls Try.prog 24 #[.slice (some ⟨w.heap.size, 0, none⟩) 1 1] (w.alloc (.cells #[.int .i64 n] 3)) fun e w' => e = .returned (.bool (inB n)) ∧ w.alloc (.cells #[.int .i64 n] 3) = w' := by
  have h := in_is _ (fun _ => False) _ [n] (rrow_new (w := w) (e := 3) (cs := [.int .i64 n]) (n := 1) (sz := 1) (fun h => h) (by simp) (by omega)) (by simp)
  have hI : [n].all inB = inB n := by simp
  rw [hI] at h
  exact h
theorem str_size (L : List UInt8) : (str L).size = L.length := rfl
def Ent.val (x : Ent) : Value := .agg #[.int .i64 x.ep, .string (str x.data)]

set_option maxRecDepth 100000 in
theorem eright_is (w : World) (x : Ent) (hl : x.data.length ≤ 9223372036854775807) : Calls Try.prog 25 #[.agg #[.int .i64 x.ep, .string (str x.data)]] w fun e w' => e = .returned (.bool x.right) ∧ Out Zone.no w w' := by
  have o1 := ((Out.refl Zone.no w).alloc (.cells #[.int .i64 x.ep, .string (str x.data)] 38)).alloc (.cells #[.int .i64 x.ep] 3)
  have I := in1_is (w.alloc (.cells #[.int .i64 x.ep, .string (str x.data)] 38)) x.ep
  simp only [World.size_alloc] at I
  have HI := Lib.hid I
  have HO := Lib.hid o1
  have hsz := str_size x.data
  clear I o1
  obtain ⟨g, hg⟩ : ∃ g, inB x.ep = g := ⟨_, rfl⟩
  rw [hg] at HI
  have HR : Hid (x.right = (g && decide (x.data.length ≤ 65536))) := by show _ = _; rw [← hg]; rfl
  clear hg
  by_cases h6 : x.data.length ≤ 65536
  · cases g with
    | true =>
      go_enter Try.func25, Try.ntmps25
      go_wp2_with (go_at_call 24; refine HI.out.mono ?_; rintro e w' ⟨rfl, rfl⟩)
      go_ret
      exact ⟨by rw [HR.out]; simp [h6, go_sem] <;> omega, HO.out⟩
    | false =>
      go_enter Try.func25, Try.ntmps25
      go_wp2_with (go_at_call 24; refine HI.out.mono ?_; rintro e w' ⟨rfl, rfl⟩)
      go_ret
      exact ⟨by rw [HR.out]; simp [go_sem], HO.out⟩
  · cases g with
    | true =>
      go_enter Try.func25, Try.ntmps25
      go_wp2_with (go_at_call 24; refine HI.out.mono ?_; rintro e w' ⟨rfl, rfl⟩)
      go_ret
      exact ⟨by rw [HR.out]; simp [h6, go_sem] <;> omega, HO.out⟩
    | false =>
      go_enter Try.func25, Try.ntmps25
      go_wp2_with (go_at_call 24; refine HI.out.mono ?_; rintro e w' ⟨rfl, rfl⟩)
      go_ret
      exact ⟨by rw [HR.out]; simp [go_sem], HO.out⟩

set_option maxRecDepth 100000 in
theorem ebad_is (w : World) (x : Ent) (hl : x.data.length ≤ 9223372036854775807) : Calls Try.prog 50 #[.agg #[.int .i64 x.ep, .string (str x.data)]] w fun e w' => e = .returned (.bool (!x.right)) ∧ Out Zone.no w w' := by
  have HE := Lib.hid (eright_is (w.alloc (.cells #[.int .i64 x.ep, .string (str x.data)] 38)) x hl)
  go_enter Try.func50, Try.ntmps50
  go_wp2_with (go_at_call 25; refine HE.out.mono ?_; rintro e w1 ⟨rfl, ho⟩; have HO := Lib.hid ho; clear ho)
  go_ret
  exact ⟨by simp [go_sem], ((Out.refl Zone.no w).alloc _).trans HO.out⟩

/-- Entries whose texts are no longer than any machine's. -/
def Fits (l : List Ent) : Prop := ∀ x ∈ l, x.data.length ≤ 9223372036854775807

set_option maxRecDepth 100000 in
theorem eidx_is (w : World) (N : Nat → Prop) (v : Value) (l : List Ent) (hr : RRow N w v l.length 2 (encL l)) (hl : l.length ≤ 9223372036854775807) (hf : Fits l) :
    Calls Try.prog 58 #[v, .func (.func 50) #[] #[]] w fun e w' => (∃ r : Int, e = .returned (.int .i64 r) ∧ decide (0 ≤ r) = !(l.all Ent.right)) ∧ Out Zone.no w w' := by
  obtain ⟨A, c, rfl, _, _⟩ := hr.form
  have HR := Lib.hid hr
  have HF := Lib.hid hf
  clear hr hf
  go_enter Try.func58, Try.ntmps58
  go_wp2_with fail
  go_loopw [8] (fun vi wr => ∃ i : Nat, i ≤ l.length ∧ vi = .int .i64 (i : Int) ∧ Hid ((l.take i).all Ent.right = true) ∧ Hid (Out Zone.no w wr)) (fun vi _ => l.length - (intOf vi).toNat)
  case atStart => exact ⟨0, by omega, rfl, rfl, Out.refl _ _⟩
  case round =>
    obtain ⟨i, hi, rfl, hall, how⟩ := hrel
    by_cases hlt : i < l.length
    · obtain ⟨x, hx⟩ : ∃ x, l[i]? = some x := ⟨_, List.getElem?_eq_getElem hlt⟩
      obtain ⟨_, A', c', hv, _, _, hc⟩ := HR.out
      obtain ⟨e1, e2⟩ := encL_at hx
      obtain ⟨b, o, hA, _, hc1⟩ := hc _ _ e1
      obtain ⟨b', o', hA', _, hc2⟩ := hc _ _ e2
      obtain rfl : A = A' := by injection hv
      rw [hA] at hA'
      obtain ⟨rfl, rfl⟩ : b = b' ∧ o = o' := by injection hA' with h; injection h with h1 h2; exact ⟨h1, h2⟩
      subst hA
      have p1 := how.out.cell hc1 id
      have p2 : wr.cell? ⟨b, o + i * 2 + 1, none⟩ = some (.string (str x.data)) := by rw [Nat.add_assoc]; exact how.out.cell hc2 id
      clear hv hc hc1 hc2 e1 e2 hA'
      have hta : Hid (x.right = true → (l.take (i + 1)).all Ent.right = true) := fun e => by
        obtain ⟨hi', rfl⟩ := List.getElem?_eq_some_iff.1 hx
        rw [List.take_succ_eq_append_getElem hi', List.all_append, hall.out]
        simp [e]
      have hfa : Hid (x.right = false → l.all Ent.right = false) := fun e => by
        rw [List.all_eq_false]
        exact ⟨x, List.mem_of_getElem? hx, by simp [e]⟩
      have IB := ebad_is wr x (HF.out x (List.mem_of_getElem? hx))
      clear hx
      obtain ⟨g, hg⟩ : ∃ g, x.right = g := ⟨_, rfl⟩
      rw [hg] at IB hta hfa
      have HIB := Lib.hid IB
      clear IB hg
      cases g with
      | true =>
        go_wp2_with (go_at_call 50; refine HIB.out.mono ?_; rintro e w1 ⟨rfl, ho1⟩; have HO1 := Lib.hid (how.out.trans ho1); clear ho1)
        go_roundw
        case rel => exact ⟨i + 1, by omega, by go_num, hta.out (by simp), HO1.out⟩
        case measure => simp [intOf]; omega
      | false =>
        go_wp2_with (go_at_call 50; refine HIB.out.mono ?_; rintro e w1 ⟨rfl, ho1⟩; have HO1 := Lib.hid (how.out.trans ho1); clear ho1)
        go_ret
        refine ⟨⟨_, rfl, ?_⟩, HO1.out⟩
        have h0 := hfa.out (by simp)
        rw [h0]
        simp
    · obtain rfl : i = l.length := by omega
      have hta : Hid (l.all Ent.right = true) := by have := hall.out; rwa [List.take_length] at this
      go_wp2_with fail
      go_ret
      refine ⟨⟨_, rfl, ?_⟩, how.out⟩
      have h0 := hta.out
      rw [h0]
      rfl

theorem ebads_is (w : World) (N : Nat → Prop) (v : Value) (l : List Ent) (hr : RRow N w v l.length 2 (encL l)) (hl : l.length ≤ 9223372036854775807) (hf : Fits l) :
    Calls Try.prog 49 #[v, .func (.func 50) #[] #[]] w fun e w' => e = .returned (.bool (!l.all Ent.right)) ∧ Out Zone.no w w' := by
  obtain ⟨A, c, rfl, _, _⟩ := hr.form
  have HI := Lib.hid (eidx_is w N _ l hr hl hf)
  clear hr
  go_enter Try.func49, Try.ntmps49
  go_wp2_with (go_at_call 58; refine HI.out.mono ?_; rintro e w1 ⟨⟨r, rfl, hr⟩, ho⟩; have HRR := Lib.hid hr; have HO := Lib.hid ho; clear hr ho)
  go_ret
  exact ⟨by rw [← HRR.out]; rfl, HO.out⟩
end Go.Proofs.Ytlgoenimjmiapaa
