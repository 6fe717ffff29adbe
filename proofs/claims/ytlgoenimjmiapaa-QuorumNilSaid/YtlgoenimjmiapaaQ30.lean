import Derived.Test.YtlgoenimjmiapaaQ29
/-! New, of a state that may be. -/
set_option linter.unusedVariables false
namespace Go.Proofs.Ytlgoenimjmiapaa
open Go.RowKit Go.Maps

/-- A state that New takes. -/
structure St.Good (s : St) : Prop where
  ep : 0 ≤ s.ep ∧ s.ep ≤ 1099511627776
  voted : -1 ≤ s.voted ∧ s.voted ≤ 6
  len : s.log.length ≤ 2048
  ents : ∀ x ∈ s.log, x.right = true ∧ x.ep ≤ s.ep
  mono : ∀ (i : Nat) (x y : Ent), s.log[i]? = some x → s.log[i + 1]? = some y → x.ep ≤ y.ep

/-- The epoch ahead of entry i. -/
def St.was (s : St) (i : Nat) : Int := s.last i
theorem St.was_le {s : St} (h : s.Good) {i : Nat} {x : Ent} (hx : s.log[i]? = some x) : s.last i ≤ x.ep := by
  cases i with
  | zero =>
    rw [last_zero]
    have h1 := (h.ents x (List.mem_of_getElem? hx)).1
    simp [Ent.right, inB] at h1
    exact h1.1.1
  | succ i =>
    have hlt : i < s.log.length := by have := (List.getElem?_eq_some_iff.1 hx).1; omega
    rw [last_at (List.getElem?_eq_getElem hlt)]
    exact h.mono i _ x (List.getElem?_eq_getElem hlt) hx

def newND (s : St) (id n : Nat) : ND := ⟨s, id, n, 0, 0, none, [], []⟩

set_option maxRecDepth 100000 in
set_option maxHeartbeats 4000000 in
theorem new_is (w : World) (N : Nat → Prop) (s : St) (v : Value) (hr : RRow N w v s.log.length 2 (encL s.log)) (hg : s.Good) (n D : Nat) (hn7 : n ≤ 7) (hn2 : n % 2 = 1) (hid : D < n) :
    Calls Try.prog 7 #[.int .i64 (D : Int), .int .i64 (n : Int), .agg #[.int .i64 s.ep, .int .i64 s.voted, v]] w fun e w' => ∃ x V, e = .returned (.tuple #[.pointer (some ⟨x, 0, none⟩), .int .i64 0]) ∧ NAt w' x ⟨newND s D n, [], []⟩ V ∧ Out Zone.no w w' ∧ ∀ k, V.own x k → w.heap.size ≤ k := by
  obtain ⟨A, c, rfl, hc1, hc2⟩ := hr.form
  have HR := Lib.hid hr
  have HG := Lib.hid hg
  obtain ⟨L, hL⟩ : ∃ L, s.log.length = L := ⟨_, rfl⟩
  obtain ⟨E, hE⟩ : ∃ E, s.ep = E := ⟨_, rfl⟩
  obtain ⟨vo, hvo⟩ : ∃ vo, s.voted = vo := ⟨_, rfl⟩
  have HL := Lib.hid hL
  have HE := Lib.hid hE
  have HVO := Lib.hid hvo
  have e1 := hg.ep
  have e2 := hg.voted
  have e3 := hg.len
  rw [hE] at e1
  rw [hvo] at e2
  rw [hL] at e3
  rw [hL, hE, hvo]
  have d1 : ((n : Int) % 2 == 0) = false := by rw [beq_eq_false_iff_ne]; omega
  have d2 : decide ((n : Int) < 1) = false := by rw [decide_eq_false_iff_not]; omega
  have d3 : decide (7 < (n : Int)) = false := by rw [decide_eq_false_iff_not]; omega
  have d4 : decide ((D : Int) < 0) = false := by rw [decide_eq_false_iff_not]; omega
  have d5 : decide (n ≤ D) = false := by rw [decide_eq_false_iff_not]; omega
  have d6 : decide (vo < -1) = false := by rw [decide_eq_false_iff_not]; omega
  have d7 : decide (6 < vo) = false := by rw [decide_eq_false_iff_not]; omega
  have d8 : decide (2048 < (L : Int)) = false := by rw [decide_eq_false_iff_not]; omega
  have hin : inB E = true := by simp [inB]; omega
  have O1 : Hid (Out Zone.no w (w.alloc (.cells #[.int .i64 E, .int .i64 vo, .slice A L c] 28))) := (Out.refl _ _).alloc _
  have hB := heap_alloc_new w (.cells #[.int .i64 E, .int .i64 vo, .slice A L c] 28)
  have HB := Lib.hid hB
  obtain ⟨B, hBs⟩ : ∃ B, w.heap.size = B := ⟨_, rfl⟩
  have HBS := Lib.hid hBs
  have hsz : (w.alloc (.cells #[.int .i64 E, .int .i64 vo, .slice A L c] 28)).heap.size = B + 1 := by simp [hBs]
  have IN0 := in1_is (w.alloc (.cells #[.int .i64 E, .int .i64 vo, .slice A L c] 28)) E
  rw [hin, hsz] at IN0
  have IN := Lib.hid IN0
  clear hr hL hE hvo hg hB hin IN0 hsz
  go_enter Try.func7, Try.ntmps7
  go_wp2_with (go_at_call 24; refine IN.out.mono ?_; rintro e w2 ⟨rfl, rfl⟩)
  obtain ⟨Wb, hWb⟩ : ∃ Wb, w.alloc (.cells #[.int .i64 E, .int .i64 vo, .slice A L c] 28) = Wb := ⟨_, rfl⟩
  rw [hWb] at O1 HB ⊢
  have HRb : Hid (RRow N Wb (.slice A s.log.length c) s.log.length 2 (encL s.log)) := by rw [← hWb]; exact HR.out.any ((Out.refl _ _).alloc _)
  have hWb' := Lib.hid hWb
  clear hWb IN d1 d2 d3 d4 d5 d6 d7 d8
  go_loopw [57, 8] (fun vi vw wr => ∃ i : Nat, i ≤ L ∧ vi = .int .i64 (i : Int) ∧ vw = .int .i64 (s.last i) ∧ Hid (Out Zone.no Wb wr)) (fun vi _ _ => L - (intOf vi).toNat)
  case atStart => exact ⟨0, by omega, rfl, rfl, (Out.refl _ _).alloc _⟩
  case round =>
    obtain ⟨i, hi, rfl, rfl, how⟩ := hrel
    by_cases hlt : i < L
    · obtain ⟨x, hx⟩ : ∃ x, s.log[i]? = some x := ⟨_, List.getElem?_eq_getElem (by rw [HL.out]; exact hlt)⟩
      have hxr := HG.out.ents x (List.mem_of_getElem? hx)
      have hw := St.was_le HG.out hx
      have hnx : Hid (s.last (i + 1) = x.ep) := last_at hx
      obtain ⟨_, A', c', hv, _, _, hc⟩ := HRb.out
      obtain ⟨e1, e2⟩ := encL_at hx
      obtain ⟨b, o, hA, _, hc1⟩ := hc _ _ e1
      obtain ⟨b', o', hA', _, hc2⟩ := hc _ _ e2
      obtain rfl : A = A' := by injection hv
      rw [hA] at hA'
      obtain ⟨rfl, rfl⟩ : b = b' ∧ o = o' := by injection hA' with h; injection h with h1 h2; exact ⟨h1, h2⟩
      subst hA
      have p1 := how.out.cell hc1 id
      have p2 : wr.cell? ⟨b, o + i * 2 + 1, none⟩ = some (.string (str x.data)) := by rw [Nat.add_assoc]; exact how.out.cell hc2 id
      clear hv hc hc1 hc2 e1 e2 hA'
      have hdl : x.data.length ≤ 9223372036854775807 := by
        have := hxr.1
        simp [Ent.right] at this
        omega
      have HER : Hid (∀ W, Calls Try.prog 25 #[.agg #[.int .i64 x.ep, .string (str x.data)]] W fun e w' => e = .returned (.bool true) ∧ Out Zone.no W w') := fun W => by
        have := eright_is W x hdl
        rw [hxr.1] at this
        exact this
      have k1 : decide (x.ep < s.last i) = false := by rw [decide_eq_false_iff_not]; omega
      have k2 : decide (E < x.ep) = false := by rw [decide_eq_false_iff_not, ← HE.out]; have := hxr.2; omega
      have hXX : Hid (∀ W', Out Zone.no (wr.alloc (.cells #[.int .i64 x.ep, .string (str x.data)] 38)) W' → W'.cell? ⟨wr.heap.size, 0, none⟩ = some (.int .i64 x.ep) ∧ W'.cell? ⟨B, 0, none⟩ = some (.int .i64 E) ∧ Out Zone.no Wb W') := fun W' ho => by
        have h1 := ho.get (heap_alloc_new wr _) id
        have h2 := ho.get (((Out.refl Zone.no wr).alloc _).get (how.out.get HB.out id) id) id
        rw [HBS.out] at h2
        exact ⟨by rw [cells_all h1]; rfl, by rw [cells_all h2]; rfl, (how.out.trans ((Out.refl Zone.no wr).alloc _)).trans ho⟩
      obtain ⟨dt, hdt⟩ : ∃ dt, str x.data = dt := ⟨_, rfl⟩
      obtain ⟨ee, hee⟩ : ∃ ee, x.ep = ee := ⟨_, rfl⟩
      rw [hdt, hee] at HER hXX
      rw [hdt] at p2
      rw [hee] at p1 k1 k2 hnx
      clear hx hxr hw hdt hee hdl
      obtain ⟨la, hla⟩ : ∃ la, s.last i = la := ⟨_, rfl⟩
      rw [hla] at k1
      rw [hla]
      go_wp2_with (go_at_call 25; refine (HER.out _).mono ?_; rintro e w1 ⟨rfl, ho1⟩; have HO1 := Lib.hid ho1; obtain ⟨q1, q2, q3⟩ := hXX.out _ ho1; have HO2 := Lib.hid q3; clear ho1 q3)
      all_goals
        go_roundw
        case rel => exact ⟨i + 1, by omega, by go_num, by rw [hnx.out], HO2.out⟩
        case measure => simp [intOf]; omega
    · obtain rfl : i = L := by omega
      have hBw : wr.heap[B]? = some (.cells #[.int .i64 E, .int .i64 vo, .slice A i c] 28 (0, 0)) := by rw [← HBS.out]; exact how.out.get HB.out id
      have b2 := cells_all hBw 2
      have HCL : Hid (Calls Try.prog 26 #[.slice A i c] wr fun e w' => ∃ A' n' c', e = .returned (.slice A' n' c') ∧ GR w' 38 2 (.slice A' n' c') s.log.length (encL s.log) ∧ Out Zone.no wr w' ∧ (∀ k, (Value.slice A' n' c').ownBlock = some k → wr.heap.size ≤ k)) := by
        have h := HRb.out.any how.out
        rw [← HL.out]
        refine (clone_is wr N (.slice A s.log.length c) s.log h (by rw [HL.out]; omega)).mono ?_
        rintro e w' ⟨v', rfl, h1, h2, h3⟩
        obtain ⟨A', c', rfl⟩ := GRow.form h1
        exact ⟨A', _, c', rfl, h1, h2, h3⟩
      have HBW := Lib.hid hBw
      clear hBw
      go_wp2_with (go_at_call 26; refine HCL.out.mono ?_; rintro e w1 ⟨A', n', c', rfl, hg1, ho1, hk1⟩; have HG1 := Lib.hid hg1; have HO1 := Lib.hid ho1; have HK1 := Lib.hid hk1; have hb1 := ho1.get HBW.out id; have s0 := cells_all hb1 0; have s1 := cells_all hb1 1; have s2 := cells_all hb1 2; have f2 := frozen_all hb1 2; have HB1 := Lib.hid hb1; clear hg1 ho1 hk1 hb1)
      refine bodyPost_ret (v := .tuple #[.pointer (some ⟨w1.heap.size, 0, none⟩), .int .i64 0]) (by simp [results, Try.results7, go_sem]) rfl ?_
      have hob : Out Zone.no w Wb := O1.out
      have hwB : Wb.heap.size = B + 1 := by rw [← hWb'.out]; simp [HBS.out]
      have h1s := HO1.out.size
      have hws := how.out.size
      have hox : Out Zone.no w w1 := (hob.trans how.out).trans HO1.out
      have hoy : Out Zone.no w (w1.setCell ⟨B, 2, none⟩ (.slice A' n' c')) := hox.setCell (Or.inr (by rw [HBS.out]; exact Nat.le_refl _)) _
      have hgy : GR (w1.setCell ⟨B, 2, none⟩ (.slice A' n' c')) 38 2 (.slice A' n' c') s.log.length (encL s.log) := gr_set HG1.out (fun e => by have : wr.heap.size ≤ B := HK1.out _ e; omega) _
      have hblk := heap_alloc_new (w1.setCell ⟨B, 2, none⟩ (.slice A' n' c')) (.cells #[.int .i64 E, .int .i64 vo, .slice A' n' c', .int .i64 (D : Int), .int .i64 (n : Int), .int .i64 0, .int .i64 0, .map none, .slice none 0 0, .slice none 0 0, .slice none 0 0, .slice none 0 0] 54)
      have hsz : (w1.setCell ⟨B, 2, none⟩ (.slice A' n' c')).heap.size = w1.heap.size := by simp
      rw [hsz] at hblk
      refine ⟨w1.heap.size, ⟨.slice A' n' c', .map none, .slice none 0 0, .slice none 0 0, .slice none 0 0, .slice none 0 0⟩, rfl, ⟨[], rfl, ⟨?_, GRow.any hgy ((Out.refl _ _).alloc _), rfl, grow_nil _ _ _ _, grow_nil _ _ _ _, grow_nil _ _ _ _, grow_nil _ _ _ _, fun p hp => (by cases hp), ?_⟩⟩, hoy.alloc _, ?_⟩
      · show StAt _ _ 54 s.ep s.voted _ _
        rw [HE.out, HVO.out]
        exact hblk
      · have hlt : ∀ k, (Value.slice A' n' c').ownBlock = some k → k < w1.heap.size := fun k hk => (GRow.mem HG1.out hk).2.1
        have p0 : ([none, none, none, none, none, none, none] : List (Option Nat)).Pairwise (fun a b => ∀ k, a = some k → b ≠ some k) := by simp
        have p1 := pw_setF p0 0 (some w1.heap.size) (fun k hk => Or.inr (by simp))
        have p2 := pw_setF p1 1 (Value.slice A' n' c').ownBlock (fun k hk => Or.inr (fun hm => by
          have := hlt k hk
          simp at hm
          omega))
        exact p2
      · intro k hk
        simp only [NV.own, NV.blks, List.mem_cons, List.not_mem_nil, or_false] at hk
        have := hox.size
        rcases hk with e | e | e | e | e | e | e
        · injection e with e; omega
        · have := HK1.out k e.symm; have := (hob.trans how.out).size; omega
        all_goals cases e
end Go.Proofs.Ytlgoenimjmiapaa
