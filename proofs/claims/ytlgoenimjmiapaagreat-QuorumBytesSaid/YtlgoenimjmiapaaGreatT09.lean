import Derived.Test.YtlgoenimjmiapaaGreatT08
set_option linter.unusedSimpArgs false
set_option linter.unusedVariables false
set_option linter.unusedSectionVars false
/-! others with ask's closure; ask. -/
set_option linter.unusedVariables false
set_option linter.unusedSectionVars false
namespace Go.Proofs.YtlgoenimjmiapaaGreat
open Go.RowKit Go.Maps

/-- What is asked of the nodes below i: itself and those whose vote is there are left out. -/
def ND.asks (q : ND) (gs : List Int) (i : Nat) : List Msg := ((List.range i).filter (fun j => j ≠ q.id ∧ (j : Int) ∉ gs)).map (askMsg q)
theorem asks_self (q : ND) (gs : List Int) : q.asks gs (q.id + 1) = q.asks gs q.id := by
  unfold ND.asks
  rw [List.range_succ, List.filter_append]
  simp
theorem asks_has (q : ND) (gs : List Int) {i : Nat} (h : (i : Int) ∈ gs) : q.asks gs (i + 1) = q.asks gs i := by
  unfold ND.asks
  rw [List.range_succ, List.filter_append]
  simp [h]
theorem asks_next (q : ND) (gs : List Int) {i : Nat} (h : i ≠ q.id) (hm : (i : Int) ∉ gs) : q.asks gs (i + 1) = q.asks gs i ++ [askMsg q i] := by
  unfold ND.asks
  rw [List.range_succ, List.filter_append, List.map_append]
  simp [h, hm]

theorem cell_new (w : World) (cs : Array Value) (e : TypeId) (i : Nat) : (w.alloc (.cells cs e)).cell? ⟨w.heap.size, i, none⟩ = cs[i]? := by
  have h := heap_alloc_new w (.cells cs e)
  unfold World.cell?
  simp only [h]
  rfl

section
variable [Far] {w w' : World} {x : Nat} {q : ND} {ns : List Nt} {ss : List (Msg × Value)} {V : NV}

def AsksAt (w : World) (x : Nat) (q : ND) (ns : List Nt) (ss : List (Msg × Value)) (V : NV) (gs : List Int) (a b : Nat) (i : Nat) (wr : World) : Prop :=
  ∃ sv' ts, ts.map Prod.fst = q.asks gs i ∧ ts.length ≤ i ∧ NodeAt wr x q ns (ss ++ ts) { V with sv := sv' } ∧ Next (V.own x) w (NV.own x { V with sv := sv' }) wr ∧
    wr.cell? ⟨a, 0, none⟩ = some (.pointer (some ⟨x, 0, none⟩)) ∧ wr.cell? ⟨b, 0, none⟩ = some (.int .i64 (q.st.log.length : Int)) ∧ ¬ NV.own x { V with sv := sv' } a ∧ ¬ NV.own x { V with sv := sv' } b

theorem lt_of_cell {w : World} {a o : Nat} {u : Value} (h : w.cell? ⟨a, o, none⟩ = some u) : a < w.heap.size := by
  rcases Nat.lt_or_ge a w.heap.size with hlt | hge
  · exact hlt
  · simp [World.cell?, Array.getElem?_eq_none hge] at h

theorem AsksAt.next {wr : World} {i : Nat} {gs : List Int} {a b : Nat} (h : AsksAt w x q ns ss V gs a b i wr) (hgs : q.granted = some gs) (hss : ss.length ≤ 900000) (hi : i ≤ 7) (hne : i ≠ q.id) (hl : q.st.log.length ≤ 1000000) :
    Calls Tryz.prog 77 #[.int .i64 (i : Int), .pointer (some ⟨a, 0, none⟩), .pointer (some ⟨b, 0, none⟩)] wr fun e w' => e = .returned (.tuple #[]) ∧ AsksAt w x q ns ss V gs a b (i + 1) w' := by
  obtain ⟨sv', ts, h1, h2, h3, h4, ha, hb, hna, hnb⟩ := h
  refine (ask1_is h3 (by rw [List.length_append]; omega) gs hgs i hi hl a b ha hb hna hnb).mono ?_
  rintro e w' ⟨rfl, k⟩
  refine ⟨rfl, ?_⟩
  by_cases hm : (i : Int) ∈ gs
  · rw [if_pos hm] at k
    subst k
    exact ⟨sv', ts, by rw [h1, asks_has q gs hm], by omega, h3, h4, ha, hb, hna, hnb⟩
  · rw [if_neg hm] at k
    obtain ⟨sv2, v, k1, k2⟩ := k
    refine ⟨sv2, ts ++ [(askMsg q i, v)], by rw [List.map_append, h1, asks_next q gs hne hm]; rfl, by rw [List.length_append]; simp; omega, by rw [← List.append_assoc]; exact k1, h4.trans k2, k2.out.cell ha hna, k2.out.cell hb hnb, fun e => ?_, fun e => ?_⟩
    · rcases k2.sub a e with e | e
      · exact hna e
      · have := lt_of_cell ha; omega
    · rcases k2.sub b e with e | e
      · exact hnb e
      · have := lt_of_cell hb; omega

set_option maxRecDepth 100000 in
set_option maxHeartbeats 1000000 in
theorem others_ask {gs : List Int} {a b : Nat} (S0 : Hid (AsksAt w x q ns ss V gs a b 0 w)) (hgs : q.granted = some gs) (hss : ss.length ≤ 900000) (hn2 : q.n ≤ 7) (hid : q.id ≤ 7) (hl : q.st.log.length ≤ 1000000) :
    Calls Tryz.prog 71 #[.pointer (some ⟨x, 0, none⟩), .func (.func 77) #[] #[.pointer (some ⟨a, 0, none⟩), .pointer (some ⟨b, 0, none⟩)]] w fun e w' => e = .returned (.tuple #[]) ∧ AsksAt w x q ns ss V gs a b q.n w' := by
  have c4 : w.cell? ⟨x, 4, none⟩ = some (.int .i64 (q.n : Int)) := by
    obtain ⟨sv', ts, _, _, h3, _⟩ := S0.out
    exact h3.c4
  obtain ⟨N, hN⟩ : ∃ N, q.n = N := ⟨_, rfl⟩
  rw [hN] at c4 hn2 ⊢
  obtain ⟨D, hD⟩ : ∃ D, q.id = D := ⟨_, rfl⟩
  rw [hD] at hid
  have HD := Lib.hid hD
  have HG := Lib.hid hgs
  clear hN hD hgs
  go_enter Tryz.func71, Tryz.ntmps71
  go_wp2_with fail
  go_loopw [9] (fun vi wr => ∃ i : Nat, i ≤ N ∧ vi = .int .i64 (i : Int) ∧ Hid (AsksAt w x q ns ss V gs a b i wr)) (fun vi _ => N - (intOf vi).toNat)
  case atStart => exact ⟨0, by omega, rfl, S0.out⟩
  case round =>
    obtain ⟨i, hi, rfl, hs⟩ := hrel
    by_cases hlt : i < N
    · have c3 : wr.cell? ⟨x, 3, none⟩ = some (.int .i64 (D : Int)) := by
        obtain ⟨sv', ts, _, _, h3, _⟩ := hs.out
        rw [← HD.out]; exact h3.c3
      by_cases hne : i = D
      · have e0 : ((i : Int) == (D : Int)) = true := by rw [beq_iff_eq]; omega
        have S1 : Hid (AsksAt w x q ns ss V gs a b (i + 1) wr) := by
          obtain ⟨sv', ts, h1, h2, h3, h4⟩ := hs.out
          refine ⟨sv', ts, ?_, by omega, h3, h4⟩
          have e : i = q.id := by rw [HD.out]; exact hne
          rw [h1, e, asks_self]
        clear hne
        go_wp2_with fail
        all_goals
          go_roundw
          case rel => exact ⟨i + 1, by omega, by go_num, S1.out⟩
          case measure => simp [intOf]; omega
      · have e0 : ((i : Int) == (D : Int)) = false := by rw [beq_eq_false_iff_ne]; omega
        have SN := Lib.hid (hs.out.next HG.out hss (by omega) (by rw [HD.out]; exact hne) hl)
        clear hne
        go_wp2_with (go_at_call 77; refine SN.out.mono ?_; rintro e w2 ⟨rfl, hs2⟩; have S1 := Lib.hid hs2; clear hs2)
        all_goals
          go_roundw
          case rel => exact ⟨i + 1, by omega, by go_num, S1.out⟩
          case measure => simp [intOf]; omega
    · obtain rfl : i = N := by omega
      go_wp2_with fail
      go_end0
      exact ⟨rfl, hs.out⟩

set_option maxRecDepth 100000 in
set_option maxHeartbeats 1000000 in
theorem ask_is (h : NodeAt w x q ns ss V) {gs : List Int} (hgs : q.granted = some gs) (hss : ss.length ≤ 900000) (hn2 : q.n ≤ 7) (hid : q.id ≤ 7) (hl : q.st.log.length ≤ 1000000) :
    Calls Tryz.prog 63 #[.pointer (some ⟨x, 0, none⟩)] w fun e w' => e = .returned (.tuple #[]) ∧ ∃ sv' ts, ts.map Prod.fst = q.asks gs q.n ∧ NodeAt w' x q ns (ss ++ ts) { V with sv := sv' } ∧ Next (V.own x) w (NV.own x { V with sv := sv' }) w' := by
  obtain ⟨AL, cL, hlv⟩ := GRow.form h.log
  have c2 : w.cell? ⟨x, 2, none⟩ = some (.slice AL q.st.log.length cL) := by rw [← hlv]; exact h.blk.c2
  have HO : Hid (∀ W, Out Zone.no w W → W.cell? ⟨w.heap.size, 0, none⟩ = some (.pointer (some ⟨x, 0, none⟩)) → W.cell? ⟨w.heap.size + 1, 0, none⟩ = some (.int .i64 (q.st.log.length : Int)) →
      Calls Tryz.prog 71 #[.pointer (some ⟨x, 0, none⟩), .func (.func 77) #[] #[.pointer (some ⟨w.heap.size, 0, none⟩), .pointer (some ⟨w.heap.size + 1, 0, none⟩)]] W fun e w' => e = .returned (.tuple #[]) ∧ ∃ sv' ts, ts.map Prod.fst = q.asks gs q.n ∧ NodeAt w' x q ns (ss ++ ts) { V with sv := sv' } ∧ Next (V.own x) w (NV.own x { V with sv := sv' }) w') := fun W ho ha hb => by
    refine (others_ask (w := W) (a := w.heap.size) (b := w.heap.size + 1) ⟨V.sv, [], rfl, by simp, by rw [List.append_nil]; exact h.any ho, Next.refl _ _, ha, hb, fun e => ?_, fun e => ?_⟩ hgs hss hn2 hid hl).mono ?_
    · have := h.lt e; omega
    · have := h.lt e; omega
    · rintro e w' ⟨rfl, sv', ts, h1, h2, h3, h4, _⟩
      exact ⟨rfl, sv', ts, h1, h3, (Next.of_out ho).trans h4⟩
  obtain ⟨L, hL⟩ : ∃ L, q.st.log.length = L := ⟨_, rfl⟩
  rw [hL] at HO c2
  obtain ⟨P1, hP1⟩ : ∃ P1 : World → Prop, (fun w' => ∃ sv' ts, ts.map Prod.fst = q.asks gs q.n ∧ NodeAt w' x q ns (ss ++ ts) { V with sv := sv' } ∧ Next (V.own x) w (NV.own x { V with sv := sv' }) w') = P1 := ⟨_, rfl⟩
  have hpost : ∀ w', (∃ sv' ts, ts.map Prod.fst = q.asks gs q.n ∧ NodeAt w' x q ns (ss ++ ts) { V with sv := sv' } ∧ Next (V.own x) w (NV.own x { V with sv := sv' }) w') = P1 w' := fun w' => by rw [← hP1]
  simp only [hpost] at HO ⊢
  have o1 := (Out.refl Zone.no w).alloc (.cells #[.pointer (some ⟨x, 0, none⟩)] 78)
  have c2a := o1.cell c2 (fun h => h)
  have o2 := o1.alloc (.cells #[.int .i64 (L : Int)] 3)
  have HC := Lib.hid (HO.out _ o2 (((Out.refl Zone.no _).alloc _).cell (cell_new w _ _ 0) (fun h => h)) (by have := cell_new (w.alloc (.cells #[.pointer (some ⟨x, 0, none⟩)] 78)) #[.int .i64 (L : Int)] 3 0; rw [show (w.alloc (.cells #[.pointer (some ⟨x, 0, none⟩)] 78)).heap.size = w.heap.size + 1 by simp] at this; exact this))
  clear hpost hP1 hlv hL h hgs o1 o2
  go_enter Tryz.func63, Tryz.ntmps63
  go_wp2_with (go_at_call 71; refine HC.out.mono ?_; rintro e w2 ⟨rfl, hf⟩)
  go_end0
  exact ⟨rfl, hf⟩
end
end Go.Proofs.YtlgoenimjmiapaaGreat

/-! slices.Clone of ints. -/
set_option linter.unusedVariables false
set_option linter.unusedSectionVars false
namespace Go.Proofs.YtlgoenimjmiapaaGreat
open Go.RowKit Go.Maps

theorem elem63 : ElemN Tryz.prog 63 3 (.int .i64 0) 1 8 := ElemN.mk' Tryz.underlying63 (by kernel_rfl) (by kernel_rfl) (by omega)
theorem ints_length (l : List Int) : (ints l).length = l.length * 1 := by simp [ints]
theorem ints_one (l : List Int) : ∀ u ∈ ints l, u.oneCell' = true := by
  intro u hu
  obtain ⟨x, _, rfl⟩ := List.mem_map.1 hu
  rfl
set_option maxRecDepth 20000 in
/-- append([]T{}, s...). -/
theorem gcopyI {w : World} {N : Nat → Prop} {A : Option Addr} {c : Nat} {l : List Int} (hr : RRow N w (.slice A l.length c) l.length 1 (ints l)) (hl : l.length ≤ 1000000) :
    ∃ v' w', (Builtin.append_ #[63, 63] 63 #[.slice (some ⟨w.heap.size, 0, none⟩) 0 0, .slice A l.length c]).run Tryz.prog (w.alloc (.cells #[] 3)) = .ok v' w' ∧ GR w' 3 1 v' l.length (ints l) ∧ Out Zone.no w w' ∧ ∀ k, v'.ownBlock = some k → w.heap.size ≤ k := by
  have o := (Out.refl Zone.no w).alloc (.cells #[] 3)
  have h0 : GRow (fun _ => True) (w.alloc (.cells #[] 3)) 3 1 (.slice (some ⟨w.heap.size, 0, none⟩) 0 0) 0 [] :=
    ⟨by simp, Or.inr ⟨_, _, _, rfl, trivial, heap_alloc_new w _, Nat.le_refl _, Nat.zero_le _, by simp, by simp⟩⟩
  obtain ⟨hlen, A', c', hv, h1, h2, hc⟩ := hr.any o
  obtain ⟨hu, ⟨i, hi1, hz, hsz, hby⟩, hz1, hp⟩ := elem63
  have eA : A = A' := by injection hv
  subst eA
  cases hA : A with
  | none =>
    subst hA
    have hx : l = [] := by
      cases l with
      | nil => rfl
      | cons x r =>
        obtain ⟨b, o, hA, _⟩ := hc 0 (.int .i64 x) rfl
        cases hA
    subst hx
    refine ⟨.slice (some ⟨w.heap.size, 0, none⟩) 0 0, w.alloc (.cells #[] 3), ?_, h0, o, fun k hk => by cases hk; exact Nat.le_refl _⟩
    clear hr hc hlen hv h0 o h1 h2
    simp [Builtin.append_, run_underlying hu, sizeOf, typeInfo, hi1, Builtin.lenOf, Builtin.firstCells, storeCells]
  | some a =>
    subst hA
    obtain ⟨v', w', hrun, hg, hgr, hat⟩ := h0.append elem63 63 a l.length c (ints l) (ints_length l) (fun j u hu => by
      obtain ⟨b, o, hA, _, hx⟩ := hc j u hu
      injection hA with hA
      subst hA
      have : (⟨b, o, none⟩ : Addr).add j = ⟨b, o + j, none⟩ := by unfold Addr.add; split <;> simp_all
      rw [this]; exact hx) (ints_one l) (le_maxLen (by omega)) (by omega)
    simp only [Nat.zero_add, List.nil_append] at hg
    refine ⟨v', w', hrun, hg.wide (fun _ _ => trivial), o.grown hgr (fun k hk => by cases hk; exact Or.inr (Nat.le_refl _)), fun k hk => ?_⟩
    rcases hat with e | e
    · rw [hk] at e; cases e; exact Nat.le_refl _
    · rw [hk] at e; injection e with e; rw [e]; simp

set_option maxRecDepth 100000 in
theorem cloneI_is (w : World) (N : Nat → Prop) (v : Value) (l : List Int) (hr : RRow N w v l.length 1 (ints l)) (hl : l.length ≤ 1000000) :
    Calls Tryz.prog 80 #[v] w fun e w' => ∃ v', e = .returned v' ∧ GR w' 3 1 v' l.length (ints l) ∧ Out Zone.no w w' ∧ ∀ k, v'.ownBlock = some k → w.heap.size ≤ k := by
  obtain ⟨A, c, rfl, _, _⟩ := hr.form
  obtain ⟨v', w', hrun, h1, h2, h3⟩ := gcopyI hr hl
  have HRUN := Lib.hid hrun
  have H1 := Lib.hid h1
  have H2 := Lib.hid h2
  have H3 := Lib.hid h3
  cases hA : A with
  | none =>
    subst hA
    have hx : l = [] := by
      cases l with
      | nil => rfl
      | cons x r =>
        obtain ⟨_, A', c', hv, _, _, hc⟩ := hr
        obtain ⟨b, o, hA, _⟩ := hc 0 (.int .i64 x) rfl
        injection hv with e1 _ _
        rw [← e1] at hA
        cases hA
    subst hx
    have e0 := Lib.run_eql_slice_nil (P := Tryz.prog) w 63 3 none 0 c 0 0 Tryz.underlying63
    clear hr hrun h1 h2 h3 HRUN H1 H2 H3
    go_enter Tryz.func80, Tryz.ntmps80
    try simp only [List.length_nil]
    go_wp2_with fail
    go_ret
    exact ⟨_, rfl, grow_nil _ _ _ _, Out.refl _ _, fun k hk => by cases hk⟩
  | some a =>
    subst hA
    obtain ⟨L, hL⟩ : ∃ L, l.length = L := ⟨_, rfl⟩
    rw [hL] at HRUN H1 ⊢
    have e0 := Lib.run_eql_slice_nil (P := Tryz.prog) w 63 3 (some a) L c 0 0 Tryz.underlying63
    clear hr hrun h1 h2 h3 hL
    go_enter Tryz.func80, Tryz.ntmps80
    go_wp2_with (at_builtin; refine wpList_builtin rfl _ _ _ rfl HRUN.out ?_)
    go_ret
    exact ⟨_, rfl, H1.out, H2.out, H3.out⟩
end Go.Proofs.YtlgoenimjmiapaaGreat
