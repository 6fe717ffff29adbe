import Derived.Test.YtlgoenimjmiapaaGreatT07
import Derived.WalkSpells
set_option linter.unusedSimpArgs false
set_option linter.unusedVariables false
set_option linter.unusedSectionVars false
/-! slices.Clone of a log; State. -/
set_option linter.unusedVariables false
set_option linter.unusedSectionVars false
namespace Go.Proofs.YtlgoenimjmiapaaGreat
open Go.RowKit Go.Maps

set_option maxRecDepth 20000 in
/-- append([]T{}, s...). -/
theorem gcopy {w : World} {N : Nat → Prop} {A : Option Addr} {c : Nat} {l : List Ent} (hr : RRow N w (.slice A l.length c) l.length 2 (encL l)) (hl : l.length ≤ 1000000) :
    ∃ v' w', (Builtin.append_ #[47, 47] 47 #[.slice (some ⟨w.heap.size, 0, none⟩) 0 0, .slice A l.length c]).run Tryz.prog (w.alloc (.cells #[] 34)) = .ok v' w' ∧ GR w' 34 2 v' l.length (encL l) ∧ Out Zone.no w w' ∧ ∀ k, v'.ownBlock = some k → w.heap.size ≤ k := by
  have o := (Out.refl Zone.no w).alloc (.cells #[] 34)
  have h0 : GRow (fun _ => True) (w.alloc (.cells #[] 34)) 34 2 (.slice (some ⟨w.heap.size, 0, none⟩) 0 0) 0 [] :=
    ⟨by simp, Or.inr ⟨_, _, _, rfl, trivial, heap_alloc_new w _, Nat.le_refl _, Nat.zero_le _, by simp, by simp⟩⟩
  obtain ⟨hlen, A', c', hv, h1, h2, hc⟩ := hr.any o
  obtain ⟨hu, ⟨i, hi1, hz, hsz, hby⟩, hz1, hp⟩ := elem47
  have eA : A = A' := by injection hv
  subst eA
  cases hA : A with
  | none =>
    subst hA
    have hx : l = [] := by
      cases l with
      | nil => rfl
      | cons x r =>
        obtain ⟨b, o, hA, _⟩ := hc 0 (.int .i64 x.ep) rfl
        cases hA
    subst hx
    refine ⟨.slice (some ⟨w.heap.size, 0, none⟩) 0 0, w.alloc (.cells #[] 34), ?_, h0, o, fun k hk => by cases hk; exact Nat.le_refl _⟩
    clear hr hc hlen hv h0 o h1 h2
    simp [Builtin.append_, run_underlying hu, sizeOf, typeInfo, hi1, Builtin.lenOf, Builtin.firstCells, storeCells]
  | some a =>
    subst hA
    obtain ⟨v', w', hrun, hg, hgr, hat⟩ := h0.append elem47 47 a l.length c (encL l) (encL_length l) (fun j u hu => by
      obtain ⟨b, o, hA, _, hx⟩ := hc j u hu
      injection hA with hA
      subst hA
      have : (⟨b, o, none⟩ : Addr).add j = ⟨b, o + j, none⟩ := by unfold Addr.add; split <;> simp_all
      rw [this]; exact hx) (encL_one l) (le_maxLen (by omega)) (by omega)
    simp only [Nat.zero_add, List.nil_append] at hg
    refine ⟨v', w', hrun, hg.wide (fun _ _ => trivial), o.grown hgr (fun k hk => by cases hk; exact Or.inr (Nat.le_refl _)), fun k hk => ?_⟩
    rcases hat with e | e
    · rw [hk] at e; cases e; exact Nat.le_refl _
    · rw [hk] at e; injection e with e; rw [e]; simp

set_option maxRecDepth 100000 in
theorem clone_is (w : World) (N : Nat → Prop) (v : Value) (l : List Ent) (hr : RRow N w v l.length 2 (encL l)) (hl : l.length ≤ 1000000) :
    Calls Tryz.prog 60 #[v] w fun e w' => ∃ v', e = .returned v' ∧ GR w' 34 2 v' l.length (encL l) ∧ Out Zone.no w w' ∧ ∀ k, v'.ownBlock = some k → w.heap.size ≤ k := by
  obtain ⟨A, c, rfl, _, _⟩ := hr.form
  obtain ⟨v', w', hrun, h1, h2, h3⟩ := gcopy hr hl
  have HRUN := Lib.hid hrun
  have H1 := Lib.hid h1
  have H2 := Lib.hid h2
  have H3 := Lib.hid h3
  cases hA : A with
  | none =>
    subst hA
    have hx : l = [] := by
      cases l with
      | nil => rfl
      | cons x r =>
        obtain ⟨_, A', c', hv, _, _, hc⟩ := hr
        obtain ⟨b, o, hA, _⟩ := hc 0 (.int .i64 x.ep) rfl
        injection hv with e1 _ _
        rw [← e1] at hA
        cases hA
    subst hx
    have e0 := Lib.run_eql_slice_nil (P := Tryz.prog) w 47 34 none 0 c 0 0 Tryz.underlying47
    clear hr hrun h1 h2 h3 HRUN H1 H2 H3
    go_enter Tryz.func60, Tryz.ntmps60
    try simp only [List.length_nil]
    go_wp2_with fail
    go_ret
    exact ⟨_, rfl, grow_nil _ _ _ _, Out.refl _ _, fun k hk => by cases hk⟩
  | some a =>
    subst hA
    obtain ⟨L, hL⟩ : ∃ L, l.length = L := ⟨_, rfl⟩
    rw [hL] at HRUN H1 ⊢
    have e0 := Lib.run_eql_slice_nil (P := Tryz.prog) w 47 34 (some a) L c 0 0 Tryz.underlying47
    clear hr hrun h1 h2 h3 hL
    go_enter Tryz.func60, Tryz.ntmps60
    go_wp2_with (at_builtin; refine wpList_builtin rfl _ _ _ rfl HRUN.out ?_)
    go_ret
    exact ⟨_, rfl, H1.out, H2.out, H3.out⟩
end Go.Proofs.YtlgoenimjmiapaaGreat

/-! State. -/
set_option linter.unusedVariables false
set_option linter.unusedSectionVars false
namespace Go.Proofs.YtlgoenimjmiapaaGreat
open Go.RowKit Go.Maps

/-- A row that grows is read alone by others. -/
theorem GR.reads {w : World} {v : Value} {l : List Ent} (h : GR w 34 2 v l.length (encL l)) : RRow (fun _ => False) w v l.length 2 (encL l) := by
  refine ⟨encL_length l, ?_⟩
  rcases h.2 with ⟨hv, h0⟩ | ⟨g, cap, cur, hv, hm, hh, h1, h2, h3, h4⟩
  · refine ⟨none, 0, by rw [hv, h0], by omega, Nat.zero_le _, fun j u hu => ?_⟩
    have := h.1
    rw [h0, Nat.zero_mul] at this
    rw [List.eq_nil_of_length_eq_zero this] at hu
    cases hu
  · refine ⟨some ⟨g, 0, none⟩, cap, hv, h1, h2, fun j u hu => ⟨g, 0, rfl, id, ?_⟩⟩
    obtain ⟨g', c', hv', hc⟩ := GRow.cell h hu
    rw [hv] at hv'
    injection hv' with e1 _ _
    injection e1 with e1
    injection e1 with e1
    rw [Nat.zero_add, e1]
    exact hc

section
variable [Far] {w w' : World} {x : Nat} {q : ND} {ns : List Nt} {ss : List (Msg × Value)} {V : NV}

end
end Go.Proofs.YtlgoenimjmiapaaGreat

/-! ship. -/
set_option linter.unusedVariables false
set_option linter.unusedSectionVars false
namespace Go.Proofs.YtlgoenimjmiapaaGreat
open Go.RowKit Go.Maps

theorem GR.reads' {N : Nat → Prop} {w : World} {v : Value} {l : List Ent} (h : GR w 34 2 v l.length (encL l)) (hN : ∀ k, v.ownBlock = some k → ¬ N k) : RRow N w v l.length 2 (encL l) := by
  refine ⟨encL_length l, ?_⟩
  rcases h.2 with ⟨hv, h0⟩ | ⟨g, cap, cur, hv, hm, hh, h1, h2, h3, h4⟩
  · refine ⟨none, 0, by rw [hv, h0], by omega, Nat.zero_le _, fun j u hu => ?_⟩
    have := h.1
    rw [h0, Nat.zero_mul] at this
    rw [List.eq_nil_of_length_eq_zero this] at hu
    cases hu
  · refine ⟨some ⟨g, 0, none⟩, cap, hv, h1, h2, fun j u hu => ⟨g, 0, rfl, hN g (by rw [hv]; rfl), ?_⟩⟩
    obtain ⟨g', c', hv', hc⟩ := GRow.cell h hu
    rw [hv] at hv'
    injection hv' with e1 _ _
    injection e1 with e1
    injection e1 with e1
    rw [Nat.zero_add, e1]
    exact hc

/-- What 's[n:]' is. -/
def fromN (A : Option Addr) (n L c : Nat) : Value := .slice (if c = n then A else A.map (·.add (n * 2))) (L - n) (c - n)
theorem run_from {A : Option Addr} {n L c : Nat} (hn : n ≤ L) (W : World) : (Instr.slice 47 (.slice A L c) (some (.int .i64 (n : Int))) none none).run Tryz.prog W = .ok (fromN A n L c) W := by
  obtain ⟨hu, ⟨i, hi1, hz, hsz, hby⟩, hz1, hp⟩ := elem47
  simp [Instr.slice, run_underlying hu, Instr.sliceBounds, Instr.sliceBound, sizeOf, typeInfo, hi1, hsz, fromN, hn, asIntOf]
theorem row_from {w : World} {A : Option Addr} {c : Nat} {l : List Ent} (h : GR w 34 2 (.slice A l.length c) l.length (encL l)) {n : Nat} (hn : n ≤ l.length) : RRow (fun _ => False) w (fromN A n l.length c) (l.drop n).length 2 (encL (l.drop n)) := by
  refine ⟨encL_length _, ?_⟩
  have hlc := GRow.caps h
  have hcm : c ≤ maxLen := by
    rcases h.2 with ⟨hv, h0⟩ | ⟨g, cap, cur, hv, hm, hh, h1, h2, h3, h4⟩
    · injection hv with _ _ e; omega
    · injection hv with _ _ e; omega
  refine ⟨(if c = n then A else A.map (·.add (n * 2))), c - n, by unfold fromN; rw [List.length_drop], by rw [List.length_drop]; omega, by omega, fun j u hu => ?_⟩
  rw [encL_drop, List.getElem?_drop] at hu
  obtain ⟨g, c', hv, hc⟩ := GRow.cell h hu
  have hA : A = some ⟨g, 0, none⟩ := by injection hv
  have hj : n * 2 + j < (encL l).length := (List.getElem?_eq_some_iff.1 hu).1
  rw [encL_length] at hj
  refine ⟨g, n * 2, ?_, id, hc⟩
  rw [if_neg (by omega), hA]
  show some ((⟨g, 0, none⟩ : Addr).add (n * 2)) = _
  rw [addr0_add]

def shipMsg (q : ND) (id n : Nat) : Msg := ⟨3, (q.id : Int), (id : Int), q.st.ep, (n : Int), q.st.last n, (q.commit : Int), q.st.log.drop n⟩

section
variable [Far] {w w' : World} {x : Nat} {q : ND} {ns : List Nt} {ss : List (Msg × Value)} {V : NV}

set_option maxRecDepth 100000 in
set_option maxHeartbeats 2000000 in
theorem ship_is (h : NodeAt w x q ns ss V) (hss : ss.length ≤ 1000000) (id n : Nat) (hid : q.has[id]? = some (n : Int)) (hn : n ≤ q.st.log.length) (hl : q.st.log.length ≤ 1000000) (hh : q.has.length ≤ 1000) :
    Calls Tryz.prog 70 #[.pointer (some ⟨x, 0, none⟩), .int .i64 (id : Int)] w fun e w' => e = .returned (.tuple #[]) ∧ ∃ sv' v, NodeAt w' x q ns (ss ++ [(shipMsg q id n, v)]) { V with sv := sv' } ∧ Next (V.own x) w (NV.own x { V with sv := sv' }) w' := by
  obtain ⟨gh, ch, hhv, hcell⟩ := GRow.cell h.has (show (ints q.has)[id]? = some (.int .i64 (n : Int)) by unfold ints; rw [List.getElem?_map, hid]; rfl)
  have hidl : id < q.has.length := (List.getElem?_eq_some_iff.1 hid).1
  obtain ⟨AL, cL, hlv⟩ := GRow.form h.log
  have c8 := h.c8
  rw [hhv] at c8
  obtain ⟨Lh, hLh⟩ : ∃ Lh, q.has.length = Lh := ⟨_, rfl⟩
  rw [hLh] at c8 hidl hh
  have H := Lib.hid h
  have HLV := Lib.hid hlv
  clear h hhv hLh hlv hid
  go_enter Tryz.func70, Tryz.ntmps70
  go_wp2_with fail
  have c6 : w.drew.cell? ⟨x, 6, none⟩ = some (.int .i64 (q.commit : Int)) := H.out.c6
  have c2 : w.drew.cell? ⟨x, 2, none⟩ = some (.slice AL q.st.log.length cL) := by rw [← HLV.out]; exact H.out.blk.c2
  have CSD := (show w.drew.cell? ⟨x, 6, none⟩ = some (.int .i64 (q.commit : Int)) ∧ w.drew.cell? ⟨x, 2, none⟩ = some (.slice AL q.st.log.length cL) from ⟨c6, c2⟩)
  have hsl := fun W => run_from (A := AL) (c := cL) hn W
  obtain ⟨S1, hS1⟩ : ∃ S1, fromN AL n q.st.log.length cL = S1 := ⟨_, rfl⟩
  rw [hS1] at hsl
  have HLA : Hid (∀ W, Out Zone.no w W → Calls Tryz.prog 78 #[.pointer (some ⟨x, 0, none⟩), .int .i64 (n : Int)] W fun e w' => e = .returned (.int .i64 (q.st.last n)) ∧ W = w') := fun W ho => last_is W x 111 q.st V.lv _ (H.out.any ho).blk (H.out.any ho).log n hn hl
  have HCL : Hid (∀ W, Out Zone.no w W → Calls Tryz.prog 60 #[S1] W fun e w' => ∃ v', e = .returned v' ∧ GR w' 34 2 v' (q.st.log.drop n).length (encL (q.st.log.drop n)) ∧ Out Zone.no W w' ∧ ∀ k, v'.ownBlock = some k → W.heap.size ≤ k) := fun W ho => by
    refine clone_is W (fun _ => False) S1 (q.st.log.drop n) ?_ (by rw [List.length_drop]; omega)
    rw [← hS1]
    refine row_from ?_ hn
    rw [← HLV.out]
    exact (H.out.any ho).log
  have HSE : Hid (∀ W v, Out Zone.no w W → GR W 34 2 v (q.st.log.drop n).length (encL (q.st.log.drop n)) → (∀ k, v.ownBlock = some k → w.heap.size ≤ k) →
      Calls Tryz.prog 66 #[.pointer (some ⟨x, 0, none⟩), .agg #[.int .i64 3, .int .i64 0, .int .i64 (id : Int), .int .i64 0, .int .i64 (n : Int), .int .i64 (q.st.last n), .int .i64 (q.commit : Int), v]] W fun e w' => (e = .returned (.tuple #[]) ∧ ∃ sv' v, NodeAt w' x q ns (ss ++ [(shipMsg q id n, v)]) { V with sv := sv' } ∧ Next (V.own x) w (NV.own x { V with sv := sv' }) w') ∧ w'.cell? ⟨x, 6, none⟩ = some (.int .i64 (q.commit : Int)) ∧ w'.cell? ⟨x, 2, none⟩ = some (.slice AL q.st.log.length cL)) := fun W v ho hg hk => by
    have hr := GR.reads' (N := V.shun x) hg (fun k hk' ho' => by
      have h1 := hk k hk'
      rcases ho' with e | e
      · have := H.out.lt e; omega
      · have := (H.out.far k e).1; omega)
    refine (send_is (H.out.any ho) hss ⟨3, 0, (id : Int), 0, (n : Int), q.st.last n, (q.commit : Int), q.st.log.drop n⟩ v hr).mono ?_
    rintro e w' ⟨rfl, V', k1, k2⟩
    exact ⟨⟨rfl, V', v, k1, (Next.of_out ho).trans k2⟩, k1.c6, by rw [← HLV.out]; exact k1.blk.c2⟩
  obtain ⟨la, hla⟩ : ∃ la, q.st.last n = la := ⟨_, rfl⟩
  rw [hla] at HLA HSE
  obtain ⟨dl, hdl⟩ : ∃ dl, q.st.log.drop n = dl := ⟨_, rfl⟩
  rw [hdl] at HCL HSE
  have OW : Hid (Out Zone.no w w.drew) := (Out.refl Zone.no w).drew
  clear hS1 hla hdl H HLV c8 c6 c2 hcell
  go_region_held3 (fun W' => W'.cell? ⟨x, 6, none⟩ = some (.int .i64 (q.commit : Int)) ∧ W'.cell? ⟨x, 2, none⟩ = some (.slice AL q.st.log.length cL))
    (first | assumption)
    (first
      | (go_at_call 78; refine (HLA.out _ OW.out).mono ?_; rintro e w2 ⟨rfl, rfl⟩)
      | (go_at_call 60; refine (HCL.out _ OW.out).mono ?_; rintro e w3 ⟨v3, rfl, hg3, ho3, hk3⟩; have CS := (show w3.cell? ⟨x, 6, none⟩ = some (.int .i64 (q.commit : Int)) ∧ w3.cell? ⟨x, 2, none⟩ = some (.slice AL q.st.log.length cL) from ⟨ho3.cell CSD.1 (fun h => h), ho3.cell CSD.2 (fun h => h)⟩); have HG3 := Lib.hid hg3; have HK3 := Lib.hid hk3; have OW := Lib.hid (OW.out.trans ho3); obtain ⟨A3, c3, rfl⟩ := GRow.form hg3; clear hg3 ho3 hk3)
      | (go_at_call 66; refine (HSE.out _ _ OW.out HG3.out HK3.out).mono ?_; rintro e w4 ⟨⟨rfl, hfin⟩, s1, s2⟩; have CS4 := (show w4.cell? ⟨x, 6, none⟩ = some (.int .i64 (q.commit : Int)) ∧ w4.cell? ⟨x, 2, none⟩ = some (.slice AL q.st.log.length cL) from ⟨s1, s2⟩); have FIN := Lib.hid hfin; clear hfin))
  all_goals
    go_wp2_with fail
    go_end0
    exact ⟨rfl, FIN.out⟩
end
end Go.Proofs.YtlgoenimjmiapaaGreat

/-! others, with ship. -/
set_option linter.unusedVariables false
set_option linter.unusedSectionVars false
namespace Go.Proofs.YtlgoenimjmiapaaGreat
open Go.RowKit Go.Maps

/-- What is shipped to the nodes below i, itself left out. -/
def ND.ships (q : ND) (i : Nat) : List Msg := ((List.range i).filter (fun j => j ≠ q.id)).map fun j => shipMsg q j (q.has.getD j 0).toNat
theorem ships_self (q : ND) : q.ships (q.id + 1) = q.ships q.id := by
  unfold ND.ships
  rw [List.range_succ, List.filter_append]
  simp
theorem ships_next (q : ND) {i : Nat} (h : i ≠ q.id) : q.ships (i + 1) = q.ships i ++ [shipMsg q i (q.has.getD i 0).toNat] := by
  unfold ND.ships
  rw [List.range_succ, List.filter_append, List.map_append]
  simp [h]

section
variable [Far] {w w' : World} {x : Nat} {q : ND} {ns : List Nt} {ss : List (Msg × Value)} {V : NV}

def ShipsAt (w : World) (x : Nat) (q : ND) (ns : List Nt) (ss : List (Msg × Value)) (V : NV) (i : Nat) (wr : World) : Prop :=
  ∃ sv' ts, ts.map Prod.fst = q.ships i ∧ ts.length ≤ i ∧ NodeAt wr x q ns (ss ++ ts) { V with sv := sv' } ∧ Next (V.own x) w (NV.own x { V with sv := sv' }) wr

theorem ShipsAt.next {wr : World} {i : Nat} (h : ShipsAt w x q ns ss V i wr) (hss : ss.length ≤ 900000) (hi : i ≤ 7) (hne : i ≠ q.id) (hh : ∃ n : Nat, q.has[i]? = some (n : Int) ∧ n ≤ q.st.log.length) (hl : q.st.log.length ≤ 1000000) (hhl : q.has.length ≤ 1000) :
    Calls Tryz.prog 70 #[.pointer (some ⟨x, 0, none⟩), .int .i64 (i : Int)] wr fun e w' => e = .returned (.tuple #[]) ∧ ShipsAt w x q ns ss V (i + 1) w' := by
  obtain ⟨sv', ts, h1, h2, h3, h4⟩ := h
  obtain ⟨n, hn1, hn2⟩ := hh
  refine (ship_is h3 (by rw [List.length_append]; omega) i n hn1 hn2 hl hhl).mono ?_
  rintro e w' ⟨rfl, sv2, v, k1, k2⟩
  refine ⟨rfl, sv2, ts ++ [(shipMsg q i n, v)], ?_, by rw [List.length_append]; simp; omega, by rw [← List.append_assoc]; exact k1, h4.trans k2⟩
  rw [List.map_append, h1, ships_next q hne]
  have : (q.has.getD i 0).toNat = n := by rw [List.getD_eq_getElem?_getD, hn1]; simp
  rw [this]
  rfl

set_option maxRecDepth 100000 in
set_option maxHeartbeats 1000000 in
theorem others_ship (h : NodeAt w x q ns ss V) (hss : ss.length ≤ 900000) (hn2 : q.n ≤ 7) (hid : q.id ≤ 7) (hh : ∀ i, i < q.n → i ≠ q.id → ∃ n : Nat, q.has[i]? = some (n : Int) ∧ n ≤ q.st.log.length) (hl : q.st.log.length ≤ 1000000) (hhl : q.has.length ≤ 1000) :
    Calls Tryz.prog 71 #[.pointer (some ⟨x, 0, none⟩), .func (.func 70) #[.pointer (some ⟨x, 0, none⟩)] #[]] w fun e w' => e = .returned (.tuple #[]) ∧ ShipsAt w x q ns ss V q.n w' := by
  have c4 := h.c4
  have S0 : Hid (ShipsAt w x q ns ss V 0 w) := ⟨V.sv, [], rfl, by simp, by rw [List.append_nil]; exact h, Next.refl _ _⟩
  obtain ⟨N, hN⟩ : ∃ N, q.n = N := ⟨_, rfl⟩
  rw [hN] at c4 hn2 hh ⊢
  obtain ⟨D, hD⟩ : ∃ D, q.id = D := ⟨_, rfl⟩
  rw [hD] at hid hh
  have HD := Lib.hid hD
  have HH := Lib.hid hh
  clear h hN hD hh
  go_enter Tryz.func71, Tryz.ntmps71
  go_wp2_with fail
  go_loopw [9] (fun vi wr => ∃ i : Nat, i ≤ N ∧ vi = .int .i64 (i : Int) ∧ Hid (ShipsAt w x q ns ss V i wr)) (fun vi _ => N - (intOf vi).toNat)
  case atStart => exact ⟨0, by omega, rfl, S0.out⟩
  case round =>
    obtain ⟨i, hi, rfl, hs⟩ := hrel
    by_cases hlt : i < N
    · have c3 : wr.cell? ⟨x, 3, none⟩ = some (.int .i64 (D : Int)) := by
        obtain ⟨sv', ts, _, _, h3, _⟩ := hs.out
        rw [← HD.out]; exact h3.c3
      by_cases hne : i = D
      · have e0 : ((i : Int) == (D : Int)) = true := by rw [beq_iff_eq]; omega
        have S1 : Hid (ShipsAt w x q ns ss V (i + 1) wr) := by
          obtain ⟨sv', ts, h1, h2, h3, h4⟩ := hs.out
          refine ⟨sv', ts, ?_, by omega, h3, h4⟩
          have e : i = q.id := by rw [HD.out]; exact hne
          rw [h1, e, ships_self]
        clear hne
        go_wp2_with fail
        all_goals
          go_roundw
          case rel => exact ⟨i + 1, by omega, by go_num, S1.out⟩
          case measure => simp [intOf]; omega
      · have e0 : ((i : Int) == (D : Int)) = false := by rw [beq_eq_false_iff_ne]; omega
        have SN := Lib.hid (hs.out.next hss (by omega) (by rw [HD.out]; exact hne) (HH.out i hlt hne) hl hhl)
        clear hne
        go_wp2_with (go_at_call 70; refine SN.out.mono ?_; rintro e w2 ⟨rfl, hs2⟩; have S1 := Lib.hid hs2; clear hs2)
        all_goals
          go_roundw
          case rel => exact ⟨i + 1, by omega, by go_num, S1.out⟩
          case measure => simp [intOf]; omega
    · obtain rfl : i = N := by omega
      go_wp2_with fail
      go_end0
      exact ⟨rfl, hs.out⟩
end
end Go.Proofs.YtlgoenimjmiapaaGreat

/-! ask, and others with it. -/
set_option linter.unusedVariables false
set_option linter.unusedSectionVars false
namespace Go.Proofs.YtlgoenimjmiapaaGreat
open Go.RowKit Go.Maps

def votesV (gs : List Int) : Int → Option Value := fun k => if k ∈ gs then some (.bool true) else none
theorem VotesAt.mapv {w : World} {b : Nat} {gs : List Int} (h : VotesAt w b gs) : MapV Tryz.prog 3 w b gs.length (votesV gs) := by
  obtain ⟨D, h1, h2, h3, h4⟩ := h
  refine ⟨D, h1, fun key => ?_⟩
  have := h4 key
  unfold votesV
  by_cases hm : key ∈ gs
  · rw [if_pos hm] at this ⊢; exact this
  · rw [if_neg hm] at this ⊢; exact this
theorem zero4 : ∀ W, (zeroValue 4).run Tryz.prog W = .ok (.bool false) W := fun W => by kernel_rfl
theorem VotesAt.look {w : World} {b : Nat} {gs : List Int} (h : VotesAt w b gs) {i : Nat} (hi : i ≤ 7) : (Instr.lookup 109 (.map (some b)) (.int .i64 (i : Int)) false).run Tryz.prog w = .ok (.bool (decide ((i : Int) ∈ gs))) w := by
  have := h.mapv.look1 Tryz.underlying3 Tryz.underlying109 zero4 (WalkArith.wf_i64 (n := (i : Int)) (by omega))
  rw [this]
  unfold votesV
  by_cases hm : (i : Int) ∈ gs
  · rw [if_pos hm]; simp [hm]
  · rw [if_neg hm]; simp [hm]

def askMsg (q : ND) (id : Nat) : Msg := ⟨1, (q.id : Int), (id : Int), q.st.ep, (q.st.log.length : Int), q.st.last q.st.log.length, 0, []⟩

section
variable [Far] {w w' : World} {x : Nat} {q : ND} {ns : List Nt} {ss : List (Msg × Value)} {V : NV}

set_option maxRecDepth 100000 in
set_option maxHeartbeats 1000000 in
theorem ask1_is (h : NodeAt w x q ns ss V) (hss : ss.length ≤ 1000000) (gs : List Int) (hgs : q.granted = some gs) (id : Nat) (hid : id ≤ 7) (hl : q.st.log.length ≤ 1000000) (a b : Nat) (ha : w.cell? ⟨a, 0, none⟩ = some (.pointer (some ⟨x, 0, none⟩))) (hb : w.cell? ⟨b, 0, none⟩ = some (.int .i64 (q.st.log.length : Int))) (hna : ¬ V.own x a) (hnb : ¬ V.own x b) :
    Calls Tryz.prog 77 #[.int .i64 (id : Int), .pointer (some ⟨a, 0, none⟩), .pointer (some ⟨b, 0, none⟩)] w fun e w' => e = .returned (.tuple #[]) ∧ if (id : Int) ∈ gs then w = w' else ∃ sv' v, NodeAt w' x q ns (ss ++ [(askMsg q id, v)]) { V with sv := sv' } ∧ Next (V.own x) w (NV.own x { V with sv := sv' }) w' := by
  have c7 := h.c7
  have hv := h.votes
  rw [hgs] at hv
  obtain ⟨m, hm, hv⟩ := hv
  rw [hm] at c7
  have hlk := hv.look hid
  obtain ⟨P1, hP1⟩ : ∃ P1 : World → Prop, (fun w' => ∃ sv' v, NodeAt w' x q ns (ss ++ [(askMsg q id, v)]) { V with sv := sv' } ∧ Next (V.own x) w (NV.own x { V with sv := sv' }) w') = P1 := ⟨_, rfl⟩
  have hpost : ∀ w', P1 w' = (∃ sv' v, NodeAt w' x q ns (ss ++ [(askMsg q id, v)]) { V with sv := sv' } ∧ Next (V.own x) w (NV.own x { V with sv := sv' }) w') := fun w' => by rw [← hP1]
  have HLA : Hid (∀ W, Out Zone.no w W → Calls Tryz.prog 78 #[.pointer (some ⟨x, 0, none⟩), .int .i64 (q.st.log.length : Int)] W fun e w' => e = .returned (.int .i64 (q.st.last q.st.log.length)) ∧ W = w') := fun W ho => last_is W x 111 q.st V.lv _ (h.any ho).blk (h.any ho).log q.st.log.length (Nat.le_refl _) hl
  have HSE : Hid (∀ W, Out Zone.no w W →
      Calls Tryz.prog 66 #[.pointer (some ⟨x, 0, none⟩), .agg #[.int .i64 1, .int .i64 0, .int .i64 (id : Int), .int .i64 0, .int .i64 (q.st.log.length : Int), .int .i64 (q.st.last q.st.log.length), .int .i64 0, .slice none 0 0]] W fun e w' => (e = .returned (.tuple #[]) ∧ P1 w') ∧ w'.cell? ⟨a, 0, none⟩ = some (.pointer (some ⟨x, 0, none⟩)) ∧ w'.cell? ⟨b, 0, none⟩ = some (.int .i64 (q.st.log.length : Int))) := fun W ho => by
    refine (send_is (h.any ho) hss ⟨1, 0, (id : Int), 0, (q.st.log.length : Int), q.st.last q.st.log.length, 0, []⟩ _ (rrow_nil _ _ 2)).mono ?_
    rintro e w' ⟨rfl, V', k1, k2⟩
    refine ⟨⟨rfl, ?_⟩, k2.out.cell (ho.cell ha (fun h => h)) hna, k2.out.cell (ho.cell hb (fun h => h)) hnb⟩
    rw [hpost]
    exact ⟨V', _, k1, (Next.of_out ho).trans k2⟩
  obtain ⟨la, hla⟩ : ∃ la, q.st.last q.st.log.length = la := ⟨_, rfl⟩
  rw [hla] at HLA HSE
  obtain ⟨L, hL⟩ : ∃ L, q.st.log.length = L := ⟨_, rfl⟩
  rw [hL] at HLA HSE hb
  have OW : Hid (Out Zone.no w w.drew) := (Out.refl Zone.no w).drew
  have hpost2 : ∀ w', (if (id : Int) ∈ gs then w = w' else ∃ sv' v, NodeAt w' x q ns (ss ++ [(askMsg q id, v)]) { V with sv := sv' } ∧ Next (V.own x) w (NV.own x { V with sv := sv' }) w') = (if (id : Int) ∈ gs then w = w' else P1 w') := fun w' => by rw [hpost]
  simp only [hpost2]
  clear hpost2 hpost hP1 hla hL h hv hm hgs
  by_cases hmem : (id : Int) ∈ gs
  · simp only [if_pos hmem]
    simp only [decide_eq_true hmem] at hlk
    clear hmem HLA HSE
    go_enter Tryz.func77, Tryz.ntmps77
    go_wp2_with fail
    go_end0
    exact ⟨rfl, rfl⟩
  · simp only [if_neg hmem]
    simp only [decide_eq_false hmem] at hlk
    have CSD : w.drew.cell? ⟨a, 0, none⟩ = some (.pointer (some ⟨x, 0, none⟩)) ∧ w.drew.cell? ⟨b, 0, none⟩ = some (.int .i64 (L : Int)) := ⟨ha, hb⟩
    clear hmem
    go_enter Tryz.func77, Tryz.ntmps77
    go_wp2_with fail
    go_region_held3 (fun W' => W'.cell? ⟨a, 0, none⟩ = some (.pointer (some ⟨x, 0, none⟩)) ∧ W'.cell? ⟨b, 0, none⟩ = some (.int .i64 (L : Int)))
      (first | assumption)
      (first
        | (go_at_call 78; refine (HLA.out _ OW.out).mono ?_; rintro e w2 ⟨rfl, rfl⟩)
        | (go_at_call 66; refine (HSE.out _ OW.out).mono ?_; rintro e w4 ⟨⟨rfl, hfin⟩, s1, s2⟩; have CS4 := (show w4.cell? ⟨a, 0, none⟩ = some (.pointer (some ⟨x, 0, none⟩)) ∧ w4.cell? ⟨b, 0, none⟩ = some (.int .i64 (L : Int)) from ⟨s1, s2⟩); have FIN := Lib.hid hfin; clear hfin))
    all_goals
      go_wp2_with fail
      go_end0
      exact ⟨rfl, FIN.out⟩
end
end Go.Proofs.YtlgoenimjmiapaaGreat
