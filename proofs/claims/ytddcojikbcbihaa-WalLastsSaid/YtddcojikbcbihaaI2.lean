import Derived.Test.YtddcojikbcbihaaI1
import Derived.Maps.AppendAt
/-! wal.Scan. -/
set_option linter.unusedVariables false
namespace Go.Proofs.Ytddcojikbcbihaa
open Go.RowKit Go.Shelf
attribute [local go_sem] Oper.semAt_some

theorem info74 : (Try.prog.info? 74).map (fun i => (i.zero, i.size, i.bytes)) = some (some (.agg #[.int .i64 0, .slice none 0 0]), 2, 32) := by kernel_rfl

/-- Entries as cells; a slice of them of the call's own. -/
def Ent.cells (x : Ent) : List Value := [.int .i64 x.at_, .slice x.A x.m x.c]
def cellsE (xs : List Ent) : List Value := xs.flatMap Ent.cells
def OwnsE (b : Nat) (w : World) (v : Value) (xs : List Ent) : Prop := w.ownsRow b 74 2 v xs.length (cellsE xs)
theorem cellsE_snoc (xs : List Ent) (x : Ent) : cellsE (xs ++ [x]) = cellsE xs ++ x.cells := by simp [cellsE]
def endOf (base : Int) (xs : List Ent) : Int := xs.foldl (fun _ x => x.to_) base
theorem endOf_snoc (base : Int) (xs : List Ent) (x : Ent) : endOf base (xs ++ [x]) = x.to_ := by simp [endOf]

theorem records_is (w : World) (base : Int) (A : Option Addr) (n c : Nat) :
    Calls Try.prog 64 #[.int .i64 base, .slice A n c] w fun e w' => e = .returned (.func (.func 76) #[] #[.pointer (some ⟨w.heap.size + 1, 0, none⟩), .pointer (some ⟨w.heap.size, 0, none⟩)]) ∧
      w' = (w.alloc (.cells #[.int .i64 base] 3)).alloc (.cells #[.slice A n c] 22) := by
  go_enter Try.func64, Try.ntmps64
  go_wp2_with fail
  go_ret
  exact ⟨by simp, rfl⟩

theorem row_inn {w w' : World} {Pr : Nat → Prop} (h : Out Zone.no w w') (hp : ∀ k, k < w.heap.size → Pr k) {v : Value} {xs : List Value} (hr : Row Zone.no w v xs) : Row (Zone.inn Pr) w' v xs := by
  obtain ⟨A, c, hv, h1, h2, hc⟩ := hr
  refine ⟨A, c, hv, h1, h2, fun j u hu => ?_⟩
  obtain ⟨a, ha, hb, hx⟩ := hc j u hu
  refine ⟨a, ha, ?_, h.cell hx id⟩
  have hlt : (a.add j).block < w.heap.size := by
    rcases Nat.lt_or_ge (a.add j).block w.heap.size with hlt | hge
    · exact hlt
    · simp [World.cell?, Array.getElem?_eq_none hge] at hx
  rw [addr_add_block] at hlt
  exact fun hn => hn (hp _ hlt)

theorem ownsE_form {b : Nat} {w : World} {v : Value} {xs : List Ent} (h : OwnsE b w v xs) : ∃ A m c, v = .slice A m c := by
  obtain ⟨h1, h2 | ⟨g, cap, cur, hv, _⟩⟩ := h
  · exact ⟨_, _, _, h2.1⟩
  · exact ⟨_, _, _, hv⟩

theorem wpListIn_builtin {F : Fence} {n : Nat} {P : Program} {ops : Array Oper} {rest : List Oper} {o : Oper} {a : Act} {w w' : World} {v' : Value} {Q : Exit → Act → World → Prop}
    (hg : o.guard = none) (s x : Operand) (t : TypeId) (hop : o.op = Op.call { callee := Callee.builtin Builtin.append, args := #[s, x], argTypes := #[t, t] })
    (hrun : (Builtin.append_ #[t, t] o.type #[a.eval s, a.eval x]).run P w = .ok v' w')
    (hK : wpListIn F n P ops Q rest (a.put o.dst v') w') : wpListIn F n P ops Q (o :: rest) a w := by
  refine wpListIn_plain hg fun K hk => ?_
  unfold Oper.wpIn
  refine ⟨by simp [Oper.about, hop, resolve, Target.leads, Sem.run_pure], ?_⟩
  rw [Oper.semAt_plain F _ _ (by rw [hop]; intro c hc'; cases hc')]
  simp [execOp, hop, resolve, invoke, builtin, hrun, Result.andThen]
  exact hk _ _ hK

theorem ownsE_push {b : Nat} {W : World} {v : Value} {xs : List Ent} (h : OwnsE b W v xs) (hb : b ≤ W.heap.size) (x : Ent) (hl : xs.length ≤ 1000000000) :
    ∃ g' cap' w1, (Builtin.append_ #[56, 56] 56 #[v, .slice (some ⟨W.heap.size, 0, none⟩) 1 1]).run Try.prog (W.alloc (.cells #[.int .i64 x.at_, .slice x.A x.m x.c] 74)) = .ok (.slice (some ⟨g', 0, none⟩) (xs.length + 1) cap') w1 ∧
      OwnsE b w1 (.slice (some ⟨g', 0, none⟩) (xs.length + 1) cap') (xs ++ [x]) ∧ (W.alloc (.cells #[.int .i64 x.at_, .slice x.A x.m x.c] 74)).grownBy w1 v.ownBlock := by
  obtain ⟨i0, hi, hz0, hz1, hz2⟩ := info_parts info74
  have hc : ∀ j u, x.cells[j]? = some u → (W.alloc (.cells #[.int .i64 x.at_, .slice x.A x.m x.c] 74)).cell? ((⟨W.heap.size, 0, none⟩ : Addr).add j) = some u := by
    intro j u hu
    rw [addr0_add, cells_all (heap_alloc_new W _) j]
    rw [← hu]
    simp [Ent.cells]
  obtain ⟨v', w1, hrun, h1, hg, _⟩ := run_append_own (P := Try.prog) (W.alloc (.cells #[.int .i64 x.at_, .slice x.A x.m x.c] 74)) b 56 56 74 i0 (.agg #[.int .i64 0, .slice none 0 0]) 2 32 Try.underlying56 hi hz0 hz1 hz2 rfl (by decide)
    v xs.length (cellsE xs) (World.ownsRow.alloc h _) ⟨W.heap.size, 0, none⟩ 1 1 x.cells rfl hc (by simp [Ent.cells, Value.oneCell']) (le_maxLen (by omega)) (by omega) (by simp; omega)
  obtain ⟨g', cap', rfl⟩ := ownsRow_succ h1
  refine ⟨g', cap', w1, hrun, ?_, hg⟩
  unfold OwnsE
  rw [cellsE_snoc, List.length_append]
  exact h1

/-- A cells' block, said of by a word, is the caller's own. -/
theorem own_cells {β : Type} (B k : Nat) (cs : Array Value) (t : TypeId) : OwnFrom B (fun (_ : β) W => W.heap[k]? = some (.cells cs t (0, 0))) := fun s X Y row hs hg hr =>
  (hg.block k (Array.getElem?_eq_some_iff.1 hs).1 (fun e => by
    obtain ⟨_, o, ho, hc⟩ := hr k e.symm
    rw [hs] at ho
    injection ho with ho
    subst ho
    cases hc)).trans hs

theorem kept_row {b e : Nat} {sz : Nat} {X Y : World} {row : Option Nat} {v : Value} {n : Nat} {xs : List Value} (h : X.ownsRow b e sz v n xs) (hg : X.grownBy Y row) (hr : ∀ r, row = some r → ∃ o : Obj, X.heap[r]? = some o ∧ o.isCells = false) : Y.ownsRow b e sz v n xs := by
  refine h.kept hg ?_
  rcases h.2 with ⟨rfl, _⟩ | ⟨g, cap, cur, rfl, _, hgb, _⟩
  · exact .inl rfl
  · refine .inr fun e' => ?_
    obtain ⟨o, ho, hc⟩ := hr g (by rw [← e']; rfl)
    rw [hgb] at ho
    injection ho with ho
    subst ho
    cases hc

/-- What a round has done. -/
theorem collected {w W0 W w1 : World} {Av : Option Addr} {mv cv : Nat} {y : Int} {pre : List Ent} {x : Ent} {g' cap' : Nat} (hv : Boxed W w.heap.size 56 (.slice Av mv cv)) (he : Boxed W (w.heap.size + 1) 3 (.int .i64 y))
    (hrow : OwnsE W0.heap.size W (.slice Av mv cv) pre) (hBs : W0.heap.size ≤ W.heap.size) (hB : Below w.heap.size w W) (hsz : W0.heap.size = w.heap.size + 4)
    (h1 : OwnsE W0.heap.size w1 (.slice (some ⟨g', 0, none⟩) (pre.length + 1) cap') (pre ++ [x])) (hgr : (W.alloc (.cells #[.int .i64 x.at_, .slice x.A x.m x.c] 74)).grownBy w1 (Value.slice Av mv cv).ownBlock) (z : Int) :
    KeepsFrom W0.heap.size W ((w1.setCell ⟨w.heap.size, 0, none⟩ (.slice (some ⟨g', 0, none⟩) (pre.length + 1) cap')).setCell ⟨w.heap.size + 1, 0, none⟩ (.int .i64 z)) ∧
    Keeps (fun k => k < w.heap.size ∨ k = w.heap.size + 1 + 1 ∨ k = w.heap.size + 1 + 1 + 1) W ((w1.setCell ⟨w.heap.size, 0, none⟩ (.slice (some ⟨g', 0, none⟩) (pre.length + 1) cap')).setCell ⟨w.heap.size + 1, 0, none⟩ (.int .i64 z)) ∧
    Boxed ((w1.setCell ⟨w.heap.size, 0, none⟩ (.slice (some ⟨g', 0, none⟩) (pre.length + 1) cap')).setCell ⟨w.heap.size + 1, 0, none⟩ (.int .i64 z)) w.heap.size 56 (.slice (some ⟨g', 0, none⟩) (pre.length + 1) cap') ∧
    Boxed ((w1.setCell ⟨w.heap.size, 0, none⟩ (.slice (some ⟨g', 0, none⟩) (pre.length + 1) cap')).setCell ⟨w.heap.size + 1, 0, none⟩ (.int .i64 z)) (w.heap.size + 1) 3 (.int .i64 z) ∧
    OwnsE W0.heap.size ((w1.setCell ⟨w.heap.size, 0, none⟩ (.slice (some ⟨g', 0, none⟩) (pre.length + 1) cap')).setCell ⟨w.heap.size + 1, 0, none⟩ (.int .i64 z)) (.slice (some ⟨g', 0, none⟩) (pre.length + 1) cap') (pre ++ [x]) ∧
    Below w.heap.size w ((w1.setCell ⟨w.heap.size, 0, none⟩ (.slice (some ⟨g', 0, none⟩) (pre.length + 1) cap')).setCell ⟨w.heap.size + 1, 0, none⟩ (.int .i64 z)) ∧
    W0.heap.size ≤ ((w1.setCell ⟨w.heap.size, 0, none⟩ (.slice (some ⟨g', 0, none⟩) (pre.length + 1) cap')).setCell ⟨w.heap.size + 1, 0, none⟩ (.int .i64 z)).heap.size := by
  have hgl := World.ownsRow.lt hrow
  have n0 : some w.heap.size ≠ (Value.slice Av mv cv).ownBlock := fun e => by have := (hgl _ e.symm).1; omega
  have n1 : some (w.heap.size + 1) ≠ (Value.slice Av mv cv).ownBlock := fun e => by have := (hgl _ e.symm).1; omega
  have v1 := (hv.alloc (.cells #[.int .i64 x.at_, .slice x.A x.m x.c] 74)).kept hgr n0
  have e1 := (he.alloc (.cells #[.int .i64 x.at_, .slice x.A x.m x.c] 74)).kept hgr n1
  have hg' : W0.heap.size ≤ g' := (World.ownsRow.lt h1 g' rfl).1
  have hown : ∀ j, (Value.slice Av mv cv).ownBlock = some j → ∃ cs, W.heap[j]? = some (.cells cs 74 (0, 0)) := fun j hj => by
    rcases hrow.2 with ⟨e, _⟩ | ⟨g, cap, cur, e, _, hgb, _⟩
    · rw [e] at hj; cases hj
    · rw [e] at hj
      cases hj
      exact ⟨_, hgb⟩
  have hs1 : W.heap.size ≤ w1.heap.size := Nat.le_trans (by simp) hgr.size
  have ko : KeepsOthers W ((w1.setCell ⟨w.heap.size, 0, none⟩ (.slice (some ⟨g', 0, none⟩) (pre.length + 1) cap')).setCell ⟨w.heap.size + 1, 0, none⟩ (.int .i64 z)) := by
    refine (((KeepsOthers.alloc W (.cells #[.int .i64 x.at_, .slice x.A x.m x.c] 74)).trans (KeepsOthers.of_grownBy hgr fun j o ej hj => ?_)).trans (KeepsOthers.setCell _ _ _)).trans (KeepsOthers.setCell _ _ _)
    obtain ⟨cs, hcs⟩ := hown j ej
    rw [heap_alloc' hcs] at hj
    injection hj with hj
    rw [← hj]
    rfl
  refine ⟨ko.from _, ⟨ko.size, fun k o hk hp => ?_⟩, (v1.set _).other (by omega) _, (e1.other (by omega) _).set _, ?_, ?_, Nat.le_trans hBs ko.size⟩
  · have m0 : k ≠ w.heap.size := by
      rintro rfl
      rcases hp with hp | ⟨cs, rfl⟩
      · omega
      · have := hk.symm.trans hv; injection this with this; injection this with _ this _; cases this
    have m1 : k ≠ w.heap.size + 1 := by
      rintro rfl
      rcases hp with hp | ⟨cs, rfl⟩
      · omega
      · have := hk.symm.trans he; injection this with this; injection this with _ this _; cases this
    have m2 : some k ≠ (Value.slice Av mv cv).ownBlock := fun e => by
      obtain ⟨cs, hcs⟩ := hown k e.symm
      have := (hgl k e.symm).1
      rcases hp with hp | ⟨cs', rfl⟩
      · omega
      · have := hk.symm.trans hcs; injection this with this; injection this with _ this _; cases this
    exact heap_far (heap_far ((hgr.block k (by have := heap_lt hk; simp; omega) m2).trans (heap_alloc' hk _)) m0 _) m1 _
  · exact (World.ownsRow.kept h1 (grownBy_setCell' w1 w.heap.size _) (.inr (fun e => by injection e with e; simp at e; omega))).kept (grownBy_setCell' _ (w.heap.size + 1) _) (.inr (fun e => by injection e with e; simp at e; omega))
  · exact (((hB.alloc hB.size (.cells #[.int .i64 x.at_, .slice x.A x.m x.c] 74)).grown hgr (by have := hB.size; simp; omega) (fun k e => by have := (hgl k e).1; omega)).setCell (p := ⟨w.heap.size, 0, none⟩) (Nat.le_refl _) _).setCell (p := ⟨w.heap.size + 1, 0, none⟩) (by show w.heap.size ≤ w.heap.size + 1; omega) _

theorem row_base {w : World} {b b' e sz : Nat} {v : Value} {n : Nat} {xs : List Value} (h : w.ownsRow b e sz v n xs) (hb : b' ≤ b) : w.ownsRow b' e sz v n xs := by
  obtain ⟨h1, h2⟩ := h
  refine ⟨h1, ?_⟩
  rcases h2 with h2 | ⟨g, cap, cur, hv, hg, hh, hr⟩
  · exact Or.inl h2
  · exact Or.inr ⟨g, cap, cur, hv, Nat.le_trans hb hg, hh, hr⟩

/-- Behind the loop. -/
theorem scan_done {w W0 W : World} {xs : List Ent} {D : Nat} (hB : Below w.heap.size w W) (hsz : W0.heap.size = w.heap.size + 4) (hD : W0.heap.size ≤ D) (hK : W.heap[D]? = some (.deferred (some []))) (v z : Value) (o' : Obj) :
    (∀ {e sz : Nat} {u : Value} {n : Nat} {cs : List Value}, W.ownsRow W0.heap.size e sz u n cs → (((W.setCell ⟨w.heap.size, 0, none⟩ v).setCell ⟨w.heap.size + 1, 0, none⟩ z).drew.putObj D o').ownsRow w.heap.size e sz u n cs) ∧
    Out Zone.no w (((W.setCell ⟨w.heap.size, 0, none⟩ v).setCell ⟨w.heap.size + 1, 0, none⟩ z).drew.putObj D o') := by
  have k2 := (KeepsOthers.setCell (W.setCell ⟨w.heap.size, 0, none⟩ v) ⟨w.heap.size + 1, 0, none⟩ z).same D _ ((KeepsOthers.setCell W ⟨w.heap.size, 0, none⟩ v).same D _ hK rfl) rfl
  have k3 : ((W.setCell ⟨w.heap.size, 0, none⟩ v).setCell ⟨w.heap.size + 1, 0, none⟩ z).drew.heap[D]? = some (.deferred (some [])) := k2
  refine ⟨?_, ?_⟩
  · intro e sz u n cs h
    have hl := World.ownsRow.lt h
    have h2 := (h.kept (grownBy_setCell' W w.heap.size v) (.inr (fun e => by have := (hl _ e).1; omega))).kept (grownBy_setCell' (W.setCell ⟨w.heap.size, 0, none⟩ v) (w.heap.size + 1) z) (.inr (fun e => by have := (hl _ e).1; omega))
    have h3 : ((W.setCell ⟨w.heap.size, 0, none⟩ v).setCell ⟨w.heap.size + 1, 0, none⟩ z).drew.ownsRow W0.heap.size e sz u n cs := h2
    exact row_base (ownsRow_putObj h3 o' k3 rfl) (by omega)
  · have b2 := (hB.setCell (p := ⟨w.heap.size, 0, none⟩) (Nat.le_refl _) v).setCell (p := ⟨w.heap.size + 1, 0, none⟩) (by show w.heap.size ≤ w.heap.size + 1; omega) z
    exact Out.below ((b2.drew).trans (belowK_b (w := w) (Nat.le_refl _) _ D _ o' (by omega) k3 rfl rfl))

set_option maxRecDepth 100000 in
set_option maxHeartbeats 2000000 in
theorem scan_is (w : World) (base : Int) (v : Value) (L : List UInt8) (hr : Row Zone.no w v (bytes L)) (hl : L.length ≤ 100000000) (hba : -1000000000000 ≤ base ∧ base ≤ 1000000000000) :
    Calls Try.prog 30 #[.int .i64 base, v] w fun e w' => ∃ lv xs, e = .returned (.tuple #[lv, .int .i64 (endOf base xs)]) ∧ OwnsE w.heap.size w' lv xs ∧ xs.map Ent.key = recs base L 0 ∧ (∀ x ∈ xs, Owns w.heap.size w' x.v x.X) ∧ Out Zone.no w w' := by
  obtain ⟨A, c, rfl, hc1, hc2⟩ := hr.form
  obtain ⟨i0, hi, hz0, hz1, hz2⟩ := info_parts info74
  have HR := Lib.hid hr
  clear hr
  refine (callsIn_wide (n := 3)).1 ?_
  refine callsIn_of_wp_marks Try.func30 rfl trivial ?_ rfl
  simp only [Try.ntmps30, List.size_toArray, List.length_cons, List.length_nil, Nat.reduceAdd, Nat.reduceSub, Array.replicate_succ, Array.replicate_zero, List.push_toArray, List.append_toArray, List.nil_append, List.cons_append]
  gi_wp2_with (first
    | (refine ⟨trivial, ?_⟩; gi_at_call 64; refine (callsIn_wide.2 (records_is _ _ _ _ _)).mono ?_; rintro e w1 ⟨rfl, rfl⟩)
    | fail)
  have b0 := Boxed.new w 56 (.slice none 0 0)
  have b1 := Boxed.new (w.alloc (.cells #[.slice none 0 0] 56)) 3 (.int .i64 base)
  have b2 := Boxed.new ((w.alloc (.cells #[.slice none 0 0] 56)).alloc (.cells #[.int .i64 base] 3)) 3 (.int .i64 base)
  have b3 := Boxed.new (((w.alloc (.cells #[.slice none 0 0] 56)).alloc (.cells #[.int .i64 base] 3)).alloc (.cells #[.int .i64 base] 3)) 22 (.slice A L.length c)
  have q0 := ((b0.alloc (.cells #[.int .i64 base] 3)).alloc (.cells #[.int .i64 base] 3)).alloc (.cells #[.slice A L.length c] 22)
  have q1 := (b1.alloc (.cells #[.int .i64 base] 3)).alloc (.cells #[.slice A L.length c] 22)
  have q2 := b2.alloc (.cells #[.slice A L.length c] 22)
  have o0 := ((((Out.refl Zone.no w).alloc (.cells #[.slice none 0 0] 56)).alloc (.cells #[.int .i64 base] 3)).alloc (.cells #[.int .i64 base] 3)).alloc (.cells #[.slice A L.length c] 22)
  have be0 : Below w.heap.size w _ := ((((Below.refl w.heap.size w).alloc (Nat.le_refl _) (.cells #[.slice none 0 0] 56)).alloc (by simp) (.cells #[.int .i64 base] 3)).alloc (by simp; omega) (.cells #[.int .i64 base] 3)).alloc (by simp; omega) (.cells #[.slice A L.length c] 22)
  have hsz : ((((w.alloc (.cells #[.slice none 0 0] 56)).alloc (.cells #[.int .i64 base] 3)).alloc (.cells #[.int .i64 base] 3)).alloc (.cells #[.slice A L.length c] 22)).heap.size = w.heap.size + 4 := by simp
  simp only [World.size_alloc] at q0 q1 q2 b3
  obtain ⟨W0, hW0⟩ : ∃ W0, (((w.alloc (.cells #[.slice none 0 0] 56)).alloc (.cells #[.int .i64 base] 3)).alloc (.cells #[.int .i64 base] 3)).alloc (.cells #[.slice A L.length c] 22) = W0 := ⟨_, rfl⟩
  rw [hW0] at q0 q1 q2 b3 o0 hsz be0 ⊢
  clear hW0 b0 b1 b2
  have hPr : ∀ k, (k < w.heap.size ∨ k = w.heap.size + 1 + 1 ∨ k = w.heap.size + 1 + 1 + 1) → k < W0.heap.size := fun k hk => by omega
  refine wpIn_rangeFunc_tells (n := 3) rfl (by omega) (gf := 76) (lb := #[.pointer (some ⟨w.heap.size + 1 + 1 + 1, 0, none⟩), .pointer (some ⟨w.heap.size + 1 + 1, 0, none⟩)]) rfl trivial (enters_of Try.func76 (by kernel_rfl) rfl)
    (records1_tells 2 (by omega) (fun k => k < w.heap.size ∨ k = w.heap.size + 1 + 1 ∨ k = w.heap.size + 1 + 1 + 1) (w.heap.size + 1 + 1 + 1) (w.heap.size + 1 + 1) base (.slice A L.length c) L W0 hPr (Or.inr (Or.inr rfl)) (Or.inr (Or.inl rfl)) b3.cell q2.cell (row_inn o0 (fun k hk => Or.inl hk) HR.out) hl hba)
    Keeps.trans (fun W l o o' hl ho hc _ => ⟨by simp, fun k o2 hk hp => by
      have hne : k ≠ l := by
        rintro rfl
        rcases hp with hp | ⟨cs, rfl⟩
        · have := hPr k hp; omega
        · rw [hk] at ho; injection ho with ho; subst ho; cases hc
      exact (World.putObj_heap_other hne).trans hk⟩) (Below.refl _ _) (fun _ => rfl)
    (fun pre W => (∃ v, Boxed W w.heap.size 56 v ∧ Boxed W (w.heap.size + 1) 3 (.int .i64 (endOf base pre)) ∧ OwnsE W0.heap.size W v pre) ∧ Below w.heap.size w W ∧ W0.heap.size ≤ W.heap.size)
    ?hI ?hS ?h0 (fun x a' W => ∃ Bx, W0.heap.size ≤ Bx ∧ W.heap[Bx]? = some (.cells #[.int .i64 x.at_, .slice x.A x.m x.c] 74 (0, 0)) ∧
      a' = { tmps := #[Value.int IntKind.i64 base, Value.slice A L.length c, undef, undef,
          Value.pointer (some { block := w.heap.size, off := 0 }),
          Value.pointer (some { block := w.heap.size + 1, off := 0 }), .pointer (some ⟨Bx, 0, none⟩), .int .i64 x.to_, Value.int IntKind.i64 base,
          Value.int IntKind.i64 base, Value.slice A L.length c,
          Value.func (Fn.func 76) #[]
            #[Value.pointer (some { block := w.heap.size + 1 + 1 + 1, off := 0 }),
              Value.pointer (some { block := w.heap.size + 1 + 1, off := 0 })],
          .agg #[.int .i64 x.at_, .slice x.A x.m x.c], .int .i64 x.to_, undef, undef, undef, undef, undef, undef, undef], defers := [] }) ?hAx ?assign ?body ?done
  case hI =>
    refine OwnFrom.and ?_ (OwnFrom.and (ownFrom_below (Nat.le_refl _) (by omega)) (fun _ _ _ _ hs hg _ => Nat.le_trans hs hg.size))
    rintro s X Y row ⟨v, hv, he, hrow⟩ hgr hr
    have hne : ∀ {B t u}, Boxed X B t u → some B ≠ row := fun hb e => by
      obtain ⟨_, o, ho, hc⟩ := hr _ e.symm
      rw [show X.heap[_]? = _ from hb] at ho
      injection ho with ho
      subst ho
      cases hc
    exact ⟨v, hv.kept hgr (hne hv), he.kept hgr (hne he), kept_row hrow hgr (fun r e => (hr r e).2)⟩
  case hS =>
    rintro s X Y row ⟨hk, ho⟩ hgr hr
    exact ⟨hk, fun x hx => kept_row (ho x hx) hgr (fun r e => (hr r e).2)⟩
  case h0 => exact ⟨⟨_, q0, q1, World.ownsRow_nil _ _ _ _⟩, be0, Nat.le_refl _⟩
  case hAx =>
    rintro x a' s X Y row ⟨Bx, h1, h2, h3⟩ hgr hr
    exact ⟨Bx, h1, own_cells (β := Unit) _ _ _ _ s X Y row h2 hgr hr, h3⟩
  case assign =>
    rintro l pre x W K hI hK
    simp only [encE]
    gi_wp2
    obtain ⟨⟨v, hv, he, hrow⟩, hB, hBs⟩ := hI
    have hlt := he.lt
    refine hK _ _ ((KeepsOthers.alloc _ _).from _) ⟨by simp, fun k o hk _ => heap_alloc' hk _⟩ ⟨⟨v, hv.alloc _, he.alloc _, hrow.alloc _⟩, hB.alloc hB.size _, by simp; omega⟩ ⟨W.heap.size, hBs, heap_alloc_new W _, rfl⟩
  case body =>
    rintro l pre x a' W hl' ⟨⟨v, hv, he, hrow⟩, hB, hBs⟩ ⟨Bx, hBx, hx, rfl⟩ hlen
    obtain ⟨Av, mv, cv', rfl⟩ := ownsE_form hrow
    have c0 := cells_all hx 0
    have c1 := cells_all hx 1
    have cv := hv.cell
    have ce := he.cell
    have fe := he.frozen
    have HV := Lib.hid hv
    have HE := Lib.hid he
    have HRO := Lib.hid hrow
    have HBB := Lib.hid hB
    have hgl := World.ownsRow.lt hrow
    have hrl := recs_length base L 0
    have h2v := he.lt
    obtain ⟨g', cap', w1, hrun, h1, hgr⟩ := ownsE_push hrow hBs x (by omega)
    have n0 : some w.heap.size ≠ (Value.slice Av mv cv').ownBlock := fun e => by have := (hgl _ e.symm).1; omega
    have n1 : some (w.heap.size + 1) ≠ (Value.slice Av mv cv').ownBlock := fun e => by have := (hgl _ e.symm).1; omega
    have v1 := (hv.alloc (.cells #[.int .i64 x.at_, .slice x.A x.m x.c] 74)).kept hgr n0
    have e1 := (he.alloc (.cells #[.int .i64 x.at_, .slice x.A x.m x.c] 74)).kept hgr n1
    have f1 := v1.frozen
    have f2 := e1.frozen
    have cv1 := v1.cell
    have ce1 := e1.cell
    have HRUN := Lib.hid hrun
    have HFIN := Lib.hid (collected hv he hrow hBs hB hsz h1 hgr x.to_)
    clear hv he hrow hB hx hi hz0 hz1 hz2 hPr be0 o0 q0 q1 q2 b3 hlen hl' hBx hba hl hsz hrun h1 hgr hgl v1 e1 n0 n1 hrl h2v hBs
    gi_wp2_with (gi_at_builtin; refine wpListIn_builtin rfl _ _ _ rfl HRUN.out ?_)
    obtain ⟨k1, k2, k3, k4, k5, k6, k7⟩ := HFIN.out
    exact ⟨k1, k2, ⟨_, k3, by rw [endOf_snoc]; exact k4, k5⟩, k6, k7⟩
  case done =>
    rintro D xs W hD ⟨hk, ho⟩ ⟨⟨v, hv, he, hrow⟩, hB, hBs⟩ hK
    obtain ⟨Av, mv, cv', rfl⟩ := ownsE_form hrow
    have cv := hv.cell
    have ce := he.cell
    have fv := hv.frozen
    have fe := he.frozen
    have HV := Lib.hid hv
    have HE := Lib.hid he
    have HF := Lib.hid (scan_done (xs := xs) hB hsz hD hK (.slice Av mv cv') (.int .i64 (endOf base xs)) (.deferred none))
    have HRO := Lib.hid hrow
    have HKK := Lib.hid hk
    have HO := Lib.hid ho
    clear hv he hrow hB hk ho hi hz0 hz1 hz2 hPr be0 o0 q0 q1 q2 b3
    gi_wp2
    gi_region
    have v2 := (HV.out.set (.slice Av mv cv')).other (B' := w.heap.size + 1) (by omega) (.int .i64 (endOf base xs))
    have e2 := (HE.out.other (B' := w.heap.size) (by omega) (.slice Av mv cv')).set (.int .i64 (endOf base xs))
    have k2 := (KeepsOthers.setCell (W.setCell ⟨w.heap.size, 0, none⟩ (.slice Av mv cv')) ⟨w.heap.size + 1, 0, none⟩ (.int .i64 (endOf base xs))).same D _ ((KeepsOthers.setCell W ⟨w.heap.size, 0, none⟩ (.slice Av mv cv')).same D _ hK rfl) rfl
    have g1 := grownBy_setCell' W w.heap.size (.slice Av mv cv')
    have g2 := grownBy_setCell' (W.setCell ⟨w.heap.size, 0, none⟩ (.slice Av mv cv')) (w.heap.size + 1) (.int .i64 (endOf base xs))
    obtain ⟨W2, hW2⟩ : ∃ W2, ((W.setCell { block := w.heap.size, off := 0 } (Value.slice Av mv cv')).setCell { block := w.heap.size + 1, off := 0 } (Value.int IntKind.i64 (endOf base xs))) = W2 := ⟨_, rfl⟩
    rw [hW2] at v2 e2 k2 g2 HF ⊢
    have k3 : W2.drew.heap[D]? = some (.deferred (some [])) := k2
    have v3 : Boxed W2.drew w.heap.size 56 (.slice Av mv cv') := v2
    have e3 : Boxed W2.drew (w.heap.size + 1) 3 (.int .i64 (endOf base xs)) := e2
    have v4 := (v3.kept (grownBy_putObj' _ D (.deferred none)) (fun e => by cases e; rw [show W2.drew.heap[_]? = _ from v3] at k3; cases k3)).cell
    have e4 := (e3.kept (grownBy_putObj' _ D (.deferred none)) (fun e => by cases e; rw [show W2.drew.heap[_]? = _ from e3] at k3; cases k3)).cell
    have HG1 := Lib.hid g1
    have HG2 := Lib.hid g2
    clear hW2 v2 e2 k2 g1 g2 v3 e3 cv ce fv fe hK
    gi_wp2
    refine ⟨by simp, .inl ⟨_, _, rfl, run_takeDeferred k3, ?_⟩⟩
    refine ⟨.tuple #[.slice Av mv cv', .int .i64 (endOf base xs)], ?_, ?_⟩
    · simp [results, Try.results30, v4, e4, go_sem]
    · exact ⟨_, xs, rfl, HF.out.1 HRO.out, HKK.out, fun x hx => HF.out.1 (HO.out x hx), HF.out.2⟩
end Go.Proofs.Ytddcojikbcbihaa
