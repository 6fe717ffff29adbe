import Derived.Test.YtlgoenimjmiapaaGreatT02
import Derived.Deep.RegionLaw
import Derived.Deep.DeepCutAuto
import Derived.Deep.CutBlock
set_option linter.unusedSimpArgs false
set_option linter.unusedVariables false
set_option linter.unusedSectionVars false
/-! A note changes a state. -/
set_option linter.unusedVariables false
namespace Go.Proofs.YtlgoenimjmiapaaGreat
open Go.RowKit

/-- append onto a row that grows, in a region that draws. -/
theorem step_gappend {ops : Array Oper} {o : Oper} {a : Act} {w : World} {K : Act → World → Prop} {Q : Exit → Act → World → Prop} {E : Prop}
    (hg : o.guard = none) (s x : Operand) (t : TypeId) (hop : o.op = Op.call { callee := Callee.builtin Builtin.append, args := #[s, x], argTypes := #[t, t] })
    {e : TypeId} {z : Value} {sz by_ : Nat} (El : ElemN Tryz.prog t e z sz by_) (n : Nat) (xs : List Value) (hv : GR w e sz (a.eval s) n xs) (g : Nat) (m : Nat) (news : List Value) (hx : a.eval x = .slice (some ⟨g, 0, none⟩) m m)
    (hl : news.length = m * sz) (hn : ∀ j u, news[j]? = some u → w.cell? ⟨g, j, none⟩ = some u) (h1 : ∀ u ∈ news, u.oneCell' = true) (h63 : n + m ≤ maxLen) (hb : (n + m) * by_ ≤ 140737488355328)
    (hK : ∀ v' w', GR w' e sz v' (n + m) (xs ++ news) → w.grownBy w' (a.eval s).ownBlock → (v'.ownBlock = (a.eval s).ownBlock ∨ v'.ownBlock = some w.heap.size) → K (a.put o.dst v') w') :
    if Region.wanted o (yielded ops a.tmps) = true then Oper.wp Tryz.prog o a w K Q else E := by
  obtain ⟨v', w', hrun, h2, h3, h4⟩ := GRow.append El hv o.type ⟨g, 0, none⟩ m m news hl (fun j u hu => by rw [addr0_add]; exact hn j u hu) h1 h63 hb
  have hw : Region.wanted o (yielded ops a.tmps) = true := by simp [Region.wanted, hg]
  rw [if_pos hw]
  unfold Oper.wp
  simp [execOp, hop, resolve, invoke, builtin, hrun, hx, Result.andThen]
  exact hK v' w' (h2.wide (fun _ _ => trivial)) h3 h4

theorem run_cut {t e : TypeId} {z : Value} {sz by_ : Nat} (E : ElemN Tryz.prog t e z sz by_) (A : Option Addr) (n c k : Nat) (hk : k ≤ c) (W : World) :
    (Instr.slice t (.slice A n c) none (some (.int .i64 (k : Int))) (some (.int .i64 (k : Int)))).run Tryz.prog W = .ok (.slice A k k) W := by
  obtain ⟨hu, ⟨i, hi1, hz, hsz, hby⟩, hz1, hp⟩ := E
  have e0 : A.map (·.add 0) = A := by cases A <;> simp [Addr.add]
  simp [Instr.slice, run_underlying hu, Instr.sliceBounds, Instr.sliceBound, sizeOf, typeInfo, hi1, hsz, hk, asIntOf]
  intro _
  exact e0
theorem GRow.cut' {M : Nat → Prop} {w : World} {e : TypeId} {sz : Nat} {A : Option Addr} {n c : Nat} {xs : List Value} (h : GRow M w e sz (.slice A n c) n xs) {k : Nat} (hk : k ≤ n) : GRow M w e sz (.slice A k k) k (xs.take (k * sz)) := by
  have hks : k * sz ≤ n * sz := Nat.mul_le_mul_right _ hk
  refine ⟨by rw [List.length_take, h.1]; omega, ?_⟩
  rcases h.2 with ⟨hv, h0⟩ | ⟨g, cap, cur, hv, hm, hh, h1, h2, h3, h4⟩
  · injection hv with e1 e2 e3
    obtain rfl : k = 0 := by omega
    exact Or.inl ⟨by rw [e1], rfl⟩
  · injection hv with e1 e2 e3
    subst e1
    refine Or.inr ⟨g, k, cur, rfl, hm, hh, Nat.le_refl _, Nat.le_trans hk (Nat.le_trans h1 h2), Nat.le_trans (Nat.mul_le_mul_right _ (Nat.le_trans hk h1)) h3, ?_⟩
    rw [← h4, List.take_take, Nat.min_eq_left hks]
theorem GRow.caps {M : Nat → Prop} {w : World} {e : TypeId} {sz : Nat} {A : Option Addr} {n c : Nat} {xs : List Value} (h : GRow M w e sz (.slice A n c) n xs) : n ≤ c := by
  rcases h.2 with ⟨hv, h0⟩ | ⟨g, cap, cur, hv, hm, hh, h1, h2, h3, h4⟩
  · omega
  · injection hv with e1 e2 e3
    omega
/-- The blocks that a state's notes turn. -/
def stZ (b : Nat) (lv : Value) : Zone := Zone.m (fun k => k = b ∨ lv.ownBlock = some k)

def NoteOk (b : Nat) (T : TypeId) (rest : List Value) (lv : Value) (s : St) (x : Option St) (w : World) (e : Ending) (w' : World) : Prop :=
  e = .returned (.bool x.isSome) ∧ ∃ lv', StAt w' b T (x.getD s).ep (x.getD s).voted lv' rest ∧ GR w' 34 2 lv' (x.getD s).log.length (encL (x.getD s).log) ∧ Out (stZ b lv) w w' ∧ ∀ k, lv'.ownBlock = some k → lv.ownBlock = some k ∨ w.heap.size ≤ k

section
variable {w : World} {b : Nat} {T : TypeId} {s : St} {lv : Value} {rest : List Value}
theorem StAt.drew {ep voted : Int} (h : StAt w b T ep voted lv rest) : StAt w.drew b T ep voted lv rest := h
theorem NoteOk.drew {x : Option St} {e : Ending} {w' : World} (h : NoteOk b T rest lv s x w e w') : NoteOk b T rest lv s x w e w'.drew := by
  obtain ⟨h1, lv', h2, h3, h4, h5⟩ := h
  exact ⟨h1, lv', h2, GRow.any h3 ((Out.refl Zone.no w').drew), h4.drew, h5⟩
theorem noteOk_none (hs : StAt w b T s.ep s.voted lv rest) (hg : GR w 34 2 lv s.log.length (encL s.log)) {w' : World} (ho : Out Zone.no w w') : NoteOk b T rest lv s none w (.returned (.bool false)) w' :=
  ⟨rfl, lv, hs.any ho, GRow.any hg ho, ho.mono0, fun k hk => Or.inl hk⟩

theorem StAt.set {w : World} {b : Nat} {T : TypeId} {ep voted : Int} {lv : Value} {rest : List Value} (h : StAt w b T ep voted lv rest) :
    (∀ x, StAt (w.setCell ⟨b, 0, none⟩ (.int .i64 x)) b T x voted lv rest) ∧ (∀ x, StAt (w.setCell ⟨b, 1, none⟩ (.int .i64 x)) b T ep x lv rest) ∧ (∀ v, StAt (w.setCell ⟨b, 2, none⟩ v) b T ep voted v rest) := by
  refine ⟨fun x => ?_, fun x => ?_, fun x => ?_⟩
  · have := heap_set h 0 (.int .i64 x); unfold StAt; rw [this]; simp
  · have := heap_set h 1 (.int .i64 x); unfold StAt; rw [this]; simp
  · have := heap_set h 2 x; unfold StAt; rw [this]; simp
theorem gr_set {w : World} {e : TypeId} {sz : Nat} {v : Value} {n : Nat} {xs : List Value} (h : GR w e sz v n xs) {a : Addr} (ha : v.ownBlock ≠ some a.block) (u : Value) : GR (w.setCell a u) e sz v n xs :=
  GRow.keep h (fun g hg => Below.heap_setCell w a u g (fun e => ha (by rw [hg, e]))) (fun _ _ => trivial)
theorem noteOk_vote (hs : StAt w b T s.ep s.voted lv rest) (hg : GR w 34 2 lv s.log.length (encL s.log)) (hb : lv.ownBlock ≠ some b) (ep n : Int) {W : World} (ho : Out Zone.no w W) :
    NoteOk b T rest lv s (some { s with ep := ep, voted := n }) w (.returned (.bool true)) ((W.setCell ⟨b, 0, none⟩ (.int .i64 ep)).setCell ⟨b, 1, none⟩ (.int .i64 n)) ∧
    NoteOk b T rest lv s (some { s with ep := ep, voted := n }) w (.returned (.bool true)) ((W.setCell ⟨b, 1, none⟩ (.int .i64 n)).setCell ⟨b, 0, none⟩ (.int .i64 ep)) := by
  have hS := hs.any ho
  have hG := GRow.any hg ho
  have oz : Out (stZ b lv) w W := ho.mono0
  refine ⟨⟨rfl, lv, ((hS.set.1 ep).set.2.1 n), gr_set (gr_set hG hb _) hb _, (oz.setCell (Or.inl (Or.inl rfl)) _).setCell (Or.inl (Or.inl rfl)) _, fun k hk => Or.inl hk⟩,
    ⟨rfl, lv, ((hS.set.2.1 n).set.1 ep), gr_set (gr_set hG hb _) hb _, (oz.setCell (Or.inl (Or.inl rfl)) _).setCell (Or.inl (Or.inl rfl)) _, fun k hk => Or.inl hk⟩⟩

theorem noteOk_log (hs : StAt w b T s.ep s.voted lv rest) (hb : lv.ownBlock ≠ some b) {W : World} (hS : StAt W b T s.ep s.voted lv rest) (ho : Out (stZ b lv) w W) {v' : Value} {l : List Ent} (hG : GR W 34 2 v' l.length (encL l)) (hv : ∀ k, v'.ownBlock = some k → k ≠ b ∧ (lv.ownBlock = some k ∨ w.heap.size ≤ k)) :
    NoteOk b T rest lv s (some { s with log := l }) w (.returned (.bool true)) (W.setCell ⟨b, 2, none⟩ v') :=
  ⟨rfl, v', hS.set.2.2 v', gr_set hG (fun e => (hv b e).1 rfl) _, ho.setCell (Or.inl (Or.inl rfl)) _, fun k hk => (hv k hk).2⟩

theorem noteOk_put (hs : StAt w b T s.ep s.voted lv rest) (hb : lv.ownBlock ≠ some b) (hblt : b < w.heap.size) {W w' : World} (ho : Out Zone.no w W) {v' : Value} (x : Ent)
    (hg : GR w' 34 2 v' (s.log.length + 1) (encL s.log ++ [.int .i64 x.ep, .string (str x.data)])) (hgr : W.grownBy w' lv.ownBlock) (hat : v'.ownBlock = lv.ownBlock ∨ v'.ownBlock = some W.heap.size) :
    NoteOk b T rest lv s (some { s with log := s.log ++ [x] }) w (.returned (.bool true)) (w'.setCell ⟨b, 2, none⟩ v') ∧ StAt w' b T s.ep s.voted lv rest := by
  have hsz := ho.size
  have hS : StAt w' b T s.ep s.voted lv rest := (hgr.block b (by omega) (fun e => hb e.symm)).trans (hs.any ho)
  refine ⟨noteOk_log hs hb hS (ho.mono0.grown hgr (fun k hk => Or.inl (Or.inr hk))) ?_ ?_, hS⟩
  · rw [List.length_append, encL_append]
    exact hg
  · intro k hk
    rcases hat with e | e
    · rw [e] at hk
      exact ⟨fun e' => hb (by rw [← e']; exact hk), Or.inl hk⟩
    · rw [hk] at e
      injection e with e
      exact ⟨by omega, Or.inr (by omega)⟩

set_option maxRecDepth 100000 in
set_option maxHeartbeats 2000000 in
theorem note_big (hs : StAt w b T s.ep s.voted lv rest) (hg : GR w 34 2 lv s.log.length (encL s.log)) (hl : s.log.length ≤ 1000000000) (hb : lv.ownBlock ≠ some b) (k ep n ee : Int) (d : List UInt8) (hd : d.length ≤ 9223372036854775807) :
    Calls Tryz.prog 76 #[.pointer (some ⟨b, 0, none⟩), .agg #[.int .i64 k, .int .i64 ep, .int .i64 n, .int .i64 ee, .string (str d)]] w (NoteOk b T rest lv s (s.note ⟨k, ep, n, ⟨ee, d⟩⟩) w) := by
  obtain ⟨AL, cL, rfl⟩ := GRow.form hg
  have o1 := (Out.refl Zone.no w).alloc (.cells #[.int .i64 k, .int .i64 ep, .int .i64 n, .int .i64 ee, .string (str d)] 36)
  have hblt : b < w.heap.size := heap_lt hs
  have RI := nright_is (w.alloc (.cells #[.int .i64 k, .int .i64 ep, .int .i64 n, .int .i64 ee, .string (str d)] 36)) k ep n ee d hd
  have hpb : (w.alloc (.cells #[.int .i64 k, .int .i64 ep, .int .i64 n, .int .i64 ee, .string (str d)] 36)).heap[w.heap.size]? = some (.cells #[.int .i64 k, .int .i64 ep, .int .i64 n, .int .i64 ee, .string (str d)] 36 (0, 0)) := heap_alloc_new w _
  have c2 := (hs.any o1).c2
  have HRI := Lib.hid RI
  have HPB := Lib.hid hpb
  have HS := Lib.hid hs
  have HG := Lib.hid hg
  have HO1 := Lib.hid o1
  have HB := Lib.hid hb
  have HBL := Lib.hid hblt
  by_cases hr : Nt.right ⟨k, ep, n, ⟨ee, d⟩⟩ = false
  · have hx : s.note ⟨k, ep, n, ⟨ee, d⟩⟩ = none := by unfold St.note; rw [if_pos hr]
    rw [hx]
    rw [hr] at HRI
    clear RI hpb hs hg o1 hb hblt hx hr
    go_enter Tryz.func76, Tryz.ntmps76
    go_wp2_with (go_at_call 19; refine HRI.out.mono ?_; rintro e w2 ⟨rfl, ho2⟩; have HO2 := Lib.hid (HO1.out.trans ho2); clear ho2)
    go_ret
    exact noteOk_none HS.out HG.out HO2.out
  · have hr' : Nt.right ⟨k, ep, n, ⟨ee, d⟩⟩ = true := by simpa using hr
    rw [hr'] at HRI
    have hx : s.note ⟨k, ep, n, ⟨ee, d⟩⟩ = if k = 1 then if ep < s.ep ∨ ep = s.ep ∧ s.voted ≠ -1 ∧ n ≠ s.voted then none else some { s with ep := ep, voted := n }
        else if k = 2 then if (s.log.length : Int) < n then none else some { s with log := s.log.take n.toNat }
        else if ee < s.last s.log.length ∨ s.ep < ee then none else some { s with log := s.log ++ [⟨ee, d⟩] } := by unfold St.note; rw [if_neg hr]
    obtain ⟨X, hX⟩ : ∃ X, s.note ⟨k, ep, n, ⟨ee, d⟩⟩ = X := ⟨_, rfl⟩
    rw [hX] at hx ⊢
    have HX := Lib.hid hx
    have HNR := Lib.hid hr'
    clear RI hpb hs hg o1 hb hblt hx hr hr' hX
    go_enter Tryz.func76, Tryz.ntmps76
    go_upto_region 7 with (first | (go_at_call 19; refine HRI.out.mono ?_; rintro e w2 ⟨rfl, ho2⟩; have HO2 := Lib.hid (HO1.out.trans ho2); have q := ho2.get HPB.out id; clear ho2) | fail)
    have q0 := cells_all q 0
    have q1 := cells_all q 1
    have q2 := cells_all q 2
    have q3 := cells_all q 3
    have q4 := cells_all q 4
    have S2 := Lib.hid (HS.out.any HO2.out)
    have G2 := Lib.hid (GRow.any HG.out HO2.out)
    have c0 := S2.out.c0
    have c1 := S2.out.c1
    have d2 := S2.out.c2
    clear c2
    have c2 := d2
    clear d2
    have f0 := S2.out.fr 0
    have f1 := S2.out.fr 1
    have f2 := S2.out.fr 2
    clear q
    have hn1 : b ≠ w.heap.size := Nat.ne_of_lt HBL.out
    obtain ⟨g, hg⟩ : ∃ g, w.heap.size = g := ⟨_, rfl⟩
    rw [hg] at q0 q1 q2 q3 q4 hn1 ⊢
    have hn2 : g ≠ b := Ne.symm hn1
    have HGW := Lib.hid hg
    clear hg
    by_cases k1 : k = 1
    · subst k1
      have HX1 : Hid (X = if ep < s.ep ∨ ep = s.ep ∧ s.voted ≠ -1 ∧ n ≠ s.voted then none else some { s with ep := ep, voted := n }) := by
        have h := HX.out
        rw [if_pos rfl] at h
        exact h
      clear HX
      by_cases h1 : ep < s.ep
      · have HN : Hid (X = none) := by show _ = _; rw [HX1.out, if_pos (Or.inl h1)]
        clear HX1
        go_wp2_with fail
        go_quiet (fail)
        all_goals
          go_wp2_with fail
          go_ret
          rw [HN.out]; exact noteOk_none HS.out HG.out (HO2.out.drewN _)
      · by_cases h2 : ep = s.ep
        · by_cases h3 : s.voted = -1
          · have HN : Hid (X = some { s with ep := ep, voted := n }) := by show _ = _; rw [HX1.out, if_neg (by intro h; rcases h with h | h; exact h1 h; exact h.2.1 h3)]
            clear HX1
            subst h2
            go_wp2_with fail
            go_quiet (fail)
            all_goals
              go_wp2_with fail
              obtain ⟨W, hW⟩ : ∃ W, w2.drewN nq = W := ⟨_, rfl⟩
              have HOW : Hid (Out Zone.no w W.drew) := by show Out _ _ _; rw [← hW]; exact (HO2.out.drewN _).drew
              have C0 : W.drew.cell? ⟨b, 0, none⟩ = some (.int .i64 s.ep) := by rw [← hW]; exact c0
              have C1 : W.drew.cell? ⟨b, 1, none⟩ = some (.int .i64 s.voted) := by rw [← hW]; exact c1
              have C0' : W.cell? ⟨b, 0, none⟩ = some (.int .i64 s.ep) := C0
              have C1' : W.cell? ⟨b, 1, none⟩ = some (.int .i64 s.voted) := C1
              have F0 : W.drew.frozen? ⟨b, 0, none⟩ = false := by rw [← hW]; exact f0
              have F1 : W.drew.frozen? ⟨b, 1, none⟩ = false := by rw [← hW]; exact f1
              have F0' : W.frozen? ⟨b, 0, none⟩ = false := F0
              have F1' : W.frozen? ⟨b, 1, none⟩ = false := F1
              have Q1 : W.drew.cell? ⟨g, 1, none⟩ = some (.int .i64 s.ep) := by rw [← hW]; exact q1
              have Q1' : W.cell? ⟨g, 1, none⟩ = some (.int .i64 s.ep) := Q1
              have Q2 : W.drew.cell? ⟨g, 2, none⟩ = some (.int .i64 n) := by rw [← hW]; exact q2
              have Q2' : W.cell? ⟨g, 2, none⟩ = some (.int .i64 n) := Q2
              rw [hW]
              clear hW c0 c1 c2 f0 f1 f2 q0 q1 q2 q3 q4
              go_region
              all_goals
                go_wp2_with fail
                go_ret
                rw [HN.out]
                first | exact (noteOk_vote HS.out HG.out HB.out s.ep n HOW.out).1 | exact (noteOk_vote HS.out HG.out HB.out s.ep n HOW.out).2
          · by_cases h4 : n = s.voted
            · have HN : Hid (X = some { s with ep := ep, voted := n }) := by show _ = _; rw [HX1.out, if_neg (by intro h; rcases h with h | h; exact h1 h; exact h.2.2 h4)]
              clear HX1
              subst h2 h4
              go_wp2_with fail
              go_quiet (fail)
              all_goals
                go_wp2_with fail
                obtain ⟨W, hW⟩ : ∃ W, w2.drewN nq = W := ⟨_, rfl⟩
                have HOW : Hid (Out Zone.no w W.drew) := by show Out _ _ _; rw [← hW]; exact (HO2.out.drewN _).drew
                have C0 : W.drew.cell? ⟨b, 0, none⟩ = some (.int .i64 s.ep) := by rw [← hW]; exact c0
                have C1 : W.drew.cell? ⟨b, 1, none⟩ = some (.int .i64 s.voted) := by rw [← hW]; exact c1
                have C0' : W.cell? ⟨b, 0, none⟩ = some (.int .i64 s.ep) := C0
                have C1' : W.cell? ⟨b, 1, none⟩ = some (.int .i64 s.voted) := C1
                have F0 : W.drew.frozen? ⟨b, 0, none⟩ = false := by rw [← hW]; exact f0
                have F1 : W.drew.frozen? ⟨b, 1, none⟩ = false := by rw [← hW]; exact f1
                have F0' : W.frozen? ⟨b, 0, none⟩ = false := F0
                have F1' : W.frozen? ⟨b, 1, none⟩ = false := F1
                have Q1 : W.drew.cell? ⟨g, 1, none⟩ = some (.int .i64 s.ep) := by rw [← hW]; exact q1
                have Q1' : W.cell? ⟨g, 1, none⟩ = some (.int .i64 s.ep) := Q1
                have Q2 : W.drew.cell? ⟨g, 2, none⟩ = some (.int .i64 s.voted) := by rw [← hW]; exact q2
                have Q2' : W.cell? ⟨g, 2, none⟩ = some (.int .i64 s.voted) := Q2
                rw [hW]
                clear hW c0 c1 c2 f0 f1 f2 q0 q1 q2 q3 q4
                go_region
                all_goals
                  go_wp2_with fail
                  go_ret
                  rw [HN.out]
                  first | exact (noteOk_vote HS.out HG.out HB.out s.ep s.voted HOW.out).1 | exact (noteOk_vote HS.out HG.out HB.out s.ep s.voted HOW.out).2
            · have HN : Hid (X = none) := by show _ = _; rw [HX1.out, if_pos (Or.inr ⟨h2, h3, h4⟩)]
              clear HX1
              subst h2
              have e3 : (s.voted != -1) = true := by simp [bne, h3]
              have e4 : (n != s.voted) = true := by simp [bne, h4]
              have e5 : (n == s.voted) = false := by simpa using h4
              have e6 : (s.voted == -1) = false := by simpa using h3
              go_wp2_with fail
              go_quiet (fail)
              go_wp2_with fail
              all_goals first
                | (go_ret; rw [HN.out]; exact noteOk_none HS.out HG.out (HO2.out.drewN _))
                | (go_ways; fail)
        · have HN : Hid (X = some { s with ep := ep, voted := n }) := by show _ = _; rw [HX1.out, if_neg (by intro h; rcases h with h | h; exact h1 h; exact h2 h.1)]
          clear HX1
          have e2 : (ep == s.ep) = false := by simpa using h2
          have h5 : s.ep < ep := by omega
          have d1 : decide (ep < s.ep) = false := by simpa using h1
          clear h1 h2
          go_wp2_with fail
          go_quiet (fail)
          all_goals
            go_wp2_with fail
            obtain ⟨W, hW⟩ : ∃ W, w2.drewN nq = W := ⟨_, rfl⟩
            have HOW : Hid (Out Zone.no w W.drew) := by show Out _ _ _; rw [← hW]; exact (HO2.out.drewN _).drew
            have C0 : W.drew.cell? ⟨b, 0, none⟩ = some (.int .i64 s.ep) := by rw [← hW]; exact c0
            have C1 : W.drew.cell? ⟨b, 1, none⟩ = some (.int .i64 s.voted) := by rw [← hW]; exact c1
            have C0' : W.cell? ⟨b, 0, none⟩ = some (.int .i64 s.ep) := C0
            have C1' : W.cell? ⟨b, 1, none⟩ = some (.int .i64 s.voted) := C1
            have F0 : W.drew.frozen? ⟨b, 0, none⟩ = false := by rw [← hW]; exact f0
            have F1 : W.drew.frozen? ⟨b, 1, none⟩ = false := by rw [← hW]; exact f1
            have F0' : W.frozen? ⟨b, 0, none⟩ = false := F0
            have F1' : W.frozen? ⟨b, 1, none⟩ = false := F1
            have Q1 : W.drew.cell? ⟨g, 1, none⟩ = some (.int .i64 ep) := by rw [← hW]; exact q1
            have Q1' : W.cell? ⟨g, 1, none⟩ = some (.int .i64 ep) := Q1
            have Q2 : W.drew.cell? ⟨g, 2, none⟩ = some (.int .i64 n) := by rw [← hW]; exact q2
            have Q2' : W.cell? ⟨g, 2, none⟩ = some (.int .i64 n) := Q2
            rw [hW]
            clear hW c0 c1 c2 f0 f1 f2 q0 q1 q2 q3 q4
            go_region
            all_goals
              go_wp2_with fail
              go_ret
              rw [HN.out]
              first | exact (noteOk_vote HS.out HG.out HB.out ep n HOW.out).1 | exact (noteOk_vote HS.out HG.out HB.out ep n HOW.out).2
    · by_cases k2 : k = 2
      · subst k2
        have HX1 : Hid (X = if (s.log.length : Int) < n then none else some { s with log := s.log.take n.toNat }) := by
          have h := HX.out
          rw [if_neg (by omega), if_pos rfl] at h
          exact h
        clear HX
        have hR := HNR.out
        unfold Nt.right at hR
        simp only [if_neg (show ¬ (2 : Int) = 1 by omega), if_true, Bool.and_eq_true] at hR
        have hin := hR.2
        unfold inB at hin
        simp only [Bool.and_eq_true, decide_eq_true_eq] at hin
        obtain ⟨N, rfl⟩ : ∃ N : Nat, n = (N : Int) := ⟨n.toNat, by omega⟩
        clear hR hin
        by_cases hgt : (s.log.length : Int) < (N : Int)
        · have HN : Hid (X = none) := by show _ = _; rw [HX1.out, if_pos hgt]
          clear HX1
          go_wp2_with fail
          all_goals
            go_ret
            rw [HN.out]; exact noteOk_none HS.out HG.out HO2.out
        · have HN : Hid (X = some { s with log := s.log.take N }) := by show _ = _; rw [HX1.out, if_neg hgt, Int.toNat_natCast]
          clear HX1
          have hcap := GRow.caps HG.out
          have hcut := fun W => run_cut elem47 AL s.log.length cL N (by omega) W
          have HC : Hid (GR w2 34 2 (.slice AL N N) (s.log.take N).length (encL (s.log.take N))) := by
            have h := GRow.cut' G2.out (k := N) (by omega)
            show GR _ _ _ _ _ _
            rw [List.length_take, Nat.min_eq_left (by omega), encL_take]
            exact h
          have OWN : Hid (∀ k, (Value.slice AL N N).ownBlock = some k → k ≠ b ∧ ((Value.slice AL s.log.length cL).ownBlock = some k ∨ w.heap.size ≤ k)) := fun k hk => by
            have hk' : (Value.slice AL s.log.length cL).ownBlock = some k := by cases AL <;> exact hk
            exact ⟨fun e => HB.out (by rw [← e]; exact hk'), Or.inl hk'⟩
          go_wp2_with fail
          have HOW : Hid (Out Zone.no w w2.drew) := HO2.out.drew
          have C2 : w2.drew.cell? ⟨b, 2, none⟩ = some (.slice AL s.log.length cL) := c2
          have F2 : w2.drew.frozen? ⟨b, 2, none⟩ = false := f2
          have Q2 : w2.drew.cell? ⟨g, 2, none⟩ = some (.int .i64 (N : Int)) := q2
          clear c0 c1 f0 f1 q0 q1 q3 q4
          go_region
          all_goals
            go_wp2_with fail
            go_ret
            rw [HN.out]
            first
            | exact noteOk_log HS.out HB.out (S2.out.any (Out.refl _ _)).drew (HOW.out.mono0) (GRow.any HC.out ((Out.refl Zone.no w2).drew)) OWN.out
            | exact NoteOk.drew (noteOk_log HS.out HB.out S2.out HO2.out.mono0 HC.out OWN.out)
      · have HX1 : Hid (X = if ee < s.last s.log.length ∨ s.ep < ee then none else some { s with log := s.log ++ [⟨ee, d⟩] }) := by
          have h := HX.out
          rw [if_neg k1, if_neg k2] at h
          exact h
        clear HX
        have hR := HNR.out
        unfold Nt.right at hR
        simp only [if_neg k1, if_neg k2, Bool.and_eq_true, decide_eq_true_eq] at hR
        obtain ⟨⟨⟨rfl, -⟩, -⟩, -⟩ := hR
        clear k1 k2
        have LA : Hid (∀ n, Calls Tryz.prog 78 #[.pointer (some ⟨b, 0, none⟩), .int .i64 (s.log.length : Int)] (w2.drewN n) fun e w'' => e = .returned (.int .i64 (s.last s.log.length)) ∧ ∃ m, w'' = w2.drewN m) := fun n => by
          refine (last_big (w2.drewN n) b T s _ rest S2.out G2.out s.log.length (Nat.le_refl _) hl).mono ?_
          rintro e w'' ⟨rfl, rfl⟩
          exact ⟨rfl, n, rfl⟩
        obtain ⟨y, hy⟩ : ∃ y, s.last s.log.length = y := ⟨_, rfl⟩
        rw [hy] at LA HX1
        clear hy
        by_cases hbad : ee < y ∨ s.ep < ee
        · have HN : Hid (X = none) := by show _ = _; rw [HX1.out, if_pos hbad]
          clear HX1
          by_cases h1 : ee < y
          · clear hbad
            go_wp2_with fail
            go_quiet (first | (go_at_call 78; exact LA.out _))
            go_wp2_with fail
            all_goals
              go_ret
              rw [HN.out]; exact noteOk_none HS.out HG.out (HO2.out.drewN _)
          · have h2 : s.ep < ee := hbad.resolve_left h1
            clear hbad
            go_wp2_with fail
            go_quiet (first | (go_at_call 78; exact LA.out _))
            go_wp2_with fail
            all_goals
              go_ret
              rw [HN.out]; exact noteOk_none HS.out HG.out (HO2.out.drewN _)
        · have HN : Hid (X = some { s with log := s.log ++ [⟨ee, d⟩] }) := by show _ = _; rw [HX1.out, if_neg hbad]
          clear HX1
          have h1 : ¬ ee < y := fun e => hbad (Or.inl e)
          have h2 : ¬ s.ep < ee := fun e => hbad (Or.inr e)
          clear hbad
          go_wp2_with fail
          go_quiet (first | (go_at_call 78; exact LA.out _))
          go_wp2_with fail
          obtain ⟨W, hW⟩ : ∃ W, w2.drewN nq = W := ⟨_, rfl⟩
          have HOW : Hid (Out Zone.no w (W.drew.alloc (.cells #[.int .i64 ee, .string (str d)] 34))) := by show Out _ _ _; rw [← hW]; exact ((HO2.out.drewN _).drew).alloc _
          have HGA : Hid (GR (W.drew.alloc (.cells #[.int .i64 ee, .string (str d)] 34)) 34 2 (.slice AL s.log.length cL) s.log.length (encL s.log)) := GRow.any HG.out HOW.out
          have HNW : Hid (∀ (j : Nat) (u : Value), [Value.int .i64 ee, Value.string (str d)][j]? = some u → (W.drew.alloc (.cells #[.int .i64 ee, .string (str d)] 34)).cell? ⟨W.heap.size, j, none⟩ = some u) := fun j u hu => by
            have h := heap_alloc_new W.drew (.cells #[.int .i64 ee, .string (str d)] 34)
            rw [cell_of_row _ W.heap.size j _ _ _ h]
            simpa using hu
          have C2 : W.drew.cell? ⟨b, 2, none⟩ = some (.slice AL s.log.length cL) := by rw [← hW]; exact c2
          have C2' : W.cell? ⟨b, 2, none⟩ = some (.slice AL s.log.length cL) := C2
          have F2 : W.drew.frozen? ⟨b, 2, none⟩ = false := by rw [← hW]; exact f2
          have Q3 : W.drew.cell? ⟨g, 3, none⟩ = some (.int .i64 ee) := by rw [← hW]; exact q3
          have Q4 : W.drew.cell? ⟨g, 4, none⟩ = some (.string (str d)) := by rw [← hW]; exact q4
          have Q3' : W.cell? ⟨g, 3, none⟩ = some (.int .i64 ee) := Q3
          have Q4' : W.cell? ⟨g, 4, none⟩ = some (.string (str d)) := Q4
          have C2a : (W.drew.alloc (.cells #[.int .i64 ee, .string (str d)] 34)).cell? ⟨b, 2, none⟩ = some (.slice AL s.log.length cL) := (HS.out.any HOW.out).c2
          have C2b : (W.alloc (.cells #[.int .i64 ee, .string (str d)] 34)).cell? ⟨b, 2, none⟩ = some (.slice AL s.log.length cL) := (HS.out.any HOW.out).c2
          have C2c : (W.alloc (.cells #[.int .i64 ee, .string (str d)] 34)).drew.cell? ⟨b, 2, none⟩ = some (.slice AL s.log.length cL) := (HS.out.any HOW.out).c2
          have hlm : s.log.length + 1 ≤ maxLen := le_maxLen (by omega)
          have hlb : (s.log.length + 1) * 24 ≤ 140737488355328 := by omega
          rw [hW]
          clear hW c0 c1 c2 f0 f1 f2 q0 q1 q2 q3 q4 LA
          go_region_law (refine step_gappend rfl _ _ 47 rfl elem47 s.log.length (encL s.log) (by exact HGA.out) W.heap.size 1 [.int .i64 ee, .string (str d)] (by rfl) rfl (by exact HNW.out) (by simp [Value.oneCell']) hlm hlb ?_; intro v' w' hg1 hgr hat; obtain ⟨A2, x2, rfl⟩ := GRow.form hg1; obtain ⟨hfin, hst⟩ := noteOk_put HS.out HB.out HBL.out HOW.out ⟨ee, d⟩ hg1 hgr hat; have FIN := Lib.hid hfin; have c2n := hst.c2; have f2n := hst.fr 2; clear hg1 hgr hat hfin hst)
          all_goals
            go_wp2_with fail
            go_ret
            rw [HN.out]
            first
            | exact FIN.out
            | exact NoteOk.drew FIN.out
theorem note_is (hs : StAt w b T s.ep s.voted lv rest) (hg : GR w 34 2 lv s.log.length (encL s.log)) (hl : s.log.length ≤ 1000000) (hb : lv.ownBlock ≠ some b) (k ep n ee : Int) (d : List UInt8) (hd : d.length ≤ 9223372036854775807) :
    Calls Tryz.prog 76 #[.pointer (some ⟨b, 0, none⟩), .agg #[.int .i64 k, .int .i64 ep, .int .i64 n, .int .i64 ee, .string (str d)]] w (NoteOk b T rest lv s (s.note ⟨k, ep, n, ⟨ee, d⟩⟩) w) :=
  note_big hs hg (by omega) hb k ep n ee d hd
end
end Go.Proofs.YtlgoenimjmiapaaGreat
