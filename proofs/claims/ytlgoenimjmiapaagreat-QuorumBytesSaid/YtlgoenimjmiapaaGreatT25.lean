import Derived.Test.YtlgoenimjmiapaaGreatT24
import Derived.Test.YtlgoenimjmiapaaGreatT01
import Derived.Lib.AppendStr
import Derived.WalkMore
import Derived.Test.YtlgoenimjmiapaaGreatT02
set_option linter.unusedSimpArgs false
set_option linter.unusedVariables false
set_option linter.unusedSectionVars false
/-! The document's fold and Number; Text of both. -/
set_option linter.unusedVariables false
set_option linter.unusedSimpArgs false
namespace Go.Proofs.YtlgoenimjmiapaaGreat
open Go.RowKit

theorem fold_is (w : World) (n : Int) (h0 : -1 ≤ n) (h1 : n ≤ 1099511627776) : Calls Tryz.prog 59 #[.int .i64 n] w fun e w' => e = .returned (.int .u64 ((zz n : Nat) : Int)) ∧ w = w' := by
  obtain rfl | h0 : n = -1 ∨ 0 ≤ n := by omega
  · go_enter Tryz.func59, Tryz.ntmps59
    go_wp2_with fail
    go_ret
    exact ⟨by rw [show ((zz (-1) : Nat) : Int) = 1 from by decide]; rfl, rfl⟩
  · have hz : Hid (((zz n : Nat) : Int) = 2 * n) := by show _ = _; rw [zz_pos h0]; omega
    go_enter Tryz.func59, Tryz.ntmps59
    go_wp2_with fail
    go_ret
    exact ⟨by rw [hz.out]; rfl, rfl⟩

set_option maxRecDepth 100000 in
set_option maxHeartbeats 1000000 in
theorem num36 (w : World) (n : Int) (h0 : -1 ≤ n) (h1 : n ≤ 1099511627776) : Calls Tryz.prog 36 #[.int .i64 n] w fun e w' => ∃ v, e = .returned v ∧ Owns w.heap.size w' v (numB (zz n)) ∧ Out Zone.no w w' := by
  have hzl := zz_le h1 h0
  have HF := Lib.hid (fold_is w n h0 h1)
  obtain ⟨m, hm⟩ : ∃ m, zz n = m := ⟨_, rfl⟩
  rw [hm] at HF hzl ⊢
  clear hm h0 h1
  go_enter Tryz.func36, Tryz.ntmps36
  go_wp2_with (go_at_call 59; refine HF.out.mono ?_; rintro e w' ⟨rfl, rfl⟩)
  go_loopw [3, 4] (fun vu vb wr => ∃ (u : Nat) (L : List UInt8), u ≤ m ∧ vu = .int .u64 (u : Int) ∧ L.length + u ≤ m ∧ Hid (L ++ numB u = numB m) ∧ Hid (Owns w.heap.size wr vb L) ∧ Hid (Out Zone.no w wr)) (fun vu _ _ => (intOf vu).toNat)
  case atStart => exact ⟨m, [], Nat.le_refl _, rfl, by simp, rfl, owns_nil _ _, Out.refl _ _⟩
  case round =>
    obtain ⟨u, L, hu, rfl, hl, hL, hown, how⟩ := hrel
    rename_i vb wr
    by_cases hlt : u < 128
    · have hsm : ((UInt8.ofNat u).toNat : Int) = (u : Int) := by rw [UInt8.toNat_ofNat']; omega
      obtain ⟨v', w', hrun, h1, ho⟩ := owns_push hown.out how.out.size (UInt8.ofNat u) (by omega)
      rw [hsm] at hrun
      have HR := Lib.hid hrun
      have H1 := Lib.hid h1
      have HO := Lib.hid (ho w how.out (Nat.le_refl _))
      clear hrun h1 ho hsm
      go_wp2_with (at_builtin; refine wpList_builtin rfl _ _ _ rfl HR.out ?_)
      go_ret
      refine ⟨_, rfl, ?_, HO.out⟩
      rw [← hL.out, numB_small hlt]
      exact H1.out
    · have hmo : ((moreOf u).toNat : Int) = (u : Int) % 128 + 128 := by
        unfold moreOf
        rw [UInt8.toNat_ofNat']
        omega
      obtain ⟨v', w', hrun, h1, ho⟩ := owns_push hown.out how.out.size (moreOf u) (by omega)
      rw [hmo] at hrun
      have HR := Lib.hid hrun
      have H1 := Lib.hid h1
      have HO := Lib.hid (ho w how.out (Nat.le_refl _))
      clear hrun h1 ho hmo
      go_wp2_with (at_builtin; refine wpList_builtin rfl _ _ _ rfl HR.out ?_)
      go_roundw
      case rel => exact ⟨u / 128, L ++ [moreOf u], by omega, by go_num, by rw [List.length_append]; simp only [List.length_cons, List.length_nil]; omega, by
        show _ = _
        rw [← hL.out, numB_more hlt, List.append_assoc]
        rfl, H1.out, HO.out⟩
      case measure => simp [intOf]; omega

theorem strCells_str (M : List UInt8) : Lib.strCells (str M) = bytes M := by simp [Lib.strCells, str, bytes]
/-- append(b, s...) with a text. -/
theorem Owns.text {base : Nat} {w : World} {v : Value} {L M : List UInt8} (h : Owns base w v L) (hbase : base ≤ w.heap.size) (hl : L.length + M.length ≤ 140737488355328) (ty : TypeId) :
    ∃ v' w', (Builtin.append_ #[29, 9] ty #[v, .string (str M)]).run Tryz.prog w = .ok v' w' ∧ Owns base w' v' (L ++ M) ∧ ∀ w0, Out Zone.no w0 w → w0.heap.size ≤ base → Out Zone.no w0 w' := by
  obtain ⟨hu, ⟨i, hi1, hz, hsz, hby⟩, hz1⟩ := elemB
  obtain ⟨v', w', hrun, ho, hg, _⟩ := Lib.run_append_own_string (P := Tryz.prog) w base 29 9 ty 5 i hu Tryz.underlying9 hi1 hz hsz hby v L.length (bytes L) h (str M) (le_maxLen hl) hl hbase
  rw [strCells_str, str_size] at ho
  refine ⟨v', w', hrun, ?_, fun w0 h0 hw => h0.grown hg (fun k hk => Or.inr ?_)⟩
  · unfold Owns
    rw [List.length_append, bytes_append]
    exact ho
  · have := (World.ownsRow.lt h k hk).1
    omega
/-- .. with bytes. -/
theorem Owns.more {base : Nat} {Z : Zone} {w : World} {v s : Value} {L M : List UInt8} (h : Owns base w v L) (hbase : base ≤ w.heap.size) (hs : Row Z w s (bytes M)) (hl : L.length + M.length ≤ 140737488355328) (ty : TypeId) :
    ∃ v' w', (Builtin.append_ #[29, 29] ty #[v, s]).run Tryz.prog w = .ok v' w' ∧ Owns base w' v' (L ++ M) ∧ ∀ w0, Out Zone.no w0 w → w0.heap.size ≤ base → Out Zone.no w0 w' := by
  obtain ⟨v', w', hrun, ho, hg, _⟩ := h.append hbase hs hl ty
  refine ⟨v', w', hrun, ho, fun w0 h0 hw => h0.grown hg (fun k hk => Or.inr ?_)⟩
  have := (World.ownsRow.lt h k hk).1
  omega

theorem wpList_builtin2 {P : Program} {ops : Array Oper} {rest : List Oper} {o : Oper} {a : Act} {w w' : World} {v' : Value} {Q : Exit → Act → World → Prop}
    (hg : o.guard = none) (s x : Operand) (t u : TypeId) (hop : o.op = Op.call { callee := Callee.builtin Builtin.append, args := #[s, x], argTypes := #[t, u] })
    (hrun : (Builtin.append_ #[t, u] o.type #[a.eval s, a.eval x]).run P w = .ok v' w')
    (hK : wpList P ops Q rest (a.put o.dst v') w') : wpList P ops Q (o :: rest) a w := by
  refine wpList_plain hg fun K hk => ?_
  unfold Oper.wp
  simp [execOp, hop, resolve, invoke, builtin, hrun, Result.andThen]
  exact hk _ _ hK
theorem numB_len {n : Int} (h0 : -1 ≤ n) (h1 : n ≤ 1099511627776) : (numB (zz n)).length ≤ 2199023255553 := by
  have := (length_numB (zz n)).2
  have := zz_le h1 h0
  omega

set_option maxRecDepth 100000 in
theorem text24 (w : World) (s : List UInt8) (hl : s.length ≤ 1099511627776) : Calls Tryz.prog 24 #[.string (str s)] w fun e w' => ∃ v, e = .returned v ∧ Owns w.heap.size w' v (numB (zz s.length) ++ s) ∧ Out Zone.no w w' := by
  have HN := Lib.hid (num36 w s.length (by omega) (by omega))
  have hsz := str_size s
  have hnl := numB_len (n := s.length) (by omega) (by omega)
  go_enter Tryz.func24, Tryz.ntmps24
  go_wp2_with (first
    | (go_at_call 36; refine HN.out.mono ?_; rintro e w1 ⟨v1, rfl, h1, ho1⟩; obtain ⟨v2, w2, hrun, h2, ho2⟩ := h1.text (M := s) ho1.size (by omega) 29; have HR := Lib.hid hrun; have H2 := Lib.hid h2; have HO := Lib.hid (ho2 w ho1 (Nat.le_refl _)); clear hrun h2 ho2 h1 ho1)
    | (at_builtin; refine wpList_builtin2 rfl _ _ _ _ rfl HR.out ?_))
  go_ret
  exact ⟨_, rfl, H2.out, HO.out⟩
set_option maxRecDepth 100000 in
theorem text47 (w : World) (s : List UInt8) (hl : s.length ≤ 1048576) : Calls Tryz.prog 47 #[.string (str s)] w fun e w' => ∃ v, e = .returned (.tuple #[v, .int .i64 0]) ∧ Owns w.heap.size w' v (numB (zz s.length) ++ s) ∧ Out Zone.no w w' := by
  have HN := Lib.hid (num46 w s.length (by omega) (by omega))
  have hsz := str_size s
  have hnl := numB_len (n := s.length) (by omega) (by omega)
  go_enter Tryz.func47, Tryz.ntmps47
  go_wp2_with (first
    | (go_at_call 46; refine HN.out.mono ?_; rintro e w1 ⟨v1, rfl, h1, ho1⟩; obtain ⟨v2, w2, hrun, h2, ho2⟩ := h1.text (M := s) ho1.size (by omega) 29; have HR := Lib.hid hrun; have H2 := Lib.hid h2; have HO := Lib.hid (ho2 w ho1 (Nat.le_refl _)); clear hrun h2 ho2 h1 ho1)
    | (at_builtin; refine wpList_builtin2 rfl _ _ _ _ rfl HR.out ?_))
  go_ret2
  exact ⟨_, rfl, H2.out, HO.out⟩
end Go.Proofs.YtlgoenimjmiapaaGreat

/-! Numbers as bytes. -/
set_option linter.unusedVariables false
set_option linter.unusedSimpArgs false
namespace Go.Proofs.YtlgoenimjmiapaaGreat
open Go.RowKit

/-- Numbers, one behind the other. -/
def numsB (l : List Int) : List UInt8 := l.flatMap fun n => numB (zz n)
theorem numsB_len {l : List Int} (hb : ∀ x ∈ l, -1 ≤ x ∧ x ≤ 1099511627776) : (numsB l).length ≤ l.length * 2199023255553 := by
  induction l with
  | nil => simp [numsB]
  | cons x r ih =>
    have h1 := ih (fun y hy => hb y (List.mem_cons_of_mem _ hy))
    have h2 := numB_len (hb x (List.mem_cons_self ..)).1 (hb x (List.mem_cons_self ..)).2
    show (numB (zz x) ++ numsB r).length ≤ (r.length + 1) * _
    rw [List.length_append]
    omega
theorem numsB_snoc {l : List Int} {i : Nat} {x : Int} (h : l[i]? = some x) : numsB (l.take (i + 1)) = numsB (l.take i) ++ numB (zz x) := by
  obtain ⟨hi, rfl⟩ := List.getElem?_eq_some_iff.1 h
  unfold numsB
  rw [List.take_succ_eq_append_getElem hi, List.flatMap_append]
  simp

set_option maxRecDepth 100000 in
theorem numbers_is (w : World) (N : Nat → Prop) (v : Value) (l : List Int) (hr : RRow N w v l.length 1 (ints l)) (hl : l.length ≤ 10) (hb : ∀ x ∈ l, -1 ≤ x ∧ x ≤ 1099511627776) :
    Calls Tryz.prog 20 #[v] w fun e w' => ∃ v', e = .returned v' ∧ Owns w.heap.size w' v' (numsB l) ∧ Out Zone.no w w' := by
  obtain ⟨A, c, rfl, hc1, hc2⟩ := hr.form
  have HR := Lib.hid hr
  have HB := Lib.hid hb
  clear hr hb
  go_enter Tryz.func20, Tryz.ntmps20
  go_wp2_with fail
  go_loopw [3, 8] (fun vb vi wr => ∃ i : Nat, i ≤ l.length ∧ vi = .int .i64 (i : Int) ∧ Hid (Owns w.heap.size wr vb (numsB (l.take i))) ∧ Hid (Out Zone.no w wr)) (fun _ vi _ => l.length - (intOf vi).toNat)
  case atStart => exact ⟨0, by omega, rfl, owns_nil _ _, Out.refl _ _⟩
  case round =>
    obtain ⟨i, hi, rfl, hown, how⟩ := hrel
    rename_i vb wr
    by_cases hlt : i < l.length
    · obtain ⟨x, hx⟩ : ∃ x, l[i]? = some x := ⟨_, List.getElem?_eq_getElem hlt⟩
      obtain ⟨_, A', c', hv, _, _, hc⟩ := HR.out
      obtain ⟨b, o, hA, _, hcx⟩ := hc i (.int .i64 x) (by simp [ints, hx])
      obtain rfl : A = A' := by injection hv
      subst hA
      have p1 := how.out.cell hcx id
      have hxb := HB.out x (List.mem_of_getElem? hx)
      have HN := Lib.hid (num46 wr x hxb.1 hxb.2)
      have HX : Hid (numsB (l.take (i + 1)) = numsB (l.take i) ++ numB (zz x)) := numsB_snoc hx
      have hln : (numsB (l.take i)).length + (numB (zz x)).length ≤ 140737488355328 := by
        have h1 := numsB_len (l := l.take i) (fun y hy => HB.out y (List.mem_of_mem_take hy))
        have h2 := numB_len hxb.1 hxb.2
        rw [List.length_take] at h1
        have : min i l.length ≤ 10 := by omega
        have := Nat.mul_le_mul_right 2199023255553 this
        omega
      have HLN := Lib.hid hln
      clear hv hc hcx hx hxb hln
      go_wp2_with (first
        | (go_at_call 46; refine HN.out.mono ?_; rintro e w1 ⟨v1, rfl, h1, ho1⟩; obtain ⟨v2, w2, hrun, h2, ho2⟩ := (hown.out.out ho1 (fun _ _ h => h)).more (Nat.le_trans how.out.size ho1.size) (h1.row (Z := Zone.no) (fun _ _ h => h)) HLN.out 29; have HR2 := Lib.hid hrun; have H2 := Lib.hid h2; have HO := Lib.hid (ho2 w (how.out.trans ho1) (Nat.le_refl _)); clear hrun h2 ho2 h1 ho1)
        | (at_builtin; refine wpList_builtin rfl _ _ _ rfl HR2.out ?_))
      go_roundw
      case rel => exact ⟨i + 1, by omega, by go_num, by show Owns _ _ _ _; rw [HX.out]; exact H2.out, HO.out⟩
      case measure => simp [intOf]; omega
    · obtain rfl : i = l.length := by omega
      go_wp2_with fail
      go_ret
      have h := hown.out
      rw [List.take_length] at h
      exact ⟨_, rfl, h, how.out⟩
set_option maxRecDepth 100000 in
theorem rnumbers_is (w : World) (N : Nat → Prop) (v : Value) (l : List Int) (hr : RRow N w v l.length 1 (ints l)) (hl : l.length ≤ 10) (hb : ∀ x ∈ l, -1 ≤ x ∧ x ≤ 1099511627776) :
    Calls Tryz.prog 23 #[v] w fun e w' => ∃ v', e = .returned v' ∧ Owns w.heap.size w' v' (numsB l) ∧ Out Zone.no w w' := by
  obtain ⟨A, c, rfl, hc1, hc2⟩ := hr.form
  have HR := Lib.hid hr
  have HB := Lib.hid hb
  clear hr hb
  go_enter Tryz.func23, Tryz.ntmps23
  go_wp2_with fail
  go_loopw [3, 4] (fun vb vi wr => ∃ i : Nat, i ≤ l.length ∧ vi = .int .i64 (i : Int) ∧ Hid (Owns w.heap.size wr vb (numsB (l.take i))) ∧ Hid (Out Zone.no w wr)) (fun _ vi _ => l.length - (intOf vi).toNat)
  case atStart => exact ⟨0, by omega, rfl, owns_nil _ _, Out.refl _ _⟩
  case round =>
    obtain ⟨i, hi, rfl, hown, how⟩ := hrel
    rename_i vb wr
    by_cases hlt : i < l.length
    · obtain ⟨x, hx⟩ : ∃ x, l[i]? = some x := ⟨_, List.getElem?_eq_getElem hlt⟩
      obtain ⟨_, A', c', hv, _, _, hc⟩ := HR.out
      obtain ⟨b, o, hA, _, hcx⟩ := hc i (.int .i64 x) (by simp [ints, hx])
      obtain rfl : A = A' := by injection hv
      subst hA
      have p1 := how.out.cell hcx id
      have hxb := HB.out x (List.mem_of_getElem? hx)
      have HN := Lib.hid (num36 wr x hxb.1 hxb.2)
      have HX : Hid (numsB (l.take (i + 1)) = numsB (l.take i) ++ numB (zz x)) := numsB_snoc hx
      have hln : (numsB (l.take i)).length + (numB (zz x)).length ≤ 140737488355328 := by
        have h1 := numsB_len (l := l.take i) (fun y hy => HB.out y (List.mem_of_mem_take hy))
        have h2 := numB_len hxb.1 hxb.2
        rw [List.length_take] at h1
        have : min i l.length ≤ 10 := by omega
        have := Nat.mul_le_mul_right 2199023255553 this
        omega
      have HLN := Lib.hid hln
      clear hv hc hcx hx hxb hln
      go_wp2_with (first
        | (go_at_call 36; refine HN.out.mono ?_; rintro e w1 ⟨v1, rfl, h1, ho1⟩; obtain ⟨v2, w2, hrun, h2, ho2⟩ := (hown.out.out ho1 (fun _ _ h => h)).more (Nat.le_trans how.out.size ho1.size) (h1.row (Z := Zone.no) (fun _ _ h => h)) HLN.out 29; have HR2 := Lib.hid hrun; have H2 := Lib.hid h2; have HO := Lib.hid (ho2 w (how.out.trans ho1) (Nat.le_refl _)); clear hrun h2 ho2 h1 ho1)
        | (at_builtin; refine wpList_builtin rfl _ _ _ rfl HR2.out ?_))
      go_roundw
      case rel => exact ⟨i + 1, by omega, by go_num, by show Owns _ _ _ _; rw [HX.out]; exact H2.out, HO.out⟩
      case measure => simp [intOf]; omega
    · obtain rfl : i = l.length := by omega
      go_wp2_with fail
      go_ret
      have h := hown.out
      rw [List.take_length] at h
      exact ⟨_, rfl, h, how.out⟩
end Go.Proofs.YtlgoenimjmiapaaGreat

/-! Entries and notes as bytes. -/
set_option linter.unusedVariables false
set_option linter.unusedSimpArgs false
namespace Go.Proofs.YtlgoenimjmiapaaGreat
open Go.RowKit

theorem Owns.base_le {b b' : Nat} {w : World} {v : Value} {L : List UInt8} (h : Owns b w v L) (hb : b' ≤ b) : Owns b' w v L := by
  obtain ⟨h1, h2⟩ := h
  refine ⟨h1, ?_⟩
  rcases h2 with h2 | ⟨g, cap, cur, hv, hg, r⟩
  · exact Or.inl h2
  · exact Or.inr ⟨g, cap, cur, hv, Nat.le_trans hb hg, r⟩

def entB (x : Ent) : List UInt8 := numB (zz x.ep) ++ (numB (zz x.data.length) ++ x.data)
def noteB (t : Nt) : List UInt8 := numsB [t.kind, t.ep, t.n] ++ entB t.ent
theorem entB_len {x : Ent} (h0 : 0 ≤ x.ep) (h1 : x.ep ≤ 1099511627776) (hl : x.data.length ≤ 65536) : (entB x).length ≤ 10000000000000 := by
  unfold entB
  have a := numB_len (n := x.ep) (by omega) h1
  have b := numB_len (n := x.data.length) (by omega) (by omega)
  simp only [List.length_append]
  omega

set_option maxRecDepth 100000 in
theorem bytes_is (w : World) (x : Ent) (h0 : 0 ≤ x.ep) (h1 : x.ep ≤ 1099511627776) (hl : x.data.length ≤ 65536) :
    Calls Tryz.prog 21 #[.agg #[.int .i64 x.ep, .string (str x.data)]] w fun e w' => ∃ v, e = .returned v ∧ Owns w.heap.size w' v (entB x) ∧ Out Zone.no w w' := by
  have HT : Hid (∀ W, Out Zone.no w W → Calls Tryz.prog 47 #[.string (str x.data)] W fun e w' => ∃ v, e = .returned (.tuple #[v, .int .i64 0]) ∧ Owns W.heap.size w' v (numB (zz x.data.length) ++ x.data) ∧ Out Zone.no W w') := fun W _ => text47 W x.data (by omega)
  have HN : Hid (∀ W, Out Zone.no w W → Calls Tryz.prog 46 #[.int .i64 x.ep] W fun e w' => ∃ v, e = .returned v ∧ Owns W.heap.size w' v (numB (zz x.ep)) ∧ Out Zone.no W w') := fun W _ => num46 W x.ep (by omega) h1
  have hln : Hid ((numB (zz x.ep)).length + (numB (zz x.data.length) ++ x.data).length ≤ 140737488355328) := by
    have a := numB_len (n := x.ep) (by omega) h1
    have b := numB_len (n := x.data.length) (by omega) (by omega)
    show _ ≤ _
    simp only [List.length_append]
    omega
  unfold entB
  obtain ⟨X, hX⟩ : ∃ X, numB (zz x.data.length) ++ x.data = X := ⟨_, rfl⟩
  obtain ⟨Y, hY⟩ : ∃ Y, numB (zz x.ep) = Y := ⟨_, rfl⟩
  rw [hX] at HT hln ⊢
  rw [hY] at HN hln ⊢
  clear h0 h1 hl hX hY
  obtain ⟨W0, hW0⟩ : ∃ W0, w.alloc (.cells #[.int .i64 x.ep, .string (str x.data)] 34) = W0 := ⟨_, rfl⟩
  have HB : Hid (W0.heap[w.heap.size]? = some (.cells #[.int .i64 x.ep, .string (str x.data)] 34 (0, 0))) := by rw [← hW0]; exact heap_alloc_new w _
  have HO0 : Hid (Out Zone.no w W0) := by rw [← hW0]; exact (Out.refl _ _).alloc _
  have HT0 := Lib.hid (HT.out W0 HO0.out)
  have q0 := cells_all HB.out 0
  have q1 := cells_all HB.out 1
  go_enter Tryz.func21, Tryz.ntmps21
  go_wp2_with (first
    | (go_at_call 47; refine HT0.out.mono ?_; rintro e w1 ⟨v1, rfl, h1, ho1⟩; have H1 := Lib.hid h1; have HO1 := Lib.hid (HO0.out.trans ho1); have p0 := cells_all (ho1.get HB.out id) 0; have p1 := cells_all (ho1.get HB.out id) 1; clear h1 ho1)
    | (go_at_call 46; refine (HN.out _ HO1.out).mono ?_; rintro e w2 ⟨v2, rfl, h2, ho2⟩; obtain ⟨v3, w3, hrun, h3, ho3⟩ := (h2.base_le HO1.out.size).more (HO1.out.trans ho2).size ((H1.out.out ho2 (fun _ _ h => h)).row (Z := Zone.no) (fun _ _ h => h)) hln.out 29; have HR2 := Lib.hid hrun; have H3 := Lib.hid h3; have HO3 := Lib.hid (ho3 w (HO1.out.trans ho2) (Nat.le_refl _)); clear hrun h3 ho3 h2 ho2)
    | (at_builtin; refine wpList_builtin rfl _ _ _ rfl HR2.out ?_))
  go_ret
  exact ⟨_, rfl, H3.out, HO3.out⟩
end Go.Proofs.YtlgoenimjmiapaaGreat
