import Derived.Test.YtlgoenimjmiapaaT32
import Derived.Laws.StructEq
set_option linter.unusedSimpArgs false
set_option linter.unusedVariables false
set_option linter.unusedSectionVars false
/-! SameLog, where it is the same. -/
namespace Go.Proofs.Ytlgoenimjmiapaa
open Go.RowKit Go.Maps

@[go_sem] theorem eq38 (a c : Int) (b d : ByteArray) (w : World) : (Op.equalIn 10000 38 (.agg #[.int .i64 a, .string b]) (.agg #[.int .i64 c, .string d])).run Try.prog w = .ok (a == c && b.toList == d.toList) w := by
  have u3 := Try.underlying3
  have a3 := Try.isAgg3
  have z3 := Try.sizeOf3
  have u9 := Try.underlying9
  have a9 := Try.isAgg9
  have z9 := Try.sizeOf9
  have hS : Try.prog.underlying 38 = some (.struct (Try.prog.fieldsOf 38)) := by kernel_rfl
  have hp : Try.prog.stoodInHeld 38 = false := by kernel_rfl
  rw [show (10000 : Nat) = 9999 + 1 from rfl, run_equalIn_agg w 9999 38 _ _ hS hp]
  simp only [Program.fieldsOf, Try.underlying38]
  go_simp
  by_cases h1 : a = c <;> by_cases h2 : b.toList = d.toList <;> simp [h1, h2]

set_option maxRecDepth 100000 in
set_option maxHeartbeats 2000000 in
theorem same_is (w : World) {N1 N2 : Nat → Prop} (v1 v2 : Value) (l : List Ent) (h1 : RRow N1 w v1 l.length 2 (encL l)) (h2 : RRow N2 w v2 l.length 2 (encL l)) :
    Calls Try.prog 23 #[v1, v2] w fun e w' => e = .returned (.bool true) ∧ Out Zone.no w w' := by
  obtain ⟨A, c, rfl, hc1, hc2⟩ := h1.form
  obtain ⟨A', c', rfl, hc1', hc2'⟩ := h2.form
  have HR1 := Lib.hid h1
  have HR2 := Lib.hid h2
  have hl2 : l.length ≤ 9223372036854775807 := by have : maxLen ≤ 9223372036854775807 := by decide
                                                  omega
  obtain ⟨L, hL⟩ : ∃ L, l.length = L := ⟨_, rfl⟩
  have HL := Lib.hid hL
  rw [hL] at hl2 hc1 hc1' ⊢
  clear h1 h2 hL
  go_enter Try.func23, Try.ntmps23
  go_wp2_with fail
  go_loopw [5] (fun vi wr => ∃ i : Nat, i ≤ L ∧ vi = .int .i64 (i : Int) ∧ Hid (Out Zone.no w wr)) (fun vi _ => L - (intOf vi).toNat)
  case atStart => exact ⟨0, by omega, rfl, Out.refl _ _⟩
  case round =>
    obtain ⟨i, hi, rfl, hinv⟩ := hrel
    by_cases hlt : i < L
    · obtain ⟨y, hy⟩ : ∃ y, l[i]? = some y := ⟨_, List.getElem?_eq_getElem (by rw [HL.out]; exact hlt)⟩
      have CE : ∀ {N : Nat → Prop} {A : Option Addr} {c : Nat}, RRow N w (.slice A l.length c) l.length 2 (encL l) → ∃ b o, A = some ⟨b, o, none⟩ ∧ ∀ W, Out Zone.no w W → W.cell? ⟨b, o + i * 2, none⟩ = some (.int .i64 y.ep) ∧ W.cell? ⟨b, o + i * 2 + 1, none⟩ = some (.string (str y.data)) := fun h => by
        obtain ⟨_, A', c', hv, _, _, hc⟩ := h
        obtain ⟨e1, e2⟩ := encL_at hy
        obtain ⟨b, o, hA, _, hcc1⟩ := hc _ _ e1
        obtain ⟨b', o', hA', _, hcc2⟩ := hc _ _ e2
        rw [hA] at hA'
        obtain ⟨rfl, rfl⟩ : b = b' ∧ o = o' := by injection hA' with h; injection h with h1 h2; exact ⟨h1, h2⟩
        injection hv with hv
        exact ⟨b, o, by rw [hv, hA], fun W ho => ⟨ho.cell hcc1 id, by rw [Nat.add_assoc]; exact ho.cell hcc2 id⟩⟩
      obtain ⟨b, o, hA, hC⟩ := CE HR1.out
      obtain ⟨b', o', hA', hC'⟩ := CE HR2.out
      subst hA hA'
      obtain ⟨ye, hye⟩ : ∃ ye, y.ep = ye := ⟨_, rfl⟩
      obtain ⟨yd, hyd⟩ : ∃ yd, str y.data = yd := ⟨_, rfl⟩
      rw [hye, hyd] at hC hC'
      obtain ⟨p1, p2⟩ := hC wr hinv.out
      obtain ⟨q1, q2⟩ := hC' wr hinv.out
      clear hC hC' hye hyd hy CE
      go_wp2_with fail
      go_quiet (fail)
      go_wp2_with fail
      go_roundw
      case rel => exact ⟨i + 1, by omega, by go_num, hinv.out.trans ((Out.refl _ _).drewN nq)⟩
      case measure => simp [intOf]; omega
    · obtain rfl : i = L := by omega
      go_wp2_with fail
      go_ret
      exact ⟨rfl, hinv.out⟩
end Go.Proofs.Ytlgoenimjmiapaa

/-! Within safe: a town and a node's state that was read. -/
namespace Go.Proofs.Ytlgoenimjmiapaa
open Go.RowKit Go.Maps

theorem zero3 : ∀ W, (zeroValue 3).run Try.prog W = .ok (.int .i64 0) W := fun W => by kernel_rfl

theorem note_data {s s' : St} {y : Nt} (h : s.note y = some s') : y.ent.data.length ≤ 65536 := by
  have hr : y.right = true := by
    cases hx : y.right with
    | true => rfl
    | false => unfold St.note at h; rw [hx, if_pos rfl] at h; cases h
  unfold Nt.right at hr
  split at hr
  · simp at hr; simp [hr.1.1.1.2]
  · split at hr
    · simp at hr; simp [hr.1.2]
    · simp [Ent.right] at hr; omega
theorem fold_data0 : ∀ (l : List Nt) {s s' : St}, foldFrom s l = some s' → ∀ y ∈ l, y.ent.data.length ≤ 65536
  | [], _, _, _, _, h => by cases h
  | x :: r, s, s', h, y, hy => by
    have h : (match s.note x with | none => none | some s1 => foldFrom s1 r) = some s' := h
    cases hx : s.note x with
    | none => rw [hx] at h; cases h
    | some s1 =>
      rw [hx] at h
      rcases List.mem_cons.1 hy with rfl | e
      · exact note_data hx
      · exact fold_data0 r h y e
theorem fold_data {l : List Nt} {s s' : St} (h : foldFrom s l = some s') : ∀ y ∈ l, y.ent.data.length ≤ 9223372036854775807 := fun y hy => by have := fold_data0 l h y hy; omega
/-- What safe wants of a town. -/
structure SafeHyp (t : Town) : Prop where
  h7 : t.n ≤ 7
  fit : ∀ i, i < t.n → (t.X i).Fit
  ep : ∀ i, i < t.n → 0 ≤ (t.X i).st.ep ∧ (t.X i).st.ep < 4096
  notes : ∀ i, i < t.n → (t.notes i).length ≤ 1000000000
  done : t.done.length ≤ 2048
  lead : ∀ e j, t.lead e = some j → 0 ≤ e ∧ e < 4096
theorem SafeHyp.seen {t : Town} (h : SafeHyp t) {i : Nat} (hi : i < t.n) (hc : (t.X i).commit ≤ (t.X i).st.log.length) : SafeHyp (t.seen i) := by
  refine ⟨h.h7, h.fit, h.ep, h.notes, ?_, fun e j he => ?_⟩
  · show (if t.done.length < (t.X i).commit then _ else _ : List Ent).length ≤ 2048
    split
    · have := (h.fit i hi).log
      rw [List.length_take]
      omega
    · exact h.done
  · have he : (if (t.X i).role = 2 then setL t.lead (t.X i).st.ep (i : Int) else t.lead) e = some j := he
    split at he
    · unfold setL at he
      split at he
      · next hx => rw [hx]; exact h.ep i hi
      · exact h.lead e j he
    · exact h.lead e j he
theorem SafeHyp.safe {t : Town} (h : SafeHyp t) (hs : ∀ i, i < t.n → SafeAt (t.safe i) i) : ∀ k, k ≤ t.n → SafeHyp (t.safe k)
  | 0, _ => h
  | k + 1, hk => (SafeHyp.safe h hs k (by omega)).seen (by rw [(safe_n t k).1]; omega) (hs k (by omega)).commit
/-- Behind k committed entries looked at. -/
def doneK (D l : List Ent) (k : Nat) : List Ent := if D.length < k then l.take k else D
theorem doneK_len {D l : List Ent} {k : Nat} (hk : k ≤ l.length) : (doneK D l k).length = max D.length k := by
  unfold doneK
  split
  · rw [List.length_take]; omega
  · omega
theorem doneK_at {D l : List Ent} {k : Nat} (hs : k < D.length → D[k]? = l[k]?) (hk : k < l.length) : (doneK D l (k + 1))[k]? = l[k]? := by
  unfold doneK
  split
  · rw [List.getElem?_take, if_pos (by omega)]
  · exact hs (by omega)
theorem doneK_push {D l : List Ent} {k : Nat} {y : Ent} (hs : ∀ j, j < k → j < D.length → D[j]? = l[j]?) (hy : l[k]? = some y) (h : (doneK D l k).length = k) : doneK D l (k + 1) = doneK D l k ++ [y] := by
  have hk : k < l.length := (List.getElem?_eq_some_iff.1 hy).1
  have hl := doneK_len (D := D) (l := l) (k := k) (by omega)
  have e1 : doneK D l (k + 1) = l.take (k + 1) := by unfold doneK; rw [if_pos (by omega)]
  have e2 : doneK D l k = l.take k := by
    unfold doneK
    split
    · rfl
    · apply List.ext_getElem?
      intro j
      rw [List.getElem?_take]
      split
      · next hj => exact hs j hj (by omega)
      · exact List.getElem?_eq_none (by omega)
  rw [e1, e2, List.take_succ_eq_append_getElem hk]
  obtain ⟨_, he⟩ := List.getElem?_eq_some_iff.1 hy
  rw [he]
theorem doneK_stay {D l : List Ent} {k : Nat} (h : (doneK D l k).length ≠ k) (hk : k ≤ l.length) : doneK D l (k + 1) = doneK D l k := by
  have hl := doneK_len (D := D) (l := l) (k := k) hk
  unfold doneK
  rw [if_neg (by omega), if_neg (by omega)]

section
variable {w w' w1 : World} {w0 : Base} {tb : Nat} {t : Town} {L L' : Nat → Nat} {U : TV} {i q : Nat} {xs : Nat → Nat}
/-- A town, and a state in block B that was read. -/
def Sees (w0 : Base) (tb : Nat) (t : Town) (xs : Nat → Nat) (v : Value) (s : St) (B : Nat) (W : World) : Prop :=
  ∃ L U, TownAt W tb t L U ∧ Own1 w0 W L ∧ U.xs = xs ∧ GR W 38 2 v s.log.length (encL s.log) ∧ (∀ k, v.ownBlock = some k → L k = 0) ∧ W.heap[B]? = some (.cells #[.int .i64 s.ep, .int .i64 s.voted, v] 28 (0, 0)) ∧ L B = 0
theorem Sees.any {v : Value} {s : St} {B : Nat} (h : Sees w0 tb t xs v s B w) (ho : Out Zone.no w w') : Sees w0 tb t xs v s B w' := by
  obtain ⟨L, U, h1, h2, h3, h4, h5, h6, h7⟩ := h
  exact ⟨L, U, h1.any ho, h2.any ho, h3, GRow.any h4 ho, h5, ho.get h6 id, h7⟩
theorem Sees.x {v : Value} {s : St} {B : Nat} (h : Sees w0 tb t xs v s B w) : TownX w0 tb t xs w := by
  obtain ⟨L, U, h1, h2, h3, _⟩ := h
  exact ⟨L, U, h1, h2, h3⟩
theorem Sees.from (h : TownX w0 tb t xs w) {v : Value} {s : St} (ho : Out Zone.no w w') (hg : GR w' 38 2 v s.log.length (encL s.log)) (hf : ∀ k, v.ownBlock = some k → w.heap.size ≤ k) :
    Sees w0 tb t xs v s w'.heap.size (w'.alloc (.cells #[.int .i64 s.ep, .int .i64 s.voted, v] 28)) := by
  obtain ⟨L, U, h1, h2, h3⟩ := h
  have oa : Out Zone.no w' (w'.alloc (.cells #[.int .i64 s.ep, .int .i64 s.voted, v] 28)) := (Out.refl _ _).alloc _
  have z : ∀ k, w.heap.size ≤ k → L k = 0 := fun k hk => Classical.byContradiction (fun e => by have := h1.lt k e; omega)
  exact ⟨L, U, h1.any (ho.trans oa), h2.any (ho.trans oa), h3, GRow.any hg oa, fun k hk => z k (hf k hk), heap_alloc_new w' _, z _ ho.size⟩
theorem Sees.cells {v : Value} {s : St} {B : Nat} (h : Sees w0 tb t xs v s B w) : w.cell? ⟨B, 0, none⟩ = some (.int .i64 s.ep) ∧ w.cell? ⟨B, 1, none⟩ = some (.int .i64 s.voted) ∧ w.cell? ⟨B, 2, none⟩ = some v ∧ ∃ Ad cd, w.cell? ⟨tb, 4, none⟩ = some (.slice Ad t.done.length cd) := by
  obtain ⟨L, U, h1, h2, h3, h4, h5, h6, h7⟩ := h
  obtain ⟨Ad, cd, hv⟩ := GRow.form h1.done
  refine ⟨by rw [cells_all h6]; rfl, by rw [cells_all h6]; rfl, by rw [cells_all h6]; rfl, Ad, cd, ?_⟩
  rw [h1.c 4, ← hv]
  rfl
theorem gr_entry {v : Value} {l : List Ent} {n : Nat} (h : GR w 38 2 v n (encL l)) {k : Nat} {y : Ent} (hy : l[k]? = some y) : ∃ g c, v = .slice (some ⟨g, 0, none⟩) n c ∧ w.cell? ⟨g, k * 2, none⟩ = some (.int .i64 y.ep) ∧ w.cell? ⟨g, k * 2 + 1, none⟩ = some (.string (str y.data)) := by
  obtain ⟨e1, e2⟩ := encL_at hy
  obtain ⟨g, c, hv, hc⟩ := GRow.cell h e1
  obtain ⟨g', c', hv', hc'⟩ := GRow.cell h e2
  rw [hv] at hv'
  injection hv' with e _ e4
  injection e with e
  injection e with e
  subst e e4
  exact ⟨g, c, hv, hc, hc'⟩
/-- Entry k, as it is read. -/
theorem Sees.entry {v : Value} {s : St} {B k : Nat} {y : Ent} (h : Sees w0 tb t xs v s B w) (hy : s.log[k]? = some y) : ∃ g c, v = .slice (some ⟨g, 0, none⟩) s.log.length c ∧ w.cell? ⟨g, k * 2, none⟩ = some (.int .i64 y.ep) ∧ w.cell? ⟨g, k * 2 + 1, none⟩ = some (.string (str y.data)) := by
  obtain ⟨L, U, h1, h2, h3, h4, h5, h6, h7⟩ := h
  exact gr_entry h4 hy
theorem Sees.entryD {v : Value} {s : St} {B k : Nat} {y : Ent} (h : Sees w0 tb t xs v s B w) (hy : t.done[k]? = some y) : ∃ g c, w.cell? ⟨tb, 4, none⟩ = some (.slice (some ⟨g, 0, none⟩) t.done.length c) ∧ w.cell? ⟨g, k * 2, none⟩ = some (.int .i64 y.ep) ∧ w.cell? ⟨g, k * 2 + 1, none⟩ = some (.string (str y.data)) := by
  obtain ⟨L, U, h1, h2, h3, h4, h5, h6, h7⟩ := h
  obtain ⟨g, c, hv, hc⟩ := gr_entry h1.done hy
  refine ⟨g, c, ?_, hc⟩
  rw [h1.c 4, ← hv]
  rfl
theorem TownX.xcells (h : TownX w0 tb t xs w) (hi : i < t.n) : ∃ g c, w.cell? ⟨tb, 0, none⟩ = some (.int .i64 (t.n : Int)) ∧ w.cell? ⟨tb, 1, none⟩ = some (.slice (some ⟨g, 0, none⟩) t.n c) ∧ w.cell? ⟨g, i, none⟩ = some (.pointer (some ⟨xs i, 0, none⟩)) := by
  obtain ⟨L, U, h1, h2, rfl⟩ := h
  obtain ⟨g, c, hv, hc, _, _⟩ := h1.rowx hi
  exact ⟨g, c, h1.c 0, by rw [h1.c 1, ← hv]; rfl, hc⟩
theorem TownX.ncell (h : TownX w0 tb t xs w) : w.cell? ⟨tb, 0, none⟩ = some (.int .i64 (t.n : Int)) := by
  obtain ⟨L, U, h1, h2, rfl⟩ := h
  exact h1.c 0
theorem TownX.ncells (h : TownX w0 tb t xs w) (hi : i < t.n) : ∃ g c A m c', w.cell? ⟨tb, 2, none⟩ = some (.slice (some ⟨g, 0, none⟩) t.n c) ∧ w.cell? ⟨g, i, none⟩ = some (.slice A m c') ∧ m = (t.notes i).length ∧ RRow (fun _ => False) w (.slice A m c') m 5 (encN (t.notes i)) := by
  obtain ⟨L, U, h1, h2, rfl⟩ := h
  obtain ⟨g, c, hv, hc, _, _⟩ := h1.rown hi
  have hr := h1.notesr hi
  obtain ⟨A, c', hv', _, _⟩ := hr.form
  rw [hv'] at hc hr
  exact ⟨g, c, A, _, c', by rw [h1.c 2, ← hv]; rfl, hc, rfl, hr⟩
/-- The map of who led is asked. -/
theorem TownX.look (h : TownX w0 tb t xs w) {e : Int} (he : 0 ≤ e ∧ e < 4096) : ∃ bm, (∀ W, Out Zone.no w W → W.cell? ⟨tb, 5, none⟩ = some (.map (some bm)) ∧ (Instr.lookup 66 (.map (some bm)) (.int .i64 e) true).run Try.prog W = .ok (.tuple #[.int .i64 ((t.lead e).getD 0), .bool (t.lead e).isSome]) W) := by
  obtain ⟨L, U, h1, h2, rfl⟩ := h
  refine ⟨U.bm, fun W ho => ?_⟩
  have hW := h1.any ho
  refine ⟨hW.c 5, ?_⟩
  rw [hW.lead.look2 Try.underlying3 Try.underlying66 zero3 (WalkArith.wf_i64 (by omega))]
  unfold leadV
  cases t.lead e <;> rfl
/-- Somebody leads. -/
theorem Sees.led {v : Value} {s : St} {B : Nat} (h : Sees w0 tb t xs v s B w) {e : Int} (he : 0 ≤ e ∧ e < 4096) (hl : ∀ e j, t.lead e = some j → 0 ≤ e ∧ e < 4096) (i : Nat) : ∃ bm w', w.cell? ⟨tb, 5, none⟩ = some (.map (some bm)) ∧ (Instr.mapUpdate 66 (.map (some bm)) (.int .i64 e) (.int .i64 (i : Int))).run Try.prog w = .ok () w' ∧ Sees w0 tb { t with lead := setL t.lead e (i : Int) } xs v s B w' := by
  obtain ⟨L, U, h1, h2, h3, h4, h5, h6, h7⟩ := h
  have hm : MapV Try.prog 3 w U.bm 4096 (leadV t.lead) := h1.lead.small Try.underlying3 4096 (fun x v hx => by
    unfold leadV at hx
    cases hc : t.lead x with
    | none => rw [hc] at hx; cases hx
    | some j => exact hl x j hc)
  obtain ⟨w', k1, k2, k3⟩ := hm.update Try.underlying3 Try.underlying66 (Nat.lt_of_lt_of_le (show 4096 < 4097 by omega) (le_maxLen (by omega))) (key := e) (WalkArith.wf_i64 (by omega)) (.int .i64 (i : Int))
  have op : Op 6 w L w' L := by
    have ho : Out (Zone.m fun k => L k = 6) w w' := (Out.refl _ _).grown k3 (fun k hk => Or.inl (show L k = 6 by rw [← Option.some.inj hk]; exact h1.lab.lead))
    exact ⟨ho, fun _ _ _ => rfl, fun k hk => Or.inl (Classical.byContradiction fun e => by have := h1.lt k e; omega), fun k hk => Nat.lt_of_lt_of_le (h1.lt k hk) ho.size, fun k hk => Or.inl hk⟩
  have b := h1.op op (by omega)
  have hlt := (MapV.lt h1.lead)
  refine ⟨U.bm, w', h1.c 5, k1, L, { U with m := 4096 + 1 }, ⟨b.blk (by omega), b.x (by omega), b.nn (by omega), fun j hj => b.node j hj (by omega), fun j hj => b.notes j hj (by omega), b.net (by omega), b.fst, b.rows, b.done (by omega), ?_, ⟨h1.lab.tb, h1.lab.x, h1.lab.nn, h1.lab.net, h1.lab.done, h1.lab.lead, h1.lab.node, h1.lab.notes⟩, op.lt⟩, h2.op op (by omega), h3, ?_, h5, ?_, h7⟩
  · refine k2.congr (fun x => ?_)
    unfold leadV putV setL
    show Option.map (Value.int .i64) (if x = e then some (i : Int) else t.lead x) = if x = e then some (Value.int .i64 (i : Int)) else Option.map (Value.int .i64) (t.lead x)
    by_cases hx : x = e
    · rw [if_pos hx, if_pos hx]; rfl
    · rw [if_neg hx, if_neg hx]
  · exact GRow.keep h4 (fun k hk => op.blk (GRow.mem h4 hk).2.1 (by rw [h5 k hk]; omega)) (fun _ _ => trivial)
  · exact (op.blk (heap_lt h6) (by rw [h7]; omega)).trans h6
/-- One entry more is done. -/
theorem Sees.push {A : Option Addr} {c : Nat} {s : St} {B : Nat} {y : Ent} (h : Sees w0 tb t xs (.slice A s.log.length c) s B w) (hd : t.done.length ≤ 4096) :
    ∃ (An : Option Addr) (cn : Nat) (A9 : Option Addr) (n9 c9 : Nat) (w1 : World), (∀ W, Out Zone.no w W → W.cell? ⟨tb, 4, none⟩ = some (.slice An t.done.length cn)) ∧
      (Builtin.append_ #[26, 26] 26 #[.slice An t.done.length cn, .slice (some ⟨w.heap.size, 0, none⟩) 1 1]).run Try.prog (w.drew.alloc (.cells #[.int .i64 y.ep, .string (str y.data)] 38)) = .ok (.slice A9 n9 c9) w1 ∧
      Sees w0 tb { t with done := t.done ++ [y] } xs (.slice A s.log.length c) s B (w1.setCell ⟨tb, 4, none⟩ (.slice A9 n9 c9)) ∧ w1.frozen? ⟨tb, 4, none⟩ = false ∧ ∃ u, w1.cell? ⟨tb, 4, none⟩ = some u := by
  letI := far0
  obtain ⟨L, U, h1, h2, h3, h4, h5, h6, h7⟩ := h
  obtain ⟨An, cn, hnv⟩ := GRow.form h1.done
  have ow : Out Zone.no w (w.drew.alloc (.cells #[.int .i64 y.ep, .string (str y.data)] 38)) := ((Out.refl _ _).drew).alloc _
  obtain ⟨Wb, hWb⟩ : ∃ Wb, w.drew.alloc (.cells #[.int .i64 y.ep, .string (str y.data)] 38) = Wb := ⟨_, rfl⟩
  have hnew := heap_alloc_new w.drew (.cells #[.int .i64 y.ep, .string (str y.data)] 38)
  rw [hWb] at ow hnew ⊢
  have hb := h1.any ow
  have hrx : RRow (fun _ => False) Wb (.slice (some ⟨w.heap.size, 0, none⟩) 1 1) 1 2 [.int .i64 y.ep, .string (str y.data)] := by
    refine ⟨rfl, some ⟨w.heap.size, 0, none⟩, 1, rfl, Nat.le_refl _, le_maxLen (by omega), fun j u hu => ⟨w.heap.size, 0, rfl, id, ?_⟩⟩
    rw [Nat.zero_add, cells_all (show Wb.heap[w.heap.size]? = _ from hnew) j]
    simpa using hu
  have hng := hb.done
  rw [hnv] at hng
  obtain ⟨v1, w1, k1, k2, k3, k4⟩ := GR.appended elem26 hng 26 hrx (by simp [Value.oneCell']) (le_maxLen (by omega)) (by omega) (by omega)
  obtain ⟨A9, c9, rfl⟩ := GRow.form k2
  rw [← hnv] at k3 k4
  have op1 := grow_op (q := 5) hb.lt (by omega) hb.lab.done k2 k3 k4
  have b1 := hb.op op1 (by omega)
  have hLt := b1.ltb (by omega)
  have op2 := Op.set (w := w1) (p := ⟨tb, 4, none⟩) (.slice A9 (t.done.length + 1) c9) hLt op1.lt
  have b2 := b1.op op1.lt op2 (by omega) (Q' := fun a => a = 5 ∨ a = 1) (fun a e => Or.inl e) (Or.inr rfl)
  have hvt : ∀ k, (Value.slice A9 (t.done.length + 1) c9).ownBlock = some k → k ≠ tb := fun k hk e => by
    have := glab_own (L := L) (q := 5) hk
    rw [e, hLt] at this
    omega
  have hblk := b1.blk (by omega)
  have hb2 := heap_set hblk 4 (.slice A9 (t.done.length + 1) c9)
  have st0 : ∀ k, k < Wb.heap.size → L k = 0 → glab L 5 (.slice A9 (t.done.length + 1) c9) k = 0 ∧ (w1.setCell ⟨tb, 4, none⟩ (.slice A9 (t.done.length + 1) c9)).heap[k]? = Wb.heap[k]? := fun k hk h0 => by
    have e1 := (op1.same k hk (by omega)).trans h0
    refine ⟨e1, ?_⟩
    rw [op2.blk (Nat.lt_of_lt_of_le hk op1.out.size) (by rw [e1]; omega), op1.blk hk (by omega)]
  refine ⟨An, cn, A9, _, c9, w1, fun W ho => by rw [(h1.any ho).c 4, ← hnv]; rfl, k1, ⟨_, { U with donev := .slice A9 (t.done.length + 1) c9 }, ⟨?_, b2.x (by omega), b2.nn (by omega), fun j hj => b2.node j hj (by omega), fun j hj => b2.notes j hj (by omega), b2.net (by omega), b2.fst, b2.rows, ?_, b2.lead (by omega), ⟨b1.ltb (by omega), b2.lx (by omega), b2.lnn (by omega), b2.lnet (by omega), fun k hk => glab_own hk, b2.llead (by omega), fun j hj => b2.lnode j hj (by omega), fun j hj => b2.lnotes j hj (by omega)⟩, op2.lt⟩, ((h2.any ow).op op1 (by omega)).op op2 (by omega), h3, ?_, fun k hk => ?_, ?_, ?_⟩, frozen_all hblk 4, ⟨_, by rw [cells_all hblk 4]; rfl⟩⟩
  · rw [hb2]; simp
  · show GR _ 38 2 _ (t.done ++ [y]).length (encL (t.done ++ [y]))
    rw [List.length_append, encL_append]
    exact gr_set k2 (fun e => hvt _ e rfl) _
  · have h4' := GRow.any h4 ow
    exact GRow.keep h4' (fun k hk => (st0 k (GRow.mem h4' hk).2.1 (h5 k hk)).2) (fun _ _ => trivial)
  · have h4' := GRow.any h4 ow
    exact (st0 k (GRow.mem h4' hk).2.1 (h5 k hk)).1
  · have h6' := ow.get h6 id
    exact ((st0 B (heap_lt h6') h7).2).trans h6'
  · have h6' := ow.get h6 id
    exact (st0 B (heap_lt h6') h7).1
end
end Go.Proofs.Ytlgoenimjmiapaa
