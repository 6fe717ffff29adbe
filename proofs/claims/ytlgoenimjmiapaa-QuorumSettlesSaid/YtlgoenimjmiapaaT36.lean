import Derived.Test.YtlgoenimjmiapaaT35
import Derived.Test.YtlgoenimjmiapaaT24
set_option linter.unusedSimpArgs false
set_option linter.unusedVariables false
set_option linter.unusedSectionVars false
/-! A deed: boxes of the call's own beside a town; the net loses a message, or gets one again. -/
namespace Go.Proofs.Ytlgoenimjmiapaa
open Go.RowKit Go.Maps

/-- With one box more. -/
def Base.put (b : Base) (k : Nat) (o : Obj) : Base := ⟨b.w, (k, o) :: b.bx⟩

section
variable {w w' w1 w2 : World} {w0 : Base} {tb : Nat} {t : Town} {L L' : Nat → Nat} {U : TV} {i : Nat} {xs : Nat → Nat}
theorem box_op (hlt : ∀ k, L k ≠ 0 → k < w.heap.size) (o : Obj) : Op 7 w L (w.alloc o) (fun k => if k = w.heap.size then 7 else L k) := by
  have hs : (w.alloc o).heap.size = w.heap.size + 1 := by simp
  refine ⟨(Out.refl _ _).alloc o, fun k hk _ => if_neg (by omega), fun k hk => ?_, fun k hk => ?_, fun k hk => ?_⟩
  · by_cases e : k = w.heap.size
    · exact Or.inr (if_pos e)
    · left
      show (if k = w.heap.size then 7 else L k) = 0
      rw [if_neg e]
      exact Classical.byContradiction fun e => by have := hlt k e; omega
  · have hk : (if k = w.heap.size then 7 else L k) ≠ 0 := hk
    by_cases e : k = w.heap.size
    · omega
    · rw [if_neg e] at hk
      have := hlt k hk; omega
  · by_cases e : k = w.heap.size
    · exact Or.inl (if_pos e)
    · left
      show (if k = w.heap.size then 7 else L k) = 7
      rw [if_neg e]; exact hk
theorem TownAt.op7 (h : TownAt w tb t L U) (o : Op 7 w L w' L') : TownAt w' tb t L' U := by
  have b := h.op o (by omega)
  exact ⟨b.blk (by omega), b.x (by omega), b.nn (by omega), fun i hi => b.node i hi (by omega), fun i hi => b.notes i hi (by omega), b.net (by omega), b.fst, b.rows, b.done (by omega), b.lead (by omega), ⟨b.ltb (by omega), b.lx (by omega), b.lnn (by omega), b.lnet (by omega), b.ldone (by omega), b.llead (by omega), fun j hj => b.lnode j hj (by omega), fun j hj => b.lnotes j hj (by omega)⟩, o.lt⟩
theorem Own1.op7 (h : Own1 w0 w L) (o : Op 7 w L w' L') {bx : List (Nat × Obj)} (hb : ∀ p ∈ bx, L' p.1 = 7 ∧ w'.heap[p.1]? = some p.2) : Own1 ⟨w0.w, bx⟩ w' L' := by
  have h1 := h.1.size
  refine ⟨h.1.fresh o.out (fun k hk => h.2.1 k (by have hk : L k = 7 := hk; omega)), fun k hk => ?_, hb⟩
  by_cases hlt : k < w.heap.size
  · by_cases hkq : L k = 7
    · exact h.2.1 k (by omega)
    · rw [o.same k hlt hkq] at hk
      exact h.2.1 k hk
  · exact Nat.le_trans h1 (by omega)
theorem Own1.box (h : Own1 w0 w L) (hlt : ∀ k, L k ≠ 0 → k < w.heap.size) (o : Obj) : Own1 (w0.put w.heap.size o) (w.alloc o) (fun k => if k = w.heap.size then 7 else L k) := by
  refine h.op7 (box_op hlt o) (fun p hp => ?_)
  rcases List.mem_cons.1 hp with e | e
  · subst e; exact ⟨if_pos rfl, heap_alloc_new w o⟩
  · obtain ⟨e1, e2⟩ := h.2.2 p e
    have := heap_lt e2
    exact ⟨(if_neg (by omega)).trans e1, ((Out.refl Zone.no w).alloc o).get e2 id⟩
theorem TownX.box (h : TownX w0 tb t xs w) (o : Obj) : TownX (w0.put w.heap.size o) tb t xs (w.alloc o) := by
  obtain ⟨L, U, h1, h2, h3⟩ := h
  exact ⟨_, U, h1.op7 (box_op h1.lt o), h2.box h1.lt o, h3⟩
theorem TownM.box {m : Msg} {v : Value} (h : TownM w0 tb t xs m v w) (o : Obj) : TownM (w0.put w.heap.size o) tb t xs m v (w.alloc o) := by
  obtain ⟨L, U, h1, h2, h3, h4⟩ := h
  exact ⟨_, U, h1.op7 (box_op h1.lt o), h2.box h1.lt o, h3, h4.op (box_op h1.lt o) (by omega)⟩
theorem Own1.less {bx : List (Nat × Obj)} (h : Own1 w0 w L) (hb : ∀ p ∈ bx, p ∈ w0.bx) : Own1 ⟨w0.w, bx⟩ w L := ⟨h.1, h.2.1, fun p hp => h.2.2 p (hb p hp)⟩
theorem TownX.less {bx : List (Nat × Obj)} (h : TownX w0 tb t xs w) (hb : ∀ p ∈ bx, p ∈ w0.bx) : TownX ⟨w0.w, bx⟩ tb t xs w := by
  obtain ⟨L, U, h1, h2, h3⟩ := h
  exact ⟨L, U, h1, h2.less hb, h3⟩
/-- Back to the boxes that were. -/
theorem TownX.unput {k : Nat} {o : Obj} (h : TownX (w0.put k o) tb t xs w) : TownX w0 tb t xs w := h.less (bx := w0.bx) (fun p hp => List.mem_cons_of_mem _ hp)
theorem TownX.boxed (h : TownX w0 tb t xs w) {k : Nat} {o : Obj} (hk : (k, o) ∈ w0.bx) : w.heap[k]? = some o := by
  obtain ⟨L, U, h1, h2, h3⟩ := h
  exact (h2.2.2 _ hk).2
theorem TownM.x {m : Msg} {v : Value} (h : TownM w0 tb t xs m v w) : TownX w0 tb t xs w := by
  obtain ⟨L, U, h1, h2, h3, h4⟩ := h
  exact ⟨L, U, h1, h2, h3⟩
theorem Op7.set {B j : Nat} (u : Value) (hL : L B = 7) (hlt : ∀ k, L k ≠ 0 → k < w.heap.size) : Op 7 w L (w.setCell ⟨B, j, none⟩ u) L := Op.set (p := ⟨B, j, none⟩) u hL hlt
/-- The work is stored into a box. -/
theorem TownW.store2 {v : Value} {ns : List Nt} {ms : List Msg} {B : Nat} {a b u0 u1 : Value} {bx : List (Nat × Obj)} {wb : World} (h : TownW ⟨wb, (B, .cells #[a, b] 32 (0, 0)) :: bx⟩ tb t xs v ns ms w) (hb : ∀ p ∈ bx, p.1 ≠ B) :
    TownW ⟨wb, (B, .cells #[u0, u1] 32 (0, 0)) :: bx⟩ tb t xs v ns ms ((w.setCell ⟨B, 0, none⟩ u0).setCell ⟨B, 1, none⟩ u1) := by
  obtain ⟨L, U, h1, h2, h3, h4⟩ := h
  obtain ⟨hL, hB⟩ := h2.2.2 _ (List.mem_cons_self ..)
  have o1 := Op7.set (j := 0) u0 hL h1.lt
  have o2 := Op7.set (j := 1) u1 hL o1.lt
  have k1 := h2.op7 o1 (bx := []) (fun p hp => by cases hp)
  refine ⟨L, U, (h1.op7 o1).op7 o2, k1.op7 o2 (fun p hp => ?_), h3, (h4.op o1 (by omega)).op o2 (by omega)⟩
  rcases List.mem_cons.1 hp with e | e
  · subst e
    refine ⟨hL, ?_⟩
    have e1 := heap_set hB 0 u0
    have e2 := heap_set e1 1 u1
    exact e2
  · obtain ⟨e1, e2⟩ := h2.2.2 p (List.mem_cons_of_mem _ e)
    refine ⟨e1, ?_⟩
    rw [Below.heap_setCell _ ⟨B, 1, none⟩ _ _ (hb p e), Below.heap_setCell _ ⟨B, 0, none⟩ _ _ (hb p e)]
    exact e2

/-- works, of a node's answer. -/
theorem works_ok {c : NS} {a : Deed} {v : Value} {T T' D : Nat} (h : TownW w0 tb { t with X := upd t.X i c.q } xs v c.ns c.ms w) (hi : i < t.n) (h7 : t.n ≤ 7) (hodd : t.n % 2 = 1) (ho : AfterOk t i c a T') (hb : TB t T D) (hc : c.Few 2060 14) (hT : T ≤ 400) (hD : D ≤ 400000) (hcut : -9223372036854775808 ≤ a.cut ∧ a.cut ≤ 9223372036854775807) :
    Calls Try.prog 43 #[.pointer (some ⟨tb, 0, none⟩), .int .i64 (i : Int), v, .agg #[.int .i64 a.kind, .int .i64 a.i, .int .i64 a.k, .int .i64 a.cut, .bool a.falls]] w fun e w' => e = .returned (.bool true) ∧ ∃ xs', TownX w0 tb (t.works i c a) xs' w' := by
  have e : Town.worked { t with X := upd t.X i c.q } i c.ns c.ms a = t.works i c a := rfl
  have h1 := hb.notes i
  have h2 := hc.ns
  have h3 := hc.ms
  have h4 := hb.net
  rw [← e]
  by_cases ha : a.falls = true
  · obtain ⟨s, hs, hg⟩ := ho.fold
    refine works_falls h hi h7 hodd a ha hcut (by show (t.notes i).length + _ ≤ _; omega) (fun y hy => ?_) hs (hg ha)
    rcases List.mem_append.1 hy with e | e
    · have := hb.ents i y e; omega
    · have := hc.data y e; omega
  · exact (works_on h hi a (by simpa using ha) (by show (t.notes i).length + _ ≤ _; omega) (by show t.net.length + _ ≤ _; omega)).mono (fun e w' ⟨h1, h2⟩ => ⟨h1, xs, h2⟩)
theorem after_X (t : Town) (i : Nat) (c : NS) (a : Deed) : (t.after i c a).X = (t.works i c a).X := by unfold Town.after; rw [(safe_n _ _).2.1]
theorem after_n (t : Town) (i : Nat) (c : NS) (a : Deed) : (t.after i c a).n = t.n := by unfold Town.after; rw [(safe_n _ _).1, works_n]
theorem safe_ok {c : NS} {a : Deed} {T T' D : Nat} (h : TownX w0 tb (t.works i c a) xs w) (h7 : t.n ≤ 7) (ho : AfterOk t i c a T') (hb : TB (t.works i c a) T D) (hT : T ≤ 400) (hD : D ≤ 400001) (hT' : T' ≤ 2048) :
    Calls Try.prog 42 #[.pointer (some ⟨tb, 0, none⟩)] w fun e w' => e = .returned (.bool true) ∧ TownX w0 tb (t.after i c a) xs w' := by
  have hn := works_n t i c a
  have hf : ∀ j, j < (t.works i c a).n → ((t.works i c a).X j).Fit ∧ ((t.works i c a).X j).st.ep ≤ (T' : Int) := fun j hj => by
    have := ho.fine.fit j (by rw [after_n]; omega)
    rw [after_X] at this
    exact ⟨this.1, this.2.2.2.2.1⟩
  have hy : SafeHyp (t.works i c a) := ⟨by rw [hn]; exact h7, fun j hj => (hf j hj).1, fun j hj => ⟨(hf j hj).1.ep, by have := (hf j hj).2; omega⟩, fun j hj => by have := hb.notes j; omega, by have := hb.done; omega, fun e j he => by have := hb.lead e j he; omega⟩
  have := safe_t h hy (fun j hj => ho.safe j (by omega))
  rw [hn] at this
  exact this
theorem newest_ok {c : NS} {a : Deed} {T T' D : Nat} (h : TownX w0 tb (t.after i c a) xs w) (h7 : t.n ≤ 7) (ho : AfterOk t i c a T') (hb : TB (t.after i c a) T D) (hT : T ≤ 400) :
    Calls Try.prog 44 #[.pointer (some ⟨tb, 0, none⟩)] w fun e w' => e = .returned (.bool true) ∧ TownX w0 tb (t.after i c a) xs w' := by
  have hn := after_n t i c a
  refine newest_t h (by rw [hn]; exact h7) (fun j hj => (ho.fine.fit j hj).1) (by have := hb.done; omega) (fun b hb' hr hm => ho.newest b (by omega) hr (fun j hj => hm j (by omega)))
theorem crash_ok {T D : Nat} (h : TownX w0 tb t xs w) (hi : i < t.n) (h7 : t.n ≤ 7) (hodd : t.n % 2 = 1) (ht : TI t T) (hb : TB t T D) (hT : T ≤ 400) (hD : D ≤ 400000) :
    Calls Try.prog 21 #[.pointer (some ⟨tb, 0, none⟩), .int .i64 (i : Int)] w fun e w' => e = .returned (.bool true) ∧ ∃ xs', TownX w0 tb (t.crash i) xs' w' := by
  have hf := (ht.fine h7 (by omega))
  exact crash_t h hi h7 hodd (hf.notes i hi) (hf.fit i hi).2.2.2.1 (by have := hb.notes i; omega) (fun y hy => by have := hb.ents i y hy; omega)
theorem crashsafe_ok {T D : Nat} (h : TownX w0 tb (t.crash i) xs w) (hi : i < t.n) (h7 : t.n ≤ 7) (ht : TI t T) (hb : TB t T D) (hT : T ≤ 400) (hD : D ≤ 400000) (hs : ∀ j, j < t.n → SafeAt ((t.crash i).safe j) j) :
    Calls Try.prog 42 #[.pointer (some ⟨tb, 0, none⟩)] w fun e w' => e = .returned (.bool true) ∧ TownX w0 tb ((t.crash i).safe t.n) xs w' := by
  have hf := (ht.crash hi).1.fine (show (t.crash i).n ≤ 7 from h7) (by omega)
  have hy : SafeHyp (t.crash i) := ⟨h7, fun j hj => (hf.fit j hj).1, fun j hj => ⟨(hf.fit j hj).1.ep, by have := (hf.fit j hj).2.2.2.2.1; omega⟩, fun j hj => by have := hb.notes j; show (t.notes j).length ≤ _; omega, by have := hb.done; show t.done.length ≤ _; omega, fun e j he => by have := hb.lead e j he; omega⟩
  exact safe_t h hy hs

/-- What 's[k:]' is, of messages. -/
def fromM (A : Option Addr) (n L c : Nat) : Value := .slice (if c = n then A else A.map (·.add (n * 8))) (L - n) (c - n)
theorem run_fromM {A : Option Addr} {n L c : Nat} (hn : n ≤ L) (W : World) : (Instr.slice 30 (.slice A L c) (some (.int .i64 (n : Int))) none none).run Try.prog W = .ok (fromM A n L c) W := by
  obtain ⟨hu, ⟨i, hi1, hz, hsz, hby⟩, hz1, hp⟩ := elem30
  simp [Instr.slice, run_underlying hu, Instr.sliceBounds, Instr.sliceBound, sizeOf, typeInfo, hi1, hsz, fromM, hn, asIntOf]
theorem run_uptoM {A : Option Addr} {n L c : Nat} (hn : n ≤ c) (W : World) : (Instr.slice 30 (.slice A L c) none (some (.int .i64 (n : Int))) none).run Try.prog W = .ok (.slice A n c) W := by
  obtain ⟨hu, ⟨i, hi1, hz, hsz, hby⟩, hz1, hp⟩ := elem30
  have e0 : A.map (·.add 0) = A := by cases A <;> simp [Addr.add]
  simp [Instr.slice, run_underlying hu, Instr.sliceBounds, Instr.sliceBound, sizeOf, typeInfo, hi1, hsz, hn, asIntOf]
  exact fun _ => e0
theorem encM_drop (l : List (Msg × Value)) (k : Nat) : encM (l.drop k) = (encM l).drop (k * 8) := by
  induction l generalizing k with
  | nil => simp [encM]
  | cons y r ih =>
    cases k with
    | zero => simp
    | succ k =>
      have e : encM (y :: r) = mcells y ++ encM r := rfl
      have hl : (mcells y).length = 8 := rfl
      have e3 : (k + 1) * 8 - 8 = k * 8 := by omega
      have e4 : (mcells y).drop ((k + 1) * 8) = [] := List.drop_of_length_le (by omega)
      rw [List.drop_succ_cons, ih, e, List.drop_append, hl, e3, e4]
      rfl
theorem encM_take (l : List (Msg × Value)) (k : Nat) : encM (l.take k) = (encM l).take (k * 8) := by
  induction l generalizing k with
  | nil => simp [encM]
  | cons y r ih =>
    cases k with
    | zero => simp [encM]
    | succ k =>
      have e : encM (y :: r) = mcells y ++ encM r := rfl
      have e2 : encM (y :: r.take k) = mcells y ++ encM (r.take k) := rfl
      have hl : (mcells y).length = 8 := rfl
      have e3 : (k + 1) * 8 - 8 = k * 8 := by omega
      have e4 : (mcells y).take ((k + 1) * 8) = mcells y := List.take_of_length_le (by omega)
      rw [List.take_succ_cons, e2, ih, e, List.take_append, hl, e3, e4]
theorem encM_one (l : List (Msg × Value)) (hl : ∀ p ∈ l, p.2.oneCell' = true) : ∀ u ∈ encM l, u.oneCell' = true := by
  intro u hu
  obtain ⟨p, hp, hx⟩ := List.mem_flatMap.1 hu
  have hx : u ∈ mcells p := hx
  unfold mcells at hx
  simp only [List.mem_cons, List.not_mem_nil, or_false] at hx
  rcases hx with rfl | rfl | rfl | rfl | rfl | rfl | rfl | rfl
  all_goals first | rfl | exact hl p hp
theorem row_fromM {A : Option Addr} {c : Nat} {l : List (Msg × Value)} (h : GR w 36 8 (.slice A l.length c) l.length (encM l)) {n : Nat} (hn : n ≤ l.length) : RRow (fun _ => False) w (fromM A n l.length c) (l.length - n) 8 (encM (l.drop n)) := by
  have hlc := GRow.caps h
  have hcm : c ≤ maxLen := by
    rcases h.2 with ⟨hv, h0⟩ | ⟨g, cap, cur, hv, hm, hh, h1, h2, h3, h4⟩
    · injection hv with _ _ e; omega
    · injection hv with _ _ e; omega
  refine ⟨by rw [encM_length, List.length_drop], (if c = n then A else A.map (·.add (n * 8))), c - n, rfl, by omega, by omega, fun j u hu => ?_⟩
  rw [encM_drop, List.getElem?_drop] at hu
  obtain ⟨g, c', hv, hc⟩ := GRow.cell h hu
  have hA : A = some ⟨g, 0, none⟩ := by injection hv
  have hj : n * 8 + j < (encM l).length := (List.getElem?_eq_some_iff.1 hu).1
  rw [encM_length] at hj
  refine ⟨g, n * 8, ?_, id, hc⟩
  rw [if_neg (by omega), hA]
  show some ((⟨g, 0, none⟩ : Addr).add (n * 8)) = _
  rw [addr0_add]

/-- Another net. -/
theorem TownAt.newNet (h : TownAt w tb t L U) (ho : Own1 w0 w L) (hw : Out Zone.no w w2) {v : Value} {l : List (Msg × Value)} (hg : GR w2 36 8 v l.length (encM l)) (hfr : ∀ k, v.ownBlock = some k → w.heap.size ≤ k) (hl : ∀ p ∈ l, p ∈ U.ss) :
    ∃ L', TownAt (w2.setCell ⟨tb, 3, none⟩ v) tb { t with net := l.map Prod.fst } L' { U with netv := v, ss := l } ∧ Own1 w0 (w2.setCell ⟨tb, 3, none⟩ v) L' ∧ (∀ (u : Value) (n sz : Nat) (ys : List Value), RRow (fun k => L k ≠ 0) w u n sz ys → RRow (fun k => L' k ≠ 0) (w2.setCell ⟨tb, 3, none⟩ v) u n sz ys) ∧
      (∀ k, k ≠ 3 → (w2.setCell ⟨tb, 3, none⟩ v).cell? ⟨tb, k, none⟩ = w.cell? ⟨tb, k, none⟩) ∧ w2.frozen? ⟨tb, 3, none⟩ = false ∧ ∃ u, w2.cell? ⟨tb, 3, none⟩ = some u := by
  letI := far0
  have op1 : Op 4 w L w2 (glab L 4 v) := by
    refine ⟨hw.mono0, fun k hk hne => glab_else (fun e => by have := hfr k e; omega), fun k hk => ?_, fun k hk => ?_, fun k hk => ?_⟩
    · by_cases e : v.ownBlock = some k
      · exact Or.inr (glab_own e)
      · left
        rw [glab_else e]
        exact Classical.byContradiction (fun e => by have := h.lt k e; omega)
    · by_cases e : v.ownBlock = some k
      · exact (GRow.mem hg e).2.1
      · rw [glab_else e] at hk
        exact Nat.lt_of_lt_of_le (h.lt k hk) hw.size
    · by_cases e : v.ownBlock = some k
      · exact Or.inl (glab_own e)
      · rw [glab_else e]; exact Or.inl hk
  have b1 := h.op op1 (by omega)
  have hLt := b1.ltb (by omega)
  have op2 := Op.set (w := w2) (p := ⟨tb, 3, none⟩) v hLt op1.lt
  have b2 := b1.op op1.lt op2 (by omega) (Q' := fun a => a = 4 ∨ a = 1) (fun a e => Or.inl e) (Or.inr rfl)
  have hvt : ∀ k, v.ownBlock = some k → k ≠ tb := fun k hk e => by
    have := glab_own (L := L) (q := 4) hk
    rw [e, hLt] at this
    omega
  have hblk := b1.blk (by omega)
  have hb2 := heap_set hblk 3 v
  refine ⟨_, ⟨?_, b2.x (by omega), b2.nn (by omega), fun j hj => b2.node j hj (by omega), fun j hj => b2.notes j hj (by omega), ?_, rfl, fun p hp => b2.rows p (hl p hp), b2.done (by omega), b2.lead (by omega), ⟨b1.ltb (by omega), b2.lx (by omega), b2.lnn (by omega), fun k hk => glab_own hk, b2.ldone (by omega), b2.llead (by omega), fun j hj => b2.lnode j hj (by omega), fun j hj => b2.lnotes j hj (by omega)⟩, op2.lt⟩, (ho.op op1 (by omega)).op op2 (by omega), fun u n sz ys hr => (hr.op op1 (by omega)).op op2 (by omega), fun k hk => ?_, frozen_all hblk 3, ⟨_, by rw [cells_all hblk 3]; rfl⟩⟩
  · rw [hb2]; simp
  · exact gr_set hg (fun e => hvt _ e rfl) _
  · rw [cells_all hb2 k, h.c k]
    rcases k with _ | _ | _ | _ | _ | _ | _ | k
    all_goals first | rfl | omega | simp

/-- Message k, as it is read. -/
theorem TownX.getM (h : TownX w0 tb t xs w) {k : Nat} {m : Msg} (hm : t.net[k]? = some m) : ∃ Ap cp g cn, TownM w0 tb t xs m (.slice Ap m.log.length cp) w ∧ w.cell? ⟨tb, 3, none⟩ = some (.slice (some ⟨g, 0, none⟩) t.net.length cn) ∧
    w.cell? ⟨g, k * 8, none⟩ = some (.int .i64 m.kind) ∧ w.cell? ⟨g, k * 8 + 1, none⟩ = some (.int .i64 m.frm) ∧ w.cell? ⟨g, k * 8 + 2, none⟩ = some (.int .i64 m.to) ∧ w.cell? ⟨g, k * 8 + 3, none⟩ = some (.int .i64 m.ep) ∧ w.cell? ⟨g, k * 8 + 4, none⟩ = some (.int .i64 m.at_) ∧ w.cell? ⟨g, k * 8 + 5, none⟩ = some (.int .i64 m.last) ∧ w.cell? ⟨g, k * 8 + 6, none⟩ = some (.int .i64 m.commit) ∧ w.cell? ⟨g, k * 8 + 7, none⟩ = some (.slice Ap m.log.length cp) := by
  obtain ⟨L, U, h1, h2, h3⟩ := h
  have hl : U.ss.length = t.net.length := by rw [← h1.fst, List.length_map]
  have hm2 := hm
  rw [← h1.fst, List.getElem?_map] at hm2
  obtain ⟨p, hp, rfl⟩ := Option.map_eq_some_iff.1 hm2
  have hrow := h1.rows p (List.mem_of_getElem? hp)
  obtain ⟨Ap, cp, hpv, _, _⟩ := hrow.form
  have hnet := h1.net
  obtain ⟨g, cn, hv, _⟩ := GRow.cell hnet ((encM_at hp 0 (by omega)).trans (show (mcells p)[0]? = some _ from rfl))
  have cell : ∀ j u, j < 8 → (mcells p)[j]? = some u → w.cell? ⟨g, k * 8 + j, none⟩ = some u := fun j u hj hu => by
    obtain ⟨g', c', hv', hc⟩ := GRow.cell hnet ((encM_at hp j hj).trans hu)
    rw [hv] at hv'
    injection hv' with e
    injection e with e
    injection e with e
    subst e
    exact hc
  have hm8 : (mcells p) = [.int .i64 p.1.kind, .int .i64 p.1.frm, .int .i64 p.1.to, .int .i64 p.1.ep, .int .i64 p.1.at_, .int .i64 p.1.last, .int .i64 p.1.commit, .slice Ap p.1.log.length cp] := by unfold mcells; rw [hpv]
  rw [hpv] at hrow
  refine ⟨Ap, cp, g, cn, ⟨L, U, h1, h2, h3, hrow⟩, ?_, cell 0 _ (by omega) (by rw [hm8]; rfl), cell 1 _ (by omega) (by rw [hm8]; rfl), cell 2 _ (by omega) (by rw [hm8]; rfl), cell 3 _ (by omega) (by rw [hm8]; rfl), cell 4 _ (by omega) (by rw [hm8]; rfl), cell 5 _ (by omega) (by rw [hm8]; rfl), cell 6 _ (by omega) (by rw [hm8]; rfl), cell 7 _ (by omega) (by rw [hm8]; rfl)⟩
  rw [h1.c 3]
  show some U.netv = _
  rw [hv, hl]
/-- The net's slice. -/
theorem TownX.netv (h : TownX w0 tb t xs w) : ∃ A c, w.cell? ⟨tb, 3, none⟩ = some (.slice A t.net.length c) := by
  obtain ⟨L, U, h1, h2, h3⟩ := h
  have hl : U.ss.length = t.net.length := by rw [← h1.fst, List.length_map]
  obtain ⟨A, c, hv⟩ := GRow.form h1.net
  refine ⟨A, c, ?_⟩
  rw [h1.c 3]
  show some U.netv = _
  rw [hv, hl]
theorem TownM.erased {m : Msg} {v : Value} (h : TownM w0 tb t xs m v w) {k : Nat} (hk : k < t.net.length) (hn : t.net.length ≤ 1000000) :
    ∃ (A : Option Addr) (c : Nat) (A1 : Option Addr) (n1 c1 : Nat) (w1 : World) (A2 : Option Addr) (n2 c2 : Nat) (w2 : World), (∀ W, Out Zone.no w W → W.cell? ⟨tb, 3, none⟩ = some (.slice A t.net.length c)) ∧ k ≤ c ∧
      (Builtin.append_ #[30, 30] 30 #[.slice (some ⟨w.heap.size, 0, none⟩) 0 0, .slice A k c]).run Try.prog (w.drew.alloc (.cells #[] 36)) = .ok (.slice A1 n1 c1) w1 ∧ Out Zone.no w w1 ∧
      (Builtin.append_ #[30, 30] 30 #[.slice A1 n1 c1, fromM A (k + 1) t.net.length c]).run Try.prog w1 = .ok (.slice A2 n2 c2) w2 ∧
      TownM w0 tb { t with net := t.net.eraseIdx k } xs m v (w2.setCell ⟨tb, 3, none⟩ (.slice A2 n2 c2)) ∧ w2.frozen? ⟨tb, 3, none⟩ = false ∧ ∃ u, w2.cell? ⟨tb, 3, none⟩ = some u := by
  obtain ⟨L, U, h1, h2, h3, h4⟩ := h
  have hl : U.ss.length = t.net.length := by rw [← h1.fst, List.length_map]
  obtain ⟨A, c, hv⟩ := GRow.form h1.net
  have hcap := h1.net
  rw [hv] at hcap
  have hcp := GRow.caps hcap
  have ow : Out Zone.no w (w.drew.alloc (.cells #[] 36)) := ((Out.refl _ _).drew).alloc _
  have hnew := heap_alloc_new w.drew (.cells #[] 36)
  obtain ⟨W0, hW0⟩ : ∃ W0, w.drew.alloc (.cells #[] 36) = W0 := ⟨_, rfl⟩
  have hsz : W0.heap.size = w.heap.size + 1 := by rw [← hW0]; simp
  rw [hW0] at ow hnew ⊢
  have g1 : GR W0 36 8 (.slice (some ⟨w.heap.size, 0, none⟩) 0 0) 0 [] := ⟨by simp, Or.inr ⟨w.heap.size, 0, #[], rfl, trivial, hnew, Nat.le_refl _, Nat.zero_le _, by simp, by simp⟩⟩
  have hone : ∀ u ∈ encM U.ss, u.oneCell' = true := encM_one _ (fun p hp => by
    obtain ⟨Ap, cp, hpv, _, _⟩ := (h1.rows p hp).form
    rw [hpv]; rfl)
  have hr1 : RRow (fun _ => False) W0 (.slice A k c) k 8 (encM (U.ss.take k)) := by
    have := (gr_reads (N := fun _ => False) (GRow.any hcap ow) (fun _ _ h => h)).firsts (k := k) (by omega)
    rw [encM_take]; exact this
  obtain ⟨v1, w1, k1, k2, k3, k4⟩ := GR.appended elem30 g1 30 hr1 (fun u hu => hone u (by rw [encM_take] at hu; exact List.mem_of_mem_take hu)) (le_maxLen (by omega)) (by omega) (by omega)
  obtain ⟨A1, c1, rfl⟩ := GRow.form k2
  have o1 : Out Zone.no w w1 := ow.grown k3 (fun j hj => Or.inr (Nat.le_of_eq (Option.some.inj hj)))
  have hv1 : ∀ j, (Value.slice A1 (0 + k) c1).ownBlock = some j → w.heap.size ≤ j := fun j hj => by
    rcases k4 with e | e
    · exact Nat.le_of_eq (Option.some.inj (e.symm.trans hj))
    · have := Option.some.inj (e.symm.trans hj); omega
  have hr2 : RRow (fun _ => False) w1 (fromM A (k + 1) U.ss.length c) (U.ss.length - (k + 1)) 8 (encM (U.ss.drop (k + 1))) := (row_fromM hcap (by omega)).any o1
  obtain ⟨v2, w2, j1, j2, j3, j4⟩ := GR.appended elem30 k2 30 hr2 (fun u hu => hone u (by rw [encM_drop] at hu; exact List.mem_of_mem_drop hu)) (le_maxLen (by omega)) (by omega) (by omega)
  obtain ⟨A2, c2, rfl⟩ := GRow.form j2
  have o2 : Out Zone.no w w2 := o1.grown j3 (fun j hj => Or.inr (hv1 j hj))
  have hv2 : ∀ j, (Value.slice A2 (0 + k + (U.ss.length - (k + 1))) c2).ownBlock = some j → w.heap.size ≤ j := fun j hj => by
    rcases j4 with e | e
    · rw [e] at hj; exact hv1 j hj
    · rw [e] at hj; injection hj with hj; have := o1.size; omega
  have hll : (U.ss.take k ++ U.ss.drop (k + 1)).length = 0 + k + (U.ss.length - (k + 1)) := by rw [List.length_append, List.length_take, List.length_drop]; omega
  obtain ⟨L', q1, q2, q3, q4, q5, q6⟩ := h1.newNet h2 o2 (v := .slice A2 (0 + k + (U.ss.length - (k + 1))) c2) (l := U.ss.take k ++ U.ss.drop (k + 1)) (by rw [hll, encM_append]; exact j2) hv2 (fun p hp => by
    rcases List.mem_append.1 hp with e | e
    · exact List.mem_of_mem_take e
    · exact List.mem_of_mem_drop e)
  have he : (U.ss.take k ++ U.ss.drop (k + 1)).map Prod.fst = t.net.eraseIdx k := by
    rw [← h1.fst, List.eraseIdx_eq_take_drop_succ, List.map_append, List.map_take, List.map_drop]
  rw [he] at q1
  refine ⟨A, c, A1, _, c1, w1, A2, _, c2, w2, fun W ho => ?_, by omega, k1, o1, ?_, ⟨L', _, q1, q2, h3, q3 _ _ _ _ h4⟩, q5, q6⟩
  · rw [(h1.any ho).c 3]
    show some U.netv = _
    rw [hv, hl]
  · rw [← hl]; exact j1
theorem TownM.again {m : Msg} {Ap : Option Addr} {cp : Nat} (h : TownM w0 tb t xs m (.slice Ap m.log.length cp) w) (hn : t.net.length ≤ 1000000) :
    ∃ (An : Option Addr) (cn : Nat) (A9 : Option Addr) (n9 c9 : Nat) (w1 : World), (∀ W, Out Zone.no w W → W.cell? ⟨tb, 3, none⟩ = some (.slice An t.net.length cn)) ∧
      (Builtin.append_ #[30, 30] 30 #[.slice An t.net.length cn, .slice (some ⟨w.heap.size, 0, none⟩) 1 1]).run Try.prog (w.drew.alloc (.cells #[.int .i64 m.kind, .int .i64 m.frm, .int .i64 m.to, .int .i64 m.ep, .int .i64 m.at_, .int .i64 m.last, .int .i64 m.commit, .slice Ap m.log.length cp] 36)) = .ok (.slice A9 n9 c9) w1 ∧
      TownX w0 tb { t with net := t.net ++ [m] } xs (w1.setCell ⟨tb, 3, none⟩ (.slice A9 n9 c9)) ∧ w1.frozen? ⟨tb, 3, none⟩ = false ∧ ∃ u, w1.cell? ⟨tb, 3, none⟩ = some u := by
  obtain ⟨L, U, h1, h2, h3, hrow⟩ := h
  obtain ⟨An, cn, hnv⟩ := GRow.form h1.net
  have hul : U.ss.length = t.net.length := by rw [← h1.fst, List.length_map]
  have hm8 : (mcells (m, .slice Ap m.log.length cp)) = [.int .i64 m.kind, .int .i64 m.frm, .int .i64 m.to, .int .i64 m.ep, .int .i64 m.at_, .int .i64 m.last, .int .i64 m.commit, .slice Ap m.log.length cp] := rfl
  have ow : Out Zone.no w (w.drew.alloc (.cells #[.int .i64 m.kind, .int .i64 m.frm, .int .i64 m.to, .int .i64 m.ep, .int .i64 m.at_, .int .i64 m.last, .int .i64 m.commit, .slice Ap m.log.length cp] 36)) := ((Out.refl _ _).drew).alloc _
  have hnew := heap_alloc_new w.drew (.cells #[.int .i64 m.kind, .int .i64 m.frm, .int .i64 m.to, .int .i64 m.ep, .int .i64 m.at_, .int .i64 m.last, .int .i64 m.commit, .slice Ap m.log.length cp] 36)
  obtain ⟨Wb, hWb⟩ : ∃ Wb, w.drew.alloc (.cells #[.int .i64 m.kind, .int .i64 m.frm, .int .i64 m.to, .int .i64 m.ep, .int .i64 m.at_, .int .i64 m.last, .int .i64 m.commit, .slice Ap m.log.length cp] 36) = Wb := ⟨_, rfl⟩
  rw [hWb] at ow hnew ⊢
  have hb := h1.any ow
  have hrx : RRow (fun _ => False) Wb (.slice (some ⟨w.heap.size, 0, none⟩) 1 1) 1 8 (mcells (m, .slice Ap m.log.length cp)) := by
    refine ⟨rfl, some ⟨w.heap.size, 0, none⟩, 1, rfl, Nat.le_refl _, le_maxLen (by omega), fun j u hu => ⟨w.heap.size, 0, rfl, id, ?_⟩⟩
    rw [Nat.zero_add, cells_all (show Wb.heap[w.heap.size]? = _ from hnew) j]
    rw [hm8] at hu
    simpa using hu
  have hng := hb.net
  rw [hnv, hul] at hng
  have hone : ∀ u ∈ mcells (m, .slice Ap m.log.length cp), u.oneCell' = true := fun u hu => by
    rw [hm8] at hu
    simp only [List.mem_cons, List.not_mem_nil, or_false] at hu
    rcases hu with rfl | rfl | rfl | rfl | rfl | rfl | rfl | rfl <;> rfl
  obtain ⟨v1, w1, k1, k2, k3, k4⟩ := GR.appended elem30 hng 30 hrx hone (le_maxLen (by omega)) (by omega) (by omega)
  obtain ⟨A9, c9, rfl⟩ := GRow.form k2
  have e9 : U.netv.ownBlock = (Value.slice An t.net.length cn).ownBlock := by rw [hnv, hul]
  obtain ⟨L', q1, q2, q3, q4, q5, q7, q6⟩ := hb.pushNet (h2.any ow) (p := (m, .slice Ap m.log.length cp)) (hrow.any ow) (v1 := .slice A9 (t.net.length + 1) c9) (by rw [hul]; exact k2) (by rw [e9]; exact k3) (by rw [e9]; exact k4)
  refine ⟨An, cn, A9, _, c9, w1, fun W ho => ?_, k1, ⟨L', _, q1, q2, h3⟩, q4, q5⟩
  rw [(h1.any ho).c 3]
  show some U.netv = _
  rw [hnv, hul]
end
end Go.Proofs.Ytlgoenimjmiapaa

/-! Do: what its walks share. -/
namespace Go.Proofs.Ytlgoenimjmiapaa
open Go.RowKit Go.Maps

section
variable {w w' w1 w2 : World} {w0 : Base} {tb : Nat} {t : Town} {i : Nat} {xs : Nat → Nat}
/-- Behind a node's answer: works, safe, newest. -/
theorem tails {c : NS} {a : Deed} {T D : Nat} (hi : i < t.n) (h7 : t.n ≤ 7) (hodd : t.n % 2 = 1) (ho : AfterOk t i c a (T + 1)) (hb : TB t T D) (hc : c.Few 2060 14) (hT : T < 400) (hD : D < 400000) (hcut : -9223372036854775808 ≤ a.cut ∧ a.cut ≤ 9223372036854775807) :
    ∃ P2 P3 : World → Prop, (∀ W v, TownW w0 tb { t with X := upd t.X i c.q } xs v c.ns c.ms W → Calls Try.prog 43 #[.pointer (some ⟨tb, 0, none⟩), .int .i64 (i : Int), v, .agg #[.int .i64 a.kind, .int .i64 a.i, .int .i64 a.k, .int .i64 a.cut, .bool a.falls]] W fun e w' => e = .returned (.bool true) ∧ Hid (P2 w')) ∧
      (∀ W, P2 W → Calls Try.prog 42 #[.pointer (some ⟨tb, 0, none⟩)] W fun e w' => e = .returned (.bool true) ∧ Hid (P3 w')) ∧
      (∀ W, P3 W → Calls Try.prog 44 #[.pointer (some ⟨tb, 0, none⟩)] W fun e w' => e = .returned (.bool true) ∧ Hid (∃ xs', TownX w0 tb (t.after i c a) xs' w')) := by
  have hbw := hb.works (i := i) (a := a) hc
  have hba := hb.after (Nat.le_succ T) hc ho
  refine ⟨fun W => ∃ xs', TownX w0 tb (t.works i c a) xs' W, fun W => ∃ xs', TownX w0 tb (t.after i c a) xs' W, fun W v h => works_ok h hi h7 hodd ho hb hc (by omega) (by omega) hcut, fun W ⟨xs', h⟩ => (safe_ok h h7 ho hbw (by omega) (by omega) (by omega)).mono (fun e w' ⟨h1, h2⟩ => ⟨h1, xs', h2⟩), fun W ⟨xs', h⟩ => (newest_ok h h7 ho hba (by omega)).mono (fun e w' ⟨h1, h2⟩ => ⟨h1, xs', h2⟩)⟩

/-- The three calls behind a node's answer, their worlds' properties without a name. -/
def Tails (b : Base) (tb : Nat) (t : Town) (xs : Nat → Nat) (i : Nat) (c : NS) (D : Array Value) (Q : World → Prop) : Prop :=
  ∃ P2 P3 : World → Prop, Hid (∀ W v, TownW b tb { t with X := upd t.X i c.q } xs v c.ns c.ms W → Calls Try.prog 43 #[.pointer (some ⟨tb, 0, none⟩), .int .i64 (i : Int), v, .agg D] W fun e w' => e = .returned (.bool true) ∧ Hid (P2 w')) ∧
      Hid (∀ W, P2 W → Calls Try.prog 42 #[.pointer (some ⟨tb, 0, none⟩)] W fun e w' => e = .returned (.bool true) ∧ Hid (P3 w')) ∧
      Hid (∀ W, P3 W → Calls Try.prog 44 #[.pointer (some ⟨tb, 0, none⟩)] W fun e w' => e = .returned (.bool true) ∧ Hid (Q w'))
theorem Tails.of {c : NS} {a : Deed} {T D : Nat} {t0 : Town} {B B8 : Nat} {o o8 : Obj} (hi : i < t.n) (h7 : t.n ≤ 7) (hodd : t.n % 2 = 1) (ho : AfterOk t i c a (T + 1)) (hb : TB t T D) (hc : c.Few 2060 14) (hT : T < 400) (hD : D < 400000) (hcut : -9223372036854775808 ≤ a.cut ∧ a.cut ≤ 9223372036854775807) (hA : t0 = t.after i c a) :
    Tails ((w0.put B o).put B8 o8) tb t xs i c #[.int .i64 a.kind, .int .i64 a.i, .int .i64 a.k, .int .i64 a.cut, .bool a.falls] (fun w' => ∃ xs', TownX w0 tb t0 xs' w') := by
  obtain ⟨P2, P3, h1, h2, h3⟩ := tails (w0 := (w0.put B o).put B8 o8) (tb := tb) (xs := xs) hi h7 hodd ho hb hc hT hD hcut
  exact ⟨P2, P3, h1, h2, fun W h => (h3 W h).mono (fun e w' ⟨k1, xs', k2⟩ => ⟨k1, xs', by rw [hA]; exact k2.unput.unput⟩)⟩

/-- Which node, computed. -/
theorem modN_eq (a : Int) (n : Nat) (h : 0 < n) : (a.tmod (n : Int) + (n : Int)).tmod (n : Int) = ((modN a n : Nat) : Int) := by
  have bt := tmod_within a (n : Int) (by omega)
  have h0 : 0 ≤ (a.tmod (n : Int) + (n : Int)).tmod (n : Int) := Int.tmod_nonneg _ (by omega)
  unfold modN
  omega
theorem modN_wraps (a : Int) (n : Nat) (h : 0 < n) (hn : n ≤ 1000000) : IntKind.i64.wrap (a.tmod (n : Int)) = a.tmod (n : Int) ∧ IntKind.i64.wrap (a.tmod (n : Int) + (n : Int)) = a.tmod (n : Int) + (n : Int) := by
  have bt := tmod_within a (n : Int) (by omega)
  exact ⟨IntWalk.i64_in _ (by omega), IntWalk.i64_in _ (by omega)⟩

def deedV (a : Deed) : Array Value := #[.int .i64 a.kind, .int .i64 a.i, .int .i64 a.k, .int .i64 a.cut, .bool a.falls]
/-- The answer is stored: first into a box of its own, then into w's. -/
theorem TownW.stored {wb : World} {B8 : Nat} {bx : List (Nat × Obj)} {ns : List Nt} {ms : List Msg} {u0 u1 a b : Value} (h : TownW ⟨wb, (B8, .cells #[a, b] 32 (0, 0)) :: bx⟩ tb t xs (.agg #[u0, u1]) ns ms w) (hb : ∀ p ∈ bx, p.1 ≠ B8) :
    (w.alloc (.cells #[u0, u1] 32)).cell? ⟨w.heap.size, 0, none⟩ = some u0 ∧ (w.alloc (.cells #[u0, u1] 32)).cell? ⟨w.heap.size, 1, none⟩ = some u1 ∧
    (w.alloc (.cells #[u0, u1] 32)).cell? ⟨B8, 0, none⟩ = some a ∧ (w.alloc (.cells #[u0, u1] 32)).cell? ⟨B8, 1, none⟩ = some b ∧ (w.alloc (.cells #[u0, u1] 32)).frozen? ⟨B8, 0, none⟩ = false ∧ (w.alloc (.cells #[u0, u1] 32)).frozen? ⟨B8, 1, none⟩ = false ∧
    Hid (TownW ⟨wb, (B8, .cells #[u0, u1] 32 (0, 0)) :: bx⟩ tb t xs (.agg #[u0, u1]) ns ms (((w.alloc (.cells #[u0, u1] 32)).setCell ⟨B8, 0, none⟩ u0).setCell ⟨B8, 1, none⟩ u1)) := by
  have oa : Out Zone.no w (w.alloc (.cells #[u0, u1] 32)) := (Out.refl _ _).alloc _
  have hB : (w.alloc (.cells #[u0, u1] 32)).heap[B8]? = some (.cells #[a, b] 32 (0, 0)) := by
    obtain ⟨L, U, h1, h2, h3, h4⟩ := h
    exact oa.get (h2.2.2 _ (List.mem_cons_self ..)).2 id
  exact ⟨cell_new w _ 32 0, cell_new w _ 32 1, by rw [cells_all hB]; rfl, by rw [cells_all hB]; rfl, frozen_all hB 0, frozen_all hB 1, (h.any oa).store2 hb⟩
/-- The boxes beside a town, read. -/
theorem TownW.boxed {v : Value} {ns : List Nt} {ms : List Msg} (h : TownW w0 tb t xs v ns ms w) {k : Nat} {o : Obj} (hk : (k, o) ∈ w0.bx) : w.heap[k]? = some o := h.x.boxed hk
theorem TownW.form {v : Value} {ns : List Nt} {ms : List Msg} (h : TownW w0 tb t xs v ns ms w) : ∃ A1 n1 c1 A2 n2 c2, v = .agg #[.slice A1 n1 c1, .slice A2 n2 c2] := by
  obtain ⟨L, U, h1, h2, h3, nv, sv, ss, rfl, hss, hwk⟩ := h
  obtain ⟨A1, c1, rfl⟩ := GRow.form hwk.notes
  obtain ⟨A2, c2, rfl⟩ := GRow.form hwk.send
  exact ⟨A1, _, c1, A2, _, c2, rfl⟩
theorem TownW.box {v : Value} {ns : List Nt} {ms : List Msg} (h : TownW w0 tb t xs v ns ms w) (o : Obj) : TownW (w0.put w.heap.size o) tb t xs v ns ms (w.alloc o) := by
  obtain ⟨L, U, h1, h2, h3, h4⟩ := h
  exact ⟨_, U, h1.op7 (box_op h1.lt o), h2.box h1.lt o, h3, h4.op (box_op h1.lt o) (by omega)⟩
theorem TownW.less {v : Value} {ns : List Nt} {ms : List Msg} {bx : List (Nat × Obj)} (h : TownW w0 tb t xs v ns ms w) (hb : ∀ p ∈ bx, p ∈ w0.bx) : TownW ⟨w0.w, bx⟩ tb t xs v ns ms w := by
  obtain ⟨L, U, h1, h2, h3⟩ := h
  exact ⟨L, U, h1, h2.less hb, h3⟩
theorem TownW.unput {v : Value} {ns : List Nt} {ms : List Msg} {k : Nat} {o : Obj} (h : TownW (w0.put k o) tb t xs v ns ms w) : TownW w0 tb t xs v ns ms w := h.less (bx := w0.bx) (fun p hp => List.mem_cons_of_mem _ hp)
/-- A node's answer lies in box B; it is no box that was. -/
def Boxed (b : Base) (tb : Nat) (t : Town) (xs : Nat → Nat) (A1 : Option Addr) (n1 c1 : Nat) (A2 : Option Addr) (n2 c2 : Nat) (ns : List Nt) (ms : List Msg) (B : Nat) (W : World) : Prop :=
  TownW (b.put B (.cells #[.slice A1 n1 c1, .slice A2 n2 c2] 32 (0, 0))) tb t xs (.agg #[.slice A1 n1 c1, .slice A2 n2 c2]) ns ms W ∧ ∀ p ∈ b.bx, p.1 ≠ B
theorem Boxed.tw {A1 : Option Addr} {n1 c1 : Nat} {A2 : Option Addr} {n2 c2 : Nat} {ns : List Nt} {ms : List Msg} {B : Nat} (h : Boxed w0 tb t xs A1 n1 c1 A2 n2 c2 ns ms B w) : TownW w0 tb t xs (.agg #[.slice A1 n1 c1, .slice A2 n2 c2]) ns ms w := by
  obtain ⟨L, U, h1, h2, h3⟩ := h.1
  exact ⟨L, U, h1, Own1.less (w0 := w0.put B _) (bx := w0.bx) h2 (fun p hp => List.mem_cons_of_mem _ hp), h3⟩
/-- The answer is laid into a new box. -/
theorem TownW.boxNew {A1 : Option Addr} {n1 c1 : Nat} {A2 : Option Addr} {n2 c2 : Nat} {ns : List Nt} {ms : List Msg} (h : TownW w0 tb t xs (.agg #[.slice A1 n1 c1, .slice A2 n2 c2]) ns ms w) : Boxed w0 tb t xs A1 n1 c1 A2 n2 c2 ns ms w.heap.size (w.alloc (.cells #[.slice A1 n1 c1, .slice A2 n2 c2] 32)) :=
  ⟨h.box _, fun p hp => by have := heap_lt (h.boxed (k := p.1) (o := p.2) hp); omega⟩
/-- The answer is laid into a box that was made ahead. -/
theorem TownW.boxOld {A1 : Option Addr} {n1 c1 : Nat} {A2 : Option Addr} {n2 c2 : Nat} {ns : List Nt} {ms : List Msg} {B : Nat} {a b : Value} (h : TownW (w0.put B (.cells #[a, b] 32 (0, 0))) tb t xs (.agg #[.slice A1 n1 c1, .slice A2 n2 c2]) ns ms w) (hB : ∀ p ∈ w0.bx, p.1 ≠ B) :
    w.cell? ⟨B, 0, none⟩ = some a ∧ w.cell? ⟨B, 1, none⟩ = some b ∧ w.frozen? ⟨B, 0, none⟩ = false ∧ w.frozen? ⟨B, 1, none⟩ = false ∧
    Hid (Boxed w0 tb t xs A1 n1 c1 A2 n2 c2 ns ms B ((w.setCell ⟨B, 0, none⟩ (.slice A1 n1 c1)).setCell ⟨B, 1, none⟩ (.slice A2 n2 c2))) := by
  have hb := h.boxed (List.mem_cons_self ..)
  exact ⟨by rw [cells_all hb]; rfl, by rw [cells_all hb]; rfl, frozen_all hb 0, frozen_all hb 1, TownW.store2 (wb := w0.w) (bx := w0.bx) h hB, hB⟩
theorem TownW.boxLate {A1 : Option Addr} {n1 c1 : Nat} {A2 : Option Addr} {n2 c2 : Nat} {ns : List Nt} {ms : List Msg} (h : TownW w0 tb t xs (.agg #[.slice A1 n1 c1, .slice A2 n2 c2]) ns ms w) (a b : Value) :
    (w.alloc (.cells #[a, b] 32)).cell? ⟨w.heap.size, 0, none⟩ = some a ∧ (w.alloc (.cells #[a, b] 32)).cell? ⟨w.heap.size, 1, none⟩ = some b ∧ (w.alloc (.cells #[a, b] 32)).frozen? ⟨w.heap.size, 0, none⟩ = false ∧ (w.alloc (.cells #[a, b] 32)).frozen? ⟨w.heap.size, 1, none⟩ = false ∧
    Hid (Boxed w0 tb t xs A1 n1 c1 A2 n2 c2 ns ms w.heap.size (((w.alloc (.cells #[a, b] 32)).setCell ⟨w.heap.size, 0, none⟩ (.slice A1 n1 c1)).setCell ⟨w.heap.size, 1, none⟩ (.slice A2 n2 c2))) :=
  (h.box (.cells #[a, b] 32)).boxOld (fun p hp => by have := heap_lt (h.boxed (k := p.1) (o := p.2) hp); omega)
/-- From its box the answer goes into w's. -/
theorem Boxed.moved {A1 : Option Addr} {n1 c1 : Nat} {A2 : Option Addr} {n2 c2 : Nat} {ns : List Nt} {ms : List Msg} {B B8 : Nat} {a b : Value} (h : Boxed (w0.put B8 (.cells #[a, b] 32 (0, 0))) tb t xs A1 n1 c1 A2 n2 c2 ns ms B w) (hB : ∀ p ∈ w0.bx, p.1 ≠ B8) :
    w.cell? ⟨B, 0, none⟩ = some (.slice A1 n1 c1) ∧ w.cell? ⟨B, 1, none⟩ = some (.slice A2 n2 c2) ∧ w.cell? ⟨B8, 0, none⟩ = some a ∧ w.cell? ⟨B8, 1, none⟩ = some b ∧ w.frozen? ⟨B8, 0, none⟩ = false ∧ w.frozen? ⟨B8, 1, none⟩ = false ∧
    Hid (TownW (w0.put B8 (.cells #[.slice A1 n1 c1, .slice A2 n2 c2] 32 (0, 0))) tb t xs (.agg #[.slice A1 n1 c1, .slice A2 n2 c2]) ns ms ((w.setCell ⟨B8, 0, none⟩ (.slice A1 n1 c1)).setCell ⟨B8, 1, none⟩ (.slice A2 n2 c2))) := by
  have hb := h.1.boxed (List.mem_cons_self ..)
  have h1 := h.1.unput
  have hb8 := h1.boxed (List.mem_cons_self ..)
  exact ⟨by rw [cells_all hb]; rfl, by rw [cells_all hb]; rfl, by rw [cells_all hb8]; rfl, by rw [cells_all hb8]; rfl, frozen_all hb8 0, frozen_all hb8 1, TownW.store2 (wb := w0.w) (bx := w0.bx) h1 hB⟩
/-- One more was asked. -/
theorem TownW.asks {v : Value} {ns : List Nt} {ms : List Msg} (h : TownW w0 tb t xs v ns ms w) : w.cell? ⟨tb, 6, none⟩ = some (.int .i64 (t.asked : Int)) ∧ w.frozen? ⟨tb, 6, none⟩ = false ∧
    Hid (TownW w0 tb { t with asked := t.asked + 1 } xs v ns ms (w.setCell ⟨tb, 6, none⟩ (.int .i64 ((t.asked : Int) + 1)))) := by
  obtain ⟨L, U, h1, h2, h3, h4⟩ := h
  have op := Op.set (w := w) (p := ⟨tb, 6, none⟩) (.int .i64 ((t.asked : Int) + 1)) h1.lab.tb h1.lt
  have b := h1.op op (by omega)
  have hb := heap_set h1.blk 6 (.int .i64 ((t.asked : Int) + 1))
  refine ⟨h1.c 6, h1.f 6, L, U, ⟨?_, b.x (by omega), b.nn (by omega), fun i hi => b.node i hi (by omega), fun i hi => b.notes i hi (by omega), b.net (by omega), b.fst, b.rows, b.done (by omega), b.lead (by omega), ⟨h1.lab.tb, h1.lab.x, h1.lab.nn, h1.lab.net, h1.lab.done, h1.lab.lead, h1.lab.node, h1.lab.notes⟩, op.lt⟩, h2.op op (by omega), h3, h4.op op (by omega)⟩
  rw [hb]
  simp
theorem TownX.askedC (h : TownX w0 tb t xs w) : w.cell? ⟨tb, 6, none⟩ = some (.int .i64 (t.asked : Int)) := by
  obtain ⟨L, U, h1, h2, h3⟩ := h
  exact h1.c 6
end
end Go.Proofs.Ytlgoenimjmiapaa
