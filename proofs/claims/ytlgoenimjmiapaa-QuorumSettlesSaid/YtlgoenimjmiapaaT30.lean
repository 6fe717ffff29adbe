import Derived.Test.YtlgoenimjmiapaaT29
set_option linter.unusedSimpArgs false
set_option linter.unusedVariables false
set_option linter.unusedSectionVars false
/-! A node of a town crashes. -/
namespace Go.Proofs.Ytlgoenimjmiapaa
open Go.RowKit Go.Maps

theorem range_set {n i : Nat} (f : Nat → Value) (u : Value) : ((List.range n).map f).set i u = (List.range n).map fun j => if j = i then u else f j := by
  apply List.ext_getElem?
  intro j
  rw [List.getElem?_set, List.getElem?_map, List.getElem?_map, List.length_map, List.length_range]
  by_cases hij : i = j
  · subst hij
    rw [if_pos rfl]
    by_cases hj : i < n
    · rw [if_pos hj, List.getElem?_range hj]
      simp
    · rw [if_neg hj, List.getElem?_eq_none (by simp; omega)]
      rfl
  · rw [if_neg hij]
    by_cases hj : j < n
    · rw [List.getElem?_range hj]
      show some (f j) = some (if j = i then u else f j)
      rw [if_neg (fun e => hij e.symm)]
    · rw [List.getElem?_eq_none (by simp; omega)]
      rfl
theorem range_at {n i : Nat} (f : Nat → Value) (hi : i < n) : ((List.range n).map f)[i]? = some (f i) := by
  rw [List.getElem?_map, List.getElem?_range hi]; rfl

section
variable {w w' : World} {w0 : Base} {tb : Nat} {t : Town} {L L' : Nat → Nat} {U : TV} {i q : Nat} {xs : Nat → Nat}
theorem Op.set {p : Addr} (u : Value) (hL : L p.block = q) (hlt : ∀ k, L k ≠ 0 → k < w.heap.size) : Op q w L (w.setCell p u) L := by
  have ho : Out (Zone.m fun k => L k = q) w (w.setCell p u) := (Out.refl _ _).setCell (Or.inl hL) _
  exact ⟨ho, fun _ _ _ => rfl, fun k hk => Or.inl (Classical.byContradiction fun e => by have := hlt k e; omega), fun k hk => Nat.lt_of_lt_of_le (hlt k hk) ho.size, fun k hk => Or.inl hk⟩
theorem TownAt.c (h : TownAt w tb t L U) (k : Nat) : w.cell? ⟨tb, k, none⟩ = [Value.int .i64 (t.n : Int), U.xv, U.nnv, U.netv, U.donev, .map (some U.bm), .int .i64 (t.asked : Int)][k]? := by
  rw [cells_all h.blk k]
  simp
theorem TownAt.f (h : TownAt w tb t L U) (k : Nat) : w.frozen? ⟨tb, k, none⟩ = false := frozen_all h.blk k
theorem TownAt.rowx (h : TownAt w tb t L U) (hi : i < t.n) : ∃ g c, U.xv = .slice (some ⟨g, 0, none⟩) t.n c ∧ w.cell? ⟨g, i, none⟩ = some (.pointer (some ⟨U.xs i, 0, none⟩)) ∧ w.frozen? ⟨g, i, none⟩ = false ∧ L g = 2 := by
  obtain ⟨g, c, hv, hc⟩ := GRow.cell h.x (range_at (fun i => Value.pointer (some ⟨U.xs i, 0, none⟩)) hi)
  have hb : U.xv.ownBlock = some g := by rw [hv]; rfl
  obtain ⟨_, _, cur, hcur⟩ := GRow.mem h.x hb
  exact ⟨g, c, hv, hc, frozen_all hcur i, h.lab.x g hb⟩
theorem TownAt.rown (h : TownAt w tb t L U) (hi : i < t.n) : ∃ g c, U.nnv = .slice (some ⟨g, 0, none⟩) t.n c ∧ w.cell? ⟨g, i, none⟩ = some (U.nv i) ∧ w.frozen? ⟨g, i, none⟩ = false ∧ L g = 3 := by
  obtain ⟨g, c, hv, hc⟩ := GRow.cell h.nn (range_at U.nv hi)
  have hb : U.nnv.ownBlock = some g := by rw [hv]; rfl
  obtain ⟨_, _, cur, hcur⟩ := GRow.mem h.nn hb
  exact ⟨g, c, hv, hc, frozen_all hcur i, h.lab.nn g hb⟩
theorem TownAt.notesr (h : TownAt w tb t L U) (hi : i < t.n) : RRow (fun _ => False) w (U.nv i) (t.notes i).length 5 (encN (t.notes i)) := by
  have hg := h.notes i hi
  refine ⟨encN_length _, ?_⟩
  rcases hg.2 with ⟨hv, h0⟩ | ⟨g, cap, cur, hv, hm, hh, h1, h2, h3, h4⟩
  · refine ⟨none, 0, by rw [hv, h0], by omega, Nat.zero_le _, fun j u hu => ?_⟩
    have := hg.1
    rw [h0, Nat.zero_mul] at this
    rw [List.eq_nil_of_length_eq_zero this] at hu
    cases hu
  · refine ⟨some ⟨g, 0, none⟩, cap, hv, h1, h2, fun j u hu => ⟨g, 0, rfl, id, ?_⟩⟩
    obtain ⟨g', c', hv', hc⟩ := GRow.cell hg hu
    rw [hv] at hv'
    injection hv' with e
    injection e with e
    injection e with e
    subst e
    rw [Nat.zero_add]
    exact hc

/-- A town with a new node at i. -/
theorem TownAt.replaced (h : TownAt w tb t L U) (ho : Own1 w0 w L) (hi : i < t.n) (hw : Out Zone.no w w') {x : Nat} {q : ND} {V' : NV} (hq : @NAt far0 w' x ⟨q, [], []⟩ V') (hfr : ∀ k, V'.own x k → w.heap.size ≤ k) {g c : Nat} (hx : U.xv = .slice (some ⟨g, 0, none⟩) t.n c) :
    TownX w0 tb { t with X := upd t.X i q } (fun j => if j = i then x else U.xs j) (w'.setCell ⟨g, i, none⟩ (.pointer (some ⟨x, 0, none⟩))) := by
  letI := far0
  have op1 : Op (10 + 2 * i) w L w' (relab L (10 + 2 * i) (V'.own x)) := relab_op h.lt (by omega) (h.lab.node i hi) ⟨hw.mono0, fun k hk => Or.inr (hfr k hk)⟩ (fun k hk => own_lt hq hk)
  have b1 := h.op op1 (by omega)
  have hg : U.xv.ownBlock = some g := by rw [hx]; rfl
  have hLg := b1.lx (by omega) g hg
  have op2 := Op.set (w := w') (p := ⟨g, i, none⟩) (.pointer (some ⟨x, 0, none⟩)) hLg op1.lt
  have b2 := b1.op op1.lt op2 (by omega) (Q' := fun a => a = 10 + 2 * i ∨ a = 2) (fun a e => Or.inl e) (Or.inr rfl)
  refine ⟨_, { U with xs := fun j => if j = i then x else U.xs j, V := fun j => if j = i then V' else U.V j }, ⟨b2.blk (by omega), ?_, b2.nn (by omega), fun j hj => ?_, fun j hj => b2.notes j hj (by omega), b2.net (by omega), b2.fst, b2.rows, b2.done (by omega), b2.lead (by omega), ⟨b2.ltb (by omega), b1.lx (by omega), b2.lnn (by omega), b2.lnet (by omega), b2.ldone (by omega), b2.llead (by omega), fun j hj => ?_, fun j hj => b2.lnotes j hj (by omega)⟩, op2.lt⟩, (ho.op op1 (by omega)).op op2 (by omega), rfl⟩
  · have hr := b1.x (by omega)
    rw [hx] at hr ⊢
    have := hr.setAt i (.pointer (some ⟨x, 0, none⟩))
    rw [range_set] at this
    have e : (fun j => if j = i then Value.pointer (some ⟨x, 0, none⟩) else Value.pointer (some ⟨U.xs j, 0, none⟩)) = fun j => Value.pointer (some ⟨if j = i then x else U.xs j, 0, none⟩) := by
      funext j
      split <;> rfl
    rw [e] at this
    exact this
  · by_cases hji : j = i
    · subst hji
      show NAt _ (if j = j then x else U.xs j) ⟨upd t.X j q j, [], []⟩ (if j = j then V' else U.V j)
      rw [upd_self, if_pos rfl, if_pos rfl]
      exact hq.same op2.out.size (fun k hk => op2.blk (own_lt hq hk) (by rw [relab_own hk]; omega))
    · show NAt _ (if j = i then x else U.xs j) ⟨upd t.X i q j, [], []⟩ (if j = i then V' else U.V j)
      rw [upd_ne _ _ _ hji, if_neg hji, if_neg hji]
      exact b2.node j hj (by omega)
  · by_cases hji : j = i
    · subst hji
      show ∀ k, NV.own (if j = j then x else U.xs j) (if j = j then V' else U.V j) k → _
      rw [if_pos rfl, if_pos rfl]
      exact fun k hk => relab_own hk
    · show ∀ k, NV.own (if j = i then x else U.xs j) (if j = i then V' else U.V j) k → _
      rw [if_neg hji, if_neg hji]
      exact b2.lnode j hj (by omega)

set_option maxRecDepth 100000 in
set_option maxHeartbeats 2000000 in
theorem crash_t (h : TownX w0 tb t xs w) (hi : i < t.n) (h7 : t.n ≤ 7) (hodd : t.n % 2 = 1) {s : St} (hs : foldFrom s00 (t.notes i) = some s) (hg : s.Good) (hl : (t.notes i).length ≤ 1000000000) (hf : ∀ y ∈ t.notes i, y.ent.data.length ≤ 9223372036854775807) :
    Calls Try.prog 21 #[.pointer (some ⟨tb, 0, none⟩), .int .i64 (i : Int)] w fun e w' => e = .returned (.bool true) ∧ ∃ xs', TownX w0 tb (t.crash i) xs' w' := by
  have hcr : t.crash i = { t with X := upd t.X i (newND s i t.n) } := by unfold Town.crash; rw [hs]; rfl
  obtain ⟨L, U, h1, h2, rfl⟩ := h
  obtain ⟨gx, cx, hxv, -, -, hLx⟩ := h1.rowx hi
  obtain ⟨gn, cn, hnv, -⟩ := h1.rown hi
  obtain ⟨An, cnn, hni, -, -⟩ := (h1.notesr hi).form
  obtain ⟨m, hm⟩ : ∃ m, (t.notes i).length = m := ⟨_, rfl⟩
  obtain ⟨n, hn⟩ : ∃ n, t.n = n := ⟨_, rfl⟩
  have KC : Hid (∀ W, Out Zone.no w W → W.cell? ⟨tb, 0, none⟩ = some (.int .i64 (n : Int)) ∧ W.cell? ⟨tb, 1, none⟩ = some (.slice (some ⟨gx, 0, none⟩) n cx) ∧ W.cell? ⟨tb, 2, none⟩ = some (.slice (some ⟨gn, 0, none⟩) n cn) ∧ W.cell? ⟨gn, i, none⟩ = some (.slice An m cnn) ∧ W.frozen? ⟨gx, i, none⟩ = false ∧ (∃ u, W.cell? ⟨gx, i, none⟩ = some u)) := fun W ho => by
    have hW := h1.any ho
    obtain ⟨g, c, e1, e2, e3, _⟩ := hW.rowx hi
    rw [hxv] at e1
    obtain ⟨rfl, _, rfl⟩ : gx = g ∧ t.n = t.n ∧ cx = c := by injection e1 with e1 _ e3; injection e1 with e1; injection e1 with e1; exact ⟨e1, rfl, e3⟩
    obtain ⟨g', c', f1, f2, _, _⟩ := hW.rown hi
    rw [hnv] at f1
    obtain ⟨rfl, rfl⟩ : gn = g' ∧ cn = c' := by injection f1 with e1 _ e3; injection e1 with e1; injection e1 with e1; exact ⟨e1, e3⟩
    rw [← hn, ← hm]
    exact ⟨hW.c 0, by rw [hW.c 1, ← hxv]; rfl, by rw [hW.c 2, ← hnv]; rfl, by rw [f2, hni], e3, _, e2⟩
  have FOLD : Hid (∀ W, Out Zone.no w W → Calls Try.prog 45 #[.slice An m cnn] W fun e w' => ∃ A c, e = .returned (.tuple #[.agg #[.int .i64 s.ep, .int .i64 s.voted, .slice A s.log.length c], .bool true]) ∧ GR w' 38 2 (.slice A s.log.length c) s.log.length (encL s.log) ∧ Out Zone.no W w') := fun W ho => by
    have hr := (h1.any ho).notesr hi
    rw [hni] at hr
    have := fold_is W _ (t.notes i) _ hr hl hf hs
    rw [hm] at this
    refine this.mono ?_
    rintro e w' ⟨lv, rfl, k1, k2, k3⟩
    obtain ⟨A, c, rfl⟩ := GRow.form k1
    exact ⟨A, c, rfl, k1, k2⟩
  have NEW : Hid (∀ W A c, GR W 38 2 (.slice A s.log.length c) s.log.length (encL s.log) → Out Zone.no w W → Calls Try.prog 7 #[.int .i64 (i : Int), .int .i64 (n : Int), .agg #[.int .i64 s.ep, .int .i64 s.voted, .slice A s.log.length c]] W fun e w' => ∃ x, e = .returned (.tuple #[.pointer (some ⟨x, 0, none⟩), .int .i64 0]) ∧ Hid (∀ W', Out Zone.no w' W' → TownX w0 tb (t.crash i) (fun j => if j = i then x else U.xs j) (W'.setCell ⟨gx, i, none⟩ (.pointer (some ⟨x, 0, none⟩)))) ∧ Hid (Out Zone.no w w')) := fun W A c hgr ho => by
    letI := far0
    rw [← hn]
    refine (new_is W (fun k (h : False) => h.elim) (fun _ => False) s _ hgr.reads hg t.n i h7 hodd hi).mono ?_
    rintro e w' ⟨x, V, rfl, k1, k2, k3⟩
    refine ⟨x, rfl, fun W' ho' => ?_, ho.trans k2⟩
    rw [hcr]
    exact h1.replaced h2 hi ((ho.trans k2).trans ho') (k1.any ho') (fun k hk => Nat.le_trans ho.size (k3 k hk)) hxv
  have i1 : (0 : Int) ≤ (i : Int) := by omega
  have i2 : (i : Int) < (n : Int) := by omega
  obtain ⟨X, hX⟩ : ∃ X, t.crash i = X := ⟨_, rfl⟩
  rw [hX] at NEW ⊢
  obtain ⟨E, hE⟩ : ∃ E, s.ep = E := ⟨_, rfl⟩
  obtain ⟨vo, hvo⟩ : ∃ vo, s.voted = vo := ⟨_, rfl⟩
  obtain ⟨ls, hls⟩ : ∃ ls, s.log.length = ls := ⟨_, rfl⟩
  rw [hE, hvo, hls] at FOLD NEW
  obtain ⟨a0, a1, a2, a3, a4, u, a5⟩ := KC.out w (Out.refl _ _)
  clear hX hE hvo hls hcr h1 h2 hxv hnv hni hm hn hs hg hl hf hi h7 hodd hLx
  go_enter Try.func21, Try.ntmps21
  go_upto_region 4 with (first
    | (go_at_call 45; refine (FOLD.out _ (Out.refl _ _)).mono ?_; rintro e w1 ⟨A1, c1, rfl, hg1, ho1⟩; have HG1 := Lib.hid hg1; have HO1 := Lib.hid ho1; have b0 := cell_new w1 #[.int .i64 E, .int .i64 vo, .slice A1 ls c1] 28 0; have b1 := cell_new w1 #[.int .i64 E, .int .i64 vo, .slice A1 ls c1] 28 1; have b2 := cell_new w1 #[.int .i64 E, .int .i64 vo, .slice A1 ls c1] 28 2; clear hg1 ho1))
  obtain ⟨W2, hW2⟩ : ∃ W2, w1.alloc (.cells #[.int .i64 E, .int .i64 vo, .slice A1 ls c1] 28) = W2 := ⟨_, rfl⟩
  have o12 : Out Zone.no w1 W2.drew := by rw [← hW2]; exact ((Out.refl _ _).alloc _).drew
  have HO2 := Lib.hid (HO1.out.trans o12)
  have HG2 : Hid (GR W2.drew 38 2 (.slice A1 ls c1) ls (encL s.log)) := GRow.any HG1.out o12
  have NEWX := Lib.hid (NEW.out _ _ _ HG2.out HO2.out)
  rw [hW2] at b0 b1 b2 ⊢
  clear hW2 o12 a0 a1 a2 a3 a4 a5
  have d0 : W2.drew.cell? ⟨w1.heap.size, 0, none⟩ = some (.int .i64 E) := b0
  have d1 : W2.drew.cell? ⟨w1.heap.size, 1, none⟩ = some (.int .i64 vo) := b1
  have d2 : W2.drew.cell? ⟨w1.heap.size, 2, none⟩ = some (.slice A1 ls c1) := b2
  obtain ⟨a0, _⟩ := KC.out _ HO2.out
  go_region_with (first
    | (go_at_call 7; refine NEWX.out.mono ?_; rintro e w3 ⟨x, rfl, h3, o3⟩)
    | fail)
  all_goals
    clear a0 d0 d1 d2 b0 b1 b2
    obtain ⟨a0, a1, a2, a3, a4, u, a5⟩ := KC.out _ o3.out
    go_wp2_with (go_at_call 9; refine (num_is _ _).mono ?_; rintro e w' ⟨rfl, rfl⟩)
    go_ret
    exact ⟨rfl, _, h3.out _ (Out.refl _ _)⟩
end
end Go.Proofs.Ytlgoenimjmiapaa

/-! A town's notes and net grow. -/
namespace Go.Proofs.Ytlgoenimjmiapaa
open Go.RowKit Go.Maps

theorem encN_append (l m : List Nt) : encN (l ++ m) = encN l ++ encN m := by simp [encN]
theorem encM_append (l m : List (Msg × Value)) : encM (l ++ m) = encM l ++ encM m := by simp [encM]
open Classical in
/-- The labels where a row of part q has grown: v is its value now. -/
noncomputable def glab (L : Nat → Nat) (q : Nat) (v : Value) : Nat → Nat := fun k => if v.ownBlock = some k then q else L k
theorem glab_own {L : Nat → Nat} {q k : Nat} {v : Value} (h : v.ownBlock = some k) : glab L q v k = q := by unfold glab; rw [if_pos h]
theorem glab_else {L : Nat → Nat} {q k : Nat} {v : Value} (h : v.ownBlock ≠ some k) : glab L q v k = L k := by unfold glab; rw [if_neg h]

section
variable {w w' w1 : World} {w0 : Base} {tb : Nat} {t : Town} {L L' : Nat → Nat} {U : TV} {i q : Nat} {xs : Nat → Nat}
/-- A row of part q has grown. -/
theorem grow_op {e : TypeId} {sz n : Nat} {v v' : Value} {ys : List Value} (hlt : ∀ k, L k ≠ 0 → k < w.heap.size) (hq : q ≠ 0) (hv : ∀ k, v.ownBlock = some k → L k = q) (hg : GR w' e sz v' n ys) (hgr : w.grownBy w' v.ownBlock) (hat : v'.ownBlock = v.ownBlock ∨ v'.ownBlock = some w.heap.size) : Op q w L w' (glab L q v') := by
  have ho : Out (Zone.m fun k => L k = q) w w' := (Out.refl _ _).grown hgr (fun k hk => Or.inl (hv k hk))
  refine ⟨ho, fun k hk hne => glab_else (fun e => ?_), fun k hk => ?_, fun k hk => ?_, fun k hk => ?_⟩
  · rcases hat with h | h
    · exact hne (hv k (h.symm.trans e))
    · rw [e] at h; injection h with h; omega
  · by_cases e : v'.ownBlock = some k
    · exact Or.inr (glab_own e)
    · left
      rw [glab_else e]
      exact Classical.byContradiction (fun e => by have := hlt k e; omega)
  · by_cases e : v'.ownBlock = some k
    · exact (GRow.mem hg e).2.1
    · rw [glab_else e] at hk
      exact Nat.lt_of_lt_of_le (hlt k hk) ho.size
  · by_cases e : v'.ownBlock = some k
    · exact Or.inl (glab_own e)
    · rw [glab_else e]; exact Or.inl hk
theorem WorkOut.op {v : Value} {ns : List Nt} {ms : List Msg} (h : WorkOut (fun k => L k ≠ 0) w v ns ms) (o : Op q w L w' L') (hq : q ≠ 0) : WorkOut (fun k => L' k ≠ 0) w' v ns ms := by
  obtain ⟨nv, sv, ss, h1, h2, h3⟩ := h
  have keep : ∀ {e sz v n xs}, GR w e sz v n xs → (∀ k, v.ownBlock = some k → ¬ L k ≠ 0) → GR w' e sz v n xs ∧ ∀ k, v.ownBlock = some k → ¬ L' k ≠ 0 := fun hg hb => by
    refine ⟨GRow.keep hg (fun k hk => o.blk (GRow.mem hg hk).2.1 (fun e => hb k hk (by rw [e]; exact hq))) (fun _ _ => trivial), fun k hk e => hb k hk ?_⟩
    have hlt := (GRow.mem hg hk).2.1
    have h0 : L k = 0 := Classical.byContradiction (hb k hk)
    rw [o.same k hlt (by rw [h0]; exact fun e => hq e.symm)] at e
    exact e
  obtain ⟨k1, k2⟩ := keep h3.notes h3.bn
  obtain ⟨k3, k4⟩ := keep h3.send h3.bs
  exact ⟨nv, sv, ss, h1, h2, ⟨k1, k3, fun p hp => (h3.rows p hp).op o hq, k2, k4⟩⟩

/-- Notes more. -/
theorem TownAt.pushNotes0 (h : TownAt w tb t L U) (ho : Own1 w0 w L) (hi : i < t.n) {l : List Nt} {v1 : Value} (hg : GR w1 75 5 v1 ((t.notes i).length + l.length) (encN (t.notes i) ++ encN l)) (hgr : w.grownBy w1 (U.nv i).ownBlock) (hat : v1.ownBlock = (U.nv i).ownBlock ∨ v1.ownBlock = some w.heap.size)
    {g c : Nat} (hx : U.nnv = .slice (some ⟨g, 0, none⟩) t.n c) {v : Value} {ns : List Nt} {ms : List Msg} (hw : WorkOut (fun k => L k ≠ 0) w v ns ms) :
    (∃ L' U', TownAt (w1.setCell ⟨g, i, none⟩ v1) tb { t with notes := updN t.notes i (t.notes i ++ l) } L' U' ∧ Own1 w0 (w1.setCell ⟨g, i, none⟩ v1) L' ∧ U'.xs = U.xs ∧ WorkOut (fun k => L' k ≠ 0) (w1.setCell ⟨g, i, none⟩ v1) v ns ms ∧ ∀ k, k < w.heap.size → L k = 0 → L' k = 0) ∧ (∀ k, w1.cell? ⟨tb, k, none⟩ = w.cell? ⟨tb, k, none⟩) ∧ w1.frozen? ⟨g, i, none⟩ = false ∧ ∃ u, w1.cell? ⟨g, i, none⟩ = some u := by
  letI := far0
  have op1 := grow_op (q := 11 + 2 * i) h.lt (by omega) (h.lab.notes i hi) hg hgr hat
  have b1 := h.op op1 (by omega)
  have hgb : U.nnv.ownBlock = some g := by rw [hx]; rfl
  have hLg := b1.lnn (by omega) g hgb
  have op2 := Op.set (w := w1) (p := ⟨g, i, none⟩) v1 hLg op1.lt
  have b2 := b1.op op1.lt op2 (by omega) (Q' := fun a => a = 11 + 2 * i ∨ a = 3) (fun a e => Or.inl e) (Or.inr rfl)
  have hvg : ∀ k, v1.ownBlock = some k → k ≠ g := fun k hk e => by
    have := glab_own (L := L) (q := 11 + 2 * i) hk
    rw [e, hLg] at this
    omega
  have hrow := b1.nn (by omega)
  refine ⟨⟨_, { U with nv := fun j => if j = i then v1 else U.nv j }, ⟨b2.blk (by omega), b2.x (by omega), ?_, fun j hj => b2.node j hj (by omega), fun j hj => ?_, b2.net (by omega), b2.fst, b2.rows, b2.done (by omega), b2.lead (by omega), ⟨b2.ltb (by omega), b2.lx (by omega), b1.lnn (by omega), b2.lnet (by omega), b2.ldone (by omega), b2.llead (by omega), fun j hj => b2.lnode j hj (by omega), fun j hj => ?_⟩, op2.lt⟩, (ho.op op1 (by omega)).op op2 (by omega), rfl, (hw.op op1 (by omega)).op op2 (by omega), fun k hk h0 => (op1.same k hk (by omega)).trans h0⟩, fun k => ?_, ?_, ?_⟩
  · show GR _ 29 1 U.nnv t.n ((List.range t.n).map fun j => if j = i then v1 else U.nv j)
    rw [hx] at hrow ⊢
    have := hrow.setAt i v1
    rw [range_set] at this
    exact this
  · by_cases hji : j = i
    · subst hji
      show GR _ 75 5 (if j = j then v1 else U.nv j) (updN t.notes j (t.notes j ++ l) j).length (encN (updN t.notes j (t.notes j ++ l) j))
      unfold updN
      rw [if_pos rfl, if_pos rfl, List.length_append, encN_append]
      exact gr_set hg (fun e => hvg _ e rfl) _
    · show GR _ 75 5 (if j = i then v1 else U.nv j) (updN t.notes i (t.notes i ++ l) j).length (encN (updN t.notes i (t.notes i ++ l) j))
      unfold updN
      rw [if_neg hji, if_neg hji]
      exact b2.notes j hj (by omega)
  · by_cases hji : j = i
    · subst hji
      show ∀ k, (if j = j then v1 else U.nv j).ownBlock = some k → _
      rw [if_pos rfl]
      exact fun k hk => glab_own hk
    · show ∀ k, (if j = i then v1 else U.nv j).ownBlock = some k → _
      rw [if_neg hji]
      exact b2.lnotes j hj (by omega)
  · rw [h.c k, cells_all (b1.blk (by omega)) k]
    simp
  · obtain ⟨_, _, cur, hcur⟩ := GRow.mem hrow hgb
    exact frozen_all hcur i
  · obtain ⟨g', c', hv, hc⟩ := GRow.cell hrow (range_at U.nv hi)
    rw [hx] at hv
    injection hv with e
    injection e with e
    injection e with e
    subst e
    exact ⟨_, hc⟩

theorem TownAt.pushNotes (h : TownAt w tb t L U) (ho : Own1 w0 w L) (hi : i < t.n) {l : List Nt} {v1 : Value} (hg : GR w1 75 5 v1 ((t.notes i).length + l.length) (encN (t.notes i) ++ encN l)) (hgr : w.grownBy w1 (U.nv i).ownBlock) (hat : v1.ownBlock = (U.nv i).ownBlock ∨ v1.ownBlock = some w.heap.size)
    {g c : Nat} (hx : U.nnv = .slice (some ⟨g, 0, none⟩) t.n c) {v : Value} {ns : List Nt} {ms : List Msg} (hw : WorkOut (fun k => L k ≠ 0) w v ns ms) :
    TownW w0 tb { t with notes := updN t.notes i (t.notes i ++ l) } U.xs v ns ms (w1.setCell ⟨g, i, none⟩ v1) ∧ (∀ k, w1.cell? ⟨tb, k, none⟩ = w.cell? ⟨tb, k, none⟩) ∧ w1.frozen? ⟨g, i, none⟩ = false ∧ ∃ u, w1.cell? ⟨g, i, none⟩ = some u := by
  obtain ⟨⟨L', U', h1, h2, h3, h4, _⟩, h6⟩ := h.pushNotes0 ho hi hg hgr hat hx hw
  exact ⟨⟨L', U', h1, h2, h3, h4⟩, h6⟩

/-- A message more in the net. -/
theorem TownAt.pushNet (h : TownAt w tb t L U) (ho : Own1 w0 w L) {p : Msg × Value} (hp : RRow (fun k => L k ≠ 0) w p.2 p.1.log.length 2 (encL p.1.log)) {v1 : Value} (hg : GR w1 36 8 v1 (U.ss.length + 1) (encM U.ss ++ mcells p)) (hgr : w.grownBy w1 U.netv.ownBlock) (hat : v1.ownBlock = U.netv.ownBlock ∨ v1.ownBlock = some w.heap.size) :
    ∃ L', TownAt (w1.setCell ⟨tb, 3, none⟩ v1) tb { t with net := t.net ++ [p.1] } L' { U with netv := v1, ss := U.ss ++ [p] } ∧ Own1 w0 (w1.setCell ⟨tb, 3, none⟩ v1) L' ∧ (∀ k, k ≠ 3 → w1.cell? ⟨tb, k, none⟩ = w.cell? ⟨tb, k, none⟩) ∧ w1.frozen? ⟨tb, 3, none⟩ = false ∧ (∃ u, w1.cell? ⟨tb, 3, none⟩ = some u) ∧ (∀ k, k < w.heap.size → L k = 0 → L' k = 0) ∧ ∀ {v : Value} {ns : List Nt} {ms : List Msg}, WorkOut (fun k => L k ≠ 0) w v ns ms → WorkOut (fun k => L' k ≠ 0) (w1.setCell ⟨tb, 3, none⟩ v1) v ns ms := by
  letI := far0
  have op1 := grow_op (q := 4) h.lt (by omega) h.lab.net hg hgr hat
  have b1 := h.op op1 (by omega)
  have hLt := b1.ltb (by omega)
  have op2 := Op.set (w := w1) (p := ⟨tb, 3, none⟩) v1 hLt op1.lt
  have b2 := b1.op op1.lt op2 (by omega) (Q' := fun a => a = 4 ∨ a = 1) (fun a e => Or.inl e) (Or.inr rfl)
  have hvt : ∀ k, v1.ownBlock = some k → k ≠ tb := fun k hk e => by
    have := glab_own (L := L) (q := 4) hk
    rw [e, hLt] at this
    omega
  have hblk := b1.blk (by omega)
  have hb2 := heap_set hblk 3 v1
  refine ⟨_, ⟨?_, b2.x (by omega), b2.nn (by omega), fun j hj => b2.node j hj (by omega), fun j hj => b2.notes j hj (by omega), ?_, ?_, fun p' hp' => ?_, b2.done (by omega), b2.lead (by omega), ⟨b1.ltb (by omega), b2.lx (by omega), b2.lnn (by omega), fun k hk => glab_own hk, b2.ldone (by omega), b2.llead (by omega), fun j hj => b2.lnode j hj (by omega), fun j hj => b2.lnotes j hj (by omega)⟩, op2.lt⟩, (ho.op op1 (by omega)).op op2 (by omega), fun k hk => ?_, frozen_all hblk 3, ⟨_, by rw [cells_all hblk 3]; rfl⟩, fun k hk h0 => (op1.same k hk (by omega)).trans h0, fun hw => (hw.op op1 (by omega)).op op2 (by omega)⟩
  · rw [hb2]; simp
  · show GR _ 36 8 v1 (U.ss ++ [p]).length (encM (U.ss ++ [p]))
    rw [List.length_append, encM_append]
    have e : encM [p] = mcells p := by simp [encM]
    rw [e]
    exact gr_set hg (fun e => hvt _ e rfl) _
  · show (U.ss ++ [p]).map Prod.fst = t.net ++ [p.1]
    rw [List.map_append, h.fst]
    rfl
  · rcases List.mem_append.1 hp' with e | e
    · exact b2.rows p' e
    · rw [List.mem_singleton.1 e]
      exact (hp.op op1 (by omega)).op op2 (by omega)
  · rw [h.c k, cells_all hblk k]
    simp
end
end Go.Proofs.Ytlgoenimjmiapaa
