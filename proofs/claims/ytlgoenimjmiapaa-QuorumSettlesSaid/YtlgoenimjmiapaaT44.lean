import Derived.Test.YtlgoenimjmiapaaT36
set_option linter.unusedSimpArgs false
set_option linter.unusedVariables false
set_option linter.unusedSectionVars false
/-! New: a town is made. -/
namespace Go.Proofs.Ytlgoenimjmiapaa
open Go.RowKit Go.Maps

theorem elem64 : ElemN Try.prog 64 22 (.pointer none) 1 8 := ElemN.mk' Try.underlying64 (by kernel_rfl) (by kernel_rfl) (by omega)
theorem elem65 : ElemN Try.prog 65 29 (.slice none 0 0) 1 24 := ElemN.mk' Try.underlying65 (by kernel_rfl) (by kernel_rfl) (by omega)
theorem make_rows (n : Nat) (hn : n ≤ 65536) (W : World) : (Instr.makeSlice 65 (.int .i64 (n : Int)) (.int .i64 (n : Int))).run Try.prog W = .ok (.slice (some ⟨W.heap.size, 0, none⟩) n n) (W.alloc (.cells (Array.replicate n (.slice none 0 0)) 29)) := by
  obtain ⟨hu, ⟨i, hi1, hz, hsz, hby⟩, hz1, _⟩ := elem65
  have h := run_make (P := Try.prog) W 65 29 i (.slice none 0 0) hu hi1 hz .i64 .i64 n n (by omega) (by omega) (by rw [hby]; omega) (by omega)
  rw [hsz] at h
  have e : Array.replicate n (Value.slice none 0 0) = madeCells (Value.slice none 0 0).cells ((n : Int).toNat * 1) := by
    apply Array.ext'
    have h2 := toList_madeCells_one (.slice none 0 0) n
    simp only [Int.toNat_natCast, Nat.mul_one]
    rw [show (Value.slice none 0 0).cells = #[.slice none 0 0] from rfl, h2]
    simp
  rw [e]
  simpa using h

/-- A town of n nodes, of which k are made. -/
structure Built (w0 w : World) (tb n k : Nat) (L : Nat → Nat) (U : TV) : Prop where
  blk : w.heap[tb]? = some (.cells #[.int .i64 (n : Int), U.xv, U.nnv, .slice none 0 0, .slice none 0 0, .map (some U.bm), .int .i64 0] 68 (0, 0))
  x : GR w 22 1 U.xv k ((List.range k).map fun i => Value.pointer (some ⟨U.xs i, 0, none⟩))
  nn : GR w 29 1 U.nnv n ((List.range n).map fun _ => Value.slice none 0 0)
  node : ∀ i, i < k → @NAt far0 w (U.xs i) ⟨newND s00 i n, [], []⟩ (U.V i)
  lead : MapV Try.prog 3 w U.bm 0 (fun _ => none)
  ltb : L tb = 1
  lx : ∀ j, U.xv.ownBlock = some j → L j = 2
  lnn : ∀ j, U.nnv.ownBlock = some j → L j = 3
  llead : L U.bm = 6
  lnode : ∀ i, i < k → ∀ j, (U.V i).own (U.xs i) j → L j = 10 + 2 * i
  lt : ∀ j, L j ≠ 0 → j < w.heap.size
  out : Out Zone.no w0 w
  own : ∀ j, L j ≠ 0 → w0.heap.size ≤ j
section
variable {w0 w w' w1 w2 : World} {tb n k : Nat} {L : Nat → Nat} {U : TV}
theorem Built.town (h : Built w0 w tb n n L U) : TownX ⟨w0, []⟩ tb (Town.new n) U.xs w := by
  refine ⟨L, { U with netv := .slice none 0 0, donev := .slice none 0 0, nv := fun _ => .slice none 0 0, ss := [], m := 0 }, ⟨h.blk, h.x, h.nn, h.node, fun i _ => grow_nil _ _ _ _, grow_nil _ _ _ _, rfl, fun p hp => (by cases hp), grow_nil _ _ _ _, h.lead, ⟨h.ltb, h.lx, h.lnn, fun j hj => (by cases hj), fun j hj => (by cases hj), h.llead, h.lnode, fun i _ j hj => (by cases hj)⟩, h.lt⟩, ⟨h.out, h.own, fun p hp => (by cases hp)⟩, rfl⟩
theorem Built.any (h : Built w0 w tb n k L U) (ho : Out Zone.no w w') : Built w0 w' tb n k L U := by
  letI := far0
  exact ⟨ho.get h.blk id, GRow.any h.x ho, GRow.any h.nn ho, fun i hi => (h.node i hi).any ho, h.lead.out ho id, h.ltb, h.lx, h.lnn, h.llead, h.lnode, fun j hj => Nat.lt_of_lt_of_le (h.lt j hj) ho.size, h.out.trans ho, h.own⟩
theorem Built.c (h : Built w0 w tb n k L U) (j : Nat) : w.cell? ⟨tb, j, none⟩ = [Value.int .i64 (n : Int), U.xv, U.nnv, .slice none 0 0, .slice none 0 0, .map (some U.bm), .int .i64 0][j]? := by
  rw [cells_all h.blk j]
  simp
/-- One node more. -/
theorem Built.push (h : Built w0 w tb n k L U) (hk : k < n) (hn : n ≤ 7) {x : Nat} {V : NV} (hq : @NAt far0 w1 x ⟨newND s00 k n, [], []⟩ V) (ho : Out Zone.no w w1) (hfr : ∀ j, V.own x j → w.heap.size ≤ j) :
    ∃ (A : Option Addr) (c : Nat) (A9 : Option Addr) (n9 c9 : Nat) (w9 : World) (L' : Nat → Nat) (U' : TV), w1.cell? ⟨tb, 1, none⟩ = some (.slice A k c) ∧ (w1.alloc (.cells #[.pointer (some ⟨x, 0, none⟩)] 22)).cell? ⟨tb, 1, none⟩ = some (.slice A k c) ∧
      (Builtin.append_ #[64, 64] 64 #[.slice A k c, .slice (some ⟨w1.heap.size, 0, none⟩) 1 1]).run Try.prog (w1.alloc (.cells #[.pointer (some ⟨x, 0, none⟩)] 22)) = .ok (.slice A9 n9 c9) w9 ∧
      Built w0 (w9.setCell ⟨tb, 1, none⟩ (.slice A9 n9 c9)) tb n (k + 1) L' U' ∧ w9.frozen? ⟨tb, 1, none⟩ = false ∧ ∃ u, w9.cell? ⟨tb, 1, none⟩ = some u := by
  letI := far0
  obtain ⟨A, c, hxv⟩ := GRow.form h.x
  have oa : Out Zone.no w1 (w1.alloc (.cells #[.pointer (some ⟨x, 0, none⟩)] 22)) := (Out.refl _ _).alloc _
  have hnew := heap_alloc_new w1 (.cells #[.pointer (some ⟨x, 0, none⟩)] 22)
  have h1 := (h.any ho).any oa
  have c1 := (h.any ho).c 1
  have c2 := h1.c 1
  obtain ⟨Wb, hWb⟩ : ∃ Wb, w1.alloc (.cells #[.pointer (some ⟨x, 0, none⟩)] 22) = Wb := ⟨_, rfl⟩
  rw [hWb] at oa hnew h1 c2 ⊢
  have hq1 := hq.any oa
  have hlen : ∀ j, V.own x j → j < Wb.heap.size := fun j hj => own_lt hq1 hj
  have op1 : Op (10 + 2 * k) w L Wb (relab L (10 + 2 * k) (V.own x)) := relab_op (own := fun _ => False) h.lt (by omega) (fun j hj => hj.elim) ⟨(ho.trans oa).mono0, fun j hj => Or.inr (hfr j hj)⟩ hlen
  have stay1 : ∀ j p, L j = p → p ≠ 0 → p ≠ 10 + 2 * k → relab L (10 + 2 * k) (V.own x) j = p := fun j p e e0 ek => by
    rw [op1.same j (h.lt j (by omega)) (by omega)]; exact e
  have hrx : RRow (fun _ => False) Wb (.slice (some ⟨w1.heap.size, 0, none⟩) 1 1) 1 1 [.pointer (some ⟨x, 0, none⟩)] := by
    refine ⟨rfl, some ⟨w1.heap.size, 0, none⟩, 1, rfl, Nat.le_refl _, le_maxLen (by omega), fun j u hu => ⟨w1.heap.size, 0, rfl, id, ?_⟩⟩
    rw [Nat.zero_add, cells_all (show Wb.heap[w1.heap.size]? = _ from hnew) j]
    simpa using hu
  have hx1 := h1.x
  rw [hxv] at hx1
  obtain ⟨v9, w9, k1, k2, k3, k4⟩ := GR.appended elem64 hx1 64 hrx (by simp [Value.oneCell']) (le_maxLen (by omega)) (by omega) (by omega)
  obtain ⟨A9, c9, rfl⟩ := GRow.form k2
  rw [← hxv] at k3 k4
  have op2 := grow_op (q := 2) op1.lt (by omega) (fun j hj => stay1 j 2 (h.lx j hj) (by omega) (by omega)) k2 k3 k4
  have stay2 : ∀ j p, L j = p → p ≠ 0 → p ≠ 10 + 2 * k → p ≠ 2 → glab (relab L (10 + 2 * k) (V.own x)) 2 (.slice A9 (k + 1) c9) j = p ∧ w9.heap[j]? = w.heap[j]? := fun j p e e0 ek e2 => by
    have s1 := stay1 j p e e0 ek
    have hj := h.lt j (by omega)
    refine ⟨op2.lab op1.lt s1 e0 e2, ?_⟩
    rw [op2.blk (op1.lt j (by omega)) (by omega), op1.blk hj (by omega)]
  have tb2 := stay2 tb 1 h.ltb (by omega) (by omega) (by omega)
  have op3 := Op.set (w := w9) (p := ⟨tb, 1, none⟩) (.slice A9 (k + 1) c9) tb2.1 op2.lt
  have stay3 : ∀ j p, L j = p → p ≠ 0 → p ≠ 10 + 2 * k → p ≠ 2 → p ≠ 1 → glab (relab L (10 + 2 * k) (V.own x)) 2 (.slice A9 (k + 1) c9) j = p ∧ (w9.setCell ⟨tb, 1, none⟩ (.slice A9 (k + 1) c9)).heap[j]? = w.heap[j]? := fun j p e e0 ek e2 e1 => by
    obtain ⟨s1, s2⟩ := stay2 j p e e0 ek e2
    exact ⟨s1, (op3.blk (op2.lt j (by omega)) (by omega)).trans s2⟩
  have hsz : w.heap.size ≤ (w9.setCell ⟨tb, 1, none⟩ (.slice A9 (k + 1) c9)).heap.size := Nat.le_trans op1.out.size (Nat.le_trans op2.out.size op3.out.size)
  have hblk : w9.heap[tb]? = some (.cells #[.int .i64 (n : Int), U.xv, U.nnv, .slice none 0 0, .slice none 0 0, .map (some U.bm), .int .i64 0] 68 (0, 0)) := tb2.2.trans h.blk
  have hvt : ∀ j, (Value.slice A9 (k + 1) c9).ownBlock = some j → j ≠ tb := fun j hj e => by
    have e1 := glab_own (L := relab L (10 + 2 * k) (V.own x)) (q := 2) hj
    rw [e, tb2.1] at e1
    omega
  have own2 : ∀ j, V.own x j → glab (relab L (10 + 2 * k) (V.own x)) 2 (.slice A9 (k + 1) c9) j = 10 + 2 * k ∧ (w9.setCell ⟨tb, 1, none⟩ (.slice A9 (k + 1) c9)).heap[j]? = Wb.heap[j]? := fun j hj => by
    have e0 := relab_own (L := L) (q := 10 + 2 * k) hj
    have e1 := op2.lab op1.lt e0 (by omega) (by omega)
    exact ⟨e1, (op3.blk (op2.lt j (by omega)) (by omega)).trans (op2.blk (hlen j hj) (by omega))⟩
  refine ⟨A, c, A9, _, c9, w9, _, { U with xv := .slice A9 (k + 1) c9, xs := fun j => if j = k then x else U.xs j, V := fun j => if j = k then V else U.V j }, by rw [c1, ← hxv]; rfl, by rw [c2, ← hxv]; rfl, k1, ⟨?_, ?_, ?_, fun i hi => ?_, ?_, tb2.1, fun j hj => glab_own hj, fun j hj => (stay3 j 3 (h.lnn j hj) (by omega) (by omega) (by omega) (by omega)).1, (stay3 U.bm 6 h.llead (by omega) (by omega) (by omega) (by omega)).1, fun i hi => ?_, op3.lt, ?_, fun j hj => ?_⟩, frozen_all hblk 1, ⟨_, by rw [cells_all hblk 1]; rfl⟩⟩
  · rw [heap_set hblk 1 _]; simp
  · have e : (List.range (k + 1)).map (fun i => Value.pointer (some ⟨if i = k then x else U.xs i, 0, none⟩)) = (List.range k).map (fun i => Value.pointer (some ⟨U.xs i, 0, none⟩)) ++ [Value.pointer (some ⟨x, 0, none⟩)] := by
      have e1 : (List.range k).map (fun i => Value.pointer (some ⟨if i = k then x else U.xs i, 0, none⟩)) = (List.range k).map (fun i => Value.pointer (some ⟨U.xs i, 0, none⟩)) := List.map_congr_left (fun i hi => by
        have := List.mem_range.1 hi
        rw [if_neg (by omega)])
      rw [List.range_succ, List.map_append, e1, List.map_cons, List.map_nil, if_pos rfl]
    show GR _ 22 1 (.slice A9 (k + 1) c9) (k + 1) ((List.range (k + 1)).map (fun i => Value.pointer (some ⟨if i = k then x else U.xs i, 0, none⟩)))
    rw [e]
    exact gr_set k2 (fun e => hvt _ e rfl) _
  · exact GRow.keep h.nn (fun j hj => (stay3 j 3 (h.lnn j hj) (by omega) (by omega) (by omega) (by omega)).2) (fun _ _ => trivial)
  · by_cases hik : i = k
    · subst hik
      show NAt _ (if i = i then x else U.xs i) ⟨newND s00 i n, [], []⟩ (if i = i then V else U.V i)
      rw [if_pos rfl, if_pos rfl]
      exact hq1.same (Nat.le_trans op2.out.size op3.out.size) (fun j hj => (own2 j hj).2)
    · show NAt _ (if i = k then x else U.xs i) ⟨newND s00 i n, [], []⟩ (if i = k then V else U.V i)
      rw [if_neg hik, if_neg hik]
      have hik2 : i < k := by omega
      exact (h.node i hik2).same hsz (fun j hj => (stay3 j (10 + 2 * i) (h.lnode i hik2 j hj) (by omega) (by omega) (by omega) (by omega)).2)
  · exact h.lead.same (stay3 U.bm 6 h.llead (by omega) (by omega) (by omega) (by omega)).2
  · by_cases hik : i = k
    · subst hik
      show ∀ j, NV.own (if i = i then x else U.xs i) (if i = i then V else U.V i) j → _
      rw [if_pos rfl, if_pos rfl]
      exact fun j hj => (own2 j hj).1
    · show ∀ j, NV.own (if i = k then x else U.xs i) (if i = k then V else U.V i) j → _
      rw [if_neg hik, if_neg hik]
      have hik2 : i < k := by omega
      exact fun j hj => (stay3 j (10 + 2 * i) (h.lnode i hik2 j hj) (by omega) (by omega) (by omega) (by omega)).1
  · have o1 : Out Zone.no w0 Wb := h.out.trans (ho.trans oa)
    have q2 : Out Zone.no w0 w9 := o1.fresh op2.out (fun j hj => by
      have hj : relab L (10 + 2 * k) (V.own x) j = 2 := hj
      by_cases ho2 : V.own x j
      · rw [relab_own ho2] at hj; omega
      · by_cases hl : L j = 10 + 2 * k
        · rw [relab_was ho2 hl] at hj; omega
        · rw [relab_else ho2 hl] at hj; exact h.own j (by omega))
    exact q2.fresh op3.out (fun j hj => by
      have hj : glab (relab L (10 + 2 * k) (V.own x)) 2 (.slice A9 (k + 1) c9) j = 1 := hj
      by_cases hg : (Value.slice A9 (k + 1) c9).ownBlock = some j
      · rw [glab_own hg] at hj; omega
      · rw [glab_else hg] at hj
        by_cases ho2 : V.own x j
        · rw [relab_own ho2] at hj; omega
        · by_cases hl : L j = 10 + 2 * k
          · rw [relab_was ho2 hl] at hj; omega
          · rw [relab_else ho2 hl] at hj; exact h.own j (by omega))
  · by_cases hg : (Value.slice A9 (k + 1) c9).ownBlock = some j
    · rcases k4 with e | e
      · exact h.own j (by have := h.lx j (e.symm.trans hg); omega)
      · have := Option.some.inj (e.symm.trans hg)
        have := (h.out.trans (ho.trans oa)).size
        omega
    · rw [glab_else hg] at hj
      by_cases ho2 : V.own x j
      · exact Nat.le_trans h.out.size (hfr j ho2)
      · by_cases hl : L j = 10 + 2 * k
        · rw [relab_was ho2 hl] at hj; omega
        · rw [relab_else ho2 hl] at hj; exact h.own j hj
end
end Go.Proofs.Ytlgoenimjmiapaa

/-! New: walked. -/
namespace Go.Proofs.Ytlgoenimjmiapaa
open Go.RowKit Go.Maps

theorem s00_good : s00.Good := ⟨⟨by decide, by decide⟩, ⟨by decide, by decide⟩, by decide, fun x hx => (by cases hx), fun i x y hx => (by cases hx)⟩
set_option maxRecDepth 100000 in
set_option maxHeartbeats 2000000 in
theorem make_is (w : World) (n : Nat) (h0 : 0 < n) (h7 : n ≤ 7) (hodd : n % 2 = 1) :
    Calls Try.prog 19 #[.int .i64 (n : Int)] w fun e w' => ∃ tb, e = .returned (.pointer (some ⟨tb, 0, none⟩)) ∧ ∃ xs, TownX ⟨w, []⟩ tb (Town.new n) xs w' := by
  letI := far0
  obtain ⟨R, hR⟩ : ∃ R, Array.replicate n (Value.slice none 0 0) = R := ⟨_, rfl⟩
  have mr := make_rows n (by omega) w
  rw [hR] at mr
  obtain ⟨B, hB⟩ : ∃ B, w.heap.size = B := ⟨_, rfl⟩
  obtain ⟨W1, hW1⟩ : ∃ W1, ((w.alloc (.cells R 29)).alloc (.map #[] 0)).alloc (.cells #[.int .i64 (n : Int), .slice none 0 0, .slice (some ⟨B, 0, none⟩) n n, .slice none 0 0, .slice none 0 0, .map (some (B + 1)), .int .i64 0] 68) = W1 := ⟨_, rfl⟩
  have H1 : Hid (∃ L U, Built w W1 (B + 2) n 0 L U) := by
    have s1 : (w.alloc (.cells R 29)).heap.size = B + 1 := by rw [World.alloc, ← hB]; simp
    have s2 : ((w.alloc (.cells R 29)).alloc (.map #[] 0)).heap.size = B + 2 := by rw [World.alloc]; simp [s1]
    have b1 := heap_alloc_new w (.cells R 29)
    have b2 := heap_alloc_new (w.alloc (.cells R 29)) (.map #[] 0)
    have b3 := heap_alloc_new ((w.alloc (.cells R 29)).alloc (.map #[] 0)) (.cells #[.int .i64 (n : Int), .slice none 0 0, .slice (some ⟨B, 0, none⟩) n n, .slice none 0 0, .slice none 0 0, .map (some (B + 1)), .int .i64 0] 68)
    have o1 : Out Zone.no w (w.alloc (.cells R 29)) := (Out.refl _ _).alloc _
    have o2 : Out Zone.no (w.alloc (.cells R 29)) ((w.alloc (.cells R 29)).alloc (.map #[] 0)) := (Out.refl _ _).alloc _
    have o3 : Out Zone.no ((w.alloc (.cells R 29)).alloc (.map #[] 0)) W1 := by rw [← hW1]; exact (Out.refl _ _).alloc _
    have m0 := (MapV.made Try.prog 3 (w.alloc (.cells R 29))).out o3 id
    rw [s1] at b2 m0
    rw [s2, hW1] at b3
    have e1 := (o2.trans o3).get b1 id
    rw [hB] at e1
    have sz : W1.heap.size = B + 3 := by rw [← hW1, World.alloc]; simp [s2]
    refine ⟨fun j => if j = B then 3 else if j = B + 1 then 6 else if j = B + 2 then 1 else 0, ⟨.slice none 0 0, .slice (some ⟨B, 0, none⟩) n n, .slice none 0 0, .slice none 0 0, B + 1, fun _ => 0, fun _ => ⟨.slice none 0 0, .slice none 0 0, .slice none 0 0, .slice none 0 0, .slice none 0 0, .slice none 0 0⟩, fun _ => .slice none 0 0, [], 0⟩, ⟨b3, grow_nil _ _ _ _, ?_, fun i hi => (by omega), m0, ?_, fun j hj => (by cases hj), fun j hj => ?_, ?_, fun i hi => (by omega), fun j hj => ?_, (o1.trans o2).trans o3, fun j hj => ?_⟩⟩
    · refine ⟨by simp, Or.inr ⟨B, n, R, rfl, trivial, e1, Nat.le_refl _, le_maxLen (by omega), by rw [← hR]; simp, ?_⟩⟩
      rw [← hR]
      simp
      apply List.ext_getElem?
      intro j
      by_cases hj : j < n
      · simp [hj]
      · rw [List.getElem?_eq_none (by simp; omega), List.getElem?_eq_none (by simp; omega)]
    · show (if B + 2 = B then 3 else if B + 2 = B + 1 then 6 else if B + 2 = B + 2 then 1 else 0) = 1
      rw [if_neg (by omega), if_neg (by omega), if_pos rfl]
    · have : j = B := (Option.some.inj (show some B = some j from hj)).symm
      exact if_pos this
    · show (if B + 1 = B then 3 else if B + 1 = B + 1 then 6 else if B + 1 = B + 2 then 1 else 0) = 6
      rw [if_neg (by omega), if_pos rfl]
    · have hj : (if j = B then 3 else if j = B + 1 then 6 else if j = B + 2 then 1 else 0) ≠ 0 := hj
      rw [sz]
      split at hj
      · omega
      · split at hj
        · omega
        · split at hj
          · omega
          · exact absurd rfl hj
    · have hj : (if j = B then 3 else if j = B + 1 then 6 else if j = B + 2 then 1 else 0) ≠ 0 := hj
      rw [hB]
      split at hj
      · omega
      · split at hj
        · omega
        · split at hj
          · omega
          · exact absurd rfl hj
  have PUSH : Hid (∀ k wr, k < n → (∃ L U, Built w wr (B + 2) n k L U) → Calls Try.prog 7 #[.int .i64 (k : Int), .int .i64 (n : Int), .agg #[.int .i64 0, .int .i64 (-1), .slice none 0 0]] wr fun e w1 => ∃ (x : Nat) (A : Option Addr) (c : Nat) (A9 : Option Addr) (n9 c9 : Nat) (w9 : World), e = .returned (.tuple #[.pointer (some ⟨x, 0, none⟩), .int .i64 0]) ∧ w1.cell? ⟨B + 2, 1, none⟩ = some (.slice A k c) ∧ (w1.alloc (.cells #[.pointer (some ⟨x, 0, none⟩)] 22)).cell? ⟨B + 2, 1, none⟩ = some (.slice A k c) ∧
      Hid ((Builtin.append_ #[64, 64] 64 #[.slice A k c, .slice (some ⟨w1.heap.size, 0, none⟩) 1 1]).run Try.prog (w1.alloc (.cells #[.pointer (some ⟨x, 0, none⟩)] 22)) = .ok (.slice A9 n9 c9) w9) ∧
      Hid (∃ L U, Built w (w9.setCell ⟨B + 2, 1, none⟩ (.slice A9 n9 c9)) (B + 2) n (k + 1) L U) ∧ w9.frozen? ⟨B + 2, 1, none⟩ = false ∧ ∃ u, w9.cell? ⟨B + 2, 1, none⟩ = some u) := fun k wr hk ⟨L, U, h⟩ => by
    refine (new_is wr (fun k (h : False) => h.elim) (fun _ => False) s00 (.slice none 0 0) (rrow_nil _ _ _) s00_good n k h7 hodd hk).mono ?_
    rintro e w1 ⟨x, V, rfl, k1, k2, k3⟩
    obtain ⟨A, c, A9, n9, c9, w9, L', U', q1, q2, q3, q4, q5, q6⟩ := h.push hk h7 k1 k2 k3
    exact ⟨x, A, c, A9, n9, c9, w9, rfl, q1, q2, q3, ⟨L', U', q4⟩, q5, q6⟩
  have FIN : Hid (∀ wr, (∃ L U, Built w wr (B + 2) n n L U) → ∃ xs, TownX ⟨w, []⟩ (B + 2) (Town.new n) xs wr) := fun wr ⟨L, U, h⟩ => ⟨_, h.town⟩
  have hn0 : (0 : Int) ≤ (n : Int) := by omega
  have hmm : ∀ W, (Instr.makeMap 66 none).run Try.prog W = .ok (.map (some W.heap.size)) (W.alloc (.map #[] 0)) := fun W => rfl
  clear hR
  go_enter Try.func19, Try.ntmps19
  go_wp2_with fail
  clear mr hB hW1
  go_loopw [4, 2] (fun vi v2 wr => ∃ k : Nat, k ≤ n ∧ vi = .int .i64 (k : Int) ∧ v2 = .pointer none ∧ Hid (∃ L U, Built w wr (B + 2) n k L U)) (fun vi _ _ => n - (intOf vi).toNat)
  case atStart => exact ⟨0, by omega, rfl, rfl, H1⟩
  case round =>
    obtain ⟨k, hk, rfl, rfl, hinv⟩ := hrel
    by_cases hlt : k < n
    · have j1 : (k : Int) < (n : Int) := by omega
      have PP := Lib.hid (PUSH.out k wr hlt hinv.out)
      go_wp2_with (first
        | (go_at_call 7; refine PP.out.mono ?_; rintro e w1 ⟨x, A, c, A9, n9, c9, w9, rfl, y1, y2, hrun, hB9, fz, u, eu⟩)
        | (go_at_call 9; with_reducible refine (num_is _ _).mono ?_; rintro e w' ⟨rfl, rfl⟩)
        | (at_builtin; refine wpList_builtin rfl _ _ _ rfl hrun.out ?_))
      go_roundw
      case rel => exact ⟨k + 1, by omega, by go_num, rfl, hB9⟩
      case measure => simp [intOf]; omega
    · obtain rfl : k = n := by omega
      have FF := Lib.hid (FIN.out wr hinv.out)
      go_wp2_with fail
      go_ret
      exact ⟨_, rfl, FF.out⟩
end Go.Proofs.Ytlgoenimjmiapaa
