import Derived.Shelf.SortM.Plain
import Derived.Shelf.SortM.SortNone
import Derived.Ground.SlgmProg
import Derived.Test.YtlgoenimjmiapaaGreatProg
import Derived.Test.YtlgoenimjmiapaaGreatT09
import Derived.Sort.OwnSortedInts
set_option linter.unusedSimpArgs false
set_option linter.unusedVariables false
set_option linter.unusedSectionVars false
/-
  DERIVED: THE SHELF's CONTRACTS AT THIS DUMP, IN PLAIN WORDS (tools/lay-plain.mjs out of 'YtlgoenimjmiapaaGreatS0.lean', which tools/lay-shelf.mjs wrote): THE SAME DECLARATIONS UNDER THE SAME NAMES: 'import', 'namespace', 'open', 'def', 'theorem' AND NOTHING ELSE: no command of the shelf's: FOR A HAND-IN. Each laying: the table of numbers ('.._ren') and one theorem, a field a fact of the dump's own or the kernel's comparison; each contract: ONE APPLICATION.
-/
namespace Go.Proofs
open Go.Shelf
def Tryz.sortA_ren : Go.Shelf.Ren := ⟨fun | 5 => 81 | 8 => 85 | 7 => 84 | 19 => 97 | 20 => 98 | 10 => 88 | 11 => 89 | 12 => 90 | 13 => 91 | 14 => 92 | 15 => 93 | 16 => 94 | 17 => 95 | 18 => 96 | 30 => 99 | 31 => 100 | 32 => 101 | 33 => 102 | 34 => 103 | 35 => 104 | 40 => 105 | n => n, fun | 23 => 63 | 25 => 3 | 3 => 3 | 32 => 118 | 22 => 63 | 0 => 0 | 44 => 132 | 46 => 106 | 4 => 4 | 36 => 139 | 35 => 138 | 41 => 144 | 5 => 5 | 9 => 9 | 53 => 147 | 57 => 151 | 63 => 153 | 64 => 154 | n => n, fun | n => n⟩
theorem Tryz.sortA : Go.Proofs.SlLaysM.n5 Tryz.prog Tryz.sortA_ren := {
  mixed := by kernel_rfl
  f5 := ⟨Tryz.f81.name, by decide, Tryz.func81.trans (congrArg some (by kernel_rfl))⟩
  f7 := ⟨Tryz.f84.name, by decide, Tryz.func84.trans (congrArg some (by kernel_rfl))⟩
  f8 := Tryz.func85.trans (congrArg some (by kernel_rfl))
  f10 := ⟨Tryz.f88.name, by decide, Tryz.func88.trans (congrArg some (by kernel_rfl))⟩
  f11 := ⟨Tryz.f89.name, by decide, Tryz.func89.trans (congrArg some (by kernel_rfl))⟩
  f12 := ⟨Tryz.f90.name, by decide, Tryz.func90.trans (congrArg some (by kernel_rfl))⟩
  f13 := ⟨Tryz.f91.name, by decide, Tryz.func91.trans (congrArg some (by kernel_rfl))⟩
  f14 := ⟨Tryz.f92.name, by decide, Tryz.func92.trans (congrArg some (by kernel_rfl))⟩
  f15 := ⟨Tryz.f93.name, by decide, Tryz.func93.trans (congrArg some (by kernel_rfl))⟩
  f16 := ⟨Tryz.f94.name, by decide, Tryz.func94.trans (congrArg some (by kernel_rfl))⟩
  f17 := ⟨Tryz.f95.name, by decide, Tryz.func95.trans (congrArg some (by kernel_rfl))⟩
  f18 := ⟨Tryz.f96.name, by decide, Tryz.func96.trans (congrArg some (by kernel_rfl))⟩
  f19 := Tryz.func97.trans (congrArg some (by kernel_rfl))
  f20 := Tryz.func98.trans (congrArg some (by kernel_rfl))
  f30 := ⟨Tryz.f99.name, by decide, Tryz.func99.trans (congrArg some (by kernel_rfl))⟩
  f31 := Tryz.func100.trans (congrArg some (by kernel_rfl))
  f32 := Tryz.func101.trans (congrArg some (by kernel_rfl))
  f33 := ⟨Tryz.f102.name, by decide, Tryz.func102.trans (congrArg some (by kernel_rfl))⟩
  f34 := ⟨Tryz.f103.name, by decide, Tryz.func103.trans (congrArg some (by kernel_rfl))⟩
  f35 := ⟨Tryz.f104.name, by decide, Tryz.func104.trans (congrArg some (by kernel_rfl))⟩
  f40 := ⟨Tryz.f105.name, by decide, Tryz.func105.trans (congrArg some (by kernel_rfl))⟩
  t0 := Tryz.underlying0
  a0 := Tryz.isAgg0
  z0 := Tryz.sizeOf0
  v0 := Tryz.zeroValue0
  t3 := Tryz.underlying3
  a3 := Tryz.isAgg3
  z3 := Tryz.sizeOf3
  v3 := Tryz.zeroValue3
  t4 := Tryz.underlying4
  a4 := Tryz.isAgg4
  z4 := Tryz.sizeOf4
  v4 := Tryz.zeroValue4
  t5 := Tryz.underlying5
  a5 := Tryz.isAgg5
  z5 := Tryz.sizeOf5
  v5 := Tryz.zeroValue5
  t9 := Tryz.underlying9
  a9 := Tryz.isAgg9
  z9 := Tryz.sizeOf9
  v9 := Tryz.zeroValue9
  t22 := Tryz.underlying63
  a22 := Tryz.isAgg63
  z22 := Tryz.sizeOf63
  v22 := Tryz.zeroValue63
  t23 := Tryz.underlying63
  a23 := Tryz.isAgg63
  z23 := Tryz.sizeOf63
  v23 := Tryz.zeroValue63
  t25 := Tryz.underlying3
  a25 := Tryz.isAgg3
  z25 := Tryz.sizeOf3
  v25 := Tryz.zeroValue3
  t32 := Tryz.underlying118
  a32 := Tryz.isAgg118
  z32 := Tryz.sizeOf118
  v32 := Tryz.zeroValue118
  t35 := Tryz.underlying138
  a35 := Tryz.isAgg138
  z35 := Tryz.sizeOf138
  v35 := Tryz.zeroValue138
  t36 := Tryz.underlying139
  a36 := Tryz.isAgg139
  z36 := Tryz.sizeOf139
  v36 := Tryz.zeroValue139
  t41 := Tryz.underlying144
  a41 := Tryz.isAgg144
  z41 := Tryz.sizeOf144
  v41 := Tryz.zeroValue144
  t44 := Tryz.underlying132
  a44 := Tryz.isAgg132
  z44 := Tryz.sizeOf132
  v44 := Tryz.zeroValue132
  t46 := Tryz.underlying106
  a46 := Tryz.isAgg106
  z46 := Tryz.sizeOf106
  v46 := Tryz.zeroValue106
  t53 := Tryz.underlying147
  a53 := Tryz.isAgg147
  z53 := Tryz.sizeOf147
  v53 := Tryz.zeroValue147
  t57 := Tryz.underlying151
  a57 := Tryz.isAgg151
  z57 := Tryz.sizeOf151
  v57 := Tryz.zeroValue151
  t63 := Tryz.underlying153
  a63 := Tryz.isAgg153
  z63 := Tryz.sizeOf153
  v63 := Tryz.zeroValue153
  t64 := Tryz.underlying154
  a64 := Tryz.isAgg154
  z64 := Tryz.sizeOf154
  v64 := Tryz.zeroValue154 }
end Go.Proofs

/-! slices.Sort at ints; rise. -/
set_option linter.unusedVariables false
set_option linter.unusedSectionVars false
namespace Go.Proofs.YtlgoenimjmiapaaGreat
open Go.RowKit Go.Maps Go.Sort

def sortI (l : List Int) : List Int := l.mergeSort fun x y => decide (x ≤ y)
theorem sortI_length (l : List Int) : (sortI l).length = l.length := by simp [sortI]

theorem ints_holds {w : World} {g c : Nat} {cur : Array Value} {l : List Int} (hh : w.heap[g]? = some (.cells cur 3 (0, 0))) (ht : cur.toList.take (l.length * 1) = ints l) : Holds (Value.int .i64) w g 0 l.toArray := by
  intro j hj
  have hj' : j < l.length := by simpa using hj
  refine ⟨?_, frozen_all hh _⟩
  rw [cells_all hh, Nat.zero_add]
  have h1 : (cur.toList.take (l.length * 1))[j]? = (ints l)[j]? := by rw [ht]
  rw [List.getElem?_take_of_lt (by omega), Array.getElem?_toList] at h1
  rw [h1]
  simp [ints, hj']

theorem sort_is {w : World} {v : Value} {l : List Int} (h : GR w 3 1 v l.length (ints l)) (hl : l.length ≤ 1000) (hp : 0 < l.length) :
    Calls Tryz.prog 81 #[v] w fun e w' => e = .returned (.tuple #[]) ∧ GR w' 3 1 v l.length (ints (sortI l)) ∧ Out (Zone.m fun k => v.ownBlock = some k) w w' := by
  rcases h.2 with ⟨_, h0⟩ | ⟨g, cap, cur, hv, hm, hh, h1, h2, h3, h4⟩
  · omega
  subst hv
  refine (AnyM.slices_Sort_int Tryz.sortA g 0 cap l w (ints_holds (c := cap) hh h4) (heap_lt hh) (by omega)).mono ?_
  rintro e w' ⟨rfl, n, os, rfl⟩
  refine ⟨rfl, ⟨by rw [ints_length, sortI_length], Or.inr ⟨g, cap, _, rfl, trivial, heap_sortedI _ hh, h1, h2, ?_, ?_⟩⟩, (Out.refl _ _).grown (grownBy_sortedI _) (fun k hk => ?_)⟩
  · simpa [putCells] using h3
  · have := take_putCellsI cur (sortI l) (by rw [sortI_length]; omega)
    rw [sortI_length] at this
    rw [Nat.mul_one]
    exact this
  · injection hk with hk
    subst hk
    exact Or.inl rfl

/-- To what more than half have. -/
def ND.mid (q : ND) : Int := (sortI (q.acked.set q.id (q.st.log.length : Int))).getD (q.n / 2) 0
def ND.risen (q : ND) : ND := if (q.commit : Int) < q.mid ∧ q.st.last q.mid.toNat = q.st.ep then { q with commit := q.mid.toNat } else q
end Go.Proofs.YtlgoenimjmiapaaGreat

/-! rise. -/
set_option linter.unusedVariables false
set_option linter.unusedSectionVars false
namespace Go.Proofs.YtlgoenimjmiapaaGreat
open Go.RowKit Go.Maps Go.Sort

theorem GR.readsI {N : Nat → Prop} {w : World} {v : Value} {l : List Int} (h : GR w 3 1 v l.length (ints l)) (hN : ∀ k, v.ownBlock = some k → ¬ N k) : RRow N w v l.length 1 (ints l) := by
  refine ⟨ints_length l, ?_⟩
  rcases h.2 with ⟨hv, h0⟩ | ⟨g, cap, cur, hv, hm, hh, h1, h2, h3, h4⟩
  · refine ⟨none, 0, by rw [hv, h0], by omega, Nat.zero_le _, fun j u hu => ?_⟩
    have := h.1
    rw [h0, Nat.zero_mul] at this
    rw [List.eq_nil_of_length_eq_zero this] at hu
    cases hu
  · refine ⟨some ⟨g, 0, none⟩, cap, hv, h1, h2, fun j u hu => ⟨g, 0, rfl, hN g (by rw [hv]; rfl), ?_⟩⟩
    obtain ⟨g', c', hv', hc⟩ := GRow.cell h hu
    rw [hv] at hv'
    injection hv' with e1 _ _
    injection e1 with e1
    injection e1 with e1
    rw [Nat.zero_add, e1]
    exact hc

theorem GR.setI {w : World} {g c : Nat} {l : List Int} {n : Nat} (h : GR w 3 1 (.slice (some ⟨g, 0, none⟩) n c) n (ints l)) (i : Nat) (hi : i < n) (a : Int) : GR (w.setCell ⟨g, i, none⟩ (.int .i64 a)) 3 1 (.slice (some ⟨g, 0, none⟩) n c) n (ints (l.set i a)) := by
  have hlen := h.1
  rcases h.2 with ⟨hv, h0⟩ | ⟨g', cap, cur, hv, hm, hh, h1, h2, h3, h4⟩
  · cases hv
  injection hv with e1 _ e3
  injection e1 with e1
  injection e1 with e1
  subst e1 e3
  refine ⟨by rw [ints_length, List.length_set]; rw [ints_length] at hlen; exact hlen, Or.inr ⟨g, c, _, rfl, trivial, heap_set hh i _, h1, h2, by simpa using h3, ?_⟩⟩
  have : (cur.setIfInBounds i (.int .i64 a)).toList = cur.toList.set i (.int .i64 a) := by simp
  rw [this, List.take_set, h4]
  unfold ints
  rw [List.map_set]

theorem sort_at {w : World} {g c n : Nat} {l : List Int} (hn : l.length = n) (h : GR w 3 1 (.slice (some ⟨g, 0, none⟩) n c) n (ints l)) (hl : n ≤ 1000) (hp : 0 < n) :
    Calls Tryz.prog 81 #[.slice (some ⟨g, 0, none⟩) n c] w fun e w' => e = .returned (.tuple #[]) ∧ GR w' 3 1 (.slice (some ⟨g, 0, none⟩) n c) n (ints (sortI l)) ∧ w.grownBy w' (some g) := by
  subst hn
  rcases h.2 with ⟨h0, _⟩ | ⟨g', cap, cur, hv, hm, hh, h1, h2, h3, h4⟩
  · cases h0
  injection hv with e1 _ e3
  injection e1 with e1
  injection e1 with e1
  subst e1 e3
  refine (AnyM.slices_Sort_int Tryz.sortA g 0 c l w (ints_holds (c := c) hh h4) (heap_lt hh) (by omega)).mono ?_
  rintro e w' ⟨rfl, n, os, rfl⟩
  refine ⟨rfl, ⟨by rw [ints_length, sortI_length], Or.inr ⟨g, c, _, rfl, trivial, heap_sortedI _ hh, h1, h2, ?_, ?_⟩⟩, grownBy_sortedI _⟩
  · simpa [putCells] using h3
  · have := take_putCellsI cur (sortI l) (by rw [sortI_length]; omega)
    rw [sortI_length] at this
    rw [Nat.mul_one]
    exact this

theorem mid_mem {l : List Int} {k : Nat} (hk : k < l.length) : (sortI l)[k]? = some ((sortI l).getD k 0) ∧ (sortI l).getD k 0 ∈ l := by
  have h : k < (sortI l).length := by rw [sortI_length]; exact hk
  rw [List.getD_eq_getElem?_getD, List.getElem?_eq_getElem h]
  refine ⟨rfl, ?_⟩
  have := List.getElem_mem h
  unfold sortI at this
  exact List.mem_mergeSort.1 this

theorem cell_mid {w : World} {g c n k : Nat} {l : List Int} {m : Int} (h : GR w 3 1 (.slice (some ⟨g, 0, none⟩) n c) n (ints l)) (hm : l[k]? = some m) : w.cell? ⟨g, k, none⟩ = some (.int .i64 m) := by
  obtain ⟨g', c', hv', hc⟩ := GRow.cell h (show (ints l)[k]? = some (.int .i64 m) by unfold ints; rw [List.getElem?_map, hm]; rfl)
  injection hv' with e1 _ _
  injection e1 with e1
  injection e1 with e1
  subst e1
  exact hc

section
variable [Far] {w w' : World} {x : Nat} {q : ND} {ns : List Nt} {ss : List (Msg × Value)} {V : NV}

theorem NodeAt.own_x (x : Nat) (V : NV) : V.own x x := by unfold NV.own NV.blks; simp
/-- A cell of the node's own block has turned. -/
theorem NodeAt.self (h : NodeAt w x q ns ss V) (i : Nat) (u : Value) {q' : ND} (hb : StAt (w.setCell ⟨x, i + 3, none⟩ u) x 111 q'.st.ep q'.st.voted V.lv [.int .i64 (q'.id : Int), .int .i64 (q'.n : Int), .int .i64 q'.role, .int .i64 (q'.commit : Int), V.gv, V.hv, V.av, V.nv, V.sv])
    (h1 : q'.st = q.st) (h2 : q'.granted = q.granted) (h3 : q'.has = q.has) (h4 : q'.acked = q.acked) :
    NodeAt (w.setCell ⟨x, i + 3, none⟩ u) x q' ns ss V ∧ Next (V.own x) w (V.own x) (w.setCell ⟨x, i + 3, none⟩ u) := by
  have far : ∀ j k, 1 ≤ j → j < 7 → (V.blks x)[j]? = some (some k) → (w.setCell ⟨x, i + 3, none⟩ u).heap[k]? = w.heap[k]? := fun j k hj1 hj7 hk =>
    Below.heap_setCell w _ u k (fun e => h.apart 0 j (by omega) hj7 k (by rw [e]; rfl) hk)
  have ho : Out (Zone.m (fun k => k = x)) w (w.setCell ⟨x, i + 3, none⟩ u) := (Out.refl _ _).setCell (Or.inl rfl) _
  have nx : Next (V.own x) w (V.own x) (w.setCell ⟨x, i + 3, none⟩ u) := ⟨(Out.refl _ _).setCell (Or.inl (NodeAt.own_x x V)) _, fun k hk => Or.inl hk⟩
  refine ⟨⟨hb, ?_, ?_, ?_, ?_, ?_, ?_, ?_, h.sep, h.far.next nx⟩, nx⟩
  · rw [h1]; exact GRow.keep h.log (fun k hk => far 1 k (by omega) (by omega) (by show some _ = _; rw [hk])) (fun _ _ => trivial)
  · rw [h2]; exact votes_keep h (fun k hk => far 2 k (by omega) (by omega) (by show some _ = _; rw [hk]))
  · rw [h3]; exact GRow.keep h.has (fun k hk => far 3 k (by omega) (by omega) (by show some _ = _; rw [hk])) (fun _ _ => trivial)
  · rw [h4]; exact GRow.keep h.acked (fun k hk => far 4 k (by omega) (by omega) (by show some _ = _; rw [hk])) (fun _ _ => trivial)
  · exact GRow.keep h.notes (fun k hk => far 5 k (by omega) (by omega) (by show some _ = _; rw [hk])) (fun _ _ => trivial)
  · exact GRow.keep h.send (fun k hk => far 6 k (by omega) (by omega) (by show some _ = _; rw [hk])) (fun _ _ => trivial)
  · intro p hp
    exact (h.rows p hp).shun nx
theorem NodeAt.setCommit (h : NodeAt w x q ns ss V) (m : Nat) : NodeAt (w.setCell ⟨x, 6, none⟩ (.int .i64 (m : Int))) x { q with commit := m } ns ss V ∧ Next (V.own x) w (V.own x) (w.setCell ⟨x, 6, none⟩ (.int .i64 (m : Int))) :=
  h.self 3 _ (blk_set h.blk 3 _) rfl rfl rfl rfl
theorem NodeAt.setRole (h : NodeAt w x q ns ss V) (r : Int) : NodeAt (w.setCell ⟨x, 5, none⟩ (.int .i64 r)) x { q with role := r } ns ss V ∧ Next (V.own x) w (V.own x) (w.setCell ⟨x, 5, none⟩ (.int .i64 r)) :=
  h.self 2 _ (blk_set h.blk 2 _) rfl rfl rfl rfl

set_option maxRecDepth 100000 in
set_option maxHeartbeats 2000000 in
theorem rise_is (h : NodeAt w x q ns ss V) (hal : q.acked.length = q.n) (hid : q.id < q.n) (hn2 : q.n ≤ 7) (hl : q.st.log.length ≤ 1000000) (hak : ∀ a ∈ q.acked, 0 ≤ a ∧ a ≤ (q.st.log.length : Int)) :
    Calls Tryz.prog 69 #[.pointer (some ⟨x, 0, none⟩)] w fun e w' => e = .returned (.tuple #[]) ∧ NodeAt w' x q.risen ns ss V ∧ Next (V.own x) w (V.own x) w' := by
  have c9 := h.c9
  have HCL : Hid (Calls Tryz.prog 80 #[V.av] w fun e w' => ∃ g c, e = .returned (.slice (some ⟨g, 0, none⟩) q.acked.length c) ∧ GR w' 3 1 (.slice (some ⟨g, 0, none⟩) q.acked.length c) q.acked.length (ints q.acked) ∧ Out Zone.no w w' ∧ w.heap.size ≤ g ∧ w'.cell? ⟨g, q.id, none⟩ = some (.int .i64 (q.acked.getD q.id 0)) ∧ w'.frozen? ⟨g, q.id, none⟩ = false) := by
    refine (cloneI_is w (fun _ => False) V.av q.acked (GR.readsI h.acked (fun _ _ e => e)) (by omega)).mono ?_
    rintro e w1 ⟨v1, rfl, hg1, ho1, hk1⟩
    obtain ⟨g, cap, rfl, _, _⟩ := GRow.pos hg1 (by omega)
    obtain ⟨g', c', hv', hc⟩ := GRow.cell hg1 (show (ints q.acked)[q.id]? = some (.int .i64 (q.acked.getD q.id 0)) by unfold ints; rw [List.getElem?_map, List.getD_eq_getElem?_getD, List.getElem?_eq_getElem (show q.id < q.acked.length by omega)]; rfl)
    injection hv' with e1 _ _
    injection e1 with e1
    injection e1 with e1
    subst e1
    obtain ⟨_, _, cur, hcur⟩ := GRow.mem hg1 rfl
    exact ⟨g, cap, rfl, hg1, ho1, hk1 g rfl, hc, frozen_all hcur _⟩
  have H := Lib.hid h
  have HAK := Lib.hid hak
  have HAL := Lib.hid hal
  obtain ⟨AL, cL, hlv⟩ := GRow.form h.log
  have c2 : w.cell? ⟨x, 2, none⟩ = some (.slice AL q.st.log.length cL) := by rw [← hlv]; exact h.blk.c2
  have c3 := h.c3
  obtain ⟨AV, cV, hav⟩ := GRow.form h.acked
  rw [hav] at c9 HCL
  rw [hal] at c9 HCL
  have c4 := h.c4
  have c6 := h.c6
  have c0 : w.cell? ⟨x, 0, none⟩ = some (.int .i64 q.st.ep) := h.blk.c0
  have hxs : x < w.heap.size := heap_lt h.blk
  obtain ⟨L, hL⟩ : ∃ L, q.st.log.length = L := ⟨_, rfl⟩
  obtain ⟨D, hD⟩ : ∃ D, q.id = D := ⟨_, rfl⟩
  obtain ⟨N, hN⟩ : ∃ N, q.n = N := ⟨_, rfl⟩
  rw [hL] at c2 hl
  rw [hD, hN] at HCL
  rw [hD] at c3 hid
  rw [hN] at c9 c4 hid hn2
  have HE : Hid (q.st.log.length = L ∧ q.id = D ∧ q.n = N) := ⟨hL, hD, hN⟩
  obtain ⟨m, hmL, hm1, hm2⟩ : ∃ m : Nat, m ≤ L ∧ (sortI (q.acked.set D (L : Int)))[N / 2]? = some (m : Int) ∧ q.mid = (m : Int) := by
    have h1 := mid_mem (l := q.acked.set D (L : Int)) (k := N / 2) (by rw [List.length_set, hal, hN]; omega)
    have h2 : q.mid = (sortI (q.acked.set D (L : Int))).getD (N / 2) 0 := by unfold ND.mid; rw [hL, hD, hN]
    have h3 : 0 ≤ q.mid ∧ q.mid ≤ (L : Int) := by
      rw [h2]
      rcases List.mem_or_eq_of_mem_set h1.2 with e | e
      · have := hak _ e; rw [hL] at this; exact this
      · rw [e]; omega
    exact ⟨q.mid.toNat, by omega, by rw [h1.1, ← h2]; congr 1; omega, by omega⟩
  have HM := Lib.hid hm1
  have HM2 := Lib.hid hm2
  clear hak h hlv hav hal hL hD hN hm1 hm2
  go_enter Tryz.func69, Tryz.ntmps69
  go_wp2_with (go_at_call 80; refine HCL.out.mono ?_; rintro e w1 ⟨g, c, rfl, hg1, ho1, hk1, k1, k2⟩; have HG1 := Lib.hid hg1; have HO1 := Lib.hid ho1; have d2 := ho1.cell c2 (fun h => h); have d3 := ho1.cell c3 (fun h => h); have d4 := ho1.cell c4 (fun h => h); have d6 := ho1.cell c6 (fun h => h); have d0 := ho1.cell c0 (fun h => h); clear hg1 ho1)
  have hi1 : (0 : Int) ≤ (D : Int) := by omega
  have hi2 : (D : Int) < (N : Int) := by omega
  go_region
  have HG2 : Hid (GR (w1.setCell ⟨g, D, none⟩ (.int .i64 (L : Int))).drew 3 1 (.slice (some ⟨g, 0, none⟩) N c) N (ints (q.acked.set D (L : Int)))) := by
    have := HG1.out
    obtain ⟨hL, hD, hN⟩ := HE.out
    exact GR.setI this D hid (L : Int)
  have HO2 : Hid (Out Zone.no w (w1.setCell ⟨g, D, none⟩ (.int .i64 (L : Int))).drew) := (HO1.out.setCell (Or.inr hk1) _).drew
  have HS := Lib.hid (sort_at (by rw [List.length_set, HAL.out, HE.out.2.2]) HG2.out (by omega) (by omega))
  have C := Lib.hid (And.intro c0 (And.intro c4 c6))
  have hq : (N : Int).tdiv 2 = ((N / 2 : Nat) : Int) := by rw [Int.tdiv_eq_ediv_of_nonneg (by omega)]; omega
  have hi3 : ((N / 2 : Nat) : Int) < (N : Int) := by omega
  clear d2 d3 d4 d6 d0 c2 c3 c4 c6 c0 k1 k2
  go_wp2_with (go_at_call 81; refine HS.out.mono ?_; rintro e w3 ⟨rfl, hg3, hgr⟩; have HO3 := Lib.hid (HO2.out.grown hgr (fun k hk => by injection hk with hk; subst hk; exact Or.inr hk1)); have km := cell_mid hg3 HM.out; have e0 := HO3.out.cell C.out.1 (fun h => h); have e4 := HO3.out.cell C.out.2.1 (fun h => h); have e6 := HO3.out.cell C.out.2.2 (fun h => h); clear hg3 hgr)
  have HLA : Hid (∀ W, Out Zone.no w W → Calls Tryz.prog 78 #[.pointer (some ⟨x, 0, none⟩), .int .i64 (m : Int)] W fun e w' => e = .returned (.int .i64 (q.st.last m)) ∧ W = w') := fun W ho => last_is W x 111 q.st V.lv _ (H.out.any ho).blk (H.out.any ho).log m (by rw [HE.out.1]; exact hmL) (by rw [HE.out.1]; exact hl)
  have HF : Hid (∀ W, Out Zone.no w W → ¬ ((q.commit : Int) < (m : Int) ∧ q.st.last m = q.st.ep) → NodeAt W x q.risen ns ss V ∧ Next (V.own x) w (V.own x) W) := fun W ho hc => by
    have : q.risen = q := by unfold ND.risen; rw [HM2.out, Int.toNat_natCast, if_neg hc]
    rw [this]
    exact ⟨H.out.any ho, Next.of_out ho⟩
  have HT : Hid (∀ W, Out Zone.no w W → (q.commit : Int) < (m : Int) → q.st.last m = q.st.ep → NodeAt (W.setCell ⟨x, 6, none⟩ (.int .i64 (m : Int))) x q.risen ns ss V ∧ Next (V.own x) w (V.own x) (W.setCell ⟨x, 6, none⟩ (.int .i64 (m : Int)))) := fun W ho hc he => by
    have : q.risen = { q with commit := m } := by unfold ND.risen; rw [HM2.out, Int.toNat_natCast, if_pos ⟨hc, he⟩]
    rw [this]
    have := (H.out.any ho).setCommit m
    exact ⟨this.1, (Next.of_out ho).trans this.2⟩
  have hf6 : w3.frozen? ⟨x, 6, none⟩ = false := frozen_all (H.out.any HO3.out).blk 6
  by_cases hc : (q.commit : Int) < (m : Int)
  · by_cases he : q.st.last m = q.st.ep
    · have ee0 : (q.st.last m == q.st.ep) = true := by rw [beq_iff_eq]; exact he
      have HTT := Lib.hid (HT.out _ HO3.out.drew hc he)
      have e6d : w3.drew.cell? ⟨x, 6, none⟩ = some (.int .i64 (q.commit : Int)) := e6
      have f6d : w3.drew.frozen? ⟨x, 6, none⟩ = false := hf6
      have CSD : w3.drew.cell? ⟨x, 6, none⟩ = some (.int .i64 (q.commit : Int)) ∧ w3.drew.cell? ⟨x, 0, none⟩ = some (.int .i64 q.st.ep) := ⟨e6, e0⟩
      have OW : Hid (Out Zone.no w w3.drew) := HO3.out.drew
      obtain ⟨cm, hcm⟩ : ∃ cm, q.commit = cm := ⟨_, rfl⟩
      clear hcm e4 km
      go_region_held3 (fun W' => W'.cell? ⟨x, 6, none⟩ = some (.int .i64 (q.commit : Int)) ∧ W'.cell? ⟨x, 0, none⟩ = some (.int .i64 q.st.ep))
        (first | assumption)
        (first
          | (go_at_call 78; refine (HLA.out _ OW.out).mono ?_; rintro e w2 ⟨rfl, rfl⟩))
      all_goals
        go_wp2_with fail
        go_end0
        exact ⟨rfl, HTT.out⟩
    · have ee0 : (q.st.last m == q.st.ep) = false := by rw [beq_eq_false_iff_ne]; exact he
      have HFF := Lib.hid (HF.out _ HO3.out.drew (fun h => he h.2))
      clear he
      have CSD : w3.drew.cell? ⟨x, 6, none⟩ = some (.int .i64 (q.commit : Int)) ∧ w3.drew.cell? ⟨x, 0, none⟩ = some (.int .i64 q.st.ep) := ⟨e6, e0⟩
      have OW : Hid (Out Zone.no w w3.drew) := HO3.out.drew
      obtain ⟨cm, hcm⟩ : ∃ cm, q.commit = cm := ⟨_, rfl⟩
      clear hcm e4 km
      go_region_held3 (fun W' => W'.cell? ⟨x, 6, none⟩ = some (.int .i64 (q.commit : Int)) ∧ W'.cell? ⟨x, 0, none⟩ = some (.int .i64 q.st.ep))
        (first | assumption)
        (first
          | (go_at_call 78; refine (HLA.out _ OW.out).mono ?_; rintro e w2 ⟨rfl, rfl⟩))
      all_goals
        go_wp2_with fail
        go_end0
        exact ⟨rfl, HFF.out⟩
  · go_quiet (fail)
    go_wp2_with fail
    go_end0
    exact ⟨rfl, HF.out _ (HO3.out.drewN _) (fun h => absurd h.1 (by omega))⟩
end
end Go.Proofs.YtlgoenimjmiapaaGreat
