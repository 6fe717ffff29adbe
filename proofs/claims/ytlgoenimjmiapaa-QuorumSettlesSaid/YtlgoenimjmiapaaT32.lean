import Derived.Test.YtlgoenimjmiapaaT31
set_option linter.unusedSimpArgs false
set_option linter.unusedVariables false
set_option linter.unusedSectionVars false
/-! works, where the node runs on. -/
namespace Go.Proofs.Ytlgoenimjmiapaa
open Go.RowKit Go.Maps

section
variable {w w' : World} {w0 : Base} {tb : Nat} {t : Town} {L : Nat → Nat} {U : TV} {i : Nat} {xs : Nat → Nat}
/-- Within works' loop: k messages are in the net; the work lies boxed in block B. -/
def Sends (w0 : Base) (tb : Nat) (t : Town) (xs : Nat → Nat) (nv sv : Value) (ns : List Nt) (ms : List Msg) (B k : Nat) (W : World) : Prop :=
  ∃ L U, TownAt W tb { t with net := t.net ++ ms.take k } L U ∧ Own1 w0 W L ∧ U.xs = xs ∧ WorkOut (fun k => L k ≠ 0) W (.agg #[nv, sv]) ns ms ∧ W.heap[B]? = some (.cells #[nv, sv] 32 (0, 0)) ∧ L B = 0
theorem Sends.any {nv sv : Value} {ns : List Nt} {ms : List Msg} {B k : Nat} (h : Sends w0 tb t xs nv sv ns ms B k w) (ho : Out Zone.no w w') : Sends w0 tb t xs nv sv ns ms B k w' := by
  obtain ⟨L, U, h1, h2, h3, h4, h5, h6⟩ := h
  exact ⟨L, U, h1.any ho, h2.any ho, h3, h4.any ho, ho.get h5 id, h6⟩
theorem Sends.x {nv sv : Value} {ns : List Nt} {ms : List Msg} {B k : Nat} (h : Sends w0 tb t xs nv sv ns ms B k w) : TownX w0 tb { t with net := t.net ++ ms.take k } xs w := by
  obtain ⟨L, U, h1, h2, h3, _⟩ := h
  exact ⟨L, U, h1, h2, h3⟩
theorem Sends.cells {nv sv : Value} {ns : List Nt} {ms : List Msg} {B k : Nat} (h : Sends w0 tb t xs nv sv ns ms B k w) (hk : k ≤ ms.length) : w.cell? ⟨B, 0, none⟩ = some nv ∧ w.cell? ⟨B, 1, none⟩ = some sv ∧ ∃ An cn, w.cell? ⟨tb, 3, none⟩ = some (.slice An (t.net.length + k) cn) := by
  obtain ⟨L, U, h1, h2, h3, h4, h5, h6⟩ := h
  obtain ⟨An, cn, hv⟩ := GRow.form h1.net
  have hl : U.ss.length = t.net.length + k := by
    have := congrArg List.length h1.fst
    rw [List.length_map] at this
    rw [this, List.length_append, List.length_take]
    omega
  refine ⟨by rw [cells_all h5]; rfl, by rw [cells_all h5]; rfl, An, cn, ?_⟩
  rw [h1.c 3]
  show some U.netv = _
  rw [hv, hl]
set_option maxRecDepth 100000 in
/-- One message more. -/
theorem Sends.push {nv : Value} {A2 : Option Addr} {c2 : Nat} {ns : List Nt} {ms : List Msg} {B k : Nat} (h : Sends w0 tb t xs nv (.slice A2 ms.length c2) ns ms B k w) (hk : k < ms.length) (hn : t.net.length + ms.length ≤ 1000000) :
    ∃ (kd fr tt me ma ml mc : Int) (Ap : Option Addr) (lp cp g2 : Nat) (An : Option Addr) (cn : Nat) (A9 : Option Addr) (n9 c9 : Nat) (w1 : World), A2 = some ⟨g2, 0, none⟩ ∧
      (∀ W, Out Zone.no w W → (W.cell? ⟨g2, k * 8, none⟩ = some (.int .i64 kd) ∧ W.cell? ⟨g2, k * 8 + 1, none⟩ = some (.int .i64 fr) ∧ W.cell? ⟨g2, k * 8 + 2, none⟩ = some (.int .i64 tt) ∧ W.cell? ⟨g2, k * 8 + 3, none⟩ = some (.int .i64 me) ∧ W.cell? ⟨g2, k * 8 + 4, none⟩ = some (.int .i64 ma) ∧ W.cell? ⟨g2, k * 8 + 5, none⟩ = some (.int .i64 ml) ∧ W.cell? ⟨g2, k * 8 + 6, none⟩ = some (.int .i64 mc) ∧ W.cell? ⟨g2, k * 8 + 7, none⟩ = some (.slice Ap lp cp)) ∧
        W.cell? ⟨tb, 3, none⟩ = some (.slice An (t.net.length + k) cn) ∧ W.cell? ⟨B, 1, none⟩ = some (.slice A2 ms.length c2)) ∧
      (Builtin.append_ #[30, 30] 30 #[.slice An (t.net.length + k) cn, .slice (some ⟨w.heap.size, 0, none⟩) 1 1]).run Try.prog (w.drew.alloc (.cells #[.int .i64 kd, .int .i64 fr, .int .i64 tt, .int .i64 me, .int .i64 ma, .int .i64 ml, .int .i64 mc, .slice Ap lp cp] 36)) = .ok (.slice A9 n9 c9) w1 ∧
      Sends w0 tb t xs nv (.slice A2 ms.length c2) ns ms B (k + 1) (w1.setCell ⟨tb, 3, none⟩ (.slice A9 n9 c9)) ∧ w1.frozen? ⟨tb, 3, none⟩ = false ∧ ∃ u, w1.cell? ⟨tb, 3, none⟩ = some u := by
  have hcells := fun W (ho : Out Zone.no w W) => (h.any ho).cells (by omega)
  obtain ⟨L, U, h1, h2, h3, h4, h5, h6⟩ := id h
  obtain ⟨nv', sv', ss, hv, hss, hwk⟩ := id h4
  obtain ⟨rfl, rfl⟩ : nv = nv' ∧ Value.slice A2 ms.length c2 = sv' := by
    injection hv with hv
    have := congrArg Array.toList hv
    injection this with e1 e2
    injection e2 with e2 _
    exact ⟨e1, e2⟩
  have hsl : ss.length = ms.length := by rw [← hss, List.length_map]
  obtain ⟨p, hp⟩ : ∃ p, ss[k]? = some p := ⟨_, List.getElem?_eq_getElem (by omega)⟩
  have hpm : p ∈ ss := List.mem_of_getElem? hp
  have hrow := hwk.rows p hpm
  obtain ⟨Ap, cp, hpv, _, _⟩ := hrow.form
  have hsend := hwk.send
  obtain ⟨An, cn, hnv⟩ := GRow.form h1.net
  have hul : U.ss.length = t.net.length + k := by
    have := congrArg List.length h1.fst
    rw [List.length_map] at this
    rw [this, List.length_append, List.length_take]
    omega
  obtain ⟨g2, c2', hv2, _⟩ := GRow.cell hsend ((encM_at hp 0 (by omega)).trans (show (mcells p)[0]? = some _ from rfl))
  have hA2 : A2 = some ⟨g2, 0, none⟩ := by injection hv2
  have cell : ∀ j u, j < 8 → (mcells p)[j]? = some u → w.cell? ⟨g2, k * 8 + j, none⟩ = some u := fun j u hj hu => by
    obtain ⟨g', c', hv', hc⟩ := GRow.cell hsend ((encM_at hp j hj).trans hu)
    rw [hv2] at hv'
    injection hv' with e
    injection e with e
    injection e with e
    subst e
    exact hc
  have hm8 : (mcells p) = [.int .i64 p.1.kind, .int .i64 p.1.frm, .int .i64 p.1.to, .int .i64 p.1.ep, .int .i64 p.1.at_, .int .i64 p.1.last, .int .i64 p.1.commit, .slice Ap p.1.log.length cp] := by unfold mcells; rw [hpv]
  have ow : Out Zone.no w (w.drew.alloc (.cells #[.int .i64 p.1.kind, .int .i64 p.1.frm, .int .i64 p.1.to, .int .i64 p.1.ep, .int .i64 p.1.at_, .int .i64 p.1.last, .int .i64 p.1.commit, .slice Ap p.1.log.length cp] 36)) := ((Out.refl _ _).drew).alloc _
  obtain ⟨Wb, hWb⟩ : ∃ Wb, w.drew.alloc (.cells #[.int .i64 p.1.kind, .int .i64 p.1.frm, .int .i64 p.1.to, .int .i64 p.1.ep, .int .i64 p.1.at_, .int .i64 p.1.last, .int .i64 p.1.commit, .slice Ap p.1.log.length cp] 36) = Wb := ⟨_, rfl⟩
  have hnew := heap_alloc_new w.drew (.cells #[.int .i64 p.1.kind, .int .i64 p.1.frm, .int .i64 p.1.to, .int .i64 p.1.ep, .int .i64 p.1.at_, .int .i64 p.1.last, .int .i64 p.1.commit, .slice Ap p.1.log.length cp] 36)
  rw [hWb] at ow hnew
  have hb := h1.any ow
  have hrx : RRow (fun _ => False) Wb (.slice (some ⟨w.heap.size, 0, none⟩) 1 1) 1 8 (mcells p) := by
    refine ⟨rfl, some ⟨w.heap.size, 0, none⟩, 1, rfl, Nat.le_refl _, le_maxLen (by omega), fun j u hu => ⟨w.heap.size, 0, rfl, id, ?_⟩⟩
    rw [Nat.zero_add, cells_all (show Wb.heap[w.heap.size]? = _ from hnew) j]
    rw [hm8] at hu
    simpa using hu
  have hng := hb.net
  rw [hnv, hul] at hng
  have hone : ∀ u ∈ mcells p, u.oneCell' = true := fun u hu => by
    rw [hm8] at hu
    simp only [List.mem_cons, List.not_mem_nil, or_false] at hu
    rcases hu with rfl | rfl | rfl | rfl | rfl | rfl | rfl | rfl <;> rfl
  obtain ⟨v1, w1, k1, k2, k3, k4⟩ := GR.appended elem30 hng 30 hrx hone (le_maxLen (by omega)) (by omega) (by omega)
  obtain ⟨A9, c9, rfl⟩ := GRow.form k2
  have e9 : U.netv.ownBlock = (Value.slice An (t.net.length + k) cn).ownBlock := by rw [hnv, hul]
  obtain ⟨L', q1, q2, q3, q4, q5, q7, q6⟩ := hb.pushNet (h2.any ow) (p := p) (hrow.any ow) (v1 := .slice A9 (t.net.length + k + 1) c9) (by rw [hul]; exact k2) (by rw [e9]; exact k3) (by rw [e9]; exact k4)
  refine ⟨p.1.kind, p.1.frm, p.1.to, p.1.ep, p.1.at_, p.1.last, p.1.commit, Ap, p.1.log.length, cp, g2, An, cn, A9, _, c9, w1, hA2, fun W ho => ⟨?_, ?_, (hcells W ho).2.1⟩, by rw [hWb]; exact k1, ?_, q4, q5⟩
  · refine ⟨?_, ?_, ?_, ?_, ?_, ?_, ?_, ?_⟩
    · exact ho.cell (cell 0 _ (by omega) (by rw [hm8]; rfl)) id
    · exact ho.cell (cell 1 _ (by omega) (by rw [hm8]; rfl)) id
    · exact ho.cell (cell 2 _ (by omega) (by rw [hm8]; rfl)) id
    · exact ho.cell (cell 3 _ (by omega) (by rw [hm8]; rfl)) id
    · exact ho.cell (cell 4 _ (by omega) (by rw [hm8]; rfl)) id
    · exact ho.cell (cell 5 _ (by omega) (by rw [hm8]; rfl)) id
    · exact ho.cell (cell 6 _ (by omega) (by rw [hm8]; rfl)) id
    · exact ho.cell (cell 7 _ (by omega) (by rw [hm8]; rfl)) id
  · rw [(h1.any ho).c 3]
    show some U.netv = _
    rw [hnv, hul]
  · have hmk : ms[k]? = some p.1 := by rw [← hss, List.getElem?_map, hp]; rfl
    have ht : t.net ++ ms.take (k + 1) = (t.net ++ ms.take k) ++ [p.1] := by
      have hlt : k < ms.length := hk
      rw [List.take_succ_eq_append_getElem hlt]
      rw [List.getElem?_eq_getElem hlt] at hmk
      injection hmk with hmk
      rw [hmk, List.append_assoc]
    have hBlt := heap_lt h5
    have hB9 : (w1.setCell ⟨tb, 3, none⟩ (.slice A9 (t.net.length + k + 1) c9)).heap[B]? = some (.cells #[nv, .slice A2 ms.length c2] 32 (0, 0)) := by
      have hBt : B ≠ tb := fun e => by rw [e, h1.lab.tb] at h6; cases h6
      rw [Below.heap_setCell w1 ⟨tb, 3, none⟩ _ B hBt]
      refine (k3.block B ?_ ?_).trans (ow.get h5 id)
      · have := ow.size; omega
      · intro e
        have := h1.lab.net B (by rw [e9]; exact e.symm)
        omega
    refine ⟨L', { U with netv := .slice A9 (t.net.length + k + 1) c9, ss := U.ss ++ [p] }, ?_, q2, h3, q6 (h4.any ow), hB9, ?_⟩
    · rw [ht]; exact q1
    · exact q7 B (by have := ow.size; omega) h6
end
end Go.Proofs.Ytlgoenimjmiapaa

/-! works, where the node runs on; works. -/
namespace Go.Proofs.Ytlgoenimjmiapaa
open Go.RowKit Go.Maps

section
variable {w w' : World} {w0 : Base} {tb : Nat} {t : Town} {L : Nat → Nat} {U : TV} {i : Nat} {xs : Nat → Nat}
set_option maxRecDepth 100000 in
set_option maxHeartbeats 4000000 in
/-- works, where the node runs on. -/
theorem works_on {v : Value} {ns : List Nt} {ms : List Msg} (h : TownW w0 tb t xs v ns ms w) (hi : i < t.n) (a : Deed) (ha : a.falls = false) (hl : (t.notes i).length + ns.length ≤ 1000000000) (hnl : t.net.length + ms.length ≤ 1000000) :
    Calls Try.prog 43 #[.pointer (some ⟨tb, 0, none⟩), .int .i64 (i : Int), v, .agg #[.int .i64 a.kind, .int .i64 a.i, .int .i64 a.k, .int .i64 a.cut, .bool a.falls]] w fun e w' => e = .returned (.bool true) ∧ TownX w0 tb (t.worked i ns ms a) xs w' := by
  obtain ⟨l, hll⟩ : ∃ l, ns.length = l := ⟨_, rfl⟩
  obtain ⟨N, hN⟩ : ∃ N, t.net.length = N := ⟨_, rfl⟩
  have hT : t.worked i ns ms a = { t with notes := updN t.notes i (t.notes i ++ ns), net := t.net ++ ms.take (300 - N) } := by unfold Town.worked; rw [if_neg (by rw [ha]; decide), hN]
  obtain ⟨T, hTT⟩ : ∃ T, t.worked i ns ms a = T := ⟨_, rfl⟩
  rw [hTT] at hT ⊢
  obtain ⟨L, U, h1, h2, rfl, nv, sv, ss, rfl, hss, hwk⟩ := h
  obtain ⟨A1, c1, rfl⟩ := GRow.form hwk.notes
  obtain ⟨A2, c2, rfl⟩ := GRow.form hwk.send
  have hsl : ss.length = ms.length := by rw [← hss, List.length_map]
  rw [hsl] at hwk ⊢
  obtain ⟨gn, cn, hnv, -⟩ := h1.rown hi
  obtain ⟨Ai, ci, hni⟩ := GRow.form (h1.notes i hi)
  obtain ⟨n, hn⟩ : ∃ n, t.n = n := ⟨_, rfl⟩
  obtain ⟨li, hli⟩ : ∃ li, (t.notes i).length = li := ⟨_, rfl⟩
  obtain ⟨B, hB⟩ : ∃ B, w.heap.size = B := ⟨_, rfl⟩
  obtain ⟨M, hM⟩ : ∃ M, ms.length = M := ⟨_, rfl⟩
  obtain ⟨W0, hW0⟩ : ∃ W0, (w.alloc (.cells #[.slice A1 ns.length c1, .slice A2 ms.length c2] 32)).alloc (.cells #[.int .i64 a.kind, .int .i64 a.i, .int .i64 a.k, .int .i64 a.cut, .bool a.falls] 62) = W0 := ⟨_, rfl⟩
  have o0 : Out Zone.no w W0 := by rw [← hW0]; exact ((Out.refl _ _).alloc _).alloc _
  have hbB : W0.heap[B]? = some (.cells #[.slice A1 ns.length c1, .slice A2 ms.length c2] 32 (0, 0)) := by
    have hb := heap_alloc_new w (.cells #[.slice A1 ns.length c1, .slice A2 ms.length c2] 32)
    have hb2 := ((Out.refl Zone.no (w.alloc (.cells #[.slice A1 ns.length c1, .slice A2 ms.length c2] 32))).alloc (.cells #[.int .i64 a.kind, .int .i64 a.i, .int .i64 a.k, .int .i64 a.cut, .bool a.falls] 62)).get hb id
    rw [hW0, hB] at hb2
    exact hb2
  have b4 : W0.cell? ⟨B + 1, 4, none⟩ = some (.bool false) := by
    have hb3 := heap_alloc_new (w.alloc (.cells #[.slice A1 ns.length c1, .slice A2 ms.length c2] 32)) (.cells #[.int .i64 a.kind, .int .i64 a.i, .int .i64 a.k, .int .i64 a.cut, .bool a.falls] 62)
    have hsz : (w.alloc (.cells #[.slice A1 ns.length c1, .slice A2 ms.length c2] 32)).heap.size = B + 1 := by simp [hB]
    rw [hsz, hW0] at hb3
    rw [cells_all hb3, ← ha]; rfl
  have hLB : L B = 0 := Classical.byContradiction (fun e => by have := h1.lt B e; omega)
  have HBB := Lib.hid hbB
  have BOX : Hid (∀ W, Out Zone.no W0 W → W.cell? ⟨B, 0, none⟩ = some (.slice A1 l c1)) := fun W ho => by
    rw [cells_all (ho.get HBB.out id), ← hll]; rfl
  have KC : Hid (∀ W, Out Zone.no w W → W.cell? ⟨tb, 2, none⟩ = some (.slice (some ⟨gn, 0, none⟩) n cn) ∧ W.cell? ⟨gn, i, none⟩ = some (.slice Ai li ci)) := fun W ho => by
    have hW := h1.any ho
    obtain ⟨g', c', f1, f2, _, _⟩ := hW.rown hi
    rw [hnv] at f1
    obtain ⟨rfl, rfl⟩ : gn = g' ∧ cn = c' := by injection f1 with e1 _ e3; injection e1 with e1; injection e1 with e1; exact ⟨e1, e3⟩
    rw [← hn, ← hli]
    exact ⟨by rw [hW.c 2, ← hnv]; rfl, by rw [f2, hni]⟩
  obtain ⟨P, hP⟩ : ∃ P : Nat → World → Prop, (fun k => Sends w0 tb { t with notes := updN t.notes i (t.notes i ++ ns) } U.xs (.slice A1 ns.length c1) (.slice A2 ms.length c2) ns ms B k) = P := ⟨_, rfl⟩
  have APP : Hid (∀ W, Out Zone.no W0 W → ∃ A9 n9 c9 w1, (Builtin.append_ #[29, 29] 29 #[.slice Ai li ci, .slice A1 l c1]).run Try.prog W = .ok (.slice A9 n9 c9) w1 ∧ Hid (P 0 (w1.setCell ⟨gn, i, none⟩ (.slice A9 n9 c9))) ∧ w1.cell? ⟨tb, 2, none⟩ = some (.slice (some ⟨gn, 0, none⟩) n cn) ∧ w1.frozen? ⟨gn, i, none⟩ = false ∧ ∃ u, w1.cell? ⟨gn, i, none⟩ = some u) := fun W ho0 => by
    have ho := o0.trans ho0
    have hW := h1.any ho
    have hr : RRow (fun _ => False) W (.slice A1 ns.length c1) ns.length 5 (encN ns) := gr_reads (GRow.any hwk.notes ho) (fun _ _ h => h)
    have hgi := hW.notes i hi
    rw [hni] at hgi
    obtain ⟨v1, w1, k1, k2, k3, k4⟩ := GR.appended elem29 hgi 29 hr (encN_one _) (le_maxLen (by omega)) (by omega) (by omega)
    obtain ⟨A9, c9, rfl⟩ := GRow.form k2
    have hwo : WorkOut (fun k => L k ≠ 0) W (.agg #[.slice A1 ns.length c1, .slice A2 ms.length c2]) ns ms := ⟨_, _, ss, rfl, hss, ⟨GRow.any hwk.notes ho, GRow.any hwk.send ho, fun p hp => (hwk.rows p hp).any ho, hwk.bn, hwk.bs⟩⟩
    have k3' : W.grownBy w1 (U.nv i).ownBlock := by rw [hni]; exact k3
    obtain ⟨⟨L', U', p1, p2, p3, p4, p5⟩, q1, q2, q3⟩ := hW.pushNotes0 (h2.any ho) hi (l := ns) (v1 := .slice A9 _ c9) k2 k3' (by rw [hni]; exact k4) hnv hwo
    have hgnlt : gn < w.heap.size := by have := GRow.mem h1.nn (show U.nnv.ownBlock = some gn by rw [hnv]; rfl); exact this.2.1
    have hwb : (w1.setCell ⟨gn, i, none⟩ (.slice A9 ((t.notes i).length + ns.length) c9)).heap[B]? = some (.cells #[.slice A1 ns.length c1, .slice A2 ms.length c2] 32 (0, 0)) := by
      rw [Below.heap_setCell w1 ⟨gn, i, none⟩ _ B (by show B ≠ gn; omega)]
      have hWB := ho0.get HBB.out id
      refine (k3'.block B (heap_lt hWB) (fun e => ?_)).trans hWB
      have := h1.lab.notes i hi B e.symm
      omega
    have hLB' : L' B = 0 := p5 B (heap_lt (ho0.get HBB.out id)) hLB
    rw [hli] at k1 p1 p2 p4 hwb
    refine ⟨A9, _, c9, w1, by rw [← hll]; exact k1, ?_, ?_, q2, q3⟩
    · show P 0 _
      rw [← hP]
      refine ⟨L', U', ?_, p2, p3, p4, hwb, hLB'⟩
      rw [List.take_zero, List.append_nil]
      exact p1
    · rw [q1 2]
      exact (KC.out W ho).1
  have PX : Hid (∀ k wr, P k wr → Sends w0 tb { t with notes := updN t.notes i (t.notes i ++ ns) } U.xs (.slice A1 ns.length c1) (.slice A2 M c2) ns ms B k wr) := fun k wr h => by rw [← hP] at h; rw [← hM]; exact h
  have PANY : Hid (∀ k wr wr', P k wr → Out Zone.no wr wr' → P k wr') := fun k wr wr' h ho => by rw [← hP] at h ⊢; exact h.any ho
  have PBACK : Hid (∀ k wr, Sends w0 tb { t with notes := updN t.notes i (t.notes i ++ ns) } U.xs (.slice A1 ns.length c1) (.slice A2 M c2) ns ms B k wr → P k wr) := fun k wr h => by rw [← hP]; rw [← hM] at h; exact h
  have PFIN : Hid (∀ k wr, P k wr → k ≤ M → k ≤ 300 - N → (k = M ∨ k = 300 - N ∨ 300 ≤ N) → TownX w0 tb T U.xs wr) := fun k wr h h1 h2 h3 => by
    have hx := (PX.out k wr h).x
    have : ms.take k = ms.take (300 - N) := by
      rcases h3 with e | e | e
      · rw [List.take_of_length_le (by omega), List.take_of_length_le (by omega)]
      · rw [e]
      · rw [show k = 300 - N by omega]
    rw [hT, ← this]
    exact hx
  have PUSH : Hid (∀ k wr, P k wr → k < M → ∃ (kd fr tt me ma ml mc : Int) (Ap : Option Addr) (lp cp g2 : Nat) (An : Option Addr) (cn : Nat) (A9 : Option Addr) (n9 c9 : Nat) (w1 : World), A2 = some ⟨g2, 0, none⟩ ∧
      (∀ W, Out Zone.no wr W → (W.cell? ⟨g2, k * 8, none⟩ = some (.int .i64 kd) ∧ W.cell? ⟨g2, k * 8 + 1, none⟩ = some (.int .i64 fr) ∧ W.cell? ⟨g2, k * 8 + 2, none⟩ = some (.int .i64 tt) ∧ W.cell? ⟨g2, k * 8 + 3, none⟩ = some (.int .i64 me) ∧ W.cell? ⟨g2, k * 8 + 4, none⟩ = some (.int .i64 ma) ∧ W.cell? ⟨g2, k * 8 + 5, none⟩ = some (.int .i64 ml) ∧ W.cell? ⟨g2, k * 8 + 6, none⟩ = some (.int .i64 mc) ∧ W.cell? ⟨g2, k * 8 + 7, none⟩ = some (.slice Ap lp cp)) ∧
        W.cell? ⟨tb, 3, none⟩ = some (.slice An (N + k) cn) ∧ W.cell? ⟨B, 1, none⟩ = some (.slice A2 M c2)) ∧
      (Builtin.append_ #[30, 30] 30 #[.slice An (N + k) cn, .slice (some ⟨wr.heap.size, 0, none⟩) 1 1]).run Try.prog (wr.drew.alloc (.cells #[.int .i64 kd, .int .i64 fr, .int .i64 tt, .int .i64 me, .int .i64 ma, .int .i64 ml, .int .i64 mc, .slice Ap lp cp] 36)) = .ok (.slice A9 n9 c9) w1 ∧
      P (k + 1) (w1.setCell ⟨tb, 3, none⟩ (.slice A9 n9 c9)) ∧ w1.frozen? ⟨tb, 3, none⟩ = false ∧ ∃ u, w1.cell? ⟨tb, 3, none⟩ = some u) := fun k wr h hk => by
    have h5 := PX.out k wr h
    rw [← hM] at h5
    obtain ⟨kd, fr, tt, me, ma, ml, mc, Ap, lp, cp, g2, An, cn, A9, n9, c9, w1, e1, e2, e3, e4, e5⟩ := h5.push (by omega) (by show t.net.length + _ ≤ _; omega)
    refine ⟨kd, fr, tt, me, ma, ml, mc, Ap, lp, cp, g2, An, cn, A9, n9, c9, w1, e1, ?_, ?_, ?_, e5⟩
    · rw [← hN, ← hM]; exact e2
    · rw [← hN]; exact e3
    · rw [← hP]; exact e4
  have CELLS : Hid (∀ k wr, P k wr → k ≤ M → wr.cell? ⟨B, 1, none⟩ = some (.slice A2 M c2) ∧ ∃ An cn, wr.cell? ⟨tb, 3, none⟩ = some (.slice An (N + k) cn)) := fun k wr h hk => by
    obtain ⟨_, e2, An, cn, e3⟩ := (PX.out k wr h).cells (by omega)
    rw [← hN]
    exact ⟨e2, An, cn, e3⟩
  have i1 : (0 : Int) ≤ (i : Int) := by omega
  have i2 : (i : Int) < (n : Int) := by omega
  have hNM : N + M ≤ 1000000 := by omega
  have O0 := Lib.hid o0
  rw [hll, hM, ha] at hW0
  rw [hll, hM, ha]
  clear hbB hwk hss h1 h2 hnv hni hli hT hTT hn o0 hP hl hnl hN hi hsl hll hLB
  go_enter Try.func43, Try.ntmps43
  go_wp2_with fail
  clear hB hW0 b4
  have ho0 : Out Zone.no W0 W0.drew := (Out.refl _ _).drew
  obtain ⟨A9, n9, c9, w1, hrun, hfin, e2, fz, uu, eu⟩ := APP.out _ ho0
  have HRUN := Lib.hid hrun
  have b0 := BOX.out _ ho0
  obtain ⟨k2, kn⟩ := KC.out _ (O0.out.trans ho0)
  clear hrun ho0
  go_upto_region 5 with fail
  go_cut [] (fun wx => Hid (P 0 wx))
  case first =>
    go_region_law (refine step_builtin rfl _ _ _ rfl (by exact HRUN.out) ?_)
    go_goals
    all_goals
      go_wp2_with fail
      go_meet
      exact hfin
  case rest =>
  clear k2 kn b0 e2 fz uu eu HRUN hfin
  obtain ⟨wf, hwf⟩ : ∃ wf, wc = wf := ⟨_, rfl⟩
  rw [hwf] at hcut ⊢
  clear hwf
  have HCUT := hcut
  clear hcut
  go_wp2_with fail
  go_loopw [10] (fun vk wr => ∃ k : Nat, k ≤ M ∧ (k ≤ 300 - N ∨ k = 0) ∧ vk = .int .i64 (k : Int) ∧ Hid (P k wr)) (fun vk _ => M - (intOf vk).toNat)
  case atStart => exact ⟨0, by omega, Or.inr rfl, rfl, HCUT⟩
  case round =>
    obtain ⟨k, hkM, hk3, rfl, hinv⟩ := hrel
    obtain ⟨c1', An0, cn0, c3'⟩ := CELLS.out k wr hinv.out hkM
    by_cases hlt : k < M
    · by_cases h300 : N + k < 300
      · obtain ⟨kd, fr, tt, me, ma, ml, mc, Ap, lp, cp, g2, An, cn', A7, n7, c7, w7, hA2, hC, hrun, hP7, fz, uu, eu⟩ := PUSH.out k wr hinv.out hlt
        subst hA2
        have hcc := (hC wr (Out.refl _ _)).2.1
        rw [c3'] at hcc
        obtain ⟨rfl, rfl⟩ : An0 = An ∧ cn0 = cn' := by injection hcc with hcc; injection hcc with e1 _ e2; exact ⟨e1, e2⟩
        clear hcc
        have HC := Lib.hid hC
        have HRUN := Lib.hid hrun
        have HP7 := Lib.hid hP7
        clear hC hrun hP7 c1' c3'
        have od : Out Zone.no wr wr.drew := (Out.refl _ _).drew
        have oa : Out Zone.no wr (wr.drew.alloc (.cells #[.int .i64 kd, .int .i64 fr, .int .i64 tt, .int .i64 me, .int .i64 ma, .int .i64 ml, .int .i64 mc, .slice Ap lp cp] 36)) := od.alloc _
        obtain ⟨⟨x0, x1, x2, x3, x4, x5, x6, x7⟩, x8, x9⟩ := HC.out _ (Out.refl _ wr)
        obtain ⟨⟨y0, y1, y2, y3, y4, y5, y6, y7⟩, y8, y9⟩ := HC.out _ od
        obtain ⟨⟨z0, z1, z2, z3, z4, z5, z6, z7⟩, z8, z9⟩ := HC.out _ oa
        have ob : Out Zone.no wr (wr.alloc (.cells #[.int .i64 kd, .int .i64 fr, .int .i64 tt, .int .i64 me, .int .i64 ma, .int .i64 ml, .int .i64 mc, .slice Ap lp cp] 36)) := (Out.refl _ _).alloc _
        obtain ⟨⟨q0, q1, q2, q3, q4, q5, q6, q7⟩, q8, q9⟩ := HC.out _ ob
        clear od oa ob
        have j1 : (k : Int) < (M : Int) := by omega
        have j2 : ((N + k : Nat) : Int) < 300 := by omega
        have j3 : ((N : Int) + (k : Int)) < 300 := by omega
        have j4 : (0 : Int) ≤ (k : Int) := by omega
        go_upto_region 9 with fail
        go_region_law (refine step_builtin rfl _ _ _ rfl (by exact HRUN.out) ?_)
        go_goals
        all_goals
          go_wp2_with fail
          go_roundw
          case rel => exact ⟨k + 1, by omega, Or.inl (by omega), by go_num, HP7⟩
          case measure => simp [intOf]; omega
      · have j1 : (k : Int) < (M : Int) := by omega
        have j2 : ¬ ((N + k : Nat) : Int) < 300 := by omega
        have j3 : ¬ ((N : Int) + (k : Int)) < 300 := by omega
        have hres := Lib.hid (PFIN.out k wr hinv.out hkM (by omega) (by omega))
        go_wp2_with fail
        go_ret
        exact ⟨rfl, hres.out⟩
    · have j1 : ¬ (k : Int) < (M : Int) := by omega
      have hres : Hid (k ≤ 300 - N → TownX w0 tb T U.xs wr) := fun h => PFIN.out k wr hinv.out hkM h (by omega)
      have hz : k ≤ 300 - N := by omega
      have hres2 := Lib.hid (hres.out hz)
      go_wp2_with fail
      go_ret
      exact ⟨rfl, hres2.out⟩
end
end Go.Proofs.Ytlgoenimjmiapaa
