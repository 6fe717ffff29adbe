import Derived.Shelf.Bits.Mul64
import Derived.Ground.Names2Prog
import Derived.Test.YtlgoenimjmiapaaGreatProg
import Derived.Test.YtlgoenimjmiapaaGreatT10
import Derived.Test.YtlgoenimjmiapaaGreatT09
set_option linter.unusedSimpArgs false
set_option linter.unusedVariables false
set_option linter.unusedSectionVars false
/-
  DERIVED: THE SHELF's CONTRACTS AT THIS DUMP, IN PLAIN WORDS (tools/lay-plain.mjs out of 'YtlgoenimjmiapaaGreatS1.lean', which tools/lay-shelf.mjs wrote): THE SAME DECLARATIONS UNDER THE SAME NAMES: 'import', 'namespace', 'open', 'def', 'theorem' AND NOTHING ELSE: no command of the shelf's: FOR A HAND-IN. Each laying: the table of numbers ('.._ren') and one theorem, a field a fact of the dump's own or the kernel's comparison; each contract: ONE APPLICATION.
-/
namespace Go.Proofs
open Go.Shelf
def Tryz.lays212_ren : Go.Shelf.Ren := ⟨fun | 212 => 83 | 263 => 86 | 264 => 87 | n => n, fun | 46 => 118 | 51 => 132 | 146 => 133 | 53 => 106 | 148 => 135 | n => n, fun | n => n⟩
theorem Tryz.lays212 : Go.Proofs.Lays.n212 Tryz.prog Tryz.lays212_ren := {
  mixed := by kernel_rfl
  f212 := Tryz.func83.trans (congrArg some (by kernel_rfl))
  f263 := Tryz.func86.trans (congrArg some (by kernel_rfl))
  f264 := Tryz.func87.trans (congrArg some (by kernel_rfl))
  t46 := Tryz.underlying118
  a46 := Tryz.isAgg118
  z46 := Tryz.sizeOf118
  v46 := Tryz.zeroValue118
  t51 := Tryz.underlying132
  a51 := Tryz.isAgg132
  z51 := Tryz.sizeOf132
  v51 := Tryz.zeroValue132
  t53 := Tryz.underlying106
  a53 := Tryz.isAgg106
  z53 := Tryz.sizeOf106
  v53 := Tryz.zeroValue106
  t146 := Tryz.underlying133
  a146 := Tryz.isAgg133
  z146 := Tryz.sizeOf133
  v146 := Tryz.zeroValue133
  t148 := Tryz.underlying135
  a148 := Tryz.isAgg135
  z148 := Tryz.sizeOf135
  v148 := Tryz.zeroValue135 }
open Go.RowKit Go.Lib in
/-- math/bits.Mul: "Mul returns the full-width product of x and y": on a machine of 64 bits: Mul64's. (LAID: no walk: one application.) -/
theorem Tryz.bits_Mul (x y : Nat) (hx : x < 18446744073709551616) (hy : y < 18446744073709551616) (w : World) :
    Calls Tryz.prog 83 #[.int .u64 x, .int .u64 y] w fun e w' => e = .returned (.tuple #[.int .u64 ((x * y / 18446744073709551616 : Nat) : Int), .int .u64 ((x * y % 18446744073709551616 : Nat) : Int)]) ∧ w' = w := Any.bits_Mul Tryz.lays212 x y hx hy w
end Go.Proofs

/-! slices.Repeat of one int. -/
set_option linter.unusedVariables false
set_option linter.unusedSectionVars false
namespace Go.Proofs.YtlgoenimjmiapaaGreat
open Go.RowKit Go.Maps Go.Sort

/-- Block g has N ints, of which the first m are L. -/
def RepAt (w : World) (g N m : Nat) (L : Int) : Prop := ∃ cur : Array Value, w.heap[g]? = some (.cells cur 3 (0, 0)) ∧ cur.size = N ∧ ∀ j, j < m → cur[j]? = some (.int .i64 L)

theorem make_ints (n : Nat) (hn : n ≤ 65536) (W : World) : (Instr.makeSlice 63 (.int .i64 (n : Int)) (.int .i64 (n : Int))).run Tryz.prog W = .ok (.slice (some ⟨W.heap.size, 0, none⟩) n n) (W.alloc (.cells (Array.replicate n (.int .i64 0)) 3)) := by
  obtain ⟨hu, ⟨i, hi1, hz, hsz, hby⟩, hz1, _⟩ := elem63
  have h := run_make (P := Tryz.prog) W 63 3 i (.int .i64 0) hu hi1 hz .i64 .i64 n n (by omega) (by omega) (by rw [hby]; omega) (by omega)
  rw [hsz] at h
  have e : Array.replicate n (Value.int .i64 0) = madeCells (Value.int .i64 0).cells ((n : Int).toNat * 1) := by
    apply Array.ext'
    have h2 := toList_madeCells_one (.int .i64 0) n
    simp only [Int.toNat_natCast, Nat.mul_one]
    rw [show (Value.int .i64 0).cells = #[.int .i64 0] from rfl, h2]
    simp
  rw [e]
  simpa using h
theorem size52 : (Tryz.prog.info? 3).map (·.size) = some 1 := by kernel_rfl

theorem run_fromI {G m N c : Nat} (hm : m < N) (hc : N ≤ c) (W : World) : (Instr.slice 63 (.slice (some ⟨G, 0, none⟩) N c) (some (.int .i64 (m : Int))) none none).run Tryz.prog W = .ok (.slice (some ⟨G, m, none⟩) (N - m) (c - m)) W := by
  obtain ⟨hu, ⟨i, hi1, hz, hsz, hby⟩, hz1, hp⟩ := elem63
  have h1 : m ≤ N := by omega
  have h2 : c ≠ m := by omega
  simp [Instr.slice, run_underlying hu, Instr.sliceBounds, Instr.sliceBound, sizeOf, typeInfo, hi1, hsz, h1, h2, asIntOf, addr0_add]
theorem run_uptoI {G m N c : Nat} (hm : m ≤ c) (W : World) : (Instr.slice 63 (.slice (some ⟨G, 0, none⟩) N c) none (some (.int .i64 (m : Int))) none).run Tryz.prog W = .ok (.slice (some ⟨G, 0, none⟩) m c) W := by
  obtain ⟨hu, ⟨i, hi1, hz, hsz, hby⟩, hz1, hp⟩ := elem63
  simp [Instr.slice, run_underlying hu, Instr.sliceBounds, Instr.sliceBound, sizeOf, typeInfo, hi1, hsz, hm, asIntOf, addr0_add]

theorem RepAt.set {W : World} {G N m : Nat} {L : Int} (h : RepAt W G N m L) (hm : m < N) : RepAt (W.setCell ⟨G, m, none⟩ (.int .i64 L)) G N (m + 1) L := by
  obtain ⟨cur, h1, h2, h3⟩ := h
  refine ⟨_, heap_set h1 m _, by simpa using h2, fun j hj => ?_⟩
  by_cases e : j = m
  · subst e; simp [h2, hm]
  · rw [Array.getElem?_setIfInBounds_ne (fun e' => e e'.symm)]; exact h3 j (by omega)
theorem RepAt.sets {G N : Nat} {L : Int} : ∀ (k m : Nat) (W : World), RepAt W G N m L → m + k ≤ N → RepAt (W.setCells G m (List.replicate k (.int .i64 L))) G N (m + k) L ∧ W.grownBy (W.setCells G m (List.replicate k (.int .i64 L))) (some G)
  | 0, m, W, h, _ => ⟨h, World.grownBy.refl _ _⟩
  | k + 1, m, W, h, hk => by
    have h1 := h.set (by omega)
    obtain ⟨h2, h3⟩ := RepAt.sets k (m + 1) _ h1 (by omega)
    rw [List.replicate_succ]
    refine ⟨?_, World.grownBy.trans (only_setCell W ⟨G, m, none⟩ _) h3⟩
    rw [show m + (k + 1) = m + 1 + k by omega]
    exact h2

theorem copy_rep {W : World} {G N m c1 c2 : Nat} {L : Int} (h : RepAt W G N m L) (hm : m < N) :
    (Builtin.copy_ #[63, 63] 3 #[.slice (some ⟨G, m, none⟩) (N - m) c1, .slice (some ⟨G, 0, none⟩) m c2]).run Tryz.prog W = .ok (goInt (Nat.min m (N - m))) (W.setCells G m (List.replicate (Nat.min m (N - m)) (.int .i64 L))) := by
  obtain ⟨cur, h1, h2, h3⟩ := h
  have hk : Nat.min m (N - m) ≤ m ∧ Nat.min m (N - m) ≤ N - m := ⟨Nat.min_le_left _ _, Nat.min_le_right _ _⟩
  have := run_copy_cells (P := Tryz.prog) W 63 63 3 3 G m (N - m) c1 ⟨G, 0, none⟩ m c2 (List.replicate (Nat.min m (N - m)) (.int .i64 L)) Tryz.underlying63 size52 (by rw [List.length_replicate])
    (fun j v hj => by
      rw [List.getElem?_replicate] at hj
      split at hj
      · rename_i hlt
        injection hj with hj
        subst hj
        rw [addr0_add, cells_all h1]
        exact h3 j (by omega)
      · cases hj)
    (fun j hj => by
      rw [List.length_replicate] at hj
      rw [cells_all h1, Array.getElem?_eq_getElem (by omega)]
      rfl)
    (fun j hj => frozen_all h1 _) (fun v hv => by rw [(List.mem_replicate.1 hv).2]; rfl)
  rw [List.length_replicate] at this
  exact this

theorem step_copyI {ops : Array Oper} {o : Oper} {a : Act} {W : World} {K : Act → World → Prop} {Q : Exit → Act → World → Prop} {E : Prop}
    (hg : o.guard = none) (d s : Operand) (hop : o.op = Op.call { callee := Callee.builtin Builtin.copy, args := #[d, s], argTypes := #[63, 63] }) (hty : o.type = 3)
    {G N m c1 c2 : Nat} {L : Int} (hd : a.eval d = .slice (some ⟨G, m, none⟩) (N - m) c1) (hs : a.eval s = .slice (some ⟨G, 0, none⟩) m c2) (h : RepAt W G N m L) (hm : m < N) (h7 : N ≤ 7)
    (hK : ∀ w' k, k = Nat.min m (N - m) → RepAt w' G N (m + k) L → W.grownBy w' (some G) → K (a.put o.dst (.int .i64 (k : Int))) w') :
    if Region.wanted o (yielded ops a.tmps) = true then Oper.wp Tryz.prog o a W K Q else E := by
  have hrun := copy_rep (c1 := c1) (c2 := c2) h hm
  have hk : Nat.min m (N - m) ≤ N - m := Nat.min_le_right _ _
  obtain ⟨h2, h3⟩ := RepAt.sets (Nat.min m (N - m)) m W h (by omega)
  have hw : Region.wanted o (yielded ops a.tmps) = true := by simp [Region.wanted, hg]
  have hgo : goInt (Nat.min m (N - m)) = .int .i64 ((Nat.min m (N - m) : Nat) : Int) := rfl
  rw [hgo] at hrun
  rw [if_pos hw]
  unfold Oper.wp
  simp [execOp, hop, resolve, invoke, builtin, hty, hrun, hd, hs, Result.andThen]
  exact hK _ _ rfl h2 h3

set_option maxRecDepth 100000 in
set_option maxHeartbeats 1000000 in
theorem repeat_is (w : World) (b N : Nat) (L : Int) (hb : w.cell? ⟨b, 0, none⟩ = some (.int .i64 L)) (h1 : 1 ≤ N) (h7 : N ≤ 7) :
    Calls Tryz.prog 79 #[.slice (some ⟨b, 0, none⟩) 1 1, .int .i64 (N : Int)] w fun e w' => ∃ g, e = .returned (.slice (some ⟨g, 0, none⟩) N N) ∧ RepAt w' g N N L ∧ Out Zone.no w w' ∧ w.heap.size ≤ g := by
  have HB : Hid (∀ W, Calls Tryz.prog 83 #[.int .u64 1, .int .u64 (N : Int)] W fun e w' => e = .returned (.tuple #[.int .u64 0, .int .u64 (N : Int)]) ∧ W = w') := fun W => by
    have := Tryz.bits_Mul 1 N (by omega) (by omega) W
    rw [show 1 * N / 18446744073709551616 = 0 by omega, show 1 * N % 18446744073709551616 = N by omega] at this
    refine this.mono ?_
    rintro e w' ⟨h1, h2⟩
    exact ⟨h1, h2.symm⟩
  have hmk := make_ints N (by omega) w
  have hcp : (Builtin.copy_ #[63, 63] 3 #[.slice (some ⟨w.heap.size, 0, none⟩) N N, .slice (some ⟨b, 0, none⟩) 1 1]).run Tryz.prog (w.alloc (.cells (Array.replicate N (.int .i64 0)) 3)) = .ok (.int .i64 1) ((w.alloc (.cells (Array.replicate N (.int .i64 0)) 3)).setCell ⟨w.heap.size, 0, none⟩ (.int .i64 L)) := by
    have hh := heap_alloc_new w (.cells (Array.replicate N (.int .i64 0)) 3)
    have := run_copy_cells (P := Tryz.prog) (w.alloc (.cells (Array.replicate N (.int .i64 0)) 3)) 63 63 3 3 w.heap.size 0 N N ⟨b, 0, none⟩ 1 1 [.int .i64 L] Tryz.underlying63 size52 (by show 1 = Nat.min 1 N; exact (Nat.min_eq_left h1).symm)
      (fun j v hj => by
        cases j with
        | zero => injection hj with hj; subst hj; rw [addr0_add]; exact ((Out.refl Zone.no w).alloc _).cell hb (fun h => h)
        | succ j => cases hj)
      (fun j hj => by
        have : j = 0 := by simpa using hj
        subst this
        rw [cells_all hh]
        simp; omega)
      (fun j hj => frozen_all hh _) (fun v hv => by simp at hv; subst hv; rfl)
    exact this
  have R1 : Hid (RepAt ((w.alloc (.cells (Array.replicate N (.int .i64 0)) 3)).setCell ⟨w.heap.size, 0, none⟩ (.int .i64 L)) w.heap.size N 1 L) :=
    RepAt.set (m := 0) ⟨_, heap_alloc_new w _, by simp, fun j hj => by omega⟩ (by omega)
  have O1 : Hid (Out Zone.no w ((w.alloc (.cells (Array.replicate N (.int .i64 0)) 3)).setCell ⟨w.heap.size, 0, none⟩ (.int .i64 L))) := ((Out.refl Zone.no w).alloc _).setCell (Or.inr (Nat.le_refl _)) _
  obtain ⟨W1, hW1⟩ : ∃ W1, (w.alloc (.cells (Array.replicate N (.int .i64 0)) 3)).setCell ⟨w.heap.size, 0, none⟩ (.int .i64 L) = W1 := ⟨_, rfl⟩
  rw [hW1] at R1 O1 hcp
  clear hW1
  have i1 : (0 : Int) ≤ (N : Int) := by omega
  have e0 : decide ((N : Int) < 0) = false := by simp
  go_enter Tryz.func79, Tryz.ntmps79
  go_wp2_with (first | (go_at_call 83; refine (HB.out _).mono ?_; rintro e w2 ⟨rfl, rfl⟩) | (at_builtin; refine wpList_builtin rfl _ _ _ rfl hcp ?_))
  obtain ⟨G, hG⟩ : ∃ G, w.heap.size = G := ⟨_, rfl⟩
  have HG := Lib.hid hG
  rw [hG] at R1 ⊢
  clear hcp hmk hG
  go_loopw [8] (fun vm wr => ∃ m : Nat, 1 ≤ m ∧ m ≤ N ∧ vm = .int .i64 (m : Int) ∧ Hid (RepAt wr G N m L) ∧ Hid (Out Zone.no w wr)) (fun vm _ => N - (intOf vm).toNat)
  case atStart => exact ⟨1, by omega, by omega, rfl, R1, O1⟩
  case round =>
    obtain ⟨m, hm1, hmN, rfl, hr, ho⟩ := hrel
    clear R1 O1
    by_cases hlt : m < N
    · have hfr := fun W => run_fromI (G := G) (c := N) hlt (Nat.le_refl _) W
      have hup := fun W => run_uptoI (G := G) (N := N) hmN W
      have hrd : Hid (RepAt wr.drew G N m L) := hr
      have hod : Hid (Out Zone.no w wr.drew) := ho.out.drew
      go_wp2_with fail
      go_region_law (refine step_copyI rfl (.tmp 41) (.tmp 44) rfl rfl (G := G) (N := N) (m := m) (c1 := N - m) (c2 := N) (by simp [Act.eval, Act.put]) (by simp [Act.eval, Act.put]) (by exact hrd.out) hlt h7 ?_; intro w2 k hk hr2 hg2; have hkk : 1 ≤ k ∧ k ≤ N - m := (by rw [hk]; exact ⟨Nat.le_min.2 ⟨hm1, (by omega)⟩, Nat.min_le_right _ _⟩); clear hk; have HR2 := Lib.hid hr2; have HG2 := Lib.hid hg2; clear hr2 hg2)
      all_goals
        have HO2 : Hid (Out Zone.no w w2) := hod.out.grown HG2.out (fun j hj => by injection hj with hj; subst hj; exact Or.inr (Nat.le_of_eq HG.out))
        have e3 : IntKind.i64.wrap ((m : Int) + (k : Int)) = ((m + k : Nat) : Int) := by rw [IntWalk.i64_in _ (by omega)]; omega
        simp only [Act.put, List.getElem_toArray, List.getElem_cons_succ, List.getElem_cons_zero, List.setIfInBounds_toArray, List.set_cons_succ, List.set_cons_zero, e3]
        go_wp2_with fail
        go_roundw
        case rel => exact ⟨m + k, by omega, by omega, rfl, HR2.out, HO2.out⟩
        case measure => simp [intOf]; omega
    · obtain rfl : m = N := by omega
      go_wp2_with fail
      go_ret
      exact ⟨G, rfl, hr.out, ho.out, Nat.le_of_eq HG.out⟩
end Go.Proofs.YtlgoenimjmiapaaGreat

/-! A node with what it has yet to hand out; its operations, restated; new rows and a new map. -/
set_option linter.unusedVariables false
set_option linter.unusedSectionVars false
namespace Go.Proofs.YtlgoenimjmiapaaGreat
open Go.RowKit Go.Maps

/-- A node, its notes and its messages. -/
structure NS where
  q : ND
  ns : List Nt
  ms : List Msg

def NAt [Far] (w : World) (x : Nat) (c : NS) (V : NV) : Prop := ∃ ss : List (Msg × Value), ss.map Prod.fst = c.ms ∧ NodeAt w x c.q c.ns ss V
/-- It has become c'. -/
def Gone [Far] (w : World) (x : Nat) (V : NV) (c' : NS) (w' : World) : Prop := ∃ V', NAt w' x c' V' ∧ Next (V.own x) w (V'.own x) w'

theorem pw_setF {l : List (Option Nat)} (h : l.Pairwise (fun a b => ∀ k, a = some k → b ≠ some k)) (i : Nat) (o : Option Nat) (ho : ∀ k, o = some k → l[i]? = some (some k) ∨ some k ∉ l) :
    (l.set i o).Pairwise (fun a b => ∀ k, a = some k → b ≠ some k) := by
  rw [List.pairwise_iff_getElem] at h ⊢
  intro a b ha hb hab k hk hk'
  rw [List.length_set] at ha hb
  rw [List.getElem_set] at hk hk'
  by_cases h1 : i = a
  · rw [if_pos h1] at hk
    rw [if_neg (by omega)] at hk'
    rcases ho k hk with e | e
    · subst h1
      rw [List.getElem?_eq_getElem ha] at e
      injection e with e
      exact h _ b ha hb hab k e hk'
    · exact e (by rw [← hk']; exact List.getElem_mem hb)
  · rw [if_neg h1] at hk
    by_cases h2 : i = b
    · rw [if_pos h2] at hk'
      rcases ho k hk' with e | e
      · subst h2
        rw [List.getElem?_eq_getElem hb] at e
        injection e with e
        exact h a _ ha hb hab k hk e
      · exact e (by rw [← hk]; exact List.getElem_mem ha)
    · rw [if_neg h2] at hk'
      exact h a b ha hb hab k hk hk'

section
variable [Far] {w w' : World} {x : Nat} {q : ND} {ns : List Nt} {ss : List (Msg × Value)} {V : NV}

theorem Gone.refl {c : NS} (h : NAt w x c V) : Gone w x V c w := ⟨V, h, Next.refl _ _⟩
theorem Gone.trans {w2 : World} {c : NS} {V' : NV} (h : Next (V.own x) w (V'.own x) w') (k : Gone w' x V' c w2) : Gone w x V c w2 := by
  obtain ⟨V2, h1, h2⟩ := k
  exact ⟨V2, h1, h.trans h2⟩
theorem NAt.any {c : NS} (h : NAt w x c V) (ho : Out Zone.no w w') : NAt w' x c V := by
  obtain ⟨ss, h1, h2⟩ := h
  exact ⟨ss, h1, h2.any ho⟩
theorem Gone.any {w2 : World} {c : NS} (h : Gone w x V c w') (ho : Out Zone.no w' w2) : Gone w x V c w2 := by
  obtain ⟨V2, h1, h2⟩ := h
  exact ⟨V2, h1.any ho, h2.trans (Next.of_out ho)⟩

/-- The node's block, its votes, has and acked are new; all else stands. -/
theorem NodeAt.built (h : NodeAt w x q ns ss V) {W w' : World} (ho : Out Zone.no w W) (hW : Out (Zone.m (fun k => k = x)) W w') {q' : ND} {V' : NV} (hst : q'.st = q.st) (hlv : V'.lv = V.lv) (hnv : V'.nv = V.nv) (hsv : V'.sv = V.sv)
    (hb : StAt w' x 111 q'.st.ep q'.st.voted V'.lv [.int .i64 (q'.id : Int), .int .i64 (q'.n : Int), .int .i64 q'.role, .int .i64 (q'.commit : Int), V'.gv, V'.hv, V'.av, V'.nv, V'.sv])
    (hvt : match q'.granted with
      | none => V'.gv = .map none
      | some gs => ∃ b, V'.gv = .map (some b) ∧ VotesAt w' b gs)
    (hhas : GR w' 3 1 V'.hv q'.has.length (ints q'.has)) (hack : GR w' 3 1 V'.av q'.acked.length (ints q'.acked))
    (sep : (V'.blks x).Pairwise (fun a b => ∀ k, a = some k → b ≠ some k)) (sub : ∀ k, V'.own x k → V.own x k ∨ w.heap.size ≤ k) :
    NodeAt w' x q' ns ss V' ∧ Next (V.own x) w (V'.own x) w' := by
  have h1 := h.any ho
  have far : ∀ j k, 1 ≤ j → j < 7 → (V.blks x)[j]? = some (some k) → w'.heap[k]? = W.heap[k]? := fun j k h1 h7 hk => by
    refine hW.block k ?_ (fun e => h.apart 0 j (by omega) h7 k (by rw [show k = x from e]; rfl) hk)
    have := h.lt (List.mem_of_getElem? hk)
    have := ho.size
    omega
  have o2 : Out (Zone.m (V.own x)) w w' := by
    refine Out.trans ho.mono0 ⟨hW.os, hW.tape, hW.output, hW.size, fun k hk hn => hW.block k hk (fun e => hn ?_)⟩
    rw [show k = x from e]
    exact NodeAt.own_x x V
  have nx : Next (V.own x) w (V'.own x) w' := ⟨o2, sub⟩
  refine ⟨⟨hb, ?_, hvt, hhas, hack, ?_, ?_, ?_, sep, h.far.next nx⟩, nx⟩
  · rw [hlv, hst]; exact GRow.keep h1.log (fun k hk => far 1 k (by omega) (by omega) (by show some _ = _; rw [hk])) (fun _ _ => trivial)
  · rw [hnv]; exact GRow.keep h1.notes (fun k hk => far 5 k (by omega) (by omega) (by show some _ = _; rw [hk])) (fun _ _ => trivial)
  · rw [hsv]; exact GRow.keep h1.send (fun k hk => far 6 k (by omega) (by omega) (by show some _ = _; rw [hk])) (fun _ _ => trivial)
  · intro p hp
    exact (h.rows p hp).shun nx

/-- New has and acked. -/
theorem NodeAt.lead (h : NodeAt w x q ns ss V) {w' : World} (hW : Out (Zone.m (fun k => k = x)) w w') {hv' av' : Value} {lh la : List Int}
    (hb : StAt w' x 111 q.st.ep q.st.voted V.lv [.int .i64 (q.id : Int), .int .i64 (q.n : Int), .int .i64 q.role, .int .i64 (q.commit : Int), V.gv, hv', av', V.nv, V.sv])
    (hg : GR w' 3 1 hv' lh.length (ints lh)) (ha : GR w' 3 1 av' la.length (ints la))
    (fg : ∀ j, hv'.ownBlock = some j → w.heap.size ≤ j) (fa : ∀ j, av'.ownBlock = some j → w.heap.size ≤ j) (hne : ∀ j, hv'.ownBlock = some j → av'.ownBlock ≠ some j) :
    NodeAt w' x { q with has := lh, acked := la } ns ss { V with hv := hv', av := av' } ∧ Next (V.own x) w (NV.own x { V with hv := hv', av := av' }) w' := by
  have hx : x < w.heap.size := heap_lt h.blk
  have hset : NV.blks x { V with hv := hv', av := av' } = ((V.blks x).set 3 hv'.ownBlock).set 4 av'.ownBlock := rfl
  have hnew : ∀ k, w.heap.size ≤ k → some k ∉ V.blks x := fun k hk he => by have := h.lt he; omega
  refine h.built (Out.refl _ _) (q' := { q with has := lh, acked := la }) (V' := { V with hv := hv', av := av' }) hW rfl rfl rfl rfl hb ?_ hg ha ?_ ?_
  · have hv := votes_keep (w' := w') h (fun k hk => by
      have hne : k ≠ x := fun e => h.apart 0 2 (by omega) (by omega) k (by rw [e]; rfl) (by show some _ = _; rw [hk])
      exact hW.block k (h.lt (List.mem_of_getElem? (i := 2) (by show some _ = _; rw [hk]))) hne)
    exact hv
  · rw [hset]
    have p1 := pw_setF h.sep 3 hv'.ownBlock (fun k hk => Or.inr (hnew k (fg k hk)))
    refine pw_setF p1 4 av'.ownBlock (fun k hk => Or.inr (fun he => ?_))
    rcases List.mem_or_eq_of_mem_set he with e | e
    · exact hnew k (fa k hk) e
    · exact hne k e.symm hk
  · intro k hk
    unfold NV.own at hk
    rw [hset] at hk
    rcases List.mem_or_eq_of_mem_set hk with e | e
    · rcases List.mem_or_eq_of_mem_set e with e | e
      · exact Or.inl e
      · exact Or.inr (fg k e.symm)
    · exact Or.inr (fa k e.symm)

/-- A new map of votes, and a role. -/
theorem NodeAt.runs (h : NodeAt w x q ns ss V) {W : World} (ho : Out Zone.no w W) (r : Int) {b : Nat} {gs : List Int} (hv : VotesAt W b gs) (fb : w.heap.size ≤ b) :
    NodeAt ((W.setCell ⟨x, 5, none⟩ (.int .i64 r)).setCell ⟨x, 7, none⟩ (.map (some b))) x { q with role := r, granted := some gs } ns ss { V with gv := .map (some b) } ∧
    Next (V.own x) w (NV.own x { V with gv := .map (some b) }) ((W.setCell ⟨x, 5, none⟩ (.int .i64 r)).setCell ⟨x, 7, none⟩ (.map (some b))) := by
  have h1 := h.any ho
  have hx : x < w.heap.size := heap_lt h.blk
  have b1 := blk_set h1.blk 2 (.int .i64 r)
  have b2 := blk_set b1 4 (.map (some b))
  have keep : ∀ {e sz v n xs}, GR W e sz v n xs → v.ownBlock ≠ some x → GR ((W.setCell ⟨x, 5, none⟩ (.int .i64 r)).setCell ⟨x, 7, none⟩ (.map (some b))) e sz v n xs := fun hg hk => gr_set (gr_set hg hk _) hk _
  have hset : NV.blks x { V with gv := .map (some b) } = (V.blks x).set 2 (some b) := rfl
  have hnew : ∀ k, w.heap.size ≤ k → some k ∉ V.blks x := fun k hk he => by have := h.lt he; omega
  refine h.built ho (q' := { q with role := r, granted := some gs }) (V' := { V with gv := .map (some b) }) (((Out.refl _ _).setCell (Or.inl rfl) _).setCell (Or.inl rfl) _) rfl rfl rfl rfl b2 ?_ (keep h1.has (fun e => ?_)) (keep h1.acked (fun e => ?_)) ?_ ?_
  · refine ⟨b, rfl, hv.same ?_⟩
    have hne : b ≠ x := by omega
    exact (Below.heap_setCell _ ⟨x, 7, none⟩ _ b hne).trans (Below.heap_setCell _ ⟨x, 5, none⟩ _ b hne)
  · exact h.apart 0 3 (by omega) (by omega) x rfl (by show some _ = _; rw [e])
  · exact h.apart 0 4 (by omega) (by omega) x rfl (by show some _ = _; rw [e])
  · rw [hset]
    exact pw_setF h.sep 2 (some b) (fun k hk => Or.inr (hnew k (by injection hk with hk; omega)))
  · intro k hk
    unfold NV.own at hk
    rw [hset] at hk
    rcases List.mem_or_eq_of_mem_set hk with e | e
    · exact Or.inl e
    · injection e with e; exact Or.inr (by omega)

theorem RepAt.keep {W W' : World} {g N m : Nat} {L : Int} (h : RepAt W g N m L) (he : W'.heap[g]? = W.heap[g]?) : RepAt W' g N m L := by
  obtain ⟨cur, h1, h2⟩ := h
  exact ⟨cur, he.trans h1, h2⟩
theorem RepAt.gr {W : World} {g N : Nat} {L : Int} (h : RepAt W g N N L) (hN : N ≤ 7) : GR W 3 1 (.slice (some ⟨g, 0, none⟩) N N) (List.replicate N L).length (ints (List.replicate N L)) := by
  obtain ⟨cur, h1, h2, h3⟩ := h
  refine ⟨ints_length _, Or.inr ⟨g, N, cur, by rw [List.length_replicate], trivial, h1, by rw [List.length_replicate]; omega, le_maxLen (by omega), by omega, ?_⟩⟩
  rw [List.length_replicate]
  apply List.ext_getElem?
  intro j
  rw [Nat.mul_one, List.getElem?_take]
  unfold ints
  rw [List.getElem?_map, List.getElem?_replicate]
  by_cases hj : j < N
  · rw [if_pos hj, if_pos hj, Array.getElem?_toList, h3 j hj]; rfl
  · rw [if_neg hj, if_neg hj]; rfl
theorem zeros_gr {W : World} {g N : Nat} (h : W.heap[g]? = some (.cells (Array.replicate N (.int .i64 0)) 3 (0, 0))) (hN : N ≤ 7) : GR W 3 1 (.slice (some ⟨g, 0, none⟩) N N) (List.replicate N (0 : Int)).length (ints (List.replicate N 0)) :=
  RepAt.gr ⟨_, h, by simp, fun j hj => by rw [Array.getElem?_replicate, if_pos hj]⟩ hN
end
end Go.Proofs.YtlgoenimjmiapaaGreat

/-! The node's operations, restated over NS. -/
set_option linter.unusedVariables false
set_option linter.unusedSectionVars false
namespace Go.Proofs.YtlgoenimjmiapaaGreat
open Go.RowKit Go.Maps

def NS.note (c : NS) (t : Nt) : NS := { c with q := { c.q with st := (c.q.st.note t).getD c.q.st }, ns := c.ns ++ [t] }
def NS.sent (c : NS) (m : Msg) : NS := { c with ms := c.ms ++ [{ m with frm := (c.q.id : Int), ep := c.q.st.ep }] }
def NS.ship (c : NS) (i : Nat) : NS := { c with ms := c.ms ++ [shipMsg c.q i (c.q.has.getD i 0).toNat] }
def NS.ships (c : NS) : NS := { c with ms := c.ms ++ c.q.ships c.q.n }
def NS.asks (c : NS) : NS := { c with ms := c.ms ++ c.q.asks (c.q.granted.getD []) c.q.n }
def NS.rise (c : NS) : NS := { c with q := c.q.risen }
def NS.lead (c : NS) : NS := { c with q := { c.q with role := 2, has := List.replicate c.q.n (c.q.st.log.length : Int), acked := List.replicate c.q.n 0 } }
def NS.count (c : NS) : NS := if 2 * (c.q.granted.getD []).length ≤ c.q.n ∨ 2048 ≤ c.q.st.log.length then c else ((c.lead.note ⟨3, 0, 0, ⟨c.q.st.ep, []⟩⟩).ships).rise

theorem put_log (s : St) (t : Nt) (h : t.kind = 3) : s.log.length ≤ ((s.note t).getD s).log.length ∧ ((s.note t).getD s).log.length ≤ s.log.length + 1 := by
  unfold St.note
  rw [h]
  simp only [show ¬ ((3 : Int) = 1) by omega, show ¬ ((3 : Int) = 2) by omega, if_false]
  split
  · simp
  split
  · simp
  · simp

section
variable [Far] {w w' : World} {x : Nat} {c : NS} {V : NV}

theorem noted_g (h : NAt w x c V) (hl : c.q.st.log.length ≤ 1000000) (hn : c.ns.length ≤ 1000000) (t : Nt) (hd : t.ent.data.length ≤ 9223372036854775807) :
    Calls Tryz.prog 62 #[.pointer (some ⟨x, 0, none⟩), .agg #[.int .i64 t.kind, .int .i64 t.ep, .int .i64 t.n, .int .i64 t.ent.ep, .string (str t.ent.data)]] w fun e w' => e = .returned (.tuple #[]) ∧ Gone w x V (c.note t) w' := by
  obtain ⟨ss, h1, h2⟩ := h
  refine (noted_is h2 hl hn t.kind t.ep t.n t.ent.ep t.ent.data hd).mono ?_
  rintro e w' ⟨rfl, V', k1, k2⟩
  exact ⟨rfl, V', ⟨ss, h1, k1⟩, k2⟩
theorem send_g (h : NAt w x c V) (hn : c.ms.length ≤ 1000000) (m : Msg) (v : Value) (hr : RRow (V.shun x) w v m.log.length 2 (encL m.log)) :
    Calls Tryz.prog 66 #[.pointer (some ⟨x, 0, none⟩), .agg #[.int .i64 m.kind, .int .i64 m.frm, .int .i64 m.to, .int .i64 m.ep, .int .i64 m.at_, .int .i64 m.last, .int .i64 m.commit, v]] w fun e w' => e = .returned (.tuple #[]) ∧ Gone w x V (c.sent m) w' := by
  obtain ⟨ss, h1, h2⟩ := h
  refine (send_is h2 (by rw [← h1, List.length_map] at hn; exact hn) m v hr).mono ?_
  rintro e w' ⟨rfl, sv', k1, k2⟩
  exact ⟨rfl, _, ⟨_, by rw [List.map_append, h1]; rfl, k1⟩, k2⟩
theorem ship_g (h : NAt w x c V) (hn : c.ms.length ≤ 1000000) (i : Nat) (hid : ∃ n : Nat, c.q.has[i]? = some (n : Int) ∧ n ≤ c.q.st.log.length) (hl : c.q.st.log.length ≤ 1000000) (hh : c.q.has.length ≤ 1000) :
    Calls Tryz.prog 70 #[.pointer (some ⟨x, 0, none⟩), .int .i64 (i : Int)] w fun e w' => e = .returned (.tuple #[]) ∧ Gone w x V (c.ship i) w' := by
  obtain ⟨ss, h1, h2⟩ := h
  obtain ⟨n, hn1, hn2⟩ := hid
  refine (ship_is h2 (by rw [← h1, List.length_map] at hn; exact hn) i n hn1 hn2 hl hh).mono ?_
  rintro e w' ⟨rfl, sv', v, k1, k2⟩
  refine ⟨rfl, _, ⟨_, ?_, k1⟩, k2⟩
  rw [List.map_append, h1]
  unfold NS.ship
  rw [List.getD_eq_getElem?_getD, hn1]
  rfl
theorem ships_g (h : NAt w x c V) (hn : c.ms.length ≤ 900000) (hn2 : c.q.n ≤ 7) (hid : c.q.id ≤ 7) (hh : ∀ i, i < c.q.n → i ≠ c.q.id → ∃ n : Nat, c.q.has[i]? = some (n : Int) ∧ n ≤ c.q.st.log.length) (hl : c.q.st.log.length ≤ 1000000) (hhl : c.q.has.length ≤ 1000) :
    Calls Tryz.prog 71 #[.pointer (some ⟨x, 0, none⟩), .func (.func 70) #[.pointer (some ⟨x, 0, none⟩)] #[]] w fun e w' => e = .returned (.tuple #[]) ∧ Gone w x V c.ships w' := by
  obtain ⟨ss, h1, h2⟩ := h
  refine (others_ship h2 (by rw [← h1, List.length_map] at hn; exact hn) hn2 hid hh hl hhl).mono ?_
  rintro e w' ⟨rfl, sv', ts, k0, _, k1, k2⟩
  exact ⟨rfl, _, ⟨_, by rw [List.map_append, h1, k0]; rfl, k1⟩, k2⟩
theorem ask_g (h : NAt w x c V) {gs : List Int} (hgs : c.q.granted = some gs) (hn : c.ms.length ≤ 900000) (hn2 : c.q.n ≤ 7) (hid : c.q.id ≤ 7) (hl : c.q.st.log.length ≤ 1000000) :
    Calls Tryz.prog 63 #[.pointer (some ⟨x, 0, none⟩)] w fun e w' => e = .returned (.tuple #[]) ∧ Gone w x V c.asks w' := by
  obtain ⟨ss, h1, h2⟩ := h
  refine (ask_is h2 hgs (by rw [← h1, List.length_map] at hn; exact hn) hn2 hid hl).mono ?_
  rintro e w' ⟨rfl, sv', ts, k0, k1, k2⟩
  refine ⟨rfl, _, ⟨_, ?_, k1⟩, k2⟩
  rw [List.map_append, h1, k0]
  unfold NS.asks
  rw [hgs]
  rfl
theorem rise_g (h : NAt w x c V) (hal : c.q.acked.length = c.q.n) (hid : c.q.id < c.q.n) (hn2 : c.q.n ≤ 7) (hl : c.q.st.log.length ≤ 1000000) (hak : ∀ a ∈ c.q.acked, 0 ≤ a ∧ a ≤ (c.q.st.log.length : Int)) :
    Calls Tryz.prog 69 #[.pointer (some ⟨x, 0, none⟩)] w fun e w' => e = .returned (.tuple #[]) ∧ Gone w x V c.rise w' := by
  obtain ⟨ss, h1, h2⟩ := h
  refine (rise_is h2 hal hid hn2 hl hak).mono ?_
  rintro e w' ⟨rfl, k1, k2⟩
  exact ⟨rfl, _, ⟨ss, h1, k1⟩, k2⟩
theorem VotesAt.len {b : Nat} {gs : List Int} (h : VotesAt w b gs) (ty : TypeId) : (Builtin.len_ #[109] ty #[.map (some b)]).run Tryz.prog w = .ok (.int .i64 (gs.length : Int)) w := by
  obtain ⟨D, h1, h2, _⟩ := h
  have := World.ownsMap.len h1 Tryz.underlying109 ty
  rw [h2] at this
  exact this
end
end Go.Proofs.YtlgoenimjmiapaaGreat
