import Derived.Test.YtlgoenimjmiapaaQ21
import Derived.Test.YtlgoenimjmiapaaL1
/-! slices.Repeat of one int. -/
set_option linter.unusedVariables false
namespace Go.Proofs.Ytlgoenimjmiapaa
open Go.RowKit Go.Maps Go.Sort

/-- Block g has N ints, of which the first m are L. -/
def RepAt (w : World) (g N m : Nat) (L : Int) : Prop := ∃ cur : Array Value, w.heap[g]? = some (.cells cur 3 (0, 0)) ∧ cur.size = N ∧ ∀ j, j < m → cur[j]? = some (.int .i64 L)

theorem make_ints (n : Nat) (hn : n ≤ 65536) (W : World) : (Instr.makeSlice 52 (.int .i64 (n : Int)) (.int .i64 (n : Int))).run Try.prog W = .ok (.slice (some ⟨W.heap.size, 0, none⟩) n n) (W.alloc (.cells (Array.replicate n (.int .i64 0)) 3)) := by
  obtain ⟨hu, ⟨i, hi1, hz, hsz, hby⟩, hz1, _⟩ := elem52
  have h := run_make (P := Try.prog) W 52 3 i (.int .i64 0) hu hi1 hz .i64 .i64 n n (by omega) (by omega) (by rw [hby]; omega) (by omega)
  rw [hsz] at h
  have e : Array.replicate n (Value.int .i64 0) = madeCells (Value.int .i64 0).cells ((n : Int).toNat * 1) := by
    apply Array.ext'
    have h2 := toList_madeCells_one (.int .i64 0) n
    simp only [Int.toNat_natCast, Nat.mul_one]
    rw [show (Value.int .i64 0).cells = #[.int .i64 0] from rfl, h2]
    simp
  rw [e]
  simpa using h
theorem size52 : (Try.prog.info? 3).map (·.size) = some 1 := by kernel_rfl

theorem run_fromI {G m N c : Nat} (hm : m < N) (hc : N ≤ c) (W : World) : (Instr.slice 52 (.slice (some ⟨G, 0, none⟩) N c) (some (.int .i64 (m : Int))) none none).run Try.prog W = .ok (.slice (some ⟨G, m, none⟩) (N - m) (c - m)) W := by
  obtain ⟨hu, ⟨i, hi1, hz, hsz, hby⟩, hz1, hp⟩ := elem52
  have h1 : m ≤ N := by omega
  have h2 : c ≠ m := by omega
  simp [Instr.slice, run_underlying hu, Instr.sliceBounds, Instr.sliceBound, sizeOf, typeInfo, hi1, hsz, h1, h2, asIntOf, addr0_add]
theorem run_uptoI {G m N c : Nat} (hm : m ≤ c) (W : World) : (Instr.slice 52 (.slice (some ⟨G, 0, none⟩) N c) none (some (.int .i64 (m : Int))) none).run Try.prog W = .ok (.slice (some ⟨G, 0, none⟩) m c) W := by
  obtain ⟨hu, ⟨i, hi1, hz, hsz, hby⟩, hz1, hp⟩ := elem52
  simp [Instr.slice, run_underlying hu, Instr.sliceBounds, Instr.sliceBound, sizeOf, typeInfo, hi1, hsz, hm, asIntOf, addr0_add]

theorem RepAt.set {W : World} {G N m : Nat} {L : Int} (h : RepAt W G N m L) (hm : m < N) : RepAt (W.setCell ⟨G, m, none⟩ (.int .i64 L)) G N (m + 1) L := by
  obtain ⟨cur, h1, h2, h3⟩ := h
  refine ⟨_, heap_set h1 m _, by simpa using h2, fun j hj => ?_⟩
  by_cases e : j = m
  · subst e; simp [h2, hm]
  · rw [Array.getElem?_setIfInBounds_ne (fun e' => e e'.symm)]; exact h3 j (by omega)
theorem RepAt.sets {G N : Nat} {L : Int} : ∀ (k m : Nat) (W : World), RepAt W G N m L → m + k ≤ N → RepAt (W.setCells G m (List.replicate k (.int .i64 L))) G N (m + k) L ∧ W.grownBy (W.setCells G m (List.replicate k (.int .i64 L))) (some G)
  | 0, m, W, h, _ => ⟨h, World.grownBy.refl _ _⟩
  | k + 1, m, W, h, hk => by
    have h1 := h.set (by omega)
    obtain ⟨h2, h3⟩ := RepAt.sets k (m + 1) _ h1 (by omega)
    rw [List.replicate_succ]
    refine ⟨?_, World.grownBy.trans (only_setCell W ⟨G, m, none⟩ _) h3⟩
    rw [show m + (k + 1) = m + 1 + k by omega]
    exact h2

theorem copy_rep {W : World} {G N m c1 c2 : Nat} {L : Int} (h : RepAt W G N m L) (hm : m < N) :
    (Builtin.copy_ #[52, 52] 3 #[.slice (some ⟨G, m, none⟩) (N - m) c1, .slice (some ⟨G, 0, none⟩) m c2]).run Try.prog W = .ok (goInt (Nat.min m (N - m))) (W.setCells G m (List.replicate (Nat.min m (N - m)) (.int .i64 L))) := by
  obtain ⟨cur, h1, h2, h3⟩ := h
  have hk : Nat.min m (N - m) ≤ m ∧ Nat.min m (N - m) ≤ N - m := ⟨Nat.min_le_left _ _, Nat.min_le_right _ _⟩
  have := run_copy_cells (P := Try.prog) W 52 52 3 3 G m (N - m) c1 ⟨G, 0, none⟩ m c2 (List.replicate (Nat.min m (N - m)) (.int .i64 L)) Try.underlying52 size52 (by rw [List.length_replicate])
    (fun j v hj => by
      rw [List.getElem?_replicate] at hj
      split at hj
      · rename_i hlt
        injection hj with hj
        subst hj
        rw [addr0_add, cells_all h1]
        exact h3 j (by omega)
      · cases hj)
    (fun j hj => by
      rw [List.length_replicate] at hj
      rw [cells_all h1, Array.getElem?_eq_getElem (by omega)]
      rfl)
    (fun j hj => frozen_all h1 _) (fun v hv => by rw [(List.mem_replicate.1 hv).2]; rfl)
  rw [List.length_replicate] at this
  exact this

theorem step_copyI {ops : Array Oper} {o : Oper} {a : Act} {W : World} {K : Act → World → Prop} {Q : Exit → Act → World → Prop} {E : Prop}
    (hg : o.guard = none) (d s : Operand) (hop : o.op = Op.call { callee := Callee.builtin Builtin.copy, args := #[d, s], argTypes := #[52, 52] }) (hty : o.type = 3)
    {G N m c1 c2 : Nat} {L : Int} (hd : a.eval d = .slice (some ⟨G, m, none⟩) (N - m) c1) (hs : a.eval s = .slice (some ⟨G, 0, none⟩) m c2) (h : RepAt W G N m L) (hm : m < N) (h7 : N ≤ 7)
    (hK : ∀ w' k, k = Nat.min m (N - m) → RepAt w' G N (m + k) L → W.grownBy w' (some G) → K (a.put o.dst (.int .i64 (k : Int))) w') :
    if Region.wanted o (yielded ops a.tmps) = true then Oper.wp Try.prog o a W K Q else E := by
  have hrun := copy_rep (c1 := c1) (c2 := c2) h hm
  have hk : Nat.min m (N - m) ≤ N - m := Nat.min_le_right _ _
  obtain ⟨h2, h3⟩ := RepAt.sets (Nat.min m (N - m)) m W h (by omega)
  have hw : Region.wanted o (yielded ops a.tmps) = true := by simp [Region.wanted, hg]
  have hgo : goInt (Nat.min m (N - m)) = .int .i64 ((Nat.min m (N - m) : Nat) : Int) := rfl
  rw [hgo] at hrun
  rw [if_pos hw]
  unfold Oper.wp
  simp [execOp, hop, resolve, invoke, builtin, hty, hrun, hd, hs, Result.andThen]
  exact hK _ _ rfl h2 h3

set_option maxRecDepth 100000 in
set_option maxHeartbeats 1000000 in
theorem repeat_is (w : World) (b N : Nat) (L : Int) (hb : w.cell? ⟨b, 0, none⟩ = some (.int .i64 L)) (h1 : 1 ≤ N) (h7 : N ≤ 7) :
    Calls Try.prog 53 #[.slice (some ⟨b, 0, none⟩) 1 1, .int .i64 (N : Int)] w fun e w' => ∃ g, e = .returned (.slice (some ⟨g, 0, none⟩) N N) ∧ RepAt w' g N N L ∧ Out Zone.no w w' ∧ w.heap.size ≤ g := by
  have HB : Hid (∀ W, Calls Try.prog 60 #[.int .u64 1, .int .u64 (N : Int)] W fun e w' => e = .returned (.tuple #[.int .u64 0, .int .u64 (N : Int)]) ∧ W = w') := fun W => by
    have := Try.bits_Mul 1 N (by omega) (by omega) W
    rw [show 1 * N / 18446744073709551616 = 0 by omega, show 1 * N % 18446744073709551616 = N by omega] at this
    refine this.mono ?_
    rintro e w' ⟨h1, h2⟩
    exact ⟨h1, h2.symm⟩
  have hmk := make_ints N (by omega) w
  have hcp : (Builtin.copy_ #[52, 52] 3 #[.slice (some ⟨w.heap.size, 0, none⟩) N N, .slice (some ⟨b, 0, none⟩) 1 1]).run Try.prog (w.alloc (.cells (Array.replicate N (.int .i64 0)) 3)) = .ok (.int .i64 1) ((w.alloc (.cells (Array.replicate N (.int .i64 0)) 3)).setCell ⟨w.heap.size, 0, none⟩ (.int .i64 L)) := by
    have hh := heap_alloc_new w (.cells (Array.replicate N (.int .i64 0)) 3)
    have := run_copy_cells (P := Try.prog) (w.alloc (.cells (Array.replicate N (.int .i64 0)) 3)) 52 52 3 3 w.heap.size 0 N N ⟨b, 0, none⟩ 1 1 [.int .i64 L] Try.underlying52 size52 (by show 1 = Nat.min 1 N; exact (Nat.min_eq_left h1).symm)
      (fun j v hj => by
        cases j with
        | zero => injection hj with hj; subst hj; rw [addr0_add]; exact ((Out.refl Zone.no w).alloc _).cell hb (fun h => h)
        | succ j => cases hj)
      (fun j hj => by
        have : j = 0 := by simpa using hj
        subst this
        rw [cells_all hh]
        simp; omega)
      (fun j hj => frozen_all hh _) (fun v hv => by simp at hv; subst hv; rfl)
    exact this
  have R1 : Hid (RepAt ((w.alloc (.cells (Array.replicate N (.int .i64 0)) 3)).setCell ⟨w.heap.size, 0, none⟩ (.int .i64 L)) w.heap.size N 1 L) :=
    RepAt.set (m := 0) ⟨_, heap_alloc_new w _, by simp, fun j hj => by omega⟩ (by omega)
  have O1 : Hid (Out Zone.no w ((w.alloc (.cells (Array.replicate N (.int .i64 0)) 3)).setCell ⟨w.heap.size, 0, none⟩ (.int .i64 L))) := ((Out.refl Zone.no w).alloc _).setCell (Or.inr (Nat.le_refl _)) _
  obtain ⟨W1, hW1⟩ : ∃ W1, (w.alloc (.cells (Array.replicate N (.int .i64 0)) 3)).setCell ⟨w.heap.size, 0, none⟩ (.int .i64 L) = W1 := ⟨_, rfl⟩
  rw [hW1] at R1 O1 hcp
  clear hW1
  have i1 : (0 : Int) ≤ (N : Int) := by omega
  have e0 : decide ((N : Int) < 0) = false := by simp
  go_enter Try.func53, Try.ntmps53
  go_wp2_with (first | (go_at_call 60; refine (HB.out _).mono ?_; rintro e w2 ⟨rfl, rfl⟩) | (at_builtin; refine wpList_builtin rfl _ _ _ rfl hcp ?_))
  obtain ⟨G, hG⟩ : ∃ G, w.heap.size = G := ⟨_, rfl⟩
  have HG := Lib.hid hG
  rw [hG] at R1 ⊢
  clear hcp hmk hG
  go_loopw [8] (fun vm wr => ∃ m : Nat, 1 ≤ m ∧ m ≤ N ∧ vm = .int .i64 (m : Int) ∧ Hid (RepAt wr G N m L) ∧ Hid (Out Zone.no w wr)) (fun vm _ => N - (intOf vm).toNat)
  case atStart => exact ⟨1, by omega, by omega, rfl, R1, O1⟩
  case round =>
    obtain ⟨m, hm1, hmN, rfl, hr, ho⟩ := hrel
    clear R1 O1
    by_cases hlt : m < N
    · have hfr := fun W => run_fromI (G := G) (c := N) hlt (Nat.le_refl _) W
      have hup := fun W => run_uptoI (G := G) (N := N) hmN W
      have hrd : Hid (RepAt wr.drew G N m L) := hr
      have hod : Hid (Out Zone.no w wr.drew) := ho.out.drew
      go_wp2_with fail
      go_region_law (refine step_copyI rfl (.tmp 41) (.tmp 44) rfl rfl (G := G) (N := N) (m := m) (c1 := N - m) (c2 := N) (by simp [Act.eval, Act.put]) (by simp [Act.eval, Act.put]) (by exact hrd.out) hlt h7 ?_; intro w2 k hk hr2 hg2; have hkk : 1 ≤ k ∧ k ≤ N - m := (by rw [hk]; exact ⟨Nat.le_min.2 ⟨hm1, (by omega)⟩, Nat.min_le_right _ _⟩); clear hk; have HR2 := Lib.hid hr2; have HG2 := Lib.hid hg2; clear hr2 hg2)
      all_goals
        have HO2 : Hid (Out Zone.no w w2) := hod.out.grown HG2.out (fun j hj => by injection hj with hj; subst hj; exact Or.inr (Nat.le_of_eq HG.out))
        have e3 : IntKind.i64.wrap ((m : Int) + (k : Int)) = ((m + k : Nat) : Int) := by rw [IntWalk.i64_in _ (by omega)]; omega
        simp only [Act.put, List.getElem_toArray, List.getElem_cons_succ, List.getElem_cons_zero, List.setIfInBounds_toArray, List.set_cons_succ, List.set_cons_zero, e3]
        go_wp2_with fail
        go_roundw
        case rel => exact ⟨m + k, by omega, by omega, rfl, HR2.out, HO2.out⟩
        case measure => simp [intOf]; omega
    · obtain rfl : m = N := by omega
      go_wp2_with fail
      go_ret
      exact ⟨G, rfl, hr.out, ho.out, Nat.le_of_eq HG.out⟩
end Go.Proofs.Ytlgoenimjmiapaa
