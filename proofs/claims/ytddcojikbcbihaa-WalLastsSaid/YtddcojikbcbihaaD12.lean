import Derived.Test.YtddcojikbcbihaaL1
import Derived.Test.YtddcojikbcbihaaD7
import Derived.Laws.CopyOwn
/-! slices.Repeat of one byte. -/
set_option linter.unusedVariables false
namespace Go.Proofs.Ytddcojikbcbihaa
open Go.RowKit

theorem mul_one_ (n : Nat) (hn : n ≤ 65536) (w : World) : Calls Try.prog 73 #[.int .u64 1, .int .u64 (n : Int)] w fun e w' => e = .returned (.tuple #[.int .u64 0, .int .u64 (n : Int)]) ∧ w = w' := by
  have h := Try.bits_Mul 1 n (by omega) (by omega) w
  refine h.mono ?_
  rintro e w' ⟨rfl, rfl⟩
  have e1 : 1 * n / 18446744073709551616 = 0 := by omega
  have e2 : 1 * n % 18446744073709551616 = n := by omega
  rw [e1, e2]
  exact ⟨rfl, rfl⟩

/-- k values u, the rest z, n in all. -/
def rep (u z : Value) (k n : Nat) : List Value := List.replicate k u ++ List.replicate (n - k) z

theorem length_rep (u z : Value) (k n : Nat) (h : k ≤ n) : (rep u z k n).length = n := by simp [rep]; omega

theorem splice_rep (u z : Value) (k n m : Nat) (h : k + m ≤ n) : splice (rep u z k n) k (List.replicate m u) = rep u z (k + m) n := by
  unfold splice rep
  rw [List.take_append_of_le_length (by simp), List.take_of_length_le (by simp), List.length_replicate, List.drop_append, List.length_replicate, List.drop_of_length_le (by simp), List.drop_replicate, List.nil_append,
    show k + m - k = m from by omega, show n - k - m = n - (k + m) from by omega, ← List.append_assoc, List.replicate_append_replicate]

theorem rep_cell {w : World} {g k n : Nat} {u z : Value} {t : TypeId} (h : w.heap[g]? = some (.cells (rep u z k n).toArray t (0, 0))) (m : Nat) (hm : m ≤ k) :
    ∀ j v, (List.replicate m u)[j]? = some v → w.cell? ((⟨g, 0, none⟩ : Addr).add j) = some v := by
  intro j v hv
  have hj : j < m := by simpa using (List.getElem?_eq_some_iff.1 hv).1
  rw [List.getElem?_replicate, if_pos hj] at hv
  cases hv
  rw [addr0_add, cell_of_row w g j _ _ _ h]
  simp only [rep, List.getElem?_toArray]
  rw [List.getElem?_append_left (by simp; omega), List.getElem?_replicate, if_pos (by omega)]

theorem size22 : (Try.prog.info? 5).map (·.size) = some 1 := by kernel_rfl

theorem step_fill {ops : Array Oper} {o : Oper} {a : Act} {w : World} {K : Act → World → Prop} {Q : Exit → Act → World → Prop} {E : Prop} (hgd : o.guard = none) (d s : Operand)
    (ho : o.op = .call { callee := .builtin .copy, args := #[d, s], argTypes := #[22, 22] }) (G k n : Nat) (u z : Value) (h1 : u.oneCell' = true)
    (hd : a.eval d = .slice (some ⟨G, k, none⟩) (n - k) (n - k)) (hs : a.eval s = .slice (some ⟨G, 0, none⟩) k n) (hg : Hid (w.heap[G]? = some (.cells (rep u z k n).toArray 5 (0, 0)))) (hk : k ≤ n) (w0 : World) (hb : Hid (Below G w0 w)) (m : Nat) (hm : Hid (min k (n - k) = m))
    (h : ∀ w', Hid (w'.heap[G]? = some (.cells (rep u z (k + m) n).toArray 5 (0, 0))) → Hid (Below G w0 w') → K (a.put o.dst (.int .i64 (m : Int))) w') :
    if Region.wanted o (yielded ops a.tmps) = true then Oper.wp Try.prog o a w K Q else E := by
  obtain rfl := hm.out
  refine step_copy_splice hgd d s 22 22 ho 5 Try.underlying22 size22 _ _ (n - k) (n - k) k n hd hs G k (rep u z k n) 5 hg.out (List.replicate (min k (n - k)) u) (by rw [List.length_replicate])
    (fun _ => ⟨rfl, _, rfl, rep_cell hg.out _ (by omega)⟩) (by rw [length_rep _ _ _ _ hk, List.length_replicate]; omega) (fun v hv => by rw [List.eq_of_mem_replicate hv]; exact h1) G w0 hb.out (Nat.le_refl _) ?_
  intro w' hg' hb'
  rw [List.length_replicate]
  have hg2 := hg'.out
  rw [splice_rep u z k n (min k (n - k)) (by omega)] at hg2
  exact h w' hg2 hb'

theorem make_bytes (n : Nat) (hn : n ≤ 65536) (W : World) : (Instr.makeSlice 22 (.int .i64 (n : Int)) (.int .i64 (n : Int))).run Try.prog W = .ok (.slice (some ⟨W.heap.size, 0, none⟩) n n) (W.alloc (.cells (rep (.int .u8 255) (.int .u8 0) 0 n).toArray 5)) := by
  obtain ⟨hu, ⟨i, hi1, hz, hsz, hby⟩, hz1⟩ := elem22
  have h := run_make (P := Try.prog) W 22 5 i (.int .u8 0) hu hi1 hz .i64 .i64 n n (by omega) (by omega) (by rw [hby]; omega) (by omega)
  rw [hsz] at h
  have e : (rep (.int .u8 255) (.int .u8 0) 0 n).toArray = madeCells (Value.int .u8 0).cells ((n : Int).toNat * 1) := by
    apply Array.ext'
    have h2 := toList_madeCells_one (.int .u8 0) n
    simp only [Int.toNat_natCast, Nat.mul_one]
    rw [show (Value.int .u8 0).cells = #[.int .u8 0] from rfl, h2]
    simp [rep]
  rw [e]
  simpa using h

set_option maxRecDepth 100000 in
set_option maxHeartbeats 1000000 in
theorem repeat_is (w : World) (a : Addr) (c n : Nat) (hx : w.cell? a = some (.int .u8 255)) (hn : 1 ≤ n) (hn2 : n ≤ 65536) :
    Calls Try.prog 51 #[.slice (some a) 1 c, .int .i64 (n : Int)] w fun e w' => e = .returned (.slice (some ⟨w.heap.size, 0, none⟩) n n) ∧ Row Zone.no w' (.slice (some ⟨w.heap.size, 0, none⟩) n n) (List.replicate n (.int .u8 255)) ∧ Out Zone.no w w' := by
  have hm := make_bytes n hn2 w
  have ML := Lib.hid (mul_one_ n hn2 w)
  have HX : Hid (∀ j v, ([Value.int .u8 255] : List Value)[j]? = some v → (w.alloc (.cells (rep (.int .u8 255) (.int .u8 0) 0 n).toArray 5)).cell? (a.add j) = some v) := by
    intro j v hv
    cases j with
    | zero =>
      cases hv
      exact ((Out.refl Zone.no w).alloc _).cell (by simpa [Addr.add] using hx) (id)
    | succ j => cases hv
  have G0 := Lib.hid (heap_alloc_new w (.cells (rep (.int .u8 255) (.int .u8 0) 0 n).toArray 5))
  have B0 := Lib.hid ((Below.refl w.heap.size w).alloc (Nat.le_refl _) (.cells (rep (.int .u8 255) (.int .u8 0) 0 n).toArray 5))
  have L0 := Lib.hid (length_rep (.int .u8 255) (.int .u8 0) 0 n (by omega))
  have ones : Hid (∀ m : Nat, ∀ v ∈ List.replicate m (Value.int .u8 255), v.oneCell' = true) := fun m v hv => by rw [List.eq_of_mem_replicate hv]; rfl
  clear hx
  go_enter Try.func51, Try.ntmps51
  go_wp2_with fail
  refine ML.out.mono ?_
  rintro e w' ⟨rfl, rfl⟩
  go_wp2_with (refine wpList_copy_splice rfl (.tmp 31) (.tmp 32) 22 22 rfl 5 Try.underlying22 size22 _ _ n n 1 c rfl rfl w.heap.size 0 (rep (.int .u8 255) (.int .u8 0) 0 n) 5 G0.out [.int .u8 255] (by simp [Nat.min_def]; omega) (fun _ => ⟨rfl, a, rfl, HX.out⟩) (by rw [L0.out]; simp; omega) (ones.out 1) w.heap.size w B0.out (Nat.le_refl _) ?_; intro w1 hg1 hb1)
  have HG1 : Hid (w1.heap[w.heap.size]? = some (.cells (rep (.int .u8 255) (.int .u8 0) 1 n).toArray 5 (0, 0))) := by
    have := hg1.out
    rwa [show ([Value.int .u8 255] : List Value) = List.replicate 1 (.int .u8 255) from rfl, splice_rep _ _ 0 n 1 (by omega)] at this
  have HB1 := Lib.hid hb1
  clear hg1 hb1 hm
  go_wp2_with fail
  generalize hG : w.heap.size = G at *
  have HGG := Lib.hid hG
  clear hG G0 B0 HX L0 ML
  go_loopw [8] (fun v wr => ∃ k : Nat, v = .int .i64 (k : Int) ∧ 1 ≤ k ∧ k ≤ n ∧ Hid (wr.heap[G]? = some (.cells (rep (.int .u8 255) (.int .u8 0) k n).toArray 5 (0, 0))) ∧ Hid (Below G w wr)) (fun v _ => n - (intOf v).toNat)
  case atStart => exact ⟨1, rfl, Nat.le_refl _, hn, HG1, HB1⟩
  case round =>
    obtain ⟨k, rfl, hk1, hk2, hgk, hbk⟩ := hrel
    by_cases hlt : k < n
    · have hne : ¬ n = k := by omega
      obtain ⟨m, hm⟩ : ∃ m, min k (n - k) = m := ⟨_, rfl⟩
      have m1 : m ≤ k := by omega
      have m2 : k + m ≤ n := by omega
      have m3 : 1 ≤ m := by omega
      have HM := Lib.hid hm
      clear hm
      go_wp2_with fail
      have HGD : Hid (wr.drew.heap[G]? = some (.cells (rep (.int .u8 255) (.int .u8 0) k n).toArray 5 (0, 0))) := hgk
      have HBD : Hid (Below G w wr.drew) := hbk.out.drew
      clear hgk hbk
      go_region_law (refine step_fill rfl (.tmp 41) (.tmp 44) rfl G k n (.int .u8 255) (.int .u8 0) rfl (by simp [Act.eval, Act.put, hne, Addr.add]) (by simp [Act.eval, Act.put]) HGD hk2 w HBD m HM ?_; intro w2 hg2 hb2)
      all_goals
        have e3 : IntKind.i64.wrap ((k : Int) + (m : Int)) = ((k + m : Nat) : Int) := by rw [IntWalk.i64_in _ (by omega)]; omega
        simp only [Act.put, List.getElem_toArray, List.getElem_cons_succ, List.getElem_cons_zero, List.setIfInBounds_toArray, List.set_cons_succ, List.set_cons_zero, e3]
        go_wp2_with fail
        go_roundw
        case rel => exact ⟨k + m, rfl, by omega, by omega, hg2, hb2⟩
        case measure => simp [intOf]; omega
    · have hkn : k = n := by omega
      subst hkn
      go_wp2_with fail
      go_ret
      refine ⟨by rw [HGG.out]; rfl, ?_, Out.below (by rw [HGG.out]; exact hbk.out)⟩
      rw [HGG.out]
      exact ⟨some ⟨G, 0, none⟩, k, by rw [List.length_replicate], by rw [List.length_replicate]; omega, le_maxLen (by omega), fun j u hu => ⟨_, rfl, id, rep_cell hgk.out k (Nat.le_refl _) j u hu⟩⟩
end Go.Proofs.Ytddcojikbcbihaa
