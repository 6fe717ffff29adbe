import Derived.Test.YtlgoenimjmiapaaGreatProg
import Derived.Test.YtlgoenimjmiapaaGreatT01
import Derived.Test.YtlgoenimjmiapaaGreatT00
import Derived.KernelRfl
import Derived.WalkSpells
import Derived.Lib.SliceRun
import Derived.Deep.QuietTactic
import Derived.BigQuiet
import Derived.Laws.AppendOwn
import Derived.Laws.BitsAllLaws
import Derived.Laws.DeepNot64
set_option linter.unusedSimpArgs false
set_option linter.unusedVariables false
set_option linter.unusedSectionVars false
/-! Bytes of a call's own; slices.Clone, strings, cuts. -/
set_option linter.unusedVariables false
set_option linter.unusedSimpArgs false
namespace Go.Proofs.YtlgoenimjmiapaaGreat
open Go.RowKit

theorem elemB : Elem Tryz.prog 29 5 (.int .u8 0) 1 := Elem.mk' Tryz.underlying29 (by kernel_rfl) (by kernel_rfl)

theorem bytes_one' (L : List UInt8) : ∀ v ∈ bytes L, v.oneCell' = true := by
  intro v hv
  simp only [bytes, List.mem_map] at hv
  obtain ⟨u, _, rfl⟩ := hv
  rfl
theorem row_block {Z : Zone} {w : World} {g : Nat} {cs : List Value} {t : TypeId} {fr : Nat × Nat} (h : w.heap[g]? = some (.cells cs.toArray t fr)) (hg : ¬ Z.T g) (hl : cs.length ≤ maxLen) : Row Z w (.slice (some ⟨g, 0, none⟩) cs.length cs.length) cs :=
  ⟨some ⟨g, 0, none⟩, cs.length, rfl, Nat.le_refl _, hl, fun j u hu => ⟨_, rfl, hg, by rw [addr0_add, cell_of_row w g j _ _ _ h]; simpa using hu⟩⟩
theorem Row.byte {Z : Zone} {w : World} {A : Option Addr} {n c : Nat} {L : List UInt8} (h : Row Z w (.slice A n c) (bytes L)) {i : Nat} {u : UInt8} (hu : L[i]? = some u) : ∃ a, A = some a ∧ ¬ Z.T a.block ∧ w.cell? (a.add i) = some (.int .u8 u.toNat) := by
  obtain ⟨A', c', hv, _, _, hc⟩ := h
  injection hv with hv _ _
  obtain ⟨a, ha, hb, hx⟩ := hc i (.int .u8 u.toNat) (by unfold bytes; rw [List.getElem?_map, hu]; rfl)
  exact ⟨a, hv.trans ha, hb, hx⟩
/-- v is a row of bytes that the law itself has made, in one of the blocks g. -/
def Owns (base : Nat) (w : World) (v : Value) (L : List UInt8) : Prop := w.ownsRow base 5 1 v L.length (bytes L)

theorem owns_nil (base : Nat) (w : World) : Owns base w (.slice none 0 0) [] := World.ownsRow_nil _ _ _ _

theorem Owns.out {base : Nat} {Z : Zone} {w w' : World} {v : Value} {L : List UInt8} (h : Owns base w v L) (ho : Out Z w w') (hb : ∀ g, v.ownBlock = some g → ¬ Z.S g) : Owns base w' v L := by
  obtain ⟨h1, h2⟩ := h
  refine ⟨h1, ?_⟩
  rcases h2 with h2 | ⟨g, cap, cur, hv, hg, hh, hr⟩
  · exact Or.inl h2
  · exact Or.inr ⟨g, cap, cur, hv, hg, ho.get hh (hb g (by rw [hv]; rfl)), hr⟩

theorem Owns.drewN {base : Nat} {w : World} {v : Value} {L : List UInt8} (h : Owns base w v L) (n : Nat) : Owns base (w.drewN n) v L := h

theorem Owns.row {base : Nat} {Z : Zone} {w : World} {v : Value} {L : List UInt8} (h : Owns base w v L) (hb : ∀ g, v.ownBlock = some g → ¬ Z.T g) : Row Z w v (bytes L) := by
  obtain ⟨h1, h2⟩ := h
  rcases h2 with ⟨rfl, h2⟩ | ⟨g, cap, cur, rfl, hg, hh, hc1, hc2, hc3, hc4⟩
  · have : L = [] := List.eq_nil_of_length_eq_zero h2
    subst this
    exact ⟨none, 0, rfl, Nat.zero_le _, Nat.zero_le _, by simp [bytes]⟩
  · refine ⟨some ⟨g, 0, none⟩, cap, by rw [length_bytes], by rw [length_bytes]; exact hc1, hc2, fun j u hu => ⟨_, rfl, hb g rfl, ?_⟩⟩
    rw [addr0_add, cell_of_row w g j _ _ _ hh]
    rw [Nat.mul_one] at hc4
    rw [← hc4, List.getElem?_take] at hu
    split at hu
    · simpa using hu
    · cases hu

/-- A source of bytes, for the kit's append. -/
theorem src_of_row {Z : Zone} {w : World} {B : Addr} {n c : Nat} {M : List UInt8} (h : Row Z w (.slice (some B) n c) (bytes M)) : n = M.length ∧ ∀ j u, (bytes M)[j]? = some u → w.cell? (B.add j) = some u := by
  obtain ⟨A, c', hv, h1, h2, h3⟩ := h
  injection hv with e1 e2 e3
  refine ⟨by rw [e2, length_bytes], fun j u hu => ?_⟩
  obtain ⟨a, ha, _, hc⟩ := h3 j u hu
  rw [← e1] at ha
  injection ha with ha
  rw [ha]
  exact hc

theorem Owns.append {base : Nat} {Z : Zone} {w : World} {v s : Value} {L M : List UInt8} (h : Owns base w v L) (hbase : base ≤ w.heap.size) (hs : Row Z w s (bytes M)) (hl : L.length + M.length ≤ 140737488355328) (ty : TypeId) :
    ∃ v' w', (Builtin.append_ #[29, 29] ty #[v, s]).run Tryz.prog w = .ok v' w' ∧ Owns base w' v' (L ++ M) ∧ w.grownBy w' v.ownBlock ∧ ∀ g, v'.ownBlock = some g → v.ownBlock = some g ∨ w.heap.size ≤ g := by
  obtain ⟨hu, ⟨i, hi1, hz, hsz, hby⟩, hz1⟩ := elemB
  obtain ⟨A, c, rfl, h1, h2, h3⟩ := id hs
  cases A with
  | some B =>
    obtain ⟨e1, hc⟩ := src_of_row hs
    obtain ⟨v', w', hrun, ho, hg, _⟩ := run_append_own (P := Tryz.prog) w base 29 ty 5 i (.int .u8 0) 1 1 hu hi1 hz hsz hby hz1 (by omega) v L.length (bytes L) h B M.length c (bytes M) (by simp) hc (bytes_one' _)
      (le_maxLen (by omega)) (by omega) hbase
    rw [e1]
    refine ⟨v', w', hrun, ?_, hg, ?_⟩
    · unfold Owns
      rw [List.length_append, bytes_append]
      exact ho
    · intro k hk
      rcases h.2 with ⟨rfl, h0⟩ | ⟨g, cap, cur, rfl, hbg, hgc, hnc, hcm, hcs, htake⟩
      · have hL : L = [] := List.eq_nil_of_length_eq_zero h0
        subst hL
        obtain ⟨v2, w2, hrun2, ho2, _, _⟩ := run_append_own (P := Tryz.prog) w w.heap.size 29 ty 5 i (.int .u8 0) 1 1 hu hi1 hz hsz hby hz1 (by omega) (.slice none 0 0) 0 [] (World.ownsRow_nil _ _ _ _) B M.length c (bytes M) (by simp) hc (bytes_one' _)
          (le_maxLen (by simp only [List.length_nil] at hl; omega)) (by simp only [List.length_nil] at hl; omega) (Nat.le_refl _)
        have e2 := hrun.symm.trans hrun2
        injection e2 with e2 _
        subst e2
        exact Or.inr (ho2.lt k hk).1
      · by_cases hroom : L.length + M.length ≤ cap
        · have hr := run_append_room (P := Tryz.prog) w 29 ty 5 i hu hi1 g L.length cap cur hgc B M.length c (bytes M) (by rw [hsz]; simp) hc (bytes_one' _) hroom (by rw [hsz, hcs]; simp; omega)
          have e2 := hrun.symm.trans hr
          injection e2 with e2 _
          subst e2
          exact Or.inl hk
        · have hr := run_append_grow (P := Tryz.prog) w 29 ty 5 i (.int .u8 0) hu hi1 hz ⟨g, 0, none⟩ L.length cap (bytes L) (by rw [hsz]; simp) (World.ownsRow.cells h (g := g) rfl) B M.length c (bytes M) (by rw [hsz]; simp) hc (by omega) (by omega) (growslice_fits (by omega) (by rw [hby]; omega))
          have e2 := hrun.symm.trans hr
          injection e2 with e2 _
          subst e2
          simp only [Value.ownBlock] at hk
          injection hk with hk
          exact Or.inr (by omega)
  | none =>
    have hM : M = [] := by
      cases M with
      | nil => rfl
      | cons x r => obtain ⟨a, ha, _⟩ := h3 0 (.int .u8 x.toNat) (by simp [bytes]); cases ha
    subst hM
    refine ⟨v, w, ?_, by rw [List.append_nil]; exact h, World.grownBy.refl _ _, fun g hg => Or.inl hg⟩
    obtain ⟨_, h4⟩ := h
    rcases h4 with ⟨rfl, _⟩ | ⟨g, cap, cur, rfl, _, _, hc1, _⟩
    · simp [Builtin.append_, run_underlying hu, sizeOf, typeInfo, hi1, Builtin.lenOf, Builtin.firstCells, storeCells, bytes]
    · have := hc1
      simp [Builtin.append_, run_underlying hu, sizeOf, typeInfo, hi1, Builtin.lenOf, Builtin.firstCells, storeCells, bytes, hc1]
/-- 'append([]byte{}, s...)'. -/
theorem copy_run (w : World) (s : Value) (X : List UInt8) (h : Row Zone.no w s (bytes X)) (hl : X.length ≤ 140737488355328) :
    ∃ v' w', (Builtin.append_ #[29, 29] 29 #[.slice (some ⟨w.heap.size, 0, none⟩) 0 0, s]).run Tryz.prog (w.alloc (.cells #[] 5)) = .ok v' w' ∧ Owns w.heap.size w' v' X ∧ Out Zone.no w w' := by
  have o0 : Owns w.heap.size (w.alloc (.cells #[] 5)) (.slice (some ⟨w.heap.size, 0, none⟩) 0 0) [] :=
    ⟨by simp [bytes], Or.inr ⟨_, _, _, rfl, Nat.le_refl _, heap_alloc_new w _, Nat.le_refl _, Nat.zero_le _, by simp, by simp [bytes]⟩⟩
  obtain ⟨v', w', hrun, ho, hg, _⟩ := o0.append (by simp) (h.out ((Out.refl Zone.no w).alloc (.cells #[] 5))) (by simp; omega) 29
  exact ⟨v', w', hrun, ho, ((Out.refl Zone.no w).alloc (.cells #[] 5)).grown hg (fun k hk => by cases hk; exact Or.inr (Nat.le_refl _))⟩
theorem string_of {Z : Zone} {w : World} {v : Value} {L : List UInt8} (h : Row Z w v (bytes L)) : (convert 29 9 v).run Tryz.prog w = .ok (.string (str L)) w :=
  run_string Tryz.underlying29 Tryz.underlying5 Tryz.underlying9 h
/-- append(b, x) onto a slice of the call's own. -/
theorem owns_push {base : Nat} {w : World} {v : Value} {L : List UInt8} (h : Owns base w v L) (hb : base ≤ w.heap.size) (x : UInt8) (hl : L.length ≤ 100000000000000) :
    ∃ v' w', (Builtin.append_ #[29, 29] 29 #[v, .slice (some ⟨w.heap.size, 0, none⟩) 1 1]).run Tryz.prog (w.alloc (.cells #[.int .u8 (x.toNat : Int)] 5)) = .ok v' w' ∧ Owns base w' v' (L ++ [x]) ∧ (∀ w0, Out Zone.no w0 w → w0.heap.size ≤ base → Out Zone.no w0 w') := by
  have o0 := (Out.refl Zone.no w).alloc (.cells #[.int .u8 (x.toNat : Int)] 5)
  have hr : Row Zone.no (w.alloc (.cells #[.int .u8 (x.toNat : Int)] 5)) (.slice (some ⟨w.heap.size, 0, none⟩) 1 1) (bytes [x]) :=
    row_block (cs := [.int .u8 (x.toNat : Int)]) (heap_alloc_new w _) id (le_maxLen (by simp))
  obtain ⟨v', w', hrun, h1, hg, _⟩ := (h.out o0 (fun _ _ h => h)).append (Nat.le_trans hb o0.size) hr (by simp; omega) 29
  refine ⟨v', w', hrun, h1, fun w0 ho hw => (ho.trans o0).grown hg (fun k hk => Or.inr ?_)⟩
  have := (World.ownsRow.lt h k hk).1
  omega
theorem row_cut {Z : Zone} {w : World} {A : Option Addr} {c : Nat} {L : List UInt8} (h : Row Z w (.slice A L.length c) (bytes L)) {s n : Nat} (hs : s + n ≤ L.length) :
    Row Z w (cut3 A s (s + n) c) (bytes ((L.drop s).take n)) := by
  have := h.cut3 (l := s) (k := s + n) (m := c) (by omega) hs (Nat.le_trans hs h.len.2) (Nat.le_refl _)
  rw [bytes_take, bytes_drop]
  rw [List.drop_take, Nat.add_sub_cancel_left] at this
  exact this

theorem clone_owns (w : World) (v : Value) (L : List UInt8) (h : Row Zone.no w v (bytes L)) (hl : L.length ≤ 140737488355328) :
    Calls Tryz.prog 50 #[v] w fun e w' => ∃ v', e = .returned v' ∧ Out Zone.no w w' ∧ Owns w.heap.size w' v' L := by
  obtain ⟨A, c, rfl, h1, h2, h3⟩ := id h
  cases A with
  | none =>
    have hx : L = [] := by
      cases L with
      | nil => rfl
      | cons x r => obtain ⟨a, ha, _⟩ := h3 0 (.int .u8 x.toNat) (by simp [bytes]); cases ha
    subst hx
    have e0 := Lib.run_eql_slice_nil (P := Tryz.prog) w 29 5 none 0 c 0 0 Tryz.underlying29
    clear h h1 h2 h3 hl
    go_enter Tryz.func50, Tryz.ntmps50
    simp only [bytes, List.map_nil, List.length_nil]
    go_wp2_with fail
    go_ret
    exact ⟨_, rfl, Out.refl _ _, owns_nil _ _⟩
  | some a =>
    have e0 := Lib.run_eql_slice_nil (P := Tryz.prog) w 29 5 (some a) (bytes L).length c 0 0 Tryz.underlying29
    have o0 : Owns w.heap.size (w.alloc (.cells #[] 5)) (.slice (some ⟨w.heap.size, 0, none⟩) 0 0) [] :=
      ⟨by simp [bytes], Or.inr ⟨_, _, _, rfl, Nat.le_refl _, heap_alloc_new w _, Nat.le_refl _, Nat.zero_le _, by simp, by simp [bytes]⟩⟩
    obtain ⟨v', w', hrun, ho, hg, _⟩ := o0.append (by simp) (h.out ((Out.refl Zone.no w).alloc (.cells #[] 5))) (by simp; omega) 29
    have HR := Lib.hid hrun
    have HO := Lib.hid (((Out.refl Zone.no w).alloc (.cells #[] 5)).grown hg (fun k hk => by cases hk; exact Or.inr (Nat.le_refl _)))
    have HW := Lib.hid ho
    obtain ⟨k, hk⟩ : ∃ k, (bytes L).length = k := ⟨_, rfl⟩
    rw [hk] at e0 HR ⊢
    clear h h1 h2 h3 hl hrun ho hg o0 hk
    go_enter Tryz.func50, Tryz.ntmps50
    go_wp2_with (at_builtin; refine wpList_builtin rfl _ _ _ rfl HR.out ?_)
    go_ret
    exact ⟨_, rfl, HO.out, HW.out⟩
end Go.Proofs.YtlgoenimjmiapaaGreat

/-! codec: Number. -/
set_option linter.unusedVariables false
set_option linter.unusedSimpArgs false
namespace Go.Proofs.YtlgoenimjmiapaaGreat
open Go.RowKit

/-- A byte that says: more. -/
def moreOf (u : Nat) : UInt8 := UInt8.ofNat (u % 128 + 128)

/-- A number's bytes. -/
def numB (u : Nat) : List UInt8 := if h : u < 128 then [UInt8.ofNat u] else moreOf u :: numB (u / 128)
termination_by u
decreasing_by omega

theorem numB_small {u : Nat} (h : u < 128) : numB u = [UInt8.ofNat u] := by rw [numB, dif_pos h]

theorem numB_more {u : Nat} (h : ¬ u < 128) : numB u = moreOf u :: numB (u / 128) := by rw [numB, dif_neg h]

theorem zig0 (n : Int) (h0 : 0 ≤ n) (h1 : n ≤ 1099511627776) : bits .xor .u64 (n * 2) (n / 9223372036854775808) = ((2 * n.toNat : Nat) : Int) := by
  have e1 : n / 9223372036854775808 = ((0 : Nat) : Int) := by omega
  have e2 : n * 2 = ((2 * n.toNat : Nat) : Int) := by omega
  rw [e1, e2, u64_xor_nat _ _ (by omega) (by omega)]
  simp

theorem more_or (u : Nat) : bits .or .u8 ((u : Int) % 256) 128 = ((moreOf u).toNat : Int) := by
  have e1 : (u : Int) % 256 = ((u % 256 : Nat) : Int) := by omega
  have hd : ∀ a : Fin 256, (a.val ||| 128) = a.val % 128 + 128 := by decide +kernel
  have h := hd ⟨u % 256, by omega⟩
  simp only at h
  rw [e1, show (128 : Int) = ((128 : Nat) : Int) from rfl, u8_or_nat _ _ (by omega) (by omega), h]
  unfold moreOf
  rw [UInt8.toNat_ofNat']
  omega

theorem small_byte {u : Nat} (h : u < 128) : ((u : Int) % 256) = ((UInt8.ofNat u).toNat : Int) := by
  rw [UInt8.toNat_ofNat']
  omega
theorem length_numB (u : Nat) : 0 < (numB u).length ∧ (numB u).length ≤ u + 1 := by
  induction u using Nat.strongRecOn with
  | _ u ih =>
    by_cases h : u < 128
    · rw [numB_small h]
      simp
    · rw [numB_more h]
      have := ih (u / 128) (by omega)
      simp only [List.length_cons]
      omega

/-- A number, folded. -/
def zz (n : Int) : Nat := if 0 ≤ n then 2 * n.toNat else (-2 * n - 1).toNat
theorem zz_pos {n : Int} (h : 0 ≤ n) : zz n = 2 * n.toNat := if_pos h
theorem zz_neg : zz (-1) = 1 := by decide
theorem zneg : bits .xor .u64 (IntKind.u64.wrap (IntKind.u64.wrap (-1) * 2)) (IntKind.u64.wrap (-1)) = ((zz (-1) : Nat) : Int) := by decide +kernel
theorem zpos {n : Int} (h0 : 0 ≤ n) (h1 : n ≤ 1099511627776) : bits .xor .u64 (n * 2) (n / 9223372036854775808) = ((zz n : Nat) : Int) := by rw [zz_pos h0]; exact zig0 n h0 h1
theorem zz_le {n : Int} (h1 : n ≤ 1099511627776) (h0 : -1 ≤ n) : zz n ≤ 2199023255552 := by unfold zz; split <;> omega

set_option maxRecDepth 100000 in
set_option maxHeartbeats 1000000 in
theorem num46 (w : World) (n : Int) (h0 : -1 ≤ n) (h1 : n ≤ 1099511627776) : Calls Tryz.prog 46 #[.int .i64 n] w fun e w' => ∃ v, e = .returned v ∧ Owns w.heap.size w' v (numB (zz n)) ∧ Out Zone.no w w' := by
  obtain rfl | h0 : n = -1 ∨ 0 ≤ n := by omega
  · clear h0 h1
    go_enter Tryz.func46, Tryz.ntmps46
    go_wp2_with fail
    rw [zneg]
    obtain ⟨m, hm⟩ : ∃ m : Nat, zz (-1) = m := ⟨_, rfl⟩
    rw [hm]
    have hm2 : m ≤ 2199023255552 := by rw [← hm]; decide
    have HMM := Lib.hid hm
    clear hm
    go_loopw [3, 4] (fun vu vb wr => ∃ (u : Nat) (L : List UInt8), u ≤ m ∧ vu = .int .u64 (u : Int) ∧ L.length + u ≤ m ∧ Hid (L ++ numB u = numB m) ∧ Hid (Owns w.heap.size wr vb L) ∧ Hid (Out Zone.no w wr)) (fun vu _ _ => (intOf vu).toNat)
    case atStart => exact ⟨m, [], Nat.le_refl _, rfl, by simp, rfl, owns_nil _ _, Out.refl _ _⟩
    case round =>
      obtain ⟨u, L, hu, rfl, hl, hL, hown, how⟩ := hrel
      rename_i vb wr
      by_cases hlt : u < 128
      · have hsm : ((UInt8.ofNat u).toNat : Int) = (u : Int) := by rw [UInt8.toNat_ofNat']; omega
        obtain ⟨v', w', hrun, h1, ho⟩ := owns_push hown.out how.out.size (UInt8.ofNat u) (by omega)
        rw [hsm] at hrun
        have HR := Lib.hid hrun
        have H1 := Lib.hid h1
        have HO := Lib.hid (ho w how.out (Nat.le_refl _))
        clear hrun h1 ho hsm
        go_wp2_with (at_builtin; refine wpList_builtin rfl _ _ _ rfl HR.out ?_)
        go_ret
        refine ⟨_, rfl, ?_, HO.out⟩
        rw [HMM.out, ← hL.out, numB_small hlt]
        exact H1.out
      · have hmo := more_or u
        obtain ⟨v', w', hrun, h1, ho⟩ := owns_push hown.out how.out.size (moreOf u) (by omega)
        have HR := Lib.hid hrun
        have H1 := Lib.hid h1
        have HO := Lib.hid (ho w how.out (Nat.le_refl _))
        clear hrun h1 ho
        go_wp2_with (at_builtin; refine wpList_builtin rfl _ _ _ rfl HR.out ?_)
        go_roundw
        case rel => exact ⟨u / 128, L ++ [moreOf u], by omega, by go_num, by rw [List.length_append]; simp only [List.length_cons, List.length_nil]; omega, by
          show _ = _
          rw [← hL.out, numB_more hlt, List.append_assoc]
          rfl, H1.out, HO.out⟩
        case measure => simp [intOf]; omega
  · have hz := Lib.hid (zpos h0 h1)
    have hzl := zz_le h1 (by omega)
    go_enter Tryz.func46, Tryz.ntmps46
    go_wp2_with fail
    rw [hz.out]
    obtain ⟨m, hm⟩ : ∃ m, zz n = m := ⟨_, rfl⟩
    rw [hm]
    have hm2 : m ≤ 2199023255552 := by omega
    have HMM := Lib.hid hm
    clear hm hz hzl h0 h1
    go_loopw [3, 4] (fun vu vb wr => ∃ (u : Nat) (L : List UInt8), u ≤ m ∧ vu = .int .u64 (u : Int) ∧ L.length + u ≤ m ∧ Hid (L ++ numB u = numB m) ∧ Hid (Owns w.heap.size wr vb L) ∧ Hid (Out Zone.no w wr)) (fun vu _ _ => (intOf vu).toNat)
    case atStart => exact ⟨m, [], Nat.le_refl _, rfl, by simp, rfl, owns_nil _ _, Out.refl _ _⟩
    case round =>
      obtain ⟨u, L, hu, rfl, hl, hL, hown, how⟩ := hrel
      rename_i vb wr
      by_cases hlt : u < 128
      · have hsm : ((UInt8.ofNat u).toNat : Int) = (u : Int) := by rw [UInt8.toNat_ofNat']; omega
        obtain ⟨v', w', hrun, h1, ho⟩ := owns_push hown.out how.out.size (UInt8.ofNat u) (by omega)
        rw [hsm] at hrun
        have HR := Lib.hid hrun
        have H1 := Lib.hid h1
        have HO := Lib.hid (ho w how.out (Nat.le_refl _))
        clear hrun h1 ho hsm
        go_wp2_with (at_builtin; refine wpList_builtin rfl _ _ _ rfl HR.out ?_)
        go_ret
        refine ⟨_, rfl, ?_, HO.out⟩
        rw [HMM.out, ← hL.out, numB_small hlt]
        exact H1.out
      · have hmo := more_or u
        obtain ⟨v', w', hrun, h1, ho⟩ := owns_push hown.out how.out.size (moreOf u) (by omega)
        have HR := Lib.hid hrun
        have H1 := Lib.hid h1
        have HO := Lib.hid (ho w how.out (Nat.le_refl _))
        clear hrun h1 ho
        go_wp2_with (at_builtin; refine wpList_builtin rfl _ _ _ rfl HR.out ?_)
        go_roundw
        case rel => exact ⟨u / 128, L ++ [moreOf u], by omega, by go_num, by rw [List.length_append]; simp only [List.length_cons, List.length_nil]; omega, by
          show _ = _
          rw [← hL.out, numB_more hlt, List.append_assoc]
          rfl, H1.out, HO.out⟩
        case measure => simp [intOf]; omega
end Go.Proofs.YtlgoenimjmiapaaGreat
