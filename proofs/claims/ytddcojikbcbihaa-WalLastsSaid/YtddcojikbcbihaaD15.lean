import Derived.Test.YtddcojikbcbihaaD11
import Derived.Test.YtddcojikbcbihaaD14
import Derived.Test.YtddcojikbcbihaaA4
import Derived.Lib.SlBytesConst
/-! The law's own 'knows': a sure answer. -/
set_option linter.unusedVariables false
namespace Go.Proofs.Ytddcojikbcbihaa
open Go.RowKit

theorem num_is (x : Int) (w : World) : Calls Try.prog 11 #[.int .i64 x] w fun e w' => e = .returned (.int .i64 x) ∧ w = w' := by
  go_enter Try.func11, Try.ntmps11
  go_wp2
  go_ret
  exact ⟨rfl, rfl⟩

def K1 : DS := { DS.new 100 2 with log := [97, 98] }
def K2 : DS := { DS.new 100 2 with log := [97], sure := 1 }
theorem k1 : (DS.new 100 2).append [97, 98] = (0, 0, K1) := by
  simp [DS.append, DS.new, DS.ticked, DS.fin, wrap64, K1]
theorem k12 : K1.crash 1 false [] = K2 := by
  have h1 : K1.stay 1 = 1 := by simp [DS.stay, K1, DS.new]; rfl
  have h2 : K1.keys = [] := by simp [DS.keys, K1, DS.new]
  unfold DS.crash
  rw [h1, h2]
  simp [DS.tear, DS.crashOld, K1, K2, DS.new]
theorem k2 : K2.read 0 = ([97], 0) := by
  simp [DS.read, K2, DS.new, DS.inn, DS.fin, wrap64]
theorem k3 : K2.fin = 1 := by simp [DS.fin, K2, DS.new, wrap64]

theorem row_block {Z : Zone} {w : World} {g : Nat} {cs : List Value} {t : TypeId} {fr : Nat × Nat} (h : w.heap[g]? = some (.cells cs.toArray t fr)) (hg : ¬ Z.T g) (hl : cs.length ≤ maxLen) : Row Z w (.slice (some ⟨g, 0, none⟩) cs.length cs.length) cs :=
  ⟨some ⟨g, 0, none⟩, cs.length, rfl, Nat.le_refl _, hl, fun j u hu => ⟨_, rfl, hg, by rw [addr0_add, cell_of_row w g j _ _ _ h]; simpa using hu⟩⟩

theorem DiskAt.any {Z : Zone} {d : Nat} {w w' : World} {D : DS} (h : DiskAt Z w d D) (ho : Out Zone.no w w') : DiskAt Z w' d D := by
  obtain ⟨p, o, f, lv, h⟩ := h
  exact ⟨p, o, f, lv, h.any ho⟩
/-- A disk whose rows bar more blocks: new ones. -/
theorem Row.wide {Z Z' : Zone} {w : World} {v : Value} {xs : List Value} (h : Row Z w v xs) (hT : ∀ k, Z'.T k → k < w.heap.size → Z.T k) : Row Z' w v xs := by
  obtain ⟨A, c, hv, h1, h2, hc⟩ := h
  refine ⟨A, c, hv, h1, h2, fun j u hu => ?_⟩
  obtain ⟨a, ha, hb, hx⟩ := hc j u hu
  refine ⟨a, ha, fun ht => hb (hT _ ht ?_), hx⟩
  have := World.block_lt_of_cell? w _ hx
  rwa [addr_add_block] at this

theorem MapRows.wide {Z Z' : Zone} {w : World} {b : Nat} {F : Int → Option (List UInt8)} (h : MapRows Z w b F) (hT : ∀ k, Z'.T k → k < w.heap.size → Z.T k) : MapRows Z' w b F := by
  obtain ⟨V, h1, h2⟩ := h
  refine ⟨V, h1, fun x => ?_⟩
  have h3 := h2 x
  cases hV : V x with
  | none => rw [hV] at h3; exact h3
  | some v =>
    rw [hV] at h3
    obtain ⟨L, hL, hr⟩ := h3
    exact ⟨L, hL, hr.wide hT⟩

theorem DiskAt.wide {Z Z' : Zone} {d : Nat} {w w' : World} {D : DS} (h : DiskAt Z w d D) (ho : Out Zone.no w w') (hS : ∀ k, Z.S k → Z'.S k) (hT : ∀ k, Z'.T k → k < w.heap.size → Z.T k) (ht : Z'.Top w') : DiskAt Z' w' d D := by
  obtain ⟨p, o, f, lv, h⟩ := h
  have h' := h.any ho
  refine ⟨p, o, f, lv, h'.sd, h'.sp, (h.log.wide hT).far ho (fun _ h => h.elim), (h.old.wide hT).out ho (fun _ h => h.elim) (ho.block o (h.top.lt h.bo) id), (h.fresh.wide hT).out ho (fun _ h => h.elim) (ho.block f (h.top.lt h.bf) id), hS _ h.bd, hS _ h.bp, hS _ h.bo, hS _ h.bf, ht, h.ne, h.ok⟩

theorem DiskAt.top {Z : Zone} {d : Nat} {w : World} {D : DS} (h : DiskAt Z w d D) : Z.Top w := by
  obtain ⟨p, o, f, lv, h⟩ := h
  exact h.top

set_option maxRecDepth 100000 in
set_option maxHeartbeats 1000000 in
theorem knows_is (w : World) : Calls Try.prog 12 #[] w fun e w' => e = .returned (.bool true) ∧ Out Zone.no w w' := by
  have kc := fun (w : World) (C : Array Value) (n c : Nat) => Lib.run_convert_bytes_const (P := Try.prog) w 22 5 C n c Try.underlying22 Try.underlying5
  have N1 := Lib.hid (new_ok w 100 2 (by omega) (by omega) (by omega) (by omega))
  go_enter Try.func12, Try.ntmps12
  go_wp2_with fail
  refine N1.out.mono ?_
  rintro e w1 ⟨d, rfl, hd, hd1, hd2, ho⟩
  have H1 := Lib.hid hd
  have HO1 := Lib.hid ho
  clear hd ho N1
  have AP := Lib.hid (append_is (H1.out.any ((Out.refl Zone.no w1).alloc (.cells #[.int .u8 97, .int .u8 98] 5 (2, 3)))) (.slice (some ⟨w1.heap.size, 0, none⟩) 2 2) [97, 98]
    (row_block (heap_alloc_new w1 (.cells #[.int .u8 97, .int .u8 98] 5 (2, 3))) (H1.out.top.fresh (Nat.le_refl _)) (le_maxLen (by simp))) (by simp))
  rw [k1] at AP
  have HOA := Lib.hid ((Out.refl Zone.no w1).alloc (.cells #[.int .u8 97, .int .u8 98] 5 (2, 3)))
  go_wp2_with fail
  refine AP.out.mono ?_
  rintro e w2 ⟨rfl, hd2, ho2⟩
  have H2 := Lib.hid hd2
  have HO2 := Lib.hid ho2
  clear AP hd2 ho2
  go_wp2_with fail
  refine (crash_is H2.out 1 (by omega) false _ [] (row_nil _ _ _ _ (Nat.zero_le _)) (by simp)).mono ?_
  rintro e w3 ⟨rfl, hd3, ho3⟩
  rw [k12] at hd3
  obtain ⟨p, o, f, lv, hd3⟩ := hd3
  have H3 := Lib.hid hd3
  have HO3 := Lib.hid ho3
  clear hd3 ho3
  go_wp2_with fail
  refine (read_is H3.out 0).mono ?_
  rintro e w4 ⟨v, rfl, hr, hd4, ho4⟩
  rw [k2] at hr
  have H4 := Lib.hid hd4
  have HO4 := Lib.hid ho4
  have hs := run_string Try.underlying22 Try.underlying5 Try.underlying9 hr
  have EN := Lib.hid (end_is hd4)
  rw [k3] at EN
  clear hr hd4 ho4
  rw [k2]
  have hs1 : (str [97]).toList = [97] := str_toList _
  go_wp2_with (first | (go_at_call 11; refine (num_is _ _).mono ?_; rintro e w' ⟨rfl, rfl⟩) | (go_at_call 20; refine EN.out.mono ?_; rintro e w' ⟨rfl, n, rfl⟩))
  all_goals
    go_ret
    exact ⟨rfl, ((((HO1.out.trans HOA.out).fresh HO2.out (fun k hk => hk.1)).fresh HO3.out (fun k hk => hk.1)).trans HO4.out).drewN _⟩
end Go.Proofs.Ytddcojikbcbihaa
