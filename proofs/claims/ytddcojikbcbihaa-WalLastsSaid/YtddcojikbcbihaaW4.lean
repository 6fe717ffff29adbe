import Derived.Test.YtddcojikbcbihaaK9
/-! The law's knows. -/
set_option linter.unusedVariables false
namespace Go.Proofs.Ytddcojikbcbihaa
open Go.RowKit

def Q2 : DS := { DS.new 100 0 with log := recB [97] }
def Q3 : DS := { DS.new 100 0 with log := recB [97], sure := 10 }
def Q4 : DS := { DS.new 100 0 with log := recB [97] ++ recB [98], sure := 10 }
theorem recEnd_nil : recEnd [] = 0 := by unfold recEnd; rw [recs_nil]; rfl
theorem q1 : DS.opened (DS.new 100 0) 0 = DS.new 100 0 := by
  simp only [DS.opened, DS.new, List.take_nil]
  congr 1
theorem q2 : (DS.new 100 0).append (recB [97]) = (0, 0, Q2) := by
  have h := length_rec1 97
  unfold DS.append
  rw [ticked_run rfl]
  simp [DS.new, h, DS.fin, wrap64, Q2]
theorem q3 : Q2.sync = (0, Q3) := by
  have h := length_rec1 97
  rw [sync_all rfl rfl]
  have : Q2.log.length = 10 := h
  rw [this]
  simp only [DS.opened, Q2, Q3, DS.new]
  rw [List.take_of_length_le (by omega)]
  rfl
theorem q3f : Q3.fin = 10 := by
  have h := length_rec1 97
  simp [DS.fin, Q3, DS.new, h, wrap64]
theorem q4 : Q3.append (recB [98]) = (10, 0, Q4) := by
  have h := length_rec1 97
  have h' := length_rec1 98
  unfold DS.append
  rw [ticked_run rfl, q3f]
  simp [DS.new, h, h', Q3, Q4]
theorem q5 : (Q4.crash 5 false []).log = (recB [97] ++ recB [98]).take 15 := by
  have h := length_rec1 97
  have h' := length_rec1 98
  simp [DS.crash, DS.tear, DS.stay, Q4, DS.new, h, h']
  rfl

theorem ownsE_form2 {b : Nat} {w : World} {v : Value} {xs : List Ent} (h : OwnsE b w v xs) : ∃ A c, v = .slice A xs.length c := by
  obtain ⟨h1, h2 | ⟨g, cap, cur, hv, _⟩⟩ := h
  · exact ⟨none, 0, by rw [h2.1, h2.2]⟩
  · exact ⟨_, _, hv⟩

set_option maxRecDepth 100000 in
set_option maxHeartbeats 2000000 in
theorem wknows_is (w : World) : Calls Try.prog 28 #[] w fun e w' => e = .returned (.bool true) ∧ Out Zone.no w w' := by
  have kc := fun (w : World) (C : Array Value) (n c : Nat) => Lib.run_convert_bytes_const (P := Try.prog) w 22 5 C n c Try.underlying22 Try.underlying5
  go_enter Try.func28, Try.ntmps28
  go_wp2_with fail
  refine (made_is w 100 (by omega) (by omega)).mono ?_
  rintro e w1 ⟨d, rfl, hd, hd1, hd2, ho⟩
  have H1 := Lib.hid hd
  have HO1 := Lib.hid ho
  have HZ1 : Hid (∀ k, (Zone.of w.heap.size w1.heap.size).S k → w.heap.size ≤ k) := fun k hk => hk.1
  clear hd ho
  go_wp2_with fail
  obtain ⟨Z1, hZ1⟩ : ∃ Z1, Zone.of w.heap.size w1.heap.size = Z1 := ⟨_, rfl⟩
  rw [hZ1] at H1 HZ1
  clear hZ1
  have OP := open_is H1.out rfl rfl rfl
  unfold OpenOk at OP
  rw [show (DS.new 100 0).log = [] from rfl, recEnd_nil, recs_nil, show (0 : Int).toNat = 0 from rfl, q1] at OP
  refine OP.mono ?_
  rintro e w2 ⟨wb, lv, xs, rfl, hw, hwb, hl, hk, hx, hd, ho⟩
  obtain rfl : xs = [] := by simpa using hk
  obtain ⟨Al, cl, rfl⟩ := ownsE_form2 hl
  rw [List.length_nil]
  have HZW : Hid (¬ Z1.S wb) := fun hk => by have := H1.out.top.lt hk; omega
  have HW2 := Lib.hid (show WalAt w2 wb d 0 from hw)
  have H2 := Lib.hid hd
  have HO2 := Lib.hid (HO1.out.fresh ho HZ1.out)
  clear OP hw hl hk hx hd ho
  go_wp2_with (first | (go_at_call 36; refine (wnum_is _ _).mono ?_; rintro e w' ⟨rfl, rfl⟩) | fail)
  have HZ2 : Hid (∀ k, (Z1.plus wb).S k → w.heap.size ≤ k) := HZ1
  have HW0 : Hid (w.heap.size ≤ wb) := Nat.le_trans HO1.out.size hwb
  have HZT : Hid ((Z1.plus wb).T wb) := Or.inr rfl
  have HZW' : Hid (¬ (Z1.plus wb).S wb) := HZW
  obtain ⟨Z2, hZ2⟩ : ∃ Z2, Z1.plus wb = Z2 := ⟨_, rfl⟩
  rw [hZ2] at H2 HZ2 HZT HZW'
  clear hZ2 hwb hd1 hd2
  have a3 := (Out.refl Zone.no w2).alloc (.cells #[.int .u8 97] 5 (1, 2))
  have A3 := Lib.hid (HO2.out.trans a3)
  have W3 := HW2.out.out a3 id
  have AP := wappend_is W3 (H2.out.any a3) HZW'.out (.slice (some ⟨w2.heap.size, 0, none⟩) 1 1) [97] (row_block (heap_alloc_new w2 (.cells #[.int .u8 97] 5 (1, 2))) id (le_maxLen (by simp))) (by simp)
  rw [q2] at AP
  have HW3 := Lib.hid W3
  refine AP.mono ?_
  rintro e w4 ⟨rfl, hd4, ho4⟩
  have H4 := Lib.hid hd4
  have HW4 := Lib.hid (HW3.out.out ho4 HZW'.out)
  have HO4 := Lib.hid (A3.out.fresh ho4 HZ2.out)
  clear AP hd4 ho4 a3 W3
  go_wp2_with fail
  have SY := wsync_is HW4.out H4.out HZW'.out HZT.out
  rw [q3] at SY
  refine SY.mono ?_
  rintro e w5 ⟨rfl, hd5, hw5, ho5⟩
  rw [if_pos rfl, q3f] at hw5
  have H5 := Lib.hid hd5
  have HW5 := Lib.hid hw5
  have HO5 := Lib.hid (HO4.out.fresh ho5 (fun k hk => by rcases hk with hk | rfl; exact HZ2.out k hk; exact HW0.out))
  clear SY hd5 hw5 ho5
  go_wp2_with fail
  have a6 := (Out.refl Zone.no w5).alloc (.cells #[.int .u8 98] 5 (1, 2))
  have A6 := Lib.hid (HO5.out.trans a6)
  have W6 := HW5.out.out a6 id
  have AP := wappend_is W6 (H5.out.any a6) HZW'.out (.slice (some ⟨w5.heap.size, 0, none⟩) 1 1) [98] (row_block (heap_alloc_new w5 (.cells #[.int .u8 98] 5 (1, 2))) id (le_maxLen (by simp))) (by simp)
  rw [q4] at AP
  refine AP.mono ?_
  rintro e w7 ⟨rfl, hd7, ho7⟩
  have H7 := Lib.hid hd7
  have HO7 := Lib.hid (A6.out.fresh ho7 HZ2.out)
  clear AP hd7 ho7 a6 W6
  go_wp2_with fail
  refine (crash_is H7.out 5 (by omega) false _ [] (row_nil _ _ _ _ (Nat.zero_le _)) (by simp)).mono ?_
  rintro e w8 ⟨rfl, hd8, ho8⟩
  have H8 := Lib.hid hd8
  have HO8 := Lib.hid (HO7.out.fresh ho8 HZ2.out)
  clear hd8 ho8
  go_wp2_with fail
  have OP := open_is H8.out rfl rfl rfl
  unfold OpenOk at OP
  rw [q5, recs_know] at OP
  refine OP.mono ?_
  rintro e w9 ⟨wb9, lv9, xs, rfl, _, _, hl, hk, hx, _, ho⟩
  have HO9 := Lib.hid (HO8.out.fresh ho HZ2.out)
  clear OP ho
  obtain ⟨x, rfl⟩ : ∃ x, xs = [x] := by
    cases xs with
    | nil => simp at hk
    | cons x r => cases r with
      | nil => exact ⟨x, rfl⟩
      | cons y r => simp at hk
  have hx1 := hx x (List.mem_singleton.2 rfl)
  simp only [List.map_cons, List.map_nil, List.cons.injEq, and_true] at hk
  unfold Ent.key at hk
  injection hk with k1 hk
  injection hk with k2 k3
  rw [k2] at hx1
  obtain ⟨g9, c9, rfl⟩ := ownsRow_succ hl
  have cs := World.ownsRow.cells hl rfl
  have c0 := cs 0 _ rfl
  have c1 := cs 1 _ rfl
  rw [addr0_add] at c0 c1
  have hrow := hx1.row (Z := Zone.no) (fun _ _ h => h)
  have hst := run_string Try.underlying22 Try.underlying5 Try.underlying9 hrow
  unfold Ent.v at hst
  have hs1 : (str [97]).toList = [97] := str_toList _
  clear hl hx cs hx1 hrow k1 k2 k3
  go_wp2_with (first | (go_at_call 36; refine (wnum_is _ _).mono ?_; rintro e w' ⟨rfl, rfl⟩) | fail)
  go_ret
  exact ⟨rfl, HO9.out⟩
end Go.Proofs.Ytddcojikbcbihaa
