import Derived.Test.YtddcojikbcbihaaI2
import Derived.Test.YtddcojikbcbihaaW0
/-! wal.Open at a disk that runs, of base 0. -/
set_option linter.unusedVariables false
namespace Go.Proofs.Ytddcojikbcbihaa
open Go.RowKit

/-- Where the records end. -/
def recEnd (L : List UInt8) : Int := (recs 0 L 0).foldl (fun _ r => r.2.2) 0
theorem endOf_key (base : Int) (xs : List Ent) : endOf base xs = (xs.map Ent.key).foldl (fun _ r => r.2.2) base := by
  unfold endOf
  rw [List.foldl_map]
  rfl

theorem recs_ends (L : List UInt8) (k : Nat) : ∀ r ∈ recs 0 L k, (k : Int) < r.2.2 ∧ r.2.2 ≤ L.length := by
  induction hn : L.length - k using Nat.strongRecOn generalizing k with
  | _ n ih =>
    intro r hr
    rw [recs] at hr
    split at hr
    · rename_i h
      have hz := unrec_size _ h.2.1
      rw [List.length_drop] at hz
      rcases List.mem_cons.1 hr with rfl | hr
      · simp only
        omega
      · have := ih (L.length - (k + (unrec (L.drop k)).2.1)) (by omega) _ rfl r hr
        omega
    · simp at hr

theorem foldl_last {α : Type} (f : α → Int) : ∀ (l : List α) (a : Int), l.foldl (fun _ r => f r) a = a ∨ ∃ r ∈ l, l.foldl (fun _ r => f r) a = f r
  | [], a => Or.inl rfl
  | x :: l, a => by
    rcases foldl_last f l (f x) with h | ⟨r, hr, h⟩
    · exact Or.inr ⟨x, List.mem_cons_self .., h⟩
    · exact Or.inr ⟨r, List.mem_cons_of_mem _ hr, h⟩

theorem recEnd_le (L : List UInt8) : 0 ≤ recEnd L ∧ recEnd L ≤ L.length := by
  unfold recEnd
  rcases foldl_last (fun r : Int × List UInt8 × Int => r.2.2) (recs 0 L 0) 0 with h | ⟨r, hr, h⟩
  · rw [h]; omega
  · rw [h]
    have := recs_ends L 0 r hr
    omega

def DS.opened (D : DS) (k : Nat) : DS := { D with log := D.log.take k, sure := k, old := DS.merged D.old D.fresh, fresh := fun _ => none }

theorem row_out {Z : Zone} {w w' : World} {b e sz : Nat} {v : Value} {n : Nat} {xs : List Value} (h : w.ownsRow b e sz v n xs) (ho : Out Z w w') (hb : ∀ k, Z.S k → k < b) : w'.ownsRow b e sz v n xs := by
  obtain ⟨h1, h2⟩ := h
  refine ⟨h1, ?_⟩
  rcases h2 with h2 | ⟨g, cap, cur, hv, hg, hh, hr⟩
  · exact Or.inl h2
  · exact Or.inr ⟨g, cap, cur, hv, hg, ho.get hh (fun hs => by have := hb g hs; omega), hr⟩

theorem ticked_run {D : DS} (h : D.left = -1) : D.ticked = D := by
  unfold DS.ticked
  rw [if_neg (by omega), if_neg (by omega)]
theorem cut_run {D : DS} {k : Nat} (hoff : D.off = false) (hl : D.left = -1) (hb : D.base = 0) (hfin : D.fin = D.log.length) (hk : k ≤ D.log.length) :
    D.cut (k : Int) = (0, { D with log := D.log.take k, sure := min D.sure k }) := by
  have hi : D.inn (k : Int) = true := by unfold DS.inn; rw [hb, hfin]; simp; omega
  unfold DS.cut
  rw [hoff, hi, ticked_run hl, hb]
  simp only [Bool.false_eq_true, if_false, if_true]
  rw [if_neg (by omega)]
  simp
  exact ⟨hoff, hb⟩
theorem sync_cut {D : DS} {k : Nat} (hoff : D.off = false) (hl : D.left = -1) (hk : k ≤ D.log.length) :
    DS.sync { D with log := D.log.take k, sure := min D.sure k } = (0, D.opened k) := by
  cases D
  simp only at hoff hl hk
  subst hoff hl
  simp [DS.sync, DS.ticked, DS.opened, Nat.min_eq_left hk]
theorem sync_all {D : DS} (hoff : D.off = false) (hl : D.left = -1) : DS.sync D = (0, D.opened D.log.length) := by
  cases D
  simp only at hoff hl
  subst hoff hl
  simp [DS.sync, DS.ticked, DS.opened]
theorem fin_opened {D : DS} {k : Nat} (hb : D.base = 0) (hk : k ≤ D.log.length) (hl : D.log.length ≤ 16777216) : (D.opened k).fin = k := by
  unfold DS.fin DS.opened wrap64
  simp only [hb, List.length_take]
  omega

/-- A zone whose rows lie in no block b, either. -/
def Zone.plus (Z : Zone) (b : Nat) : Zone := ⟨Z.S, fun k => Z.T k ∨ k = b, fun k h => Or.inl (Z.sub k h)⟩
theorem plus_wide {Z : Zone} {w : World} {d : Nat} {D : DS} (h : DiskAt Z w d D) (ht : Z.Top w) (o : Obj) : DiskAt (Z.plus w.heap.size) (w.alloc o) d D :=
  h.wide ((Out.refl Zone.no w).alloc o) (fun k hk => hk) (fun k hk hl => by rcases hk with hk | rfl; exact hk; omega) (fun k hk => by
    rcases hk with hk | rfl
    · have := ht k hk; simp; omega
    · simp)

def OpenOk (Z : Zone) (d : Nat) (D : DS) (w : World) (e : Ending) (w' : World) : Prop :=
  ∃ wb lv xs, e = .returned (.tuple #[.pointer (some ⟨wb, 0, none⟩), lv, .int .i64 0]) ∧ w'.heap[wb]? = some (.cells #[.pointer (some ⟨d, 0, none⟩), .int .i64 (recEnd D.log)] 79 (0, 0)) ∧ w.heap.size ≤ wb ∧
    OwnsE w.heap.size w' lv xs ∧ xs.map Ent.key = recs 0 D.log 0 ∧ (∀ x ∈ xs, Owns w.heap.size w' x.v x.X) ∧ DiskAt (Z.plus wb) w' d (D.opened (recEnd D.log).toNat) ∧ Out Z w w'

set_option maxRecDepth 100000 in
set_option maxHeartbeats 2000000 in
theorem open_is {Z : Zone} {w : World} {d : Nat} {D : DS} (h : DiskAt Z w d D) (hoff : D.off = false) (hleft : D.left = -1) (hb : D.base = 0) :
    Calls Try.prog 35 #[.pointer (some ⟨d, 0, none⟩)] w (OpenOk Z d D w) := by
  obtain ⟨p, o, f, lv0, h0⟩ := h
  have hle := recEnd_le D.log
  have hok := h0.ok
  have hlog : D.log.length ≤ 16777216 := Nat.le_trans hok.log hok.most
  have hread : D.read 0 = (D.log, 0) := by
    unfold DS.read DS.inn DS.fin wrap64
    rw [hoff, hb]
    simp
    omega
  have hfin : D.fin = D.log.length := by unfold DS.fin wrap64; rw [hb]; omega
  have H0 := Lib.hid h0
  have HTOP := Lib.hid h0.top
  clear h0 hok
  go_enter Try.func35, Try.ntmps35
  go_wp2_with fail
  refine (base_is H0.out).mono ?_
  rintro e w' ⟨rfl, rfl⟩
  rw [hb]
  go_wp2_with fail
  have RD := read_is H0.out 0
  rw [hread] at RD
  refine RD.mono ?_
  rintro e w1 ⟨v1, rfl, hr1, hd1, ho1⟩
  obtain ⟨A1, c1, rfl, _, _⟩ := hr1.form
  have HR1 := Lib.hid hr1
  have HD1 := Lib.hid hd1
  have HO1 := Lib.hid ho1
  clear RD hr1 hd1 ho1
  go_wp2_with fail
  refine (base_is HD1.out).mono ?_
  rintro e w' ⟨rfl, rfl⟩
  rw [hb]
  go_wp2_with fail
  refine (scan_is w1 0 _ D.log HR1.out.any (by omega) (by omega)).mono ?_
  rintro e w2 ⟨lv, xs, rfl, hl2, hk2, hx2, ho2⟩
  obtain ⟨Al, ml, cl, rfl⟩ := ownsE_form hl2
  have hend : endOf 0 xs = recEnd D.log := by rw [endOf_key, hk2]; rfl
  rw [hend]
  have HL2 := Lib.hid hl2
  have HK2 := Lib.hid hk2
  have HX2 := Lib.hid hx2
  have HO2 := Lib.hid ho2
  have HD2 := Lib.hid (HD1.out.any ho2)
  clear hl2 hk2 hx2 ho2 hend
  go_wp2_with fail
  have EN := end_is HD2.out
  rw [hfin] at EN
  refine EN.mono ?_
  rintro e w3 ⟨rfl, q, rfl⟩
  have HD3 := Lib.hid (HD2.out.drewN q)
  clear EN
  obtain ⟨k, hk⟩ : ∃ k : Nat, recEnd D.log = (k : Int) := ⟨(recEnd D.log).toNat, by omega⟩
  rw [hk] at hle ⊢
  have HK := Lib.hid hk
  have hkl : k ≤ D.log.length := by omega
  have FIN := Lib.hid (fin_opened hb hkl hlog)
  have LOW : Hid (∀ j, Z.S j → j < w1.heap.size) := fun j hj => Nat.lt_of_lt_of_le (HTOP.out.lt hj) HO1.out.size
  have OUT0 := Lib.hid (((HO1.out.trans HO2.out).drewN q).mono0 (Z' := Z))
  clear hk
  by_cases hlt : k < D.log.length
  · have CU := cut_is HD3.out.at_ (k : Int)
    rw [cut_run hoff hleft hb hfin hkl] at CU
    have HCU := Lib.hid CU
    have SY := fun (W : World) (hW : DiskAt Z W d { D with log := D.log.take k, sure := min D.sure k }) => Lib.hid (sync_is hW)
    rw [sync_cut hoff hleft hkl] at SY
    clear CU hread hfin hoff hleft hb hlog hle
    go_wp2_with fail
    refine HCU.out.mono ?_
    rintro e w4 ⟨rfl, hd4, ho4⟩
    have HD4 := Lib.hid hd4
    have KEEP := Lib.hid (Out.trans (Out.drewN (Out.refl Z w2) q) ho4)
    have OUT := Lib.hid (OUT0.out.trans ho4)
    clear hd4 ho4
    go_wp2_with fail
    refine (SY w4 HD4.out).out.mono ?_
    rintro e w5 ⟨rfl, hd5, ho5⟩
    obtain ⟨p5, o5, f5, lv5, h5⟩ := hd5
    have HD5 := Lib.hid h5
    have HO5 := Lib.hid ho5
    clear h5 ho5
    go_wp2_with fail
    have EN := end_is HD5.out
    rw [FIN.out] at EN
    refine EN.mono ?_
    rintro e w6 ⟨rfl, q6, rfl⟩
    have HO6 := Lib.hid (OUT.out.trans (HO5.out.drewN q6))
    have HD6 := Lib.hid (HD5.out.drewN q6)
    clear EN
    go_wp2_with fail
    refine bodyPost_ret (v := .tuple #[.pointer (some ⟨(w5.drewN q6).heap.size, 0, none⟩), .slice Al ml cl, .int .i64 0]) (by simp [results, Try.results35, go_sem]) rfl ?_
    have OA := HO6.out.alloc (.cells #[.pointer (some ⟨d, 0, none⟩), .int .i64 (k : Int)] 79)
    have OB := (KEEP.out.trans (HO5.out.drewN q6)).alloc (.cells #[.pointer (some ⟨d, 0, none⟩), .int .i64 (k : Int)] 79)
    unfold OpenOk
    rw [HK.out, Int.toNat_natCast]
    exact ⟨_, _, xs, rfl, heap_alloc_new _ _, HO6.out.size, row_base (row_out HL2.out OB LOW.out) HO1.out.size, HK2.out, fun x hx => row_base (row_out (HX2.out x hx) OB LOW.out) HO1.out.size,
      plus_wide HD6.out.at_ HD6.out.top _, OA⟩
  · obtain rfl : k = D.log.length := by omega
    have SY := sync_is HD3.out.at_
    rw [sync_all hoff hleft] at SY
    have HSY := Lib.hid SY
    have KEEP := Lib.hid (Out.drewN (Out.refl Z w2) q)
    have OUT := OUT0
    clear SY hread hfin hoff hleft hb hlog hle
    go_wp2_with fail
    refine HSY.out.mono ?_
    rintro e w5 ⟨rfl, hd5, ho5⟩
    obtain ⟨p5, o5, f5, lv5, h5⟩ := hd5
    have HD5 := Lib.hid h5
    have HO5 := Lib.hid ho5
    clear h5 ho5
    go_wp2_with fail
    have EN := end_is HD5.out
    rw [FIN.out] at EN
    refine EN.mono ?_
    rintro e w6 ⟨rfl, q6, rfl⟩
    have HO6 := Lib.hid (OUT.out.trans (HO5.out.drewN q6))
    have HD6 := Lib.hid (HD5.out.drewN q6)
    clear EN
    go_wp2_with fail
    refine bodyPost_ret (v := .tuple #[.pointer (some ⟨(w5.drewN q6).heap.size, 0, none⟩), .slice Al ml cl, .int .i64 0]) (by simp [results, Try.results35, go_sem]) rfl ?_
    have OA := HO6.out.alloc (.cells #[.pointer (some ⟨d, 0, none⟩), .int .i64 (D.log.length : Int)] 79)
    have OB := (KEEP.out.trans (HO5.out.drewN q6)).alloc (.cells #[.pointer (some ⟨d, 0, none⟩), .int .i64 (D.log.length : Int)] 79)
    unfold OpenOk
    rw [HK.out, Int.toNat_natCast]
    exact ⟨_, _, xs, rfl, heap_alloc_new _ _, HO6.out.size, row_base (row_out HL2.out OB LOW.out) HO1.out.size, HK2.out, fun x hx => row_base (row_out (HX2.out x hx) OB LOW.out) HO1.out.size,
      plus_wide HD6.out.at_ HD6.out.top _, OA⟩
end Go.Proofs.Ytddcojikbcbihaa
