import Derived.Test.YtddcojikbcbihaaR11
/-! The law DiskPlays, walked. -/
set_option linter.unusedVariables false
namespace Go.Proofs.Ytddcojikbcbihaa
open Go.RowKit

/-- An operation's cells, wherever they are read. -/
theorem opf_at {w : World} {ls : List OpF} {A : Option Addr} {i : Nat} (h3 : ∀ i o, ls[i]? = some o → OpFOk w o ∧
    ∃ a, A = some a ∧ w.cell? (a.add (i * 5)) = some (.int .i64 o.kind) ∧ w.cell? (a.add (i * 5 + 1)) = some (.int .i64 o.n) ∧ w.cell? (a.add (i * 5 + 2)) = some o.vb ∧
      w.cell? (a.add (i * 5 + 3)) = some (.bool o.torn) ∧ w.cell? (a.add (i * 5 + 4)) = some o.vf) (hi : i < ls.length) :
    ∃ (a : Addr) (k n : Int) (b : List UInt8) (Ab : Option Addr) (cb : Nat) (t : Bool) (f : List Int) (Af : Option Addr) (cf : Nat) (X : Addr), A = some a ∧ a.add (i * 5) = X ∧ Hid (OpFOk w ⟨k, n, b, .slice Ab b.length cb, t, f, .slice Af f.length cf⟩) ∧
      ∀ wr, Out Zone.no w wr → wr.cell? X = some (.int .i64 k) ∧ wr.cell? ⟨X.block, X.off + 1, none⟩ = some (.int .i64 n) ∧ wr.cell? ⟨X.block, X.off + 2, none⟩ = some (.slice Ab b.length cb) ∧
      wr.cell? ⟨X.block, X.off + 3, none⟩ = some (.bool t) ∧ wr.cell? ⟨X.block, X.off + 4, none⟩ = some (.slice Af f.length cf) := by
  obtain ⟨o, ho⟩ : ∃ o, ls[i]? = some o := ⟨_, List.getElem?_eq_getElem hi⟩
  obtain ⟨hok, a, hA, _⟩ := h3 i o ho
  obtain ⟨Ab, cb, hvb, _, _⟩ := hok.row.form
  obtain ⟨Af, cf, hvf, _, _⟩ := hok.rof.form0
  rw [List.length_map] at hvf
  have hc := fun wr hout => (opf_cells (wr := wr) h3 ho hout).2
  obtain ⟨k, n, b, vb, t, f, vf⟩ := o
  simp only at hvb hvf
  subst hvb hvf
  refine ⟨a, k, n, b, Ab, cb, t, f, Af, cf, _, hA, rfl, hok, fun wr hout => ?_⟩
  obtain ⟨a', hA', X, hX, g⟩ := hc wr hout
  rw [hA] at hA'
  cases hA'
  rw [hX]
  exact g

set_option maxRecDepth 100000 in
set_option maxHeartbeats 1600000 in
theorem plays_good (w : World) (most pages : Int) (h1 : 1 ≤ most) (h2 : most ≤ 16777216) (h3 : 0 ≤ pages) (h4 : pages ≤ 65536) (v1 v2 : Value) (ls1 ls2 : List OpF) (hl1 : OpsF w v1 ls1) (hl2 : OpsF w v2 ls2)
    (hb1 : ls1.length ≤ 140737488351232) (hb2 : ls2.length ≤ 140737488351232) :
    Calls Try.prog 5 #[.int .i64 most, .int .i64 pages, v1, v2] w fun e w' => e = .returned (.bool true) ∧ Out Zone.no w w' := by
  obtain ⟨A1, c1, rfl, hc1, hm1, hl1⟩ := hl1
  obtain ⟨A2, c2, rfl, hc2, hm2, hl2⟩ := hl2
  have N1 := Lib.hid (new_ok w most pages h1 h2 h3 h4)
  have HL1 := Lib.hid hl1
  have HL2 := Lib.hid hl2
  have HB := Lib.hid (show _ ∧ _ ∧ _ ∧ _ from ⟨h1, h2, h3, h4⟩)
  clear hl1 hl2 h1 h2 h3 h4
  go_enter Try.func5, Try.ntmps5
  go_wp2_with fail
  refine N1.out.mono ?_
  rintro e w1 ⟨d, rfl, hd, _, _, ho1⟩
  have N2 := Lib.hid (new_ok w1 60 4 (by omega) (by omega) (by omega) (by omega))
  have HD := Lib.hid hd
  have HO1 := Lib.hid ho1
  clear hd ho1 N1
  go_wp2_with fail
  refine N2.out.mono ?_
  rintro e w2 ⟨c, rfl, hd, _, _, ho2⟩
  have N3 := Lib.hid (rnew_ok w2 most pages HB.out.1 HB.out.2.1 HB.out.2.2.1 HB.out.2.2.2)
  have HC := Lib.hid hd
  have HO2 := Lib.hid ho2
  clear hd ho2 N2
  go_wp2_with fail
  refine N3.out.mono ?_
  rintro e w3 ⟨r, rfl, hd, ho3⟩
  have N4 := Lib.hid (rnew_ok w3 60 4 (by omega) (by omega) (by omega) (by omega))
  have HR := Lib.hid hd
  have HO3 := Lib.hid ho3
  clear hd ho3 N3
  go_wp2_with fail
  refine N4.out.mono ?_
  rintro e w4 ⟨q, rfl, hd, ho4⟩
  have HQ := Lib.hid hd
  have HO4 := Lib.hid ho4
  clear hd ho4 N4
  go_wp2_with (first | (go_at_call 11; refine (num_is _ _).mono ?_; rintro e w' ⟨rfl, rfl⟩) | (go_at_call 12; refine (knows_is _).mono ?_; rintro e w5 ⟨rfl, hok⟩; have HO5 := Lib.hid hok; clear hok))
  obtain ⟨ZA1, ZB1, ZA2, ZB2, FR, PP⟩ : ∃ ZA1 ZB1 ZA2 ZB2, Hid (Four w.heap.size ZA1 ZB1 ZA2 ZB2) ∧ Hid (St true ZA1 ZB1 ZA2 ZB2 w d r c q w5) := by
    have s1 := HO1.out.size
    have s2 := HO2.out.size
    have s3 := HO3.out.size
    have s4 := HO4.out.size
    have s5 := HO5.out.size
    refine ⟨⟨fun k => w.heap.size ≤ k ∧ k < w1.heap.size, fun k => w.heap.size ≤ k ∧ k < w4.heap.size, fun k hk => ⟨hk.1, by omega⟩⟩, ⟨fun k => w2.heap.size ≤ k ∧ k < w3.heap.size, fun k => w.heap.size ≤ k ∧ k < w4.heap.size, fun k hk => ⟨by omega, by omega⟩⟩,
      ⟨fun k => w1.heap.size ≤ k ∧ k < w2.heap.size, fun k => w.heap.size ≤ k ∧ k < w4.heap.size, fun k hk => ⟨by omega, by omega⟩⟩, ⟨fun k => w3.heap.size ≤ k ∧ k < w4.heap.size, fun k => w.heap.size ≤ k ∧ k < w4.heap.size, fun k hk => ⟨by omega, by omega⟩⟩,
      ⟨⟨fun k hk e => by have h1 := hk.2; have h2 := e.1; omega, fun k => Iff.rfl⟩, ⟨fun k hk e => by have h1 := hk.2; have h2 := e.1; omega, fun k => Iff.rfl⟩, fun k => Iff.rfl, fun k hk e => by
        rcases hk with hk | hk <;> rcases e with e | e <;> have h1 := hk.1 <;> have h2 := hk.2 <;> have h3 := e.1 <;> have h4 := e.2 <;> omega, fun k hk => hk.1⟩,
      fun _ => ⟨DS.new most pages, ?_, ?_⟩, ⟨DS.new 60 4, ?_, ?_⟩, (((HO1.out.trans HO2.out).trans HO3.out).trans HO4.out).trans HO5.out⟩
    · exact (HD.out.any (((HO2.out.trans HO3.out).trans HO4.out).trans HO5.out)).empty rfl (fun _ => rfl) (fun _ => rfl) (fun k hk => hk) (fun k hk => by have := hk.2; omega)
    · exact (HR.out.any (HO4.out.trans HO5.out)).empty rfl (fun k hk => hk) (fun k hk => by have := hk.2; omega)
    · exact (HC.out.any ((HO3.out.trans HO4.out).trans HO5.out)).empty rfl (fun _ => rfl) (fun _ => rfl) (fun k hk => hk) (fun k hk => by have := hk.2; omega)
    · exact (HQ.out.any HO5.out).empty rfl (fun k hk => hk) (fun k hk => by have := hk.2; omega)
  clear HD HC HR HQ HO1 HO2 HO3 HO4 HO5 HB
  go_loopw [15] (fun vi wr => ∃ i : Nat, vi = .int .i64 (i : Int) ∧ i ≤ 140737488351232 ∧ Hid (St true ZA1 ZB1 ZA2 ZB2 w d r c q wr)) (fun vi _ => 140737488351232 - (intOf vi).toNat)
  case atStart => exact ⟨0, rfl, by omega, PP.out⟩
  case round =>
    obtain ⟨i, rfl, hi, hst⟩ := hrel
    clear PP
    have PP := hst
    by_cases hi1 : i < ls1.length
    · obtain ⟨a1, k1, n1, b1, Ab1, cb1, t1, f1, Af1, cf1, X1, rfl, hX1, HOK1, hc1⟩ := opf_at HL1.out hi1
      obtain ⟨p0, p1, p2, p3, p4⟩ := hc1 _ PP.out.ahead
      clear hc1
      by_cases hi2 : i < ls2.length
      · obtain ⟨a2, k2, n2, b2, Ab2, cb2, t2, f2, Af2, cf2, X2, rfl, hX2, HOK2, hc2⟩ := opf_at HL2.out hi2
        have HC2 := Lib.hid hc2
        clear hc2
        go_wp2_with (first
          | (go_at_call_of 26 (Value.pointer (some (⟨d, 0, none⟩ : Addr))); refine (St.step1 FR.out PP.out _ HOK1.out).mono ?_; rintro e w1 ⟨rfl, hp⟩; have PP := Lib.hid hp; obtain ⟨r0, r1, r2, r3, r4⟩ := HC2.out _ hp.ahead; clear hp)
          | (go_at_call_of 26 (Value.pointer (some (⟨c, 0, none⟩ : Addr))); refine (St.step2 FR.out PP.out _ HOK2.out).mono ?_; rintro e w1 ⟨rfl, hp⟩; have PP := Lib.hid hp; clear hp))
        go_roundw
        case rel => exact ⟨i + 1, by go_num, by omega, PP.out⟩
        case measure => simp [intOf]; omega
      · go_wp2_with (go_at_call 26; refine (St.step1 FR.out PP.out _ HOK1.out).mono ?_; rintro e w1 ⟨rfl, hp⟩; have PP := Lib.hid hp; clear hp)
        go_roundw
        case rel => exact ⟨i + 1, by go_num, by omega, PP.out⟩
        case measure => simp [intOf]; omega
    · by_cases hi2 : i < ls2.length
      · obtain ⟨a2, k2, n2, b2, Ab2, cb2, t2, f2, Af2, cf2, X2, rfl, hX2, HOK2, hc2⟩ := opf_at HL2.out hi2
        obtain ⟨p0, p1, p2, p3, p4⟩ := hc2 _ PP.out.ahead
        clear hc2
        go_wp2_with (go_at_call 26; refine (St.step2 FR.out PP.out _ HOK2.out).mono ?_; rintro e w1 ⟨rfl, hp⟩; have PP := Lib.hid hp; clear hp)
        go_roundw
        case rel => exact ⟨i + 1, by go_num, by omega, PP.out⟩
        case measure => simp [intOf]; omega
      · go_wp2_with fail
        go_ret
        exact ⟨rfl, PP.out.ahead⟩

set_option maxRecDepth 100000 in
set_option maxHeartbeats 1600000 in
theorem plays_bad (w : World) (most pages : Int) (hbad : most < 1 ∨ 16777216 < most ∨ pages < 0 ∨ 65536 < pages) (v1 v2 : Value) (ls1 ls2 : List OpF) (hl1 : OpsF w v1 ls1) (hl2 : OpsF w v2 ls2)
    (hb1 : ls1.length ≤ 140737488351232) (hb2 : ls2.length ≤ 140737488351232) :
    Calls Try.prog 5 #[.int .i64 most, .int .i64 pages, v1, v2] w fun e w' => e = .returned (.bool true) ∧ Out Zone.no w w' := by
  obtain ⟨A1, c1, rfl, hc1, hm1, hl1⟩ := hl1
  obtain ⟨A2, c2, rfl, hc2, hm2, hl2⟩ := hl2
  have N1 := Lib.hid (new_bad w most pages hbad)
  have HL2 := Lib.hid hl2
  have HB := Lib.hid hbad
  clear hl1 hl2 hbad
  go_enter Try.func5, Try.ntmps5
  go_wp2_with fail
  refine N1.out.mono ?_
  rintro e w1 ⟨rfl, rfl⟩
  have N2 := Lib.hid (new_ok w 60 4 (by omega) (by omega) (by omega) (by omega))
  clear N1
  go_wp2_with fail
  refine N2.out.mono ?_
  rintro e w2 ⟨c, rfl, hd, _, _, ho2⟩
  have N3 := Lib.hid (rnew_bad w2 most pages HB.out)
  have HC := Lib.hid hd
  have HO2 := Lib.hid ho2
  clear hd ho2 N2
  go_wp2_with fail
  refine N3.out.mono ?_
  rintro e w3 ⟨rfl, rfl⟩
  have N4 := Lib.hid (rnew_ok w2 60 4 (by omega) (by omega) (by omega) (by omega))
  clear N3
  go_wp2_with fail
  refine N4.out.mono ?_
  rintro e w4 ⟨q, rfl, hd, ho4⟩
  have HQ := Lib.hid hd
  have HO4 := Lib.hid ho4
  clear hd ho4 N4
  go_wp2_with (first | (go_at_call 11; refine (num_is _ _).mono ?_; rintro e w' ⟨rfl, rfl⟩) | (go_at_call 12; refine (knows_is _).mono ?_; rintro e w5 ⟨rfl, hok⟩; have HO5 := Lib.hid hok; clear hok))
  obtain ⟨ZA1, ZB1, ZA2, ZB2, FR, PP⟩ : ∃ ZA1 ZB1 ZA2 ZB2, Hid (Four w.heap.size ZA1 ZB1 ZA2 ZB2) ∧ Hid (St false ZA1 ZB1 ZA2 ZB2 w 0 0 c q w5) := by
    have s2 := HO2.out.size
    have s4 := HO4.out.size
    have s5 := HO5.out.size
    refine ⟨⟨fun k => False, fun k => w.heap.size ≤ k ∧ k < w4.heap.size, fun k hk => hk.elim⟩, ⟨fun k => False, fun k => w.heap.size ≤ k ∧ k < w4.heap.size, fun k hk => hk.elim⟩,
      ⟨fun k => w.heap.size ≤ k ∧ k < w2.heap.size, fun k => w.heap.size ≤ k ∧ k < w4.heap.size, fun k hk => ⟨by omega, by omega⟩⟩, ⟨fun k => w2.heap.size ≤ k ∧ k < w4.heap.size, fun k => w.heap.size ≤ k ∧ k < w4.heap.size, fun k hk => ⟨by omega, by omega⟩⟩,
      ⟨⟨fun k hk e => hk, fun k => Iff.rfl⟩, ⟨fun k hk e => by have h1 := hk.2; have h2 := e.1; omega, fun k => Iff.rfl⟩, fun k => Iff.rfl, fun k hk e => hk.elim id id, fun k hk => hk.1⟩,
      fun hf => (by cases hf), ⟨DS.new 60 4, ?_, ?_⟩, (HO2.out.trans HO4.out).trans HO5.out⟩
    · exact (HC.out.any (HO4.out.trans HO5.out)).empty rfl (fun _ => rfl) (fun _ => rfl) (fun k hk => hk) (fun k hk => by have := hk.2; omega)
    · exact (HQ.out.any HO5.out).empty rfl (fun k hk => hk) (fun k hk => by have := hk.2; omega)
  clear HC HQ HO2 HO4 HO5 HB
  go_loopw [15] (fun vi wr => ∃ i : Nat, vi = .int .i64 (i : Int) ∧ i ≤ 140737488351232 ∧ Hid (St false ZA1 ZB1 ZA2 ZB2 w 0 0 c q wr)) (fun vi _ => 140737488351232 - (intOf vi).toNat)
  case atStart => exact ⟨0, rfl, by omega, PP.out⟩
  case round =>
    obtain ⟨i, rfl, hi, hst⟩ := hrel
    clear PP
    have PP := hst
    by_cases hi2 : i < ls2.length
    · obtain ⟨a2, k2, n2, b2, Ab2, cb2, t2, f2, Af2, cf2, X2, rfl, hX2, HOK2, hc2⟩ := opf_at HL2.out hi2
      obtain ⟨p0, p1, p2, p3, p4⟩ := hc2 _ PP.out.ahead
      clear hc2
      by_cases hi1 : i < ls1.length
      all_goals
        go_wp2_with (go_at_call 26; refine (St.step2 FR.out PP.out _ HOK2.out).mono ?_; rintro e w1 ⟨rfl, hp⟩; have PP := Lib.hid hp; clear hp)
        go_roundw
        case rel => exact ⟨i + 1, by go_num, by omega, PP.out⟩
        case measure => simp [intOf]; omega
    · by_cases hi1 : i < ls1.length
      · go_wp2_with fail
        go_roundw
        case rel => exact ⟨i + 1, by go_num, by omega, PP.out⟩
        case measure => simp [intOf]; omega
      · go_wp2_with fail
        go_ret
        exact ⟨rfl, PP.out.ahead⟩

theorem plays_is (w : World) (most pages : Int) (v1 v2 : Value) (ls1 ls2 : List OpF) (hl1 : OpsF w v1 ls1) (hl2 : OpsF w v2 ls2) (hb1 : ls1.length ≤ 140737488351232) (hb2 : ls2.length ≤ 140737488351232) :
    Calls Try.prog 5 #[.int .i64 most, .int .i64 pages, v1, v2] w fun e w' => e = .returned (.bool true) ∧ Out Zone.no w w' := by
  by_cases h : 1 ≤ most ∧ most ≤ 16777216 ∧ 0 ≤ pages ∧ pages ≤ 65536
  · exact plays_good w most pages h.1 h.2.1 h.2.2.1 h.2.2.2 v1 v2 ls1 ls2 hl1 hl2 hb1 hb2
  · exact plays_bad w most pages (by omega) v1 v2 ls1 ls2 hl1 hl2 hb1 hb2
end Go.Proofs.Ytddcojikbcbihaa
