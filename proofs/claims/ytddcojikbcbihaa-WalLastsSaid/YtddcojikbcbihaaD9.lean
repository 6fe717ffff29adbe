import Derived.Test.YtddcojikbcbihaaD8
/-! The program's disk: Write. -/
set_option linter.unusedVariables false
namespace Go.Proofs.Ytddcojikbcbihaa
open Go.RowKit

section
variable {Z : Zone} {w : World} {d p o f : Nat} {lv : Value} {D : DS}

/-- A page's write into the fresh ones. -/
def putF (F : Int → Option (List UInt8)) (q : Int) (b : List UInt8) : Int → Option (List UInt8) := fun k => if k = q then some b else F k

theorem rows_put {V : Int → Option Value} {F : Int → Option (List UInt8)} {q : Int} {v : Value} {b : List UInt8} (hF : ∀ x, match V x with | none => F x = none | some v => ∃ L, F x = some L ∧ Row Z w v (bytes L)) (hv : Row Z w v (bytes b)) :
    ∀ x, match putV V q v x with | none => putF F q b x = none | some v => ∃ L, putF F q b x = some L ∧ Row Z w v (bytes L) := by
  intro x
  unfold putV putF
  by_cases hx : x = q
  · rw [if_pos hx, if_pos hx]; exact ⟨b, rfl, hv⟩
  · rw [if_neg hx, if_neg hx]; exact hF x

/-- The disk behind a store of a fresh page. -/
theorem Disk0.freshen {w2 : World} {V : Int → Option Value} {F' : Int → Option (List UInt8)} {N : Nat} (h : Disk0 Z w d p o f lv D)
    (hm2 : MapV Try.prog 3 w2 f N V) (hF : ∀ x, match V x with | none => F' x = none | some v => ∃ L, F' x = some L ∧ Row Z w v (bytes L)) (hg2 : w.grownBy w2 (some f))
    (hok : ∀ k s, F' k = some s → 0 ≤ k ∧ k < D.count ∧ s.length = 512) :
    Disk0 Z w2 d p o f lv { D with fresh := F' } ∧ Out Z w w2 := by
  have hm := h.map_ne
  have o2 : Out Z w w2 := (Out.refl Z w).grown hg2 (fun k hk => by cases hk; exact Or.inl h.bf)
  have top := h.top
  have hc := h.ok.count
  refine ⟨⟨(hg2.block d (top.lt h.bd) (some_ne (Ne.symm hm.2.2.1))).trans h.sd, (hg2.block p (top.lt h.bp) (some_ne (Ne.symm hm.2.2.2))).trans h.sp, h.log.out o2,
    h.old.out o2 Z.sub (hg2.block o (top.lt h.bo) (some_ne h.ne)), ⟨V, mapV_of_rows hm2 (rows_out o2 hF) (fun k s hs => by have := hok k s hs; omega), rows_out o2 hF⟩, h.bd, h.bp, h.bo, h.bf, top.mono o2.size, h.ne, ?_⟩, o2⟩
  obtain ⟨k1, k2, k3, k4, k5, k6, k7, k8, k9, k10⟩ := h.ok
  exact ⟨k1, k2, k3, k4, k5, k6, k7, k8, k9, hok⟩

set_option maxRecDepth 100000 in
set_option maxHeartbeats 1000000 in
theorem write_ok (h : Disk0 Z w d p o f lv D) (q : Int) (s : Value) (b : List UInt8) (hs : Row Z w s (bytes b)) (hoff : D.off = false) (hpg : D.page q = true) (hb : b.length = 512) (hl : D.left ≠ 0) :
    Calls Try.prog 22 #[.pointer (some ⟨d, 0, none⟩), .int .i64 q, s] w (Does Z d (0, { D.ticked with fresh := putF D.fresh q b }) w) := by
  obtain ⟨B, m, rfl, hm, hm2⟩ := hs.form
  have hmay : D.may true = 0 := by unfold DS.may; rw [hoff]; rfl
  have hop : D.oper = 0 := by unfold DS.oper; rw [if_neg hl]
  have PG := Lib.hid (page_is h q)
  rw [hpg] at PG
  have M := Lib.hid (may_is h true)
  rw [hmay] at M
  have O := Lib.hid (operation_is h hoff)
  rw [hop] at O
  have hq : 0 ≤ q ∧ q < D.count := by
    unfold DS.page at hpg
    simp only [Bool.and_eq_true, decide_eq_true_eq] at hpg
    exact hpg
  have hq2 := h.ok.count
  have HQ := Lib.hid (show _ ∧ _ from ⟨hq, hq2⟩)
  have HS := Lib.hid hs
  have HB := Lib.hid hb
  have hb' : ((b.length : Int) == 512) = true := beq_iff_eq.2 (by omega)
  have HH := Lib.hid h
  have c0 := cells_all h.sd 0
  clear h hmay hop hl hs hpg hb hq hq2 hm hm2
  go_enter Try.func22, Try.ntmps22
  go_wp2_with fail
  refine PG.out.mono ?_
  rintro e w' ⟨rfl, rfl⟩
  go_wp2_with fail
  refine M.out.mono ?_
  rintro e w' ⟨rfl, rfl⟩
  go_wp2_with fail
  refine O.out.mono ?_
  rintro e w1 ⟨rfl, hp1, hg1⟩
  obtain ⟨h1, ho1⟩ := HH.out.ticked hp1 hg1
  have H1 := Lib.hid h1
  have HO1 := Lib.hid ho1
  have c7 := cells_all h1.sd 7
  have T := Lib.hid h1.top
  have HL : Hid ((bytes b).length ≤ 140737488355328) := by show (bytes b).length ≤ _; rw [length_bytes, HB.out]; omega
  have HR := Lib.hid (HS.out.out ho1)
  clear hp1 hg1 c0 ho1 M O HH h1 PG hb'
  obtain ⟨V, hV, hF⟩ := H1.out.fresh
  rw [DS.ticked_fresh] at hF
  have HK := Lib.hid (show ∀ k s, putF D.fresh q b k = some s → 0 ≤ k ∧ k < D.ticked.count ∧ s.length = 512 from fun k s hs => by
    have hq := HQ.out.1
    rw [DS.ticked_count]
    unfold putF at hs
    by_cases hk : k = q
    · rw [if_pos hk] at hs; cases hs; subst hk; exact ⟨hq.1, hq.2, HB.out⟩
    · rw [if_neg hk] at hs; have := H1.out.ok.fresh k s (by rw [DS.ticked_fresh]; exact hs); rwa [DS.ticked_count] at this)
  have HV := Lib.hid hV
  have HF := Lib.hid hF
  have LF := Lib.hid (heap_lt H1.out.sd)
  clear hV hF
  go_wp2_with fail
  go_region_with (go_at_call 47; refine (clone_any _ Z (by exact T.out) _ _ (by exact (Row.drewN HR.out 1)) HL.out).mono ?_; rintro e w2 ⟨v', rfl, ho, hr⟩; have HO := Lib.hid (Out.undrewN ho); have HR2 := Lib.hid hr; have c7' := cells_all (HO.out.get H1.out.sd (id)) 7; clear ho hr; obtain ⟨w3, hrun, hm3, hg3⟩ := (HV.out.out HO.out (id)).update Try.underlying3 Try.underlying51 (by unfold maxLen; omega) (wf_i64 (a := q) (by have := HQ.out; omega) (by have := HQ.out; omega)) v'; have HM3 := Lib.hid hm3; have HG3 := Lib.hid hg3; clear hm3 hg3)
  all_goals
    go_wp2_with fail
    go_ret
    obtain ⟨h5, o5⟩ := (H1.out.any HO.out).freshen HM3.out (rows_put (rows_out HO.out.mono0 HF.out) HR2.out) HG3.out HK.out
    exact ⟨rfl, h5.at_, (HO1.out.trans HO.out.mono0).trans o5⟩

theorem write_is (h : DiskAt Z w d D) (q : Int) (s : Value) (b : List UInt8) (hs : Row Z w s (bytes b)) : Calls Try.prog 22 #[.pointer (some ⟨d, 0, none⟩), .int .i64 q, s] w (Does Z d (D.write q b) w) := by
  obtain ⟨p, o, f, lv, h⟩ := h
  obtain ⟨B, m, rfl, hm, hm2⟩ := hs.form
  have PG := Lib.hid (page_is h q)
  have hbm : (b.length : Int) ≤ 9223372036854775807 := by unfold maxLen at hm2; omega
  by_cases hmay : D.may (D.page q && decide (b.length = 512)) = 0
  · obtain ⟨hoff, hfine⟩ := may_zero hmay
    have hpg : D.page q = true := by
      cases h1 : D.page q
      · rw [h1] at hfine; cases hfine
      · rfl
    have hb : b.length = 512 := by
      rw [hpg] at hfine
      simpa using hfine
    unfold DS.write
    rw [if_neg (by rw [hoff]; simp), if_pos hfine]
    by_cases hl : D.left = 0
    · rw [if_pos hl]
      have hmay2 : D.may true = 0 := by rw [hfine] at hmay; exact hmay
      have hop : D.oper = 9 := by unfold DS.oper; rw [if_pos hl]
      have M := Lib.hid (may_is h true)
      rw [hmay2] at M
      rw [hpg] at PG
      have O := Lib.hid (operation_is h hoff)
      rw [hop] at O
      have HH := Lib.hid h
      have c0 := cells_all h.sd 0
      have hb' : ((b.length : Int) == 512) = true := beq_iff_eq.2 (by omega)
      clear h hmay hop hl hs hm hm2 hpg hb hfine hmay2
      go_enter Try.func22, Try.ntmps22
      go_wp2_with fail
      refine PG.out.mono ?_
      rintro e w' ⟨rfl, rfl⟩
      go_wp2_with fail
      refine M.out.mono ?_
      rintro e w' ⟨rfl, rfl⟩
      go_wp2_with fail
      refine O.out.mono ?_
      rintro e w1 ⟨rfl, hp1, hg1⟩
      obtain ⟨h1, ho1⟩ := HH.out.ticked hp1 hg1
      have H1 := Lib.hid h1.at_
      have HO1 := Lib.hid ho1
      clear hp1 hg1 c0 ho1 M O HH h1
      go_wp2_with fail
      go_ret
      exact ⟨rfl, H1.out, HO1.out⟩
    · rw [if_neg hl]
      exact write_ok h q _ b hs hoff hpg hb hl
  · have hres : ∃ x, D.write q b = (x, D) ∧ D.may (D.page q && decide (b.length = 512)) = x := by
      unfold DS.write DS.may at *
      cases h1 : D.off <;> rw [h1] at hmay
      · cases h2 : (D.page q && decide (b.length = 512)) <;> rw [h2] at hmay
        · exact ⟨1, rfl, rfl⟩
        · exact absurd rfl hmay
      · exact ⟨9, rfl, rfl⟩
    obtain ⟨x, h1, h2⟩ := hres
    have hx : (x == 0) = false := beq_eq_false_iff_ne.2 (h2 ▸ hmay)
    have hx' : (x != 0) = true := bne_iff_ne.2 (h2 ▸ hmay)
    rw [h1]
    have M := Lib.hid (may_is h (D.page q && decide (b.length = 512)))
    rw [h2] at M
    have HH := Lib.hid h.at_
    clear h h1 h2 hmay hs hm hm2
    cases hpg : D.page q
    · rw [hpg] at PG M
      simp only [Bool.false_and] at M
      clear hpg
      go_enter Try.func22, Try.ntmps22
      go_wp2_with (first | (go_at_call 52; refine PG.out.mono ?_; rintro e w' ⟨rfl, rfl⟩) | (go_at_call 43; refine M.out.mono ?_; rintro e w' ⟨rfl, rfl⟩))
      go_ret
      exact ⟨rfl, HH.out, Out.refl _ _⟩
    · rw [hpg] at PG M
      simp only [Bool.true_and] at M
      clear hpg
      by_cases hb : b.length = 512
      · rw [decide_eq_true hb] at M
        have hb' : ((b.length : Int) == 512) = true := beq_iff_eq.2 (by omega)
        clear hb
        go_enter Try.func22, Try.ntmps22
        go_wp2_with (first | (go_at_call 52; refine PG.out.mono ?_; rintro e w' ⟨rfl, rfl⟩) | (go_at_call 43; refine M.out.mono ?_; rintro e w' ⟨rfl, rfl⟩))
        go_ret
        exact ⟨rfl, HH.out, Out.refl _ _⟩
      · rw [decide_eq_false hb] at M
        have hb' : ((b.length : Int) == 512) = false := beq_eq_false_iff_ne.2 (by omega)
        clear hb
        go_enter Try.func22, Try.ntmps22
        go_wp2_with (first | (go_at_call 52; refine PG.out.mono ?_; rintro e w' ⟨rfl, rfl⟩) | (go_at_call 43; refine M.out.mono ?_; rintro e w' ⟨rfl, rfl⟩))
        go_ret
        exact ⟨rfl, HH.out, Out.refl _ _⟩
end
end Go.Proofs.Ytddcojikbcbihaa
