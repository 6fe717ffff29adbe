import Derived.Deep.DeepCutAuto
import Derived.Test.YtddcojikbcbihaaR6
import Derived.Test.YtddcojikbcbihaaD14
/-! The document's disk: Crash. -/
set_option linter.unusedVariables false
namespace Go.Proofs.Ytddcojikbcbihaa
open Go.RowKit

/-- The fresh pages below i, rising. -/
def keysTo (D : DS) (i : Nat) : List Int := ((List.range i).map Int.ofNat).filter fun k => (D.fresh k).isSome
theorem keysTo_count (D : DS) : keysTo D D.count = D.keys := rfl
theorem keysTo_none {D : DS} {i : Nat} (h : D.fresh i = none) : keysTo D (i + 1) = keysTo D i := by
  unfold keysTo
  rw [List.range_succ, List.map_append, List.filter_append]
  simp [h]
theorem keysTo_some {D : DS} {i : Nat} {s : List UInt8} (h : D.fresh i = some s) : keysTo D (i + 1) = keysTo D i ++ [(i : Int)] := by
  unfold keysTo
  rw [List.range_succ, List.map_append, List.filter_append]
  simp [h]
theorem keysTo_end {D : DS} {i : Nat} (h : ∀ k, freshFrom D i k = none) : ∀ n, keysTo D (i + n) = keysTo D i
  | 0 => rfl
  | n + 1 => by
    rw [← keysTo_end h n, ← Nat.add_assoc]
    refine keysTo_none ?_
    have := h ((i + n : Nat) : Int)
    unfold freshFrom at this
    rwa [if_neg (by omega)] at this
theorem keysTo_all {D : DS} {i : Nat} (h : ∀ k, freshFrom D i k = none) (hi : i ≤ D.count) : keysTo D i = D.keys := by
  rw [← keysTo_count, ← keysTo_end h (D.count - i)]
  congr 1
  omega
theorem keysTo_mem {D : DS} {i : Nat} {k : Int} (h : k ∈ keysTo D i) : (D.fresh k).isSome = true := by
  unfold keysTo at h
  exact (List.mem_filter.1 h).2

theorem Ref0.drew {Z : Zone} {w : World} {r o f : Nat} {lv : Value} {D : DS} (h : Ref0 Z w r o f lv D) : Ref0 Z w.drew r o f lv D := ⟨h.sr, h.log, h.old, h.fresh, h.br, h.bo, h.bf, h.top, h.ne, h.ok⟩
theorem owns_mk {base : Nat} {w : World} {v : Value} {n : Nat} {L : List UInt8} (h : w.ownsRow base 5 1 v n (bytes L)) (hn : L.length = n) : Owns base w v L := by subst hn; exact h

section
variable {Z : Zone} {w : World} {r o f : Nat} {lv : Value} {D D' : DS}
/-- delete(fresh, i) -/
theorem Ref0.drop1 (h : Ref0 Z w r o f lv D') (i : Nat) (hi : i < D'.count) (hD : D'.fresh = freshFrom D i) (hok : ∀ k s, D.fresh k = some s → 0 ≤ k ∧ k < D'.count ∧ s.length = 512) :
    ∃ w6, (Builtin.delete_ #[93, 3] 0 #[.map (some f), .int .i64 (i : Int)]).run Try.prog w = .ok (.tuple #[]) w6 ∧ Ref0 Z w6 r o f lv { D' with fresh := freshFrom D (i + 1) } ∧ Out Z w w6 := by
  have hc := h.ok.count
  have hfr := h.fresh
  rw [hD] at hfr
  obtain ⟨w6, hrun6, hm6, hg6⟩ := MapV.delete (ty := 0) Try.underlying3 Try.underlying93 hfr (wf_i64 (a := (i : Int)) (by omega) (by omega))
  rw [freshFrom_some] at hm6
  obtain ⟨h6, o6⟩ := h.freshen hm6 hg6 (fun k s hs => by
    unfold freshFrom at hs
    split at hs
    · cases hs
    · exact hok k s hs)
  exact ⟨w6, hrun6, h6, o6⟩
end

section
variable {Z : Zone} {w : World} {r o f : Nat} {lv : Value} {D : DS}

set_option maxRecDepth 100000 in
set_option maxHeartbeats 4000000 in
theorem rcrash_ok (h : Ref0 Z w r o f lv D) (keep : Int) (hkeep : -9223372036854775808 ≤ keep ∧ keep ≤ 9223372036854775807) (torn tt : Bool) (htt : torn = tt) (fv : Value) (F : List Int) (hf : Row Z w fv (F.map (Value.int .i64))) (hF : ∀ x ∈ F, -9223372036854775808 ≤ x ∧ x ≤ 9223372036854775807) :
    Calls Try.prog 60 #[.pointer (some ⟨r, 0, none⟩), .int .i64 keep, .bool torn, fv] w fun e w' => e = .returned (.tuple #[]) ∧ RefAt Z w' r (D.crash keep tt F) ∧ Out Z w w' := by
  obtain ⟨A, c, rfl, hc, hc2⟩ := h.log.form
  have k4 := h.ok.log
  have k5 := h.ok.most
  have k8 := h.ok.sure
  have c5 := cells_all h.sr 5
  have c6 := cells_all h.sr 6
  have HH := Lib.hid h
  have HT := Lib.hid htt
  have HF := Lib.hid hf
  have HFF := Lib.hid hF
  clear h hf hF htt
  go_enter Try.func60, Try.ntmps60
  go_wp2_with fail
  go_quiet (fail)
  rename_i nq
  obtain ⟨m, hm⟩ : ∃ m : Nat, min (max keep 0) ((D.log.length : Int) - (D.sure : Int)) = (m : Int) := ⟨(min (max keep 0) ((D.log.length : Int) - (D.sure : Int))).toNat, by omega⟩
  rw [hm]
  have n1 : D.sure + m ≤ D.log.length := by omega
  have hst : D.stay keep = D.sure + m := by unfold DS.stay; omega
  have HST := Lib.hid hst
  clear hm hst
  go_wp2_with fail
  have q1 : IntKind.i64.wrap ((D.sure : Int) + (m : Int)) = (((D.sure + m : Nat)) : Int) := by rw [IntWalk.i64_in _ (by omega)]; omega
  obtain ⟨A2, x2, w1, hrun, hown, ho1⟩ : ∃ A2 x2 w1, (Builtin.append_ #[22, 22] 22 #[.slice (some ⟨w.heap.size, 0, none⟩) 0 0, .slice A (D.sure + m) c]).run Try.prog ((w.drewN (nq + 1)).alloc (.cells #[] 5)) = .ok (.slice A2 (D.sure + m) x2) w1 ∧ Owns w.heap.size w1 (.slice A2 (D.sure + m) x2) (D.log.take (D.sure + m)) ∧ Out Zone.no w w1 := by
    have o0 := ((Out.refl Zone.no w).drewN (nq + 1)).alloc (.cells #[] 5)
    have hr := HH.out.log.far o0 (fun _ h => h.elim)
    have hr2 := hr.cut3 (l := 0) (k := D.sure + m) (m := c) (by omega) (by omega) (by omega) (Nat.le_refl _)
    rw [List.drop_zero, ← bytes_take] at hr2
    unfold cut3 at hr2
    have hr3 : Row Z ((w.drewN (nq + 1)).alloc (.cells #[] 5)) (.slice A (D.sure + m) c) (bytes (D.log.take (D.sure + m))) := by
      by_cases hc0 : c = 0
      · rw [if_pos hc0] at hr2; exact hr2
      · rw [if_neg hc0] at hr2
        have e0 : A.map (·.add 0) = A := by cases A <;> simp [Addr.add]
        rw [e0] at hr2
        exact hr2
    have hown : Owns w.heap.size ((w.drewN (nq + 1)).alloc (.cells #[] 5)) (.slice (some ⟨w.heap.size, 0, none⟩) 0 0) [] :=
      World.ownsRow_lit (base := w.heap.size) (e := 5) (size := 1) (w.drewN (nq + 1)) #[] 0 (Nat.le_refl _) (Nat.zero_le _) (by simp)
    have hlen : (D.log.take (D.sure + m)).length = D.sure + m := by rw [List.length_take]; omega
    obtain ⟨v1, w1, hrun1, h1, hg1, hf1⟩ := hown.append (Z := Z) o0.size hr3 (by rw [hlen]; simp only [List.length_nil]; omega) 22
    rw [List.nil_append] at h1
    obtain ⟨A2, x2, rfl, _, _⟩ := h1.form
    rw [hlen] at hrun1 h1
    exact ⟨A2, x2, w1, hrun1, h1, o0.grown hg1 (fun k hk => Or.inr (by simp only [Value.ownBlock] at hk; injection hk with hk; omega))⟩
  have HR := Lib.hid hrun
  have HOWN := Lib.hid hown
  have HO1 := Lib.hid ho1
  have h1 := HH.out.any ho1
  have H1 := Lib.hid h1
  have c5' := cells_all h1.sr 5
  have f5' := frozen_all h1.sr 5
  clear hrun hown ho1 h1
  have cA := fun n => cells_all (HH.out.any (((Out.refl Zone.no w).drewN n).alloc (.cells #[] 5))).sr 5
  have cB := fun n => cells_all (HH.out.any (((Out.refl Zone.no w).drewN n).alloc (.cells #[] 5))).sr 6
  have hsl : ∀ W, (Instr.slice 22 (.slice A D.log.length c) none (some (.int .i64 ((D.sure : Int) + (m : Int)))) none).run Try.prog W = .ok (.slice A (D.sure + m) c) W := fun W => by
    have := run_slice_h elem22 A D.log.length c (D.sure + m) (by omega) W
    rw [Int.natCast_add] at this
    rw [this]
    unfold cut3
    by_cases hc0 : c = 0
    · rw [if_pos hc0]; rfl
    · rw [if_neg hc0]
      have e0 : A.map (·.add 0) = A := by cases A <;> simp [Addr.add]
      rw [e0]; rfl
  clear q1
  have q2 : IntKind.i64.wrap ((D.sure : Int) + (m : Int)) = (D.sure : Int) + (m : Int) := by rw [IntWalk.i64_in _ (by omega)]
  go_upto_region 1 with fail
  go_cut [8] (fun s8 wx => s8 = .int .i64 (m : Int) ∧ wx = w1.setCell ⟨r, 5, none⟩ (.slice A2 (D.sure + m) x2))
  case first =>
    go_region_law (refine step_builtin rfl _ _ _ rfl (by exact HR.out) ?_)
    all_goals (go_wp2_with fail; go_meet; exact ⟨rfl, rfl⟩)
  case rest =>
    obtain ⟨rfl, rfl⟩ := hcut
    clear cA cB hsl q2 c5 c6
    obtain ⟨N, hN⟩ : ∃ N, D.sure + m = N := ⟨_, rfl⟩
    rw [hN] at HST HOWN n1 ⊢
    have HNE := Lib.hid hN
    have q3 : (D.sure : Int) + (m : Int) = (N : Int) := by omega
    have Q3 := Lib.hid q3
    clear hN q3
    have HL : Hid ((bytes (D.log.take N)).length = N) := by show (bytes (D.log.take N)).length = N; rw [length_bytes, List.length_take]; omega
    have hown := HOWN.out
    unfold Owns at hown
    rw [show (D.log.take N).length = N from by rw [List.length_take]; omega] at hown
    go_upto_region 2 with fail
    go_cut [8, 48] (fun s8 s48 wx => s8 = .int .i64 (m : Int) ∧ s48 = .bool (torn && decide (0 < m)) ∧ wx = w1.setCell ⟨r, 5, none⟩ (.slice A2 N x2))
    case first =>
      cases torn
      all_goals
        go_wp2_with fail
        go_meet
        exact ⟨rfl, rfl, rfl⟩
    case rest =>
    obtain ⟨rfl, rfl, rfl⟩ := hcut
    go_upto_if 48 with fail
    go_cut [8] (fun s8 wx => s8 = .int .i64 (m : Int) ∧ Exists fun A3 : Option Addr => Exists fun x3 : Nat => Hid (Row Z wx (.slice A3 N x3) (bytes (DS.tear D.log N D.sure tt))) ∧
      Hid (wx.heap[r]? = some (.cells #[.int .i64 D.most, .int .i64 D.count, .int .i64 D.left, .bool D.off, .int .i64 D.base, .slice A3 N x3, .int .i64 D.sure, .map (some o), .map (some f)] 95 (0, 0))) ∧
      Hid (∀ k, k ≠ r → Z.S k → wx.heap[k]? = w1.heap[k]?) ∧ Hid (Out Z w wx))
    case first =>
      by_cases ht : torn = true ∧ 0 < m
      case' neg =>
        have hgd : (torn = false) ∨ (torn = true ∧ ¬ 0 < m) := by
          cases torn
          · exact Or.inl rfl
          · exact Or.inr ⟨rfl, fun e => ht ⟨rfl, e⟩⟩
        have htr : DS.tear D.log N D.sure tt = D.log.take N := by
          unfold DS.tear
          rw [if_neg]
          rintro ⟨e1, e2⟩
          exact ht ⟨by rw [HT.out, e1], by have := HNE.out; omega⟩
        have hr2 : Hid (Row Z (w1.setCell ⟨r, 5, none⟩ (.slice A2 N x2)) (.slice A2 N x2) (bytes (DS.tear D.log N D.sure tt))) := by
          show Row _ _ _ _
          have hdb : r < w.heap.size := HH.out.top.lt HH.out.br
          have g3 := own_far hown (q := ⟨r, 5, none⟩) hdb (.slice A2 N x2)
          rw [htr]
          have g4 := owns_mk g3 (by rw [List.length_take]; omega)
          exact g4.row (fun g hg => HH.out.top.fresh (World.ownsRow.lt g4 g hg).1)
        have H2 : Hid (_ ∧ _ ∧ _) := Lib.hid (⟨heap_set H1.out.sr 5 (.slice A2 N x2), (fun k hk (_ : Z.S k) => Below.heap_setCell w1 ⟨r, 5, none⟩ (.slice A2 N x2) k hk), (HO1.out.mono0 (Z' := Z)).setCell (p := ⟨r, 5, none⟩) (Or.inl H1.out.br) (.slice A2 N x2)⟩ : _ ∧ _ ∧ _)
        clear ht htr hown HOWN
        have hgd' : (torn && decide (0 < m)) = false := by
          rcases hgd with rfl | ⟨rfl, hns⟩
          · rfl
          · simp; omega
        rw [hgd']
        all_goals
          go_wp2_with fail
          go_meet
          exact ⟨rfl, A2, x2, hr2.out, by show _ = _; simpa using H2.out.1, H2.out.2.1, H2.out.2.2⟩
      case' pos =>
        obtain ⟨rfl, ht2⟩ := ht
        rw [show (true && decide (0 < m)) = true from by simp [ht2]]
        obtain ⟨g, cap, hA2, hbg, hlt⟩ := World.ownsRow.form hown (by have := HNE.out; omega)
        injection hA2 with hA2 hA3 hA4
        subst hA2
        subst hA4
        have hgr : ¬ g = r := by have := HH.out.top.lt HH.out.br; omega
        have hgr' : ¬ r = g := fun e => hgr e.symm
        have hx := hown.cellAt (N - 1) (by have := HNE.out; omega)
        have hfr := hown.frozenAt (N - 1)
        obtain ⟨x, hxd⟩ : ∃ x, D.log.getD (N - 1) 0 = x := ⟨_, rfl⟩
        have htt' : tt = true := HT.out.symm
        obtain ⟨hb1, hb2⟩ := tear_one D.log N D.sure n1 (by have := HNE.out; omega) x hxd
        rw [hb1] at hx
        have hxor := xor_byte x
        have e1 : IntKind.i64.wrap ((N : Int) - 1) = ((N - 1 : Nat) : Int) := by rw [IntWalk.i64_in _ (by omega)]; have := HNE.out; omega
        have hr2 : Hid (Row Z ((w1.setCell ⟨r, 5, none⟩ (.slice (some ⟨g, 0, none⟩) N x2)).setCell ⟨g, N - 1, none⟩ (.int .u8 ((x.toNat ^^^ 85 : Nat) : Int))).drew (.slice (some ⟨g, 0, none⟩) N x2) (bytes (DS.tear D.log N D.sure tt))) := by
          show Row _ _ _ _
          have hdb : r < w.heap.size := HH.out.top.lt HH.out.br
          have g1 := own_far hown (q := ⟨r, 5, none⟩) hdb (.slice (some ⟨g, 0, none⟩) N x2)
          have g2 := (g1.stored (N - 1) (.int .u8 ((x.toNat ^^^ 85 : Nat) : Int))).1
          rw [hb2, ← htt'] at g2
          have g4 := owns_mk g2 (by rw [DS.length_tear]; omega)
          exact (g4.row (fun g hg => HH.out.top.fresh (World.ownsRow.lt g4 g hg).1)).drewN 1
        have H2 : Hid (_ ∧ _ ∧ _) := Lib.hid (⟨heap_far (heap_set H1.out.sr 5 (.slice (some ⟨g, 0, none⟩) N x2)) (p := ⟨g, N - 1, none⟩) hgr' (.int .u8 ((x.toNat ^^^ 85 : Nat) : Int)),
          (fun k hk (hks : Z.S k) => (Below.heap_setCell (w1.setCell ⟨r, 5, none⟩ (.slice (some ⟨g, 0, none⟩) N x2)) ⟨g, N - 1, none⟩ (.int .u8 ((x.toNat ^^^ 85 : Nat) : Int)) k (fun e => by
            have h2 := HH.out.top.lt hks
            have : k = g := e
            omega)).trans (Below.heap_setCell w1 ⟨r, 5, none⟩ (.slice (some ⟨g, 0, none⟩) N x2) k hk)),
          ((HO1.out.mono0 (Z' := Z)).setCell (p := ⟨r, 5, none⟩) (Or.inl H1.out.br) (.slice (some ⟨g, 0, none⟩) N x2)).setCell (p := ⟨g, N - 1, none⟩) (Or.inr (show w.heap.size ≤ g from hbg)) (.int .u8 ((x.toNat ^^^ 85 : Nat) : Int))⟩ : _ ∧ _ ∧ _)
        have HH2 : Hid (((w1.setCell ⟨r, 5, none⟩ (.slice (some ⟨g, 0, none⟩) N x2)).setCell ⟨g, N - 1, none⟩ (.int .u8 ((x.toNat ^^^ 85 : Nat) : Int))).heap[r]? = some (.cells #[.int .i64 D.most, .int .i64 D.count, .int .i64 D.left, .bool D.off, .int .i64 D.base, .slice (some ⟨g, 0, none⟩) N x2, .int .i64 D.sure, .map (some o), .map (some f)] 95 (0, 0))) := by
          show _ = _
          simpa using H2.out.1
        have q5 : (0 : Int) ≤ ((N - 1 : Nat) : Int) := by omega
        have q6 : ((N - 1 : Nat) : Int) < (N : Int) := by have := HNE.out; omega
        clear hown hb1 hb2 hxd htt' HOWN
        go_wp2_with fail
        go_region
        go_wp2_with fail
        go_meet
        exact ⟨rfl, some ⟨g, 0, none⟩, x2, hr2.out, HH2.out, H2.out.2.1, H2.out.2.2.drew⟩
    case rest =>
      obtain ⟨rfl, A3, x3, hr3, hh3, hk3, ho3⟩ := hcut
      rename_i wc
      have c5' := cells_all hh3.out 5
      have c6' := cells_all hh3.out 6
      have f6' := frozen_all hh3.out 6
      have H2 : Hid (_ ∧ _) := Lib.hid (⟨HH.out.remake { D with log := DS.tear D.log N D.sure tt, sure := N } (.slice A3 N x3)
        (w' := wc.setCell ⟨r, 6, none⟩ (.int .i64 (N : Int)))
        (by simpa using heap_set hh3.out 6 (.int .i64 (N : Int)))
        (ho3.out.setCell (p := ⟨r, 6, none⟩) (Or.inl H1.out.br) (.int .i64 (N : Int)))
        (fun k hk hks => ((Below.heap_setCell wc ⟨r, 6, none⟩ (.int .i64 (N : Int)) k hk).trans (hk3.out k hk hks)).trans (HO1.out.block k (HH.out.top.lt hks) id)) rfl rfl
        (hr3.out.out ((Out.refl Z wc).setCell (p := ⟨r, 6, none⟩) (Or.inl H1.out.br) (.int .i64 (N : Int)))) (HH.out.ok.tearOk N n1 tt),
        ho3.out.setCell (p := ⟨r, 6, none⟩) (Or.inl H1.out.br) (.int .i64 (N : Int))⟩ : _ ∧ _)
      go_wp2_with fail
      obtain ⟨w2, hw2⟩ : ∃ w2, wc.setCell ⟨r, 6, none⟩ (.int .i64 (N : Int)) = w2 := ⟨_, rfl⟩
      rw [hw2] at H2 ⊢
      clear hw2 c5' c6' f6' hr3 hh3 hk3 ho3 hown HOWN
      obtain ⟨lv2, H3⟩ : ∃ lv2, Hid (Ref0 Z w2 r o f lv2 { D with log := DS.tear D.log N D.sure tt, sure := N } ∧ Out Z w w2) := ⟨_, H2⟩
      clear H2
      have kc := HH.out.ok.count
      go_loopw [3, 9] (fun vF vi wr => ∃ i : Nat, i ≤ D.count ∧ vi = .int .i64 (i : Int) ∧ Hid (Row Z wr vF ((F.drop (keysTo D i).length).map (Value.int .i64))) ∧
        Hid (Ref0 Z wr r o f lv2 { D with log := DS.tear D.log N D.sure tt, sure := N, old := DS.crashOld D.fresh (keysTo D i) F D.old, fresh := freshFrom D i }) ∧ Hid (Out Z w wr))
        (fun _ vi _ => D.count - (intOf vi).toNat)
      case atStart => exact ⟨0, Nat.zero_le _, rfl, by
        show Row Z w2 fv _
        exact HF.out.out H3.out.2, by
        show Ref0 _ _ _ _ _ _ _
        rw [freshFrom_zero HH.out.ok]
        exact H3.out.1, H3.out.2⟩
      case round =>
        obtain ⟨i, hi, rfl, hrF, hr, how⟩ := hrel
        obtain ⟨G, hG⟩ : ∃ G, F.drop (keysTo D i).length = G := ⟨_, rfl⟩
        rw [hG] at hrF
        have HG := Lib.hid hG
        clear hG
        obtain ⟨AF, cF, hvF, hcF, hcF2⟩ := hrF.out.form0
        rw [List.length_map] at hvF hcF
        subst hvF
        unfold maxLen at hcF2
        have FIN : Hid ((∀ k, freshFrom D i k = none) → RefAt Z ((wr.setCell ⟨r, 3, none⟩ (.bool false)).setCell ⟨r, 2, none⟩ (.int .i64 (-1))) r (D.crash keep tt F) ∧ Out Z w ((wr.setCell ⟨r, 3, none⟩ (.bool false)).setCell ⟨r, 2, none⟩ (.int .i64 (-1)))) := fun hn => by
          have hk := keysTo_all hn hi
          have e2 := (to_end hn).2
          have h9 := hr.out
          rw [hk, e2] at h9
          obtain ⟨h10, o10⟩ := h9.store { D with left := -1, off := false, log := DS.tear D.log N D.sure tt, sure := N, old := DS.crashOld D.fresh D.keys F D.old, fresh := fun _ => none } lv2
            (w' := (wr.setCell ⟨r, 3, none⟩ (.bool false)).setCell ⟨r, 2, none⟩ (.int .i64 (-1)))
            (by simpa using heap_set (heap_set h9.sr 3 (.bool false)) 2 (.int .i64 (-1))) (grown_set2 _ _ _ _ _ _) rfl rfl h9.log (by
              obtain ⟨k1, k2, k3, k4, k5, k6, k7, k8, k9, k10⟩ := h9.ok
              exact ⟨k1, k2, k3, k4, k5, k6, by simp only; omega, by simp only; omega, k9, k10⟩)
          have e1 : D.crash keep tt F = { D with left := -1, off := false, log := DS.tear D.log N D.sure tt, sure := N, old := DS.crashOld D.fresh D.keys F D.old, fresh := fun _ => none } := by
            unfold DS.crash; rw [HST.out]
          rw [e1]
          exact ⟨h10.at_, how.out.trans o10⟩
        have c1 := cells_all hr.out.sr 1
        have c2 := cells_all hr.out.sr 2
        have c3 := cells_all hr.out.sr 3
        have c7 := cells_all hr.out.sr 7
        have c8 := cells_all hr.out.sr 8
        have f2 := frozen_all hr.out.sr 2
        have f3 := frozen_all hr.out.sr 3
        by_cases hlt : i < D.count
        · obtain ⟨mm, hm1, hm2, hm3⟩ := MapV.len Try.underlying93 hr.out.fresh 3
          have hm4 : (mm : Int) ≤ 65536 := by omega
          have HM3 := Lib.hid hm3
          clear hm3
          by_cases hm0 : mm = 0
          · subst hm0
            have HN := Lib.hid (FIN.out (fun k => by
              have := HM3.out rfl k
              unfold strF at this
              cases hx : freshFrom D i k with
              | none => rfl
              | some s => simp only [hx] at this; cases this))
            go_wp2_with fail
            go_end0
            exact ⟨rfl, HN.out⟩
          · have hm5 : (0 : Int) < (mm : Int) := by omega
            have hlk := MapV.look2 Try.underlying3 Try.underlying93 zero9 hr.out.fresh (wf_i64 (a := (i : Int)) (by omega) (by omega))
            simp only [strF, freshFrom_at] at hlk
            cases hv : D.fresh i with
            | none =>
              rw [hv] at hlk
              have HV := Lib.hid hv
              clear hv
              go_wp2_with fail
              go_roundw
              case rel => exact ⟨i + 1, by omega, by go_num, by show Row _ _ _ _; rw [keysTo_none HV.out, HG.out]; exact hrF.out, by show Ref0 _ _ _ _ _ _ _; rw [keysTo_none HV.out, freshFrom_none HV.out]; exact hr.out, how⟩
              case measure => simp [intOf]; omega
            | some s =>
              rw [hv] at hlk
              have HV := Lib.hid hv
              clear hv
              have HK1 : Hid (keysTo D (i + 1) = keysTo D i ++ [(i : Int)]) := keysTo_some HV.out
              have HST2 : Hid (DS.crashOld D.fresh (keysTo D (i + 1)) F D.old = DS.stepOld i (DS.fateOf G) D.fresh (DS.crashOld D.fresh (keysTo D i) F D.old)) := by
                show _ = _
                rw [HK1.out, DS.crashOld_snoc, HG.out]
              have HSO : Hid (∀ q t, DS.stepOld i (DS.fateOf G) D.fresh (DS.crashOld D.fresh (keysTo D i) F D.old) q = some t → 0 ≤ q ∧ q < D.count ∧ t.length = 512) :=
                DS.stepOld_ok HH.out.ok hr.out.ok.old (by rw [HV.out]; rfl) _
              have HFI := Lib.hid (HH.out.ok.fresh i s HV.out)
              have hsz : (str s).size = 512 := by have := HFI.out.2.2; simpa [str, ByteArray.size] using this
              -- what is left when the page has been dealt with
              have DEL : Hid (∀ wx, Ref0 Z wx r o f lv2 { D with log := DS.tear D.log N D.sure tt, sure := N, old := DS.crashOld D.fresh (keysTo D (i + 1)) F D.old, fresh := freshFrom D i } →
                  ∃ w6, (Builtin.delete_ #[93, 3] 0 #[.map (some f), .int .i64 (i : Int)]).run Try.prog wx = .ok (.tuple #[]) w6 ∧ Ref0 Z w6 r o f lv2 { D with log := DS.tear D.log N D.sure tt, sure := N, old := DS.crashOld D.fresh (keysTo D (i + 1)) F D.old, fresh := freshFrom D (i + 1) } ∧ Out Z wx w6) := fun wx hx =>
                hx.drop1 (D := D) i hlt rfl HH.out.ok.fresh
              have HNX : Hid (∀ G', G.tail = G' → F.drop (keysTo D (i + 1)).length = G') := fun G' hG' => by
                rw [HK1.out, List.length_append, ← hG', ← HG.out, List.tail_drop]; rfl
              cases G with
              | nil =>
                clear hcF2
                have h5 := hr.out
                rw [show DS.crashOld D.fresh (keysTo D i) F D.old = DS.crashOld D.fresh (keysTo D (i + 1)) F D.old from by rw [HST2.out]; rfl] at h5
                obtain ⟨w6, hrun6, h6, o6⟩ := DEL.out wr h5
                have H6 := Lib.hid h6
                have O6 := Lib.hid o6
                clear h5 h6 o6
                go_wp2_with fail
                go_roundw
                case rel => exact ⟨i + 1, by omega, by go_num, by show Row _ _ _ _; rw [HNX.out [] rfl]; exact hrF.out.out O6.out, H6.out, how.out.trans O6.out⟩
                case measure => simp [intOf]; omega
              | cons f0 G' =>
                simp only [List.length_cons] at hcF
                obtain ⟨aF, rfl, hcF0⟩ : ∃ aF, AF = some aF ∧ wr.cell? aF = some (.int .i64 f0) := by
                  obtain ⟨A', c', hv, _, _, g3⟩ := hrF.out
                  injection hv with hv1 hv2 hv3
                  obtain ⟨a, ha, _, hc⟩ := g3 0 (.int .i64 f0) rfl
                  exact ⟨a, hv1.trans ha, by simpa [Addr.add] using hc⟩
                obtain ⟨A'', hA⟩ : ∃ A'', (if cF = 1 then some aF else some (⟨aF.block, aF.off + 1, none⟩ : Addr)) = A'' := ⟨_, rfl⟩
                have hrF2 : Row Z wr (.slice A'' G'.length (cF - 1)) (G'.map (Value.int .i64)) := by
                  have h10 := hrF.out.from_ (k := 1) (by simp)
                  rw [List.map_cons, List.drop_succ_cons, List.drop_zero] at h10
                  rw [← hA]
                  have e10 : aF.add 1 = ⟨aF.block, aF.off + 1, none⟩ := by simp [Addr.add]
                  rw [← e10]
                  exact h10
                have HF2 := Lib.hid hrF2
                have t1 : -3 < f0.tmod 3 ∧ f0.tmod 3 < 3 := by
                  have := Int.tmod_eq_emod (a := f0) (b := 3)
                  have h2 := Int.emod_nonneg f0 (show (3 : Int) ≠ 0 by omega)
                  have h3 := Int.emod_lt_of_pos f0 (show (0 : Int) < 3 by omega)
                  rw [this]
                  split <;> simp <;> omega
                have ew : IntKind.i64.wrap (f0.tmod 3 + 3) = f0.tmod 3 + 3 := IntWalk.i64_in _ (by omega)
                have hfc := DS.fate_cases (f0 :: G')
                have q8 : G'.length ≤ 9223372036854775806 := by omega
                clear hrF2 t1 hcF2
                rcases hfc with hfc | hfc | hfc
                · have h5 := hr.out
                  rw [show DS.crashOld D.fresh (keysTo D i) F D.old = DS.crashOld D.fresh (keysTo D (i + 1)) F D.old from by rw [HST2.out, hfc]; rfl] at h5
                  obtain ⟨w6, hrun6, h6, o6⟩ := DEL.out wr h5
                  have H6 := Lib.hid h6
                  have O6 := Lib.hid o6
                  simp only [DS.fateOf] at hfc
                  clear h5 h6 o6
                  go_wp2_with fail
                  go_roundw
                  case rel => exact ⟨i + 1, by omega, by go_num, by show Row _ _ _ _; rw [HNX.out G' rfl]; exact HF2.out.out O6.out, H6.out, how.out.trans O6.out⟩
                  case measure => simp [intOf]; omega
                · have hso := HSO.out
                  have e9 : DS.stepOld i (DS.fateOf (f0 :: G')) D.fresh (DS.crashOld D.fresh (keysTo D i) F D.old) = putF (DS.crashOld D.fresh (keysTo D i) F D.old) i s := by
                    rw [hfc]
                    unfold DS.stepOld
                    rw [if_pos rfl, HV.out]
                    rfl
                  rw [e9] at hso
                  obtain ⟨w5, hrun5, hm5', hg5⟩ := MapV.update Try.underlying3 Try.underlying93 hr.out.old (by unfold maxLen; omega) (wf_i64 (a := (i : Int)) (by omega) (by omega)) (.string (str s))
                  rw [strF_put] at hm5'
                  obtain ⟨h5, o5⟩ := hr.out.reold hm5' hg5 hso
                  simp only at h5
                  rw [← e9, ← HST2.out] at h5
                  obtain ⟨w6, hrun6, h6, o6⟩ := DEL.out w5 h5
                  have c8' := cells_all h5.sr 8
                  have H6 := Lib.hid h6
                  have O6 := Lib.hid (o5.trans o6)
                  simp only [DS.fateOf] at hfc
                  clear h5 h6 o6 hso e9 o5 hm5' hg5
                  go_wp2_with fail
                  go_roundw
                  case rel => exact ⟨i + 1, by omega, by go_num, by show Row _ _ _ _; rw [HNX.out G' rfl]; exact HF2.out.out O6.out, H6.out, how.out.trans O6.out⟩
                  case measure => simp [intOf]; omega
                · have hso := HSO.out
                  have e9 : DS.stepOld i (DS.fateOf (f0 :: G')) D.fresh (DS.crashOld D.fresh (keysTo D i) F D.old) = putF (DS.crashOld D.fresh (keysTo D i) F D.old) i DS.lost := by
                    rw [hfc]
                    unfold DS.stepOld
                    rw [if_neg (by omega), if_pos rfl]
                  rw [e9] at hso
                  have HSO2 := Lib.hid hso
                  have E9 := Lib.hid e9
                  simp only [DS.fateOf] at hfc
                  have hm := make_zero wr
                  have hz5 : (wr.alloc zeroBlk).heap[wr.heap.size]? = some zeroBlk := heap_alloc_new wr zeroBlk
                  unfold zeroBlk at hz5
                  have hzs : (madeCells #[.int .u8 0] 512).size = 512 := by
                    have := congrArg List.length (toList_madeCells_one (.int .u8 0) 512)
                    simpa using this
                  have o5 : Out Zone.no wr (wr.alloc zeroBlk) := (Out.refl Zone.no wr).alloc _
                  obtain ⟨g5, hg5⟩ : ∃ g, wr.heap.size = g := ⟨_, rfl⟩
                  have HZ5 : Hid (Exists fun cs : Array Value => (wr.alloc zeroBlk).heap[g5]? = some (.cells cs 5 (0, 0)) ∧ cs.size = 512 ∧ ∀ j, j < 0 → cs[j]? = some (.int .u8 255)) := ⟨_, by rw [← hg5]; exact hz5, hzs, fun j hj => by omega⟩
                  rw [hg5] at hm
                  have HG5 := Lib.hid hg5
                  have O5 := Lib.hid o5
                  clear hso e9 hz5 hzs hg5 o5
                  go_wp2_with fail
                  obtain ⟨W5, hW5⟩ : ∃ W5, wr.alloc zeroBlk = W5 := ⟨_, rfl⟩
                  rw [hW5] at HZ5 O5 ⊢
                  clear hW5 hm
                  obtain ⟨wo, rfl⟩ : ∃ wo : World, wo = wr := ⟨_, rfl⟩
                  go_loopw [14] (fun vk wx => ∃ k : Nat, k ≤ 512 ∧ vk = .int .i64 (k : Int) ∧ Hid (Exists fun cs : Array Value => wx.heap[g5]? = some (.cells cs 5 (0, 0)) ∧ cs.size = 512 ∧ ∀ j, j < k → cs[j]? = some (.int .u8 255)) ∧ Hid (Out Zone.no wo wx)) (fun vk _ => 512 - (intOf vk).toNat)
                  case atStart => exact ⟨0, by omega, rfl, HZ5.out, O5.out⟩
                  case round =>
                    obtain ⟨k, hk, rfl, hcs, hox⟩ := hrel
                    obtain ⟨cs, hcs1, hcs2, hcs3⟩ := hcs.out
                    by_cases hk5 : k < 512
                    · obtain ⟨uk, ck⟩ : ∃ u, wr.cell? ⟨g5, k, none⟩ = some u := ⟨cs[k]'(by omega), by rw [cells_all hcs1 k]; exact Array.getElem?_eq_getElem (by omega)⟩
                      have fk := frozen_all hcs1 k
                      have HN5 : Hid (Exists fun cs' : Array Value => (wr.setCell ⟨g5, k, none⟩ (.int .u8 255)).heap[g5]? = some (.cells cs' 5 (0, 0)) ∧ cs'.size = 512 ∧ ∀ j, j < k + 1 → cs'[j]? = some (.int .u8 255)) :=
                        ⟨_, heap_set hcs1 k (.int .u8 255), by rw [Array.size_setIfInBounds, hcs2], fun j hj => by
                          rw [Array.getElem?_setIfInBounds]
                          by_cases hjk : k = j
                          · rw [if_pos hjk, if_pos (by omega)]
                          · rw [if_neg hjk]; exact hcs3 j (by omega)⟩
                      have HO5 := Lib.hid (hox.out.setCell (p := ⟨g5, k, none⟩) (Or.inr (by have := HG5.out; show wo.heap.size ≤ g5; omega)) (.int .u8 255))
                      clear hcs1 hcs2 hcs3
                      go_wp2_with fail
                      go_roundw
                      case rel => exact ⟨k + 1, by omega, by go_num, HN5.out, HO5.out⟩
                      case measure => simp [intOf]; omega
                    · obtain rfl : k = 512 := by omega
                      have hrow5 : Row Zone.no wr (.slice (some ⟨g5, 0, none⟩) 512 512) (bytes DS.lost) := by
                        have e5 : bytes DS.lost = List.replicate 512 (.int .u8 255) := by unfold bytes DS.lost; rw [List.map_replicate]; rfl
                        refine ⟨some ⟨g5, 0, none⟩, 512, by rw [e5, List.length_replicate], by rw [e5, List.length_replicate]; omega, le_maxLen (by omega), fun j u hu => ⟨_, rfl, id, ?_⟩⟩
                        rw [e5, List.getElem?_replicate] at hu
                        split at hu
                        · rename_i hj
                          rw [addr0_add, cells_all hcs1 j, hcs3 j hj, hu]
                        · cases hu
                      have hcv := run_string (P := Try.prog) Try.underlying22 Try.underlying5 Try.underlying9 (w := wr.drew) (hrow5.drewN 1)
                      have hx := hr.out.any hox.out
                      have hxd := hx.drew
                      obtain ⟨w7, hrun7, hm7, hg7⟩ := MapV.update Try.underlying3 Try.underlying93 hxd.old (by unfold maxLen; omega) (wf_i64 (a := (i : Int)) (by omega) (by omega)) (.string (str DS.lost))
                      rw [strF_put] at hm7
                      obtain ⟨h7, o7⟩ := hxd.reold hm7 hg7 HSO2.out
                      simp only at h7
                      rw [← E9.out, ← HST2.out] at h7
                      obtain ⟨w6, hrun6, h6, o6⟩ := DEL.out w7 h7
                      have c7' := cells_all hx.sr 7
                      have c8' := cells_all h7.sr 8
                      have H6 := Lib.hid h6
                      have O6 := Lib.hid (((hox.out.mono0 (Z' := Z)).drew.trans o7).trans o6)
                      clear hcs1 hcs2 hcs3 hrow5 hx hxd hm7 hg7 h7 o7 h6 o6
                      go_wp2_with fail
                      go_region
                      all_goals
                        go_wp2_with fail
                        go_roundw
                        case rel => exact ⟨i + 1, by omega, by go_num, by show Row _ _ _ _; rw [HNX.out G' rfl]; exact HF2.out.out O6.out, H6.out, how.out.trans O6.out⟩
                        case measure => simp [intOf]; omega
        · have HN := Lib.hid (FIN.out (past_end HH.out.ok (i := i) (by omega)))
          go_wp2_with fail
          go_end0
          exact ⟨rfl, HN.out⟩

theorem rcrash_is (h : RefAt Z w r D) (keep : Int) (hkeep : -9223372036854775808 ≤ keep ∧ keep ≤ 9223372036854775807) (torn : Bool) (fv : Value) (F : List Int) (hf : Row Z w fv (F.map (Value.int .i64))) (hF : ∀ x ∈ F, -9223372036854775808 ≤ x ∧ x ≤ 9223372036854775807) :
    Calls Try.prog 60 #[.pointer (some ⟨r, 0, none⟩), .int .i64 keep, .bool torn, fv] w fun e w' => e = .returned (.tuple #[]) ∧ RefAt Z w' r (D.crash keep torn F) ∧ Out Z w w' := by
  obtain ⟨o, f, lv, h⟩ := h
  exact rcrash_ok h keep hkeep torn torn rfl fv F hf hF
end
end Go.Proofs.Ytddcojikbcbihaa
