import Derived.Test.YtlgoenimjmiapaaT34
import Derived.Deep.RegionHeld3
set_option linter.unusedSimpArgs false
set_option linter.unusedVariables false
set_option linter.unusedSectionVars false
/-! newest. -/
namespace Go.Proofs.Ytlgoenimjmiapaa
open Go.RowKit Go.Maps

section
variable {w w' w1 : World} {w0 : Base} {tb : Nat} {t : Town} {xs : Nat → Nat}
set_option maxRecDepth 100000 in
set_option maxHeartbeats 6000000 in
theorem newest_t (h : TownX w0 tb t xs w) (h7 : t.n ≤ 7) (hf : ∀ i, i < t.n → (t.X i).Fit) (hd : t.done.length ≤ 4096)
    (hb : ∀ b, b < t.n → (t.X b).role = 2 → (∀ j, j < t.n → (t.X j).st.ep ≤ (t.X b).st.ep) → t.done.length ≤ (t.X b).st.log.length ∧ (t.X b).st.log.take t.done.length = t.done) :
    Calls Try.prog 44 #[.pointer (some ⟨tb, 0, none⟩)] w fun e w' => e = .returned (.bool true) ∧ TownX w0 tb t xs w' := by
  obtain ⟨n, hn⟩ : ∃ n, t.n = n := ⟨_, rfl⟩
  obtain ⟨P, hP⟩ : ∃ P, TownX w0 tb t xs = P := ⟨_, rfl⟩
  obtain ⟨ep, hep⟩ : ∃ ep : Nat → Int, (fun j => (t.X j).st.ep) = ep := ⟨_, rfl⟩
  obtain ⟨vo, hvo⟩ : ∃ vo : Nat → Int, (fun j => (t.X j).st.voted) = vo := ⟨_, rfl⟩
  obtain ⟨ro, hro⟩ : ∃ ro : Nat → Int, (fun j => (t.X j).role) = ro := ⟨_, rfl⟩
  obtain ⟨ls, hls⟩ : ∃ ls : Nat → Nat, (fun j => (t.X j).st.log.length) = ls := ⟨_, rfl⟩
  obtain ⟨D, hD⟩ : ∃ D, t.done.length = D := ⟨_, rfl⟩
  have XC : Hid (∀ j W, j < n → P W → ∃ g c, W.cell? ⟨tb, 0, none⟩ = some (.int .i64 (n : Int)) ∧ W.cell? ⟨tb, 1, none⟩ = some (.slice (some ⟨g, 0, none⟩) n c) ∧ W.cell? ⟨g, j, none⟩ = some (.pointer (some ⟨xs j, 0, none⟩))) := fun j W hj hW => by
    rw [← hP] at hW
    rw [← hn] at hj ⊢
    exact hW.xcells hj
  have XC2 : Hid (∀ i j W, i < n → j < n → P W → ∃ g c, W.cell? ⟨tb, 1, none⟩ = some (.slice (some ⟨g, 0, none⟩) n c) ∧ W.cell? ⟨g, i, none⟩ = some (.pointer (some ⟨xs i, 0, none⟩)) ∧ W.cell? ⟨g, j, none⟩ = some (.pointer (some ⟨xs j, 0, none⟩))) := fun i j W hi hj hW => by
    obtain ⟨g, c, _, e1, e2⟩ := XC.out i W hi hW
    obtain ⟨g', c', _, e3, e4⟩ := XC.out j W hj hW
    rw [e1] at e3
    obtain rfl : g = g' := by injection e3 with e; injection e with e; injection e with e; injection e with e
    exact ⟨g, c, e1, e2, e4⟩
  have NC : Hid (∀ W, P W → W.cell? ⟨tb, 0, none⟩ = some (.int .i64 (n : Int))) := fun W hW => by
    rw [← hP] at hW
    rw [← hn]
    exact hW.ncell
  have ROLE : Hid (∀ j W, j < n → P W → Calls Try.prog 16 #[.pointer (some ⟨xs j, 0, none⟩)] W fun e w' => e = .returned (.int .i64 (ro j)) ∧ W = w') := fun j W hj hW => by
    rw [← hP] at hW
    rw [← hro]
    exact role_t hW (by omega) (hf j (by omega))
  have PANY : Hid (∀ W W', P W → Out Zone.no W W' → P W') := fun W W' hW ho => by rw [← hP] at hW ⊢; exact hW.any ho
  have STATE : Hid (∀ j W, j < n → P W → Calls Try.prog 10 #[.pointer (some ⟨xs j, 0, none⟩)] W fun e w' => ∃ A c, e = .returned (.agg #[.int .i64 (ep j), .int .i64 (vo j), .slice A (ls j) c]) ∧ Hid (P w' ∧ Out Zone.no W w' ∧ RRow (fun _ => False) w' (.slice A (ls j) c) (ls j) 2 (encL (t.X j).st.log))) := fun j W hj hW => by
    have hW2 := hW
    rw [← hP] at hW2
    refine (state_t hW2 (i := j) (by omega) (hf j (by omega))).mono ?_
    rintro e w' ⟨A, c, rfl, k1, k2, k3⟩
    rw [← hep, ← hvo, ← hls]
    exact ⟨A, c, rfl, PANY.out _ _ hW k3, k3, gr_reads k1 (fun _ _ h => h)⟩
  have FIN : Hid (∀ b, b < n → ro b = 2 → (∀ j, j < n → ep j ≤ ep b) → D ≤ ls b ∧ (t.X b).st.log.take D = t.done) := by
    rw [← hep, ← hro, ← hls, ← hn, ← hD]
    exact hb
  have DONE : Hid (∀ W, P W → ∃ Ad cd, W.cell? ⟨tb, 4, none⟩ = some (.slice Ad D cd) ∧ RRow (fun _ => False) W (.slice Ad D cd) D 2 (encL t.done)) := fun W hW => by
    rw [← hP] at hW
    obtain ⟨L, U, h1, h2, h3⟩ := hW
    obtain ⟨Ad, cd, hv⟩ := GRow.form h1.done
    rw [← hD]
    refine ⟨Ad, cd, by rw [h1.c 4, ← hv]; rfl, ?_⟩
    rw [← hv]
    exact gr_reads h1.done (fun _ _ h => h)
  have H0 : Hid (P w) := by show P w; rw [← hP]; exact h
  rw [hn] at h7
  have HDL : Hid (t.done.length = D) := hD
  have POST : Hid (∀ W, P W → TownX w0 tb t xs W) := fun W hW => by rw [hP]; exact hW
  clear h hP hep hvo hro hls hD hn hf hd hb
  go_enter Try.func44, Try.ntmps44
  go_wp2_with fail
  go_loopw [4, 3] (fun vi vb wr => ∃ (i : Nat) (be : Int), i ≤ n ∧ vi = .int .i64 (i : Int) ∧ vb = .int .i64 be ∧ (be = -1 ∨ ∃ b : Nat, be = (b : Int) ∧ b < n ∧ ro b = 2) ∧ Hid (P wr)) (fun vi _ _ => n - (intOf vi).toNat)
  case atStart => exact ⟨0, -1, by omega, rfl, rfl, Or.inl rfl, H0⟩
  case round =>
    obtain ⟨i, be, hi, rfl, rfl, hbe, hinv⟩ := hrel
    have c0 := NC.out wr hinv.out
    by_cases hlt : i < n
    · have i1 : (0 : Int) ≤ (i : Int) := by omega
      have i2 : (i : Int) < (n : Int) := by omega
      have PP : Hid (P wr.drew) := PANY.out _ _ hinv.out ((Out.refl _ _).drew)
      obtain ⟨ri, hri⟩ : ∃ ri, ro i = ri := ⟨_, rfl⟩
      have RL : Hid (∀ W, P W → Calls Try.prog 16 #[.pointer (some ⟨xs i, 0, none⟩)] W fun e w' => e = .returned (.int .i64 ri) ∧ W = w') := fun W hW => by rw [← hri]; exact ROLE.out i W hlt hW
      by_cases hr2 : ri = 2
      · rcases hbe with rfl | ⟨b, rfl, hbn, hbr⟩
        · obtain ⟨g, c, -, x1, x2⟩ := XC.out i _ hlt PP.out
          have HRI : Hid (ri = 2 → ro i = 2) := fun h => by rw [hri, h]
          subst hr2
          clear hri
          have QC : Hid (∀ W, Out Zone.no wr.drew W → P W) := fun W ho => PANY.out _ _ PP.out ho
          obtain ⟨S, f, hPf, hsur⟩ := class_of (fun W => Out Zone.no wr.drew W)
          haveI : Nonempty S := (hsur _ (Out.refl _ _)).elim fun s _ => ⟨s⟩
          have N16 : Hid (∀ m : S, Calls Try.prog 16 #[.pointer (some ⟨xs i, 0, none⟩)] (f m) fun e w'' => e = .returned (.int .i64 2) ∧ ∃ k : S, w'' = f k) := fun m => (RL.out (f m) (QC.out _ (hPf m))).mono (fun e w' ⟨h1, h2⟩ => ⟨h1, m, h2.symm⟩)
          have y1 := fun m : S => (show (f m).cell? ⟨tb, 1, none⟩ = some (.slice (some ⟨g, 0, none⟩) n c) from (hPf m).cell x1 id)
          have y2 := fun m : S => (show (f m).cell? ⟨g, i, none⟩ = some (.pointer (some ⟨xs i, 0, none⟩)) from (hPf m).cell x2 id)
          clear x1 x2
          go_wp2_with fail
          refine region_class f (by kernel_rfl) (by kernel_rfl) (hsur _ (Out.refl _ _)) ?_
          repeat (go_big_quiet_step (first | (go_at_call 16; exact N16.out _)))
          refine wpQuiet_nil ?_
          rintro _ ⟨s2, rfl⟩
          have PQ := Lib.hid (QC.out _ (hPf s2))
          obtain ⟨w2, hw2⟩ : ∃ w2, f s2 = w2 := ⟨_, rfl⟩
          rw [hw2] at PQ ⊢
          clear hw2 y1 y2 N16
          go_wp2_with fail
          go_roundw
          case rel => exact ⟨i + 1, _, by omega, by go_num, rfl, Or.inr ⟨i, rfl, hlt, HRI.out (by first | rfl | trivial)⟩, PQ⟩
          case measure => simp [intOf]; omega
        · obtain ⟨g, c, x1, x2, x3⟩ := XC2.out i b _ hlt hbn PP.out
          have CS : wr.drew.cell? ⟨tb, 1, none⟩ = some (.slice (some ⟨g, 0, none⟩) n c) ∧ wr.drew.cell? ⟨g, i, none⟩ = some (.pointer (some ⟨xs i, 0, none⟩)) ∧ wr.drew.cell? ⟨g, b, none⟩ = some (.pointer (some ⟨xs b, 0, none⟩)) := ⟨x1, x2, x3⟩
          obtain ⟨ei, hei⟩ : ∃ ei, ep i = ei := ⟨_, rfl⟩
          obtain ⟨eb, heb⟩ : ∃ eb, ep b = eb := ⟨_, rfl⟩
          have SC : ∀ j, j < n → Hid (∀ W W0, P W → Out Zone.no W0 W → (W0.cell? ⟨tb, 1, none⟩ = some (.slice (some ⟨g, 0, none⟩) n c) ∧ W0.cell? ⟨g, i, none⟩ = some (.pointer (some ⟨xs i, 0, none⟩)) ∧ W0.cell? ⟨g, b, none⟩ = some (.pointer (some ⟨xs b, 0, none⟩))) → Calls Try.prog 10 #[.pointer (some ⟨xs j, 0, none⟩)] W fun e w' => ∃ v2 v3, e = .returned (.agg #[.int .i64 (ep j), v2, v3]) ∧ Hid (P w') ∧ Hid (Out Zone.no W0 w') ∧ w'.cell? ⟨tb, 1, none⟩ = some (.slice (some ⟨g, 0, none⟩) n c) ∧ w'.cell? ⟨g, i, none⟩ = some (.pointer (some ⟨xs i, 0, none⟩)) ∧ w'.cell? ⟨g, b, none⟩ = some (.pointer (some ⟨xs b, 0, none⟩))) := fun j hj W W0 hW ho hc => by
            refine (STATE.out j W hj hW).mono ?_
            rintro e w' ⟨A, c', rfl, hh⟩
            have ho2 := ho.trans hh.out.2.1
            exact ⟨_, _, rfl, hh.out.1, ho2, ho2.cell hc.1 id, ho2.cell hc.2.1 id, ho2.cell hc.2.2 id⟩
          have SI : Hid (∀ W, P W → Out Zone.no wr.drew W → Calls Try.prog 10 #[.pointer (some ⟨xs i, 0, none⟩)] W fun e w' => ∃ v2 v3, e = .returned (.agg #[.int .i64 ei, v2, v3]) ∧ Hid (P w') ∧ Hid (Out Zone.no wr.drew w') ∧ w'.cell? ⟨tb, 1, none⟩ = some (.slice (some ⟨g, 0, none⟩) n c) ∧ w'.cell? ⟨g, i, none⟩ = some (.pointer (some ⟨xs i, 0, none⟩)) ∧ w'.cell? ⟨g, b, none⟩ = some (.pointer (some ⟨xs b, 0, none⟩))) := fun W hW ho => by rw [← hei]; exact (SC i hlt).out W _ hW ho CS
          have SB : Hid (∀ W, P W → Out Zone.no wr.drew W → Calls Try.prog 10 #[.pointer (some ⟨xs b, 0, none⟩)] W fun e w' => ∃ v2 v3, e = .returned (.agg #[.int .i64 eb, v2, v3]) ∧ Hid (P w') ∧ Hid (Out Zone.no wr.drew w') ∧ w'.cell? ⟨tb, 1, none⟩ = some (.slice (some ⟨g, 0, none⟩) n c) ∧ w'.cell? ⟨g, i, none⟩ = some (.pointer (some ⟨xs i, 0, none⟩)) ∧ w'.cell? ⟨g, b, none⟩ = some (.pointer (some ⟨xs b, 0, none⟩))) := fun W hW ho => by rw [← heb]; exact (SC b hbn).out W _ hW ho CS
          clear SC
          have OO : Hid (Out Zone.no wr.drew wr.drew) := Out.refl _ _
          have HRI : Hid (ri = 2 → ro i = 2) := fun h => by rw [hri, h]
          have HBR := Lib.hid hbr
          have b1 : (0 : Int) ≤ (b : Int) := by omega
          have b2 : (b : Int) < (n : Int) := by omega
          have b3 : ¬ ((b : Int) < 0) := by omega
          have b4 : decide ((b : Int) < 0) = false := decide_eq_false (by omega)
          have hres : Hid (∀ w' : World, P w' → True) := fun _ _ => trivial
          subst hr2
          clear hri hei heb hbr x1 x2 x3
          by_cases hg : eb < ei
          · go_wp2_with fail
            go_region_held3 (fun W => W.cell? ⟨tb, 1, none⟩ = some (.slice (some ⟨g, 0, none⟩) n c) ∧ W.cell? ⟨g, i, none⟩ = some (.pointer (some ⟨xs i, 0, none⟩)) ∧ W.cell? ⟨g, b, none⟩ = some (.pointer (some ⟨xs b, 0, none⟩)))
              (first | assumption)
              (first
                | (go_at_call 16; refine (RL.out _ PP.out).mono ?_; rintro e w2 ⟨rfl, rfl⟩)
                | (go_at_call 10; first | (refine (SI.out _ PP.out OO.out).mono ?_; rintro e w2 ⟨v2, v3, rfl, PP, OO, CS⟩; clear SI; have FLD : ∀ W, (Instr.field 28 (.agg #[.int .i64 ei, v2, v3]) 0).run Try.prog W = .ok (.int .i64 ei) W := fun W => rfl) | (refine (SB.out _ PP.out OO.out).mono ?_; rintro e w2 ⟨v2', v3', rfl, PP, OO, CS⟩; have FLD2 : ∀ W, (Instr.field 28 (.agg #[.int .i64 eb, v2', v3']) 0).run Try.prog W = .ok (.int .i64 eb) W := fun W => rfl)))
            all_goals
              go_wp2_with fail
              go_roundw
              case rel => exact ⟨i + 1, _, by omega, by go_num, rfl, Or.inr ⟨i, rfl, hlt, HRI.out (by first | rfl | trivial)⟩, PP⟩
              case measure => simp [intOf]; omega
          · have hbb : b < n ∧ ro b = 2 := ⟨hbn, HBR.out⟩
            have HBB := Lib.hid hbb
            clear hbb hbn
            go_wp2_with fail
            go_region_held3 (fun W => W.cell? ⟨tb, 1, none⟩ = some (.slice (some ⟨g, 0, none⟩) n c) ∧ W.cell? ⟨g, i, none⟩ = some (.pointer (some ⟨xs i, 0, none⟩)) ∧ W.cell? ⟨g, b, none⟩ = some (.pointer (some ⟨xs b, 0, none⟩)))
              (first | assumption)
              (first
                | (go_at_call 16; refine (RL.out _ PP.out).mono ?_; rintro e w2 ⟨rfl, rfl⟩)
                | (go_at_call 10; first | (refine (SI.out _ PP.out OO.out).mono ?_; rintro e w2 ⟨v2, v3, rfl, PP, OO, CS⟩; clear SI; have FLD : ∀ W, (Instr.field 28 (.agg #[.int .i64 ei, v2, v3]) 0).run Try.prog W = .ok (.int .i64 ei) W := fun W => rfl) | (refine (SB.out _ PP.out OO.out).mono ?_; rintro e w2 ⟨v2', v3', rfl, PP, OO, CS⟩; have FLD2 : ∀ W, (Instr.field 28 (.agg #[.int .i64 eb, v2', v3']) 0).run Try.prog W = .ok (.int .i64 eb) W := fun W => rfl)))
            all_goals
              go_wp2_with fail
              go_roundw
              case rel => exact ⟨i + 1, _, by omega, by go_num, rfl, Or.inr ⟨b, rfl, HBB.out.1, HBB.out.2⟩, PP⟩
              case measure => simp [intOf]; omega
      · obtain ⟨g, c, -, x1, x2⟩ := XC.out i _ hlt PP.out
        have rb : (ri == 2) = false := by rw [beq_eq_false_iff_ne]; exact hr2
        have HBE := Lib.hid hbe
        clear hri hbe hr2
        have QC : Hid (∀ W, Out Zone.no wr.drew W → P W) := fun W ho => PANY.out _ _ PP.out ho
        obtain ⟨S, f, hPf, hsur⟩ := class_of (fun W => Out Zone.no wr.drew W)
        haveI : Nonempty S := (hsur _ (Out.refl _ _)).elim fun s _ => ⟨s⟩
        have N16 : Hid (∀ m : S, Calls Try.prog 16 #[.pointer (some ⟨xs i, 0, none⟩)] (f m) fun e w'' => e = .returned (.int .i64 ri) ∧ ∃ k : S, w'' = f k) := fun m => (RL.out (f m) (QC.out _ (hPf m))).mono (fun e w' ⟨h1, h2⟩ => ⟨h1, m, h2.symm⟩)
        have y1 := fun m : S => (show (f m).cell? ⟨tb, 1, none⟩ = some (.slice (some ⟨g, 0, none⟩) n c) from (hPf m).cell x1 id)
        have y2 := fun m : S => (show (f m).cell? ⟨g, i, none⟩ = some (.pointer (some ⟨xs i, 0, none⟩)) from (hPf m).cell x2 id)
        clear x1 x2
        go_wp2_with fail
        refine region_class f (by kernel_rfl) (by kernel_rfl) (hsur _ (Out.refl _ _)) ?_
        repeat (go_big_quiet_step (first | (go_at_call 16; exact N16.out _)))
        refine wpQuiet_nil ?_
        rintro _ ⟨s2, rfl⟩
        have PQ := Lib.hid (QC.out _ (hPf s2))
        obtain ⟨w2, hw2⟩ : ∃ w2, f s2 = w2 := ⟨_, rfl⟩
        rw [hw2] at PQ ⊢
        clear hw2 y1 y2 N16
        go_wp2_with fail
        go_roundw
        case rel => exact ⟨i + 1, be, by omega, by go_num, rfl, HBE.out, PQ⟩
        case measure => simp [intOf]; omega
    · have c1 : ¬ (i : Int) < (n : Int) := by omega
      have HBE := Lib.hid hbe
      have HIN := hinv
      clear hbe hinv hi hlt
      obtain ⟨wo, hwo⟩ : ∃ wo, wr = wo := ⟨_, rfl⟩
      rw [hwo] at HIN c0 ⊢
      clear hwo
      clear wr
      rcases HBE.out with rfl | ⟨b, rfl, hbn, hbr⟩
      · go_wp2_with fail
        go_loopw [5, 2] (fun vk v2 wr => ∃ k : Nat, k ≤ n ∧ vk = .int .i64 (k : Int) ∧ v2 = .bool false ∧ Hid (P wr)) (fun vk _ _ => n - (intOf vk).toNat)
        case atStart => exact ⟨0, by omega, rfl, rfl, HIN⟩
        case round =>
          obtain ⟨k, hk, rfl, rfl, hinv⟩ := hrel
          have c1' := NC.out wr hinv.out
          by_cases hkn : k < n
          · go_wp2_with fail
            go_quiet (fail)
            go_wp2_with fail
            go_roundw
            case rel => exact ⟨k + 1, by omega, by go_num, rfl, PANY.out _ _ hinv.out ((Out.refl _ _).drewN nq)⟩
            case measure => simp [intOf]; omega
          · obtain rfl : k = n := by omega
            have FN := Lib.hid (POST.out _ hinv.out)
            go_wp2_with fail
            go_ret
            exact ⟨rfl, FN.out⟩
      · have HBN := Lib.hid hbn
        have HBR := Lib.hid hbr
        have b1 : (0 : Int) ≤ (b : Int) := by omega
        have b2 : (b : Int) < (n : Int) := by omega
        have b3 : ¬ ((b : Int) < 0) := by omega
        have b4 : decide ((b : Int) < 0) = false := decide_eq_false (by omega)
        have b5 : decide ((0 : Int) ≤ (b : Int)) = true := decide_eq_true b1
        obtain ⟨eb, heb⟩ : ∃ eb, ep b = eb := ⟨_, rfl⟩
        have HEB := Lib.hid heb
        clear hbn hbr heb
        go_wp2_with fail
        go_loopw [5, 2] (fun vk v2 wr => ∃ k : Nat, k ≤ n ∧ vk = .int .i64 (k : Int) ∧ v2 = .bool false ∧ Hid (P wr) ∧ Hid (∀ j, j < k → ep j ≤ eb)) (fun vk _ _ => n - (intOf vk).toNat)
        case atStart => exact ⟨0, by omega, rfl, rfl, HIN, fun j hj => by omega⟩
        case round =>
          obtain ⟨i, hi, rfl, rfl, hinv, hmx⟩ := hrel
          have c1' := NC.out wr hinv.out
          by_cases hlt : i < n
          · have i1 : (0 : Int) ≤ (i : Int) := by omega
            have i2 : (i : Int) < (n : Int) := by omega
            have PP : Hid (P wr.drew) := PANY.out _ _ hinv.out ((Out.refl _ _).drew)
            obtain ⟨g, c, x1, x2, x3⟩ := XC2.out i b _ hlt HBN.out PP.out
            have CS : wr.drew.cell? ⟨tb, 1, none⟩ = some (.slice (some ⟨g, 0, none⟩) n c) ∧ wr.drew.cell? ⟨g, i, none⟩ = some (.pointer (some ⟨xs i, 0, none⟩)) ∧ wr.drew.cell? ⟨g, b, none⟩ = some (.pointer (some ⟨xs b, 0, none⟩)) := ⟨x1, x2, x3⟩
            obtain ⟨ei, hei⟩ : ∃ ei, ep i = ei := ⟨_, rfl⟩
            have heb := HEB.out
            have hbn := HBN.out
            have SC : ∀ j, j < n → Hid (∀ W W0, P W → Out Zone.no W0 W → (W0.cell? ⟨tb, 1, none⟩ = some (.slice (some ⟨g, 0, none⟩) n c) ∧ W0.cell? ⟨g, i, none⟩ = some (.pointer (some ⟨xs i, 0, none⟩)) ∧ W0.cell? ⟨g, b, none⟩ = some (.pointer (some ⟨xs b, 0, none⟩))) → Calls Try.prog 10 #[.pointer (some ⟨xs j, 0, none⟩)] W fun e w' => ∃ v2 v3, e = .returned (.agg #[.int .i64 (ep j), v2, v3]) ∧ Hid (P w') ∧ Hid (Out Zone.no W0 w') ∧ w'.cell? ⟨tb, 1, none⟩ = some (.slice (some ⟨g, 0, none⟩) n c) ∧ w'.cell? ⟨g, i, none⟩ = some (.pointer (some ⟨xs i, 0, none⟩)) ∧ w'.cell? ⟨g, b, none⟩ = some (.pointer (some ⟨xs b, 0, none⟩))) := fun j hj W W0 hW ho hc => by
              refine (STATE.out j W hj hW).mono ?_
              rintro e w' ⟨A, c', rfl, hh⟩
              have ho2 := ho.trans hh.out.2.1
              exact ⟨_, _, rfl, hh.out.1, ho2, ho2.cell hc.1 id, ho2.cell hc.2.1 id, ho2.cell hc.2.2 id⟩
            have SI : Hid (∀ W, P W → Out Zone.no wr.drew W → Calls Try.prog 10 #[.pointer (some ⟨xs i, 0, none⟩)] W fun e w' => ∃ v2 v3, e = .returned (.agg #[.int .i64 ei, v2, v3]) ∧ Hid (P w') ∧ Hid (Out Zone.no wr.drew w') ∧ w'.cell? ⟨tb, 1, none⟩ = some (.slice (some ⟨g, 0, none⟩) n c) ∧ w'.cell? ⟨g, i, none⟩ = some (.pointer (some ⟨xs i, 0, none⟩)) ∧ w'.cell? ⟨g, b, none⟩ = some (.pointer (some ⟨xs b, 0, none⟩))) := fun W hW ho => by rw [← hei]; exact (SC i hlt).out W _ hW ho CS
            have SB : Hid (∀ W, P W → Out Zone.no wr.drew W → Calls Try.prog 10 #[.pointer (some ⟨xs b, 0, none⟩)] W fun e w' => ∃ v2 v3, e = .returned (.agg #[.int .i64 eb, v2, v3]) ∧ Hid (P w') ∧ Hid (Out Zone.no wr.drew w') ∧ w'.cell? ⟨tb, 1, none⟩ = some (.slice (some ⟨g, 0, none⟩) n c) ∧ w'.cell? ⟨g, i, none⟩ = some (.pointer (some ⟨xs i, 0, none⟩)) ∧ w'.cell? ⟨g, b, none⟩ = some (.pointer (some ⟨xs b, 0, none⟩))) := fun W hW ho => by rw [← heb]; exact (SC b hbn).out W _ hW ho CS
            clear SC
            have OO : Hid (Out Zone.no wr.drew wr.drew) := Out.refl _ _
            by_cases hg : eb < ei
            · clear hei heb hbn x1 x2 x3
              go_wp2_with fail
              go_region_held3 (fun W => W.cell? ⟨tb, 1, none⟩ = some (.slice (some ⟨g, 0, none⟩) n c) ∧ W.cell? ⟨g, i, none⟩ = some (.pointer (some ⟨xs i, 0, none⟩)) ∧ W.cell? ⟨g, b, none⟩ = some (.pointer (some ⟨xs b, 0, none⟩)))
                (first | assumption)
                (first
                  | (go_at_call 16; refine (RL.out _ PP.out).mono ?_; rintro e w2 ⟨rfl, rfl⟩)
                  | (go_at_call 10; first | (refine (SI.out _ PP.out OO.out).mono ?_; rintro e w2 ⟨v2, v3, rfl, PP, OO, CS⟩; clear SI; have FLD : ∀ W, (Instr.field 28 (.agg #[.int .i64 ei, v2, v3]) 0).run Try.prog W = .ok (.int .i64 ei) W := fun W => rfl) | (refine (SB.out _ PP.out OO.out).mono ?_; rintro e w2 ⟨v2', v3', rfl, PP, OO, CS⟩; have FLD2 : ∀ W, (Instr.field 28 (.agg #[.int .i64 eb, v2', v3']) 0).run Try.prog W = .ok (.int .i64 eb) W := fun W => rfl)))
              all_goals
                have FN := Lib.hid (POST.out _ PP.out)
                go_wp2_with fail
                go_ret
                exact ⟨rfl, FN.out⟩
            · have HMX : Hid (∀ j, j < i + 1 → ep j ≤ eb) := fun j hj => by
                by_cases e : j = i
                · subst e; omega
                · exact hmx.out j (by omega)
              clear hei heb hbn x1 x2 x3
              go_wp2_with fail
              go_region_held3 (fun W => W.cell? ⟨tb, 1, none⟩ = some (.slice (some ⟨g, 0, none⟩) n c) ∧ W.cell? ⟨g, i, none⟩ = some (.pointer (some ⟨xs i, 0, none⟩)) ∧ W.cell? ⟨g, b, none⟩ = some (.pointer (some ⟨xs b, 0, none⟩)))
                (first | assumption)
                (first
                  | (go_at_call 16; refine (RL.out _ PP.out).mono ?_; rintro e w2 ⟨rfl, rfl⟩)
                  | (go_at_call 10; first | (refine (SI.out _ PP.out OO.out).mono ?_; rintro e w2 ⟨v2, v3, rfl, PP, OO, CS⟩; clear SI; have FLD : ∀ W, (Instr.field 28 (.agg #[.int .i64 ei, v2, v3]) 0).run Try.prog W = .ok (.int .i64 ei) W := fun W => rfl) | (refine (SB.out _ PP.out OO.out).mono ?_; rintro e w2 ⟨v2', v3', rfl, PP, OO, CS⟩; have FLD2 : ∀ W, (Instr.field 28 (.agg #[.int .i64 eb, v2', v3']) 0).run Try.prog W = .ok (.int .i64 eb) W := fun W => rfl)))
              all_goals
                go_wp2_with fail
                go_roundw
                case rel => exact ⟨i + 1, by omega, by go_num, rfl, PP, HMX⟩
                case measure => simp [intOf]; omega
          · obtain rfl : i = n := by omega
            obtain ⟨g, c, -, x1, x2⟩ := XC.out b _ HBN.out hinv.out
            obtain ⟨lb, hlb⟩ : ∃ lb, ls b = lb := ⟨_, rfl⟩
            obtain ⟨f1, f2⟩ := FIN.out b HBN.out HBR.out (fun j hj => by rw [HEB.out]; exact hmx.out j hj)
            rw [hlb] at f1
            have F2 := Lib.hid f2
            have ST : Hid (Calls Try.prog 10 #[.pointer (some ⟨xs b, 0, none⟩)] wr fun e w' => ∃ v2 A c, e = .returned (.agg #[.int .i64 eb, v2, .slice A lb c]) ∧ Hid (P w' ∧ RRow (fun _ => False) w' (.slice A lb c) lb 2 (encL (t.X b).st.log))) := by
              refine (STATE.out b wr HBN.out hinv.out).mono ?_
              rintro e w' ⟨A, c, rfl, hh⟩
              have hr := hh.out.2.2
              rw [hlb] at hr ⊢
              rw [HEB.out]
              exact ⟨_, A, c, rfl, hh.out.1, hr⟩
            clear hlb f2 hmx hinv
            go_wp2_with (go_at_call 10; refine ST.out.mono ?_; rintro e w2 ⟨v2, A, c', rfl, hh⟩; have FLD : ∀ W, (Instr.field 28 (.agg #[.int .i64 eb, v2, .slice A lb c']) 2).run Try.prog W = .ok (.slice A lb c') W := fun W => rfl)
            obtain ⟨hP2, hr⟩ := hh.out
            obtain ⟨Ad, cd, d4, hrd⟩ := DONE.out _ hP2
            obtain ⟨A'', c'', hv, hca, hcb⟩ := hr.form
            obtain ⟨rfl, rfl⟩ : A = A'' ∧ c' = c'' := by injection hv with e1 _ e2; exact ⟨e1, e2⟩
            have SLI : Hid (∀ W, (Instr.slice 26 (.slice A lb c') none (some (.int .i64 (D : Int))) none).run Try.prog W = .ok (.slice A D c') W) := fun W => by
              obtain ⟨hu, ⟨ii, hi1, hz, hsz, hby⟩, hz1, hp⟩ := elem26
              have e0 : A.map (·.add 0) = A := by cases A <;> simp [Addr.add]
              have hKc : D ≤ c' := by omega
              simp [Instr.slice, run_underlying hu, Instr.sliceBounds, Instr.sliceBound, sizeOf, typeInfo, hi1, hsz, hKc, asIntOf]
              exact fun _ => e0
            have SAME : Hid (∀ W, Out Zone.no w2 W → Calls Try.prog 23 #[.slice A D c', .slice Ad D cd] W fun e w' => e = .returned (.bool true) ∧ Out Zone.no w2 w') := fun W ho => by
              have r1 := (hr.any ho).firsts (k := D) f1
              rw [← encL_take, F2.out] at r1
              have r2 := hrd.any ho
              have hdl := HDL.out
              rw [← hdl] at r1 r2 ⊢
              refine (same_is W _ _ t.done r1 r2).mono ?_
              rintro e w' ⟨rfl, ho'⟩
              exact ⟨rfl, ho.trans ho'⟩
            have f1i : (D : Int) ≤ (lb : Int) := by omega
            have f1d : decide ((D : Int) ≤ (lb : Int)) = true := decide_eq_true f1i
            have f1e : decide (D ≤ lb) = true := decide_eq_true f1
            have POST2 : Hid (∀ W, Out Zone.no w2 W → TownX w0 tb t xs W) := fun W ho => POST.out _ (PANY.out _ _ hP2 ho)
            obtain ⟨S, f, hPf, hsur⟩ := class_of (fun W => Out Zone.no w2 W)
            have od : Out Zone.no w2 w2.drew := (Out.refl _ _).drew
            haveI : Nonempty S := (hsur _ od).elim fun s _ => ⟨s⟩
            have N23 : Hid (∀ m : S, Calls Try.prog 23 #[.slice A D c', .slice Ad D cd] (f m) fun e w'' => e = .returned (.bool true) ∧ ∃ k : S, w'' = f k) := fun m => (SAME.out (f m) (hPf m)).mono (fun e w' ⟨h1, h2⟩ => ⟨h1, hsur _ h2⟩)
            have y4 := fun m : S => (show (f m).cell? ⟨tb, 4, none⟩ = some (.slice Ad D cd) from (hPf m).cell d4 id)
            have sl := SLI.out
            clear hr hrd d4 hv hca hcb hh
            refine region_class f (by kernel_rfl) (by kernel_rfl) (hsur _ od) ?_
            repeat (go_big_quiet_step (first | (go_at_call 23; exact N23.out _)))
            refine wpQuiet_nil ?_
            rintro _ ⟨s2, rfl⟩
            have PQ := Lib.hid (POST2.out _ (hPf s2))
            obtain ⟨w3, hw3⟩ : ∃ w3, f s2 = w3 := ⟨_, rfl⟩
            rw [hw3] at PQ ⊢
            clear hw3 y4 N23
            go_wp2_with fail
            go_ret
            exact ⟨rfl, PQ.out⟩
end
end Go.Proofs.Ytlgoenimjmiapaa
