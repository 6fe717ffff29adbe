import Derived.Test.YtddcojikbcbihaaR9
import Derived.Deep.DeepCutAuto
import Derived.Deep.CutBlock
/-! The law's step: a call on both disks. -/
set_option linter.unusedVariables false
namespace Go.Proofs.Ytddcojikbcbihaa
open Go.RowKit

def StepOk (A B : Zone) (d r : Nat) (w : World) (e : Ending) (w' : World) : Prop :=
  e = .returned (.bool true) ∧ ∃ D', DiskAt A w' d D' ∧ RefAt B w' r D' ∧ Out (both A B) w w'

theorem elem39 : Elem Try.prog 39 3 (.int .i64 0) 8 := Elem.mk' Try.underlying39 (by kernel_rfl) (by kernel_rfl)

theorem bytes_get (L : List UInt8) {j : Nat} (hj : j < L.length) : (bytes L)[j]? = some (.int .u8 (L[j].toNat : Int)) := by
  unfold bytes
  rw [List.getElem?_map, List.getElem?_eq_getElem hj]
  rfl
theorem PairR.less {A B : Zone} {w0 w : World} {d r g : Nat} {x : Obj} {RS RS' : List (Value × List UInt8)} {D E : DS} (h : PairR A B w0 d r g x RS D E w) (hs : ∀ p, p ∈ RS' → p ∈ RS) : PairR A B w0 d r g x RS' D E w := ⟨h.p, fun q hq => h.rs q (hs q hq)⟩

section
variable {A B : Zone} {w : World} {d r : Nat} {D : DS}

set_option maxRecDepth 100000 in
set_option maxHeartbeats 4000000 in
theorem step_is (hd : DiskAt A w d D) (hr : RefAt B w r D) (hap : Apart A B) (k q : Int) (hq : -9223372036854775808 ≤ q ∧ q ≤ 9223372036854775807) (vb : Value) (b : List UInt8) (hb : Row (tb A B) w vb (bytes b)) (hbl : b.length ≤ 140737488351232)
    (t : Bool) (vf : Value) (F : List Int) (hf : Row (tb A B) w vf (F.map (Value.int .i64))) (hFl : F.length * 8 ≤ 140737488351232) (hF : ∀ x ∈ F, -9223372036854775808 ≤ x ∧ x ≤ 9223372036854775807) :
    Calls Try.prog 26 #[.pointer (some ⟨d, 0, none⟩), .pointer (some ⟨r, 0, none⟩), .agg #[.int .i64 k, .int .i64 q, vb, .bool t, vf]] w (StepOk A B d r w) := by
  obtain ⟨Ab, cb, rfl, hb1, hb2⟩ := hb.form
  obtain ⟨Af, cf, hvf, hf1, hf2⟩ := hf.form0
  rw [List.length_map] at hvf hf1
  subst hvf
  have P0 : PairR A B w d r w.heap.size (.cells #[.int .i64 k, .int .i64 q, .slice Ab b.length cb, .bool t, .slice Af F.length cf] 42) [(.slice Ab b.length cb, b)] D D (w.alloc (.cells #[.int .i64 k, .int .i64 q, .slice Ab b.length cb, .bool t, .slice Af F.length cf] 42)) := by
    have o1 := (Out.refl Zone.no w).alloc (.cells #[.int .i64 k, .int .i64 q, .slice Ab b.length cb, .bool t, .slice Af F.length cf] 42)
    refine ⟨⟨hd.any o1, hr.any o1, heap_alloc_new w _, hap, fun e => hd.top.fresh (Nat.le_refl _) (A.sub _ e), fun e => hr.top.fresh (Nat.le_refl _) (B.sub _ e), o1.mono0⟩, fun p hp => ?_⟩
    simp only [List.mem_singleton] at hp
    subst hp
    exact hb.far o1 (fun _ h => h.elim)
  have PP := Lib.hid P0
  have HF0 : Hid (∀ w', Out (both A B) w w' → Row (tb A B) w' (.slice Af F.length cf) (F.map (Value.int .i64))) := fun w' ho => hf.far ho (fun k hk => (tb A B).sub k hk)
  have HFB := Lib.hid hF
  have HAP := Lib.hid hap
  unfold maxLen at hb2 hf2
  clear P0 hd hr hap hb hf hF
  go_enter Try.func26, Try.ntmps26
  go_upto_block 0 with fail
  obtain ⟨W, hW⟩ : ∃ W, w.alloc (.cells #[.int .i64 k, .int .i64 q, .slice Ab b.length cb, .bool t, .slice Af F.length cf] 42) = W := ⟨_, rfl⟩
  obtain ⟨g, hg⟩ : ∃ g, w.heap.size = g := ⟨_, rfl⟩
  rw [hW] at PP ⊢
  rw [hg] at PP ⊢
  have HG := Lib.hid hg
  clear hW hg
  have c0 := cells_all PP.out.p.bx 0
  have c1 := cells_all PP.out.p.bx 1
  have c2 := cells_all PP.out.p.bx 2
  have c3 := cells_all PP.out.p.bx 3
  have c4 := cells_all PP.out.p.bx 4
  go_cut [7] (fun s7 wx => s7 = .bool true ∧ Exists fun D' : DS => Hid (PairR A B w d r g (.cells #[.int .i64 k, .int .i64 q, .slice Ab b.length cb, .bool t, .slice Af F.length cf] 42) [(.slice Ab b.length cb, b)] D' D' wx))
  case first =>
    by_cases hk0 : k = 0
    · as_aux_lemma =>
        subst hk0
        obtain ⟨A1, x1, W1, hrun, ho1, hown, hx1, hx2⟩ := copy_own W (tb A B) (.slice Ab b.length cb) b (PP.out.rs (.slice Ab b.length cb, b) (by simp)) (by omega)
        have hG : ∀ k, (Value.slice A1 b.length x1).ownBlock = some k → W.heap.size ≤ k ∧ k < W1.heap.size := fun k hk => World.ownsRow.lt hown k hk
        have hgb : g < W.heap.size := heap_lt PP.out.p.bx
        have PW := PP.out.widen ho1 _ hG
        have PQ := Lib.hid PW
        have HOW := Lib.hid hown
        have HGG := Lib.hid hG
        have HRN := Lib.hid hrun
        have HAS := Lib.hid (show (∀ k, A.S k → k < W.heap.size) ∧ (∀ k, B.S k → k < W.heap.size) from ⟨fun k hk => PP.out.p.da.top.lt hk, fun k hk => PP.out.p.rb.top.lt hk⟩)
        have HWS := Lib.hid PP.out.p.out.size
        have cA2 := cells_all (PP.out.any ((Out.refl Zone.no W).alloc (.cells #[] 5))).p.bx 2
        have hrow1 : Row (both A B) W1 (.slice A1 b.length x1) (bytes b) := hown.row (fun k hk e => by
          have := hG k hk
          rcases e with e | e
          · have := PP.out.p.da.top.lt e; omega
          · have := PP.out.p.rb.top.lt e; omega)
        have HROW := Lib.hid hrow1
        unfold maxLen at hx2
        clear hG PW hown hrun hrow1 c0 c1 c3 c4 ho1
        go_wp2_with (at_builtin; refine wpList_builtin rfl _ _ _ rfl HRN.out ?_)
        refine (qd_append PQ.out _ b (by exact HROW.out) (by omega)).mono ?_
        rintro e w2 ⟨⟨rfl, hp⟩, hq2⟩
        have PQ := Lib.hid hp
        have HO2 := Lib.hid hq2
        have c2' := cells_all hp.p.bx 2
        clear hp hq2
        go_wp2_with fail
        refine (qr_append PQ.out _ b (by simp)).mono ?_
        rintro e w3 ⟨⟨rfl, hp⟩, hq3⟩
        have PQ := Lib.hid hp
        have HO3 := Lib.hid (HO2.out.trans hq3)
        clear hp hq3
        go_wp2_with (go_at_call 11; refine (num_is _ _).mono ?_; rintro e w' ⟨rfl, rfl⟩)
        have HOW3 : Hid (Owns W.heap.size w3 (.slice A1 b.length x1) b) := HOW.out.out HO3.out (fun k hk e => by
          have := HGG.out k hk
          rcases e with e | e
          · have := HAS.out.1 k e; omega
          · have := HAS.out.2 k e; omega)
        have hn63 : (b.length : Int) ≤ 140737488351232 := by omega
        go_loopw [13] (fun vi wr => ∃ i : Nat, i ≤ b.length ∧ vi = .int .i64 (i : Int) ∧ Hid (Out ⟨fun k => (Value.slice A1 b.length x1).ownBlock = some k, fun k => (Value.slice A1 b.length x1).ownBlock = some k, fun _ h => h⟩ w3 wr) ∧
          Hid (Exists fun xs : List Value => xs.length = b.length ∧ (∀ j, j < b.length → Exists fun y : Int => xs[j]? = some (.int .u8 y)) ∧ wr.ownsRow W.heap.size 5 1 (.slice A1 b.length x1) b.length xs)) (fun vi _ => b.length - (intOf vi).toNat)
        case atStart => exact ⟨0, Nat.zero_le _, rfl, Out.refl _ _, bytes b, length_bytes b, (fun j hj => ⟨_, bytes_get b hj⟩), HOW3.out⟩
        case round =>
          obtain ⟨i, hi, rfl, hot, hxs⟩ := hrel
          by_cases hlt : i < b.length
          · obtain ⟨xs, hl, hy, hox⟩ := hxs.out
            obtain ⟨g5, cap, hA5, hbg, hlt5⟩ := World.ownsRow.form hox (by omega)
            injection hA5 with hA5 hA6 hA7
            subst hA5
            subst hA7
            obtain ⟨y, hyi⟩ := hy i hlt
            have hx := hox.cellAt i (by omega)
            have hfr := hox.frozenAt i
            rw [hyi] at hx
            have HST : Hid (∀ u : Int, Out ⟨fun k => (Value.slice (some (⟨g5, 0, none⟩ : Addr)) b.length x1).ownBlock = some k, fun k => (Value.slice (some (⟨g5, 0, none⟩ : Addr)) b.length x1).ownBlock = some k, fun _ h => h⟩ w3 (wr.setCell ⟨g5, i, none⟩ (.int .u8 u)) ∧
                Exists fun xs : List Value => xs.length = b.length ∧ (∀ j, j < b.length → Exists fun y : Int => xs[j]? = some (.int .u8 y)) ∧ (wr.setCell ⟨g5, i, none⟩ (.int .u8 u)).ownsRow W.heap.size 5 1 (.slice (some ⟨g5, 0, none⟩) b.length x1) b.length xs) := fun u => by
              refine ⟨hot.out.setCell (p := ⟨g5, i, none⟩) (Or.inl rfl) _, xs.set i (.int .u8 u), by rw [List.length_set]; exact hl, fun j hj => ?_, (hox.stored i (.int .u8 u)).1⟩
              by_cases hji : i = j
              · subst hji
                exact ⟨u, by rw [List.getElem?_set_self (by omega)]⟩
              · rw [List.getElem?_set_ne hji]; exact hy j hj
            clear hox hy hyi hbg hlt5 hl
            go_wp2_with fail
            all_goals
              go_roundw
              case rel => exact ⟨i + 1, by omega, by go_num, (HST.out _).1, (HST.out _).2⟩
              case measure => simp [intOf]; omega
          · go_wp2_with fail
            go_meet
            have hp := PQ.out.turn hot.out (fun k hk => Or.inr hk) (fun k hk e => by have := HGG.out k e; have := HAS.out.1 k hk; omega) (fun k hk e => by have := HGG.out k e; have := HAS.out.2 k hk; omega) (fun e => by have := HGG.out g e; omega) (fun k hk => by have := HGG.out k hk; have := HWS.out; omega)
            exact ⟨rfl, _, hp.unwiden HAP.out⟩
    · by_cases hk1 : k = 1
      · as_aux_lemma =>
          subst hk1
          go_wp2_with (first
            | (go_at_call 14; refine (qd_sync PP.out).mono ?_; rintro e w1 ⟨rfl, hp⟩; have PP := Lib.hid hp; clear hp)
            | (go_at_call 56; refine (qr_sync PP.out).mono ?_; rintro e w1 ⟨rfl, hp⟩; have PP := Lib.hid hp; clear hp)
            | (go_at_call 11; refine (num_is _ _).mono ?_; rintro e w' ⟨rfl, rfl⟩))
          go_meet
          exact ⟨rfl, _, PP.out⟩
      · by_cases hk2 : k = 2
        · as_aux_lemma =>
            subst hk2
            go_wp2_with fail
            have CSD : W.drew.cell? ⟨g, 1, none⟩ = some (.int .i64 q) := c1
            go_region_held3 (fun W' => W'.cell? ⟨g, 1, none⟩ = some (.int .i64 q))
              (first | assumption)
              (first
              | (go_at_call 16; (first | refine (qd_cut PP.out _).mono ?_ | refine (qd_cut (PP.out.drewN 1) _).mono ?_); rintro e w1 ⟨rfl, hp⟩; have PP := Lib.hid hp; have c1' := cells_all hp.p.bx 1; clear hp)
              | (go_at_call 57; (first | refine (qr_cut PP.out _).mono ?_ | refine (qr_cut (PP.out.drewN 1) _).mono ?_); rintro e w1 ⟨rfl, hp⟩; have PP := Lib.hid hp; have c1' := cells_all hp.p.bx 1; clear hp)
              | (go_at_call 11; refine (num_is _ _).mono ?_; rintro e w' ⟨rfl, rfl⟩))
            all_goals
              go_wp2_with fail
              go_meet
              exact ⟨rfl, _, PP.out⟩
        · by_cases hk3 : k = 3
          · as_aux_lemma =>
              subst hk3
              go_wp2_with fail
              have CSD : W.drew.cell? ⟨g, 1, none⟩ = some (.int .i64 q) := c1
              go_region_held3 (fun W' => W'.cell? ⟨g, 1, none⟩ = some (.int .i64 q))
                (first | assumption)
                (first
                | (go_at_call 15; (first | refine (qd_retire PP.out _).mono ?_ | refine (qd_retire (PP.out.drewN 1) _).mono ?_); rintro e w1 ⟨rfl, hp⟩; have PP := Lib.hid hp; have c1' := cells_all hp.p.bx 1; clear hp)
                | (go_at_call 58; (first | refine (qr_retire PP.out _).mono ?_ | refine (qr_retire (PP.out.drewN 1) _).mono ?_); rintro e w1 ⟨rfl, hp⟩; have PP := Lib.hid hp; have c1' := cells_all hp.p.bx 1; clear hp)
                | (go_at_call 11; refine (num_is _ _).mono ?_; rintro e w' ⟨rfl, rfl⟩))
              all_goals
                go_wp2_with fail
                go_meet
                exact ⟨rfl, _, PP.out⟩
          · by_cases hk4 : k = 4
            · as_aux_lemma =>
                subst hk4
                go_wp2_with fail
                have CSD := (show W.drew.cell? ⟨g, 0, none⟩ = some (.int .i64 4) ∧ W.drew.cell? ⟨g, 1, none⟩ = some (.int .i64 q) ∧ W.drew.cell? ⟨g, 2, none⟩ = some (.slice Ab b.length cb) ∧ W.drew.cell? ⟨g, 3, none⟩ = some (.bool t) ∧ W.drew.cell? ⟨g, 4, none⟩ = some (.slice Af F.length cf) from ⟨c0, c1, c2, c3, c4⟩)
                clear c0 c1 c2 c3 c4
                go_region_held3 (fun W' => W'.cell? ⟨g, 0, none⟩ = some (.int .i64 4) ∧ W'.cell? ⟨g, 1, none⟩ = some (.int .i64 q) ∧ W'.cell? ⟨g, 2, none⟩ = some (.slice Ab b.length cb) ∧ W'.cell? ⟨g, 3, none⟩ = some (.bool t) ∧ W'.cell? ⟨g, 4, none⟩ = some (.slice Af F.length cf))
                  (first | assumption)
                  (first
                  | (go_at_call 21; (first | refine (q_block PP.out _ _ _ b (by simp) _ _).mono ?_ | refine (q_block (PP.out.drewN 1) _ _ _ b (by simp) _ _).mono ?_); rintro e w1 ⟨v', rfl, hp⟩; have PP := Lib.hid hp; have CS := (show w1.cell? ⟨g, 0, none⟩ = some (.int .i64 4) ∧ w1.cell? ⟨g, 1, none⟩ = some (.int .i64 q) ∧ w1.cell? ⟨g, 2, none⟩ = some (.slice Ab b.length cb) ∧ w1.cell? ⟨g, 3, none⟩ = some (.bool t) ∧ w1.cell? ⟨g, 4, none⟩ = some (.slice Af F.length cf) from ⟨cells_all hp.p.bx 0, cells_all hp.p.bx 1, cells_all hp.p.bx 2, cells_all hp.p.bx 3, cells_all hp.p.bx 4⟩); clear hp)
                  | (go_at_call 22; refine (qd_write PP.out _ _ (blockOf t b) (by simp)).mono ?_; rintro e w1 ⟨rfl, hp⟩; have PP := Lib.hid hp; have CS := (show w1.cell? ⟨g, 0, none⟩ = some (.int .i64 4) ∧ w1.cell? ⟨g, 1, none⟩ = some (.int .i64 q) ∧ w1.cell? ⟨g, 2, none⟩ = some (.slice Ab b.length cb) ∧ w1.cell? ⟨g, 3, none⟩ = some (.bool t) ∧ w1.cell? ⟨g, 4, none⟩ = some (.slice Af F.length cf) from ⟨cells_all hp.p.bx 0, cells_all hp.p.bx 1, cells_all hp.p.bx 2, cells_all hp.p.bx 3, cells_all hp.p.bx 4⟩); clear hp)
                  | (go_at_call 59; refine (qr_write PP.out _ _ (blockOf t b) (by simp)).mono ?_; rintro e w1 ⟨rfl, hp⟩; have PP := Lib.hid hp; have CS := (show w1.cell? ⟨g, 0, none⟩ = some (.int .i64 4) ∧ w1.cell? ⟨g, 1, none⟩ = some (.int .i64 q) ∧ w1.cell? ⟨g, 2, none⟩ = some (.slice Ab b.length cb) ∧ w1.cell? ⟨g, 3, none⟩ = some (.bool t) ∧ w1.cell? ⟨g, 4, none⟩ = some (.slice Af F.length cf) from ⟨cells_all hp.p.bx 0, cells_all hp.p.bx 1, cells_all hp.p.bx 2, cells_all hp.p.bx 3, cells_all hp.p.bx 4⟩); clear hp)
                  | (go_at_call 11; refine (num_is _ _).mono ?_; rintro e w' ⟨rfl, rfl⟩))
                all_goals
                  go_wp2_with fail
                  go_meet
                  exact ⟨rfl, _, PP.out.less (by simp)⟩
            · by_cases hk5 : k = 5
              · as_aux_lemma =>
                  subst hk5
                  go_wp2_with fail
                  refine (qd_fuse PP.out q hq.2).mono ?_
                  rintro e w1 ⟨rfl, hp⟩
                  have c1' := cells_all hp.p.bx 1
                  obtain ⟨o1, f1, lv1, hr1⟩ := hp.p.rb
                  have cr := cells_all hr1.sr 2
                  have fr := frozen_all hr1.sr 2
                  have HFU := Lib.hid (qr_fuse hp q hq.2)
                  clear hp hr1
                  go_wp2_with fail
                  all_goals
                    go_meet
                    exact ⟨rfl, _, HFU.out⟩
              · by_cases hk6 : k = 6
                · as_aux_lemma =>
                    subst hk6
                    go_wp2_with fail
                    have HFW := Lib.hid (HF0.out W PP.out.p.out)
                    have b1 : ([] : List Value).length + (F.map (Value.int .i64)).length ≤ 140737488355328 := by rw [List.length_map]; simp only [List.length_nil]; omega
                    have B1 := Lib.hid (le_maxLen b1)
                    have B2 : Hid ((([] : List Value).length + (F.map (Value.int .i64)).length) * 8 ≤ 140737488355328) := by show _ ≤ _; rw [List.length_map]; simp only [List.length_nil]; omega
                    have CSD := (show W.drew.cell? ⟨g, 1, none⟩ = some (.int .i64 q) ∧ W.drew.cell? ⟨g, 3, none⟩ = some (.bool t) ∧ W.drew.cell? ⟨g, 4, none⟩ = some (.slice Af F.length cf) from ⟨c1, c3, c4⟩)
                    have oA := ((Out.refl Zone.no W).drew).alloc (.cells #[] 3)
                    have hA := PP.out.any oA
                    have CSE := (show (W.drew.alloc (.cells #[] 3)).cell? ⟨g, 1, none⟩ = some (.int .i64 q) ∧ (W.drew.alloc (.cells #[] 3)).cell? ⟨g, 3, none⟩ = some (.bool t) ∧ (W.drew.alloc (.cells #[] 3)).cell? ⟨g, 4, none⟩ = some (.slice Af F.length cf) from ⟨cells_all hA.p.bx 1, cells_all hA.p.bx 3, cells_all hA.p.bx 4⟩)
                    have HTA := Lib.hid hA.top
                    have PA := Lib.hid hA
                    have HRA := Lib.hid ((HFW.out.far oA (fun _ h => h.elim)).any)
                    clear b1 oA hA c0 c1 c2 c3 c4
                    go_region_held3 (fun W' => W'.cell? ⟨g, 1, none⟩ = some (.int .i64 q) ∧ W'.cell? ⟨g, 3, none⟩ = some (.bool t) ∧ W'.cell? ⟨g, 4, none⟩ = some (.slice Af F.length cf))
                      (first | assumption)
                      (first
                      | (refine step_append_tight rfl _ _ 39 rfl elem39 (tb A B) (by exact HTA.out) [] (F.map (Value.int .i64)) (by exact row_nil _ _ _ _ (Nat.zero_le _)) (by exact HRA.out) (by exact cap_self _) B1.out B2.out ?_; intro v' w1 ho hr; have hp := PA.out.any ho; have PP := Lib.hid hp; have HV := Lib.hid hr; have CS := (show w1.cell? ⟨g, 1, none⟩ = some (.int .i64 q) ∧ w1.cell? ⟨g, 3, none⟩ = some (.bool t) ∧ w1.cell? ⟨g, 4, none⟩ = some (.slice Af F.length cf) from ⟨cells_all hp.p.bx 1, cells_all hp.p.bx 3, cells_all hp.p.bx 4⟩); clear ho hr hp)
                      | (go_at_call 17; refine (qd_crash PP.out q hq t _ F (by exact HV.out) HFB.out).mono ?_; rintro e w1 ⟨⟨rfl, hp⟩, ho⟩; have PP := Lib.hid hp; have CS := (show w1.cell? ⟨g, 1, none⟩ = some (.int .i64 q) ∧ w1.cell? ⟨g, 3, none⟩ = some (.bool t) ∧ w1.cell? ⟨g, 4, none⟩ = some (.slice Af F.length cf) from ⟨cells_all hp.p.bx 1, cells_all hp.p.bx 3, cells_all hp.p.bx 4⟩); clear hp ho))
                    all_goals
                      obtain ⟨cq1, cq3, cq4⟩ := CS
                      go_wp2_with (go_at_call 60; refine (qr_crash PP.out q hq t _ F (HF0.out _ PP.out.p.out) HFB.out).mono ?_; rintro e w1 ⟨rfl, hp⟩; have PP := Lib.hid hp; clear hp)
                      go_meet
                      exact ⟨rfl, _, PP.out⟩
                · go_wp2_with fail
                  go_meet
                  exact ⟨rfl, _, PP.out⟩
  case rest =>
   as_aux_lemma =>
    obtain ⟨rfl, D', PQ⟩ := hcut
    clear PP c0 c1 c2 c3 c4
    rename_i wc
    obtain ⟨RS0, hRS0⟩ : ∃ RS0 : List (Value × List UInt8), [(Value.slice Ab b.length cb, b)] = RS0 := ⟨_, rfl⟩
    rw [hRS0] at PQ
    clear hRS0
    have c1 := cells_all PQ.out.p.bx 1
    go_wp2_with fail
    refine (qd_read PQ.out q).mono ?_
    rintro e w1 ⟨va, rfl, hp⟩
    have PQ := Lib.hid hp
    have c1 := cells_all hp.p.bx 1
    clear hp
    go_wp2_with fail
    refine (qr_read PQ.out q).mono ?_
    rintro e w2 ⟨vb, rfl, hp⟩
    have PQ := Lib.hid hp
    have c1 := cells_all hp.p.bx 1
    clear hp
    go_wp2_with fail
    refine (qd_load PQ.out q).mono ?_
    rintro e w3 ⟨vp, rfl, hp⟩
    have PQ := Lib.hid hp
    have c1 := cells_all hp.p.bx 1
    clear hp
    go_wp2_with fail
    refine (qr_load PQ.out q).mono ?_
    rintro e w4 ⟨vq, rfl, hp⟩
    have PQ := Lib.hid hp
    have c4 := (show ∃ o f lv, Ref0 B w4 r o f lv D' from hp.p.rb)
    obtain ⟨o4, f4, lv4, hr4⟩ := c4
    have c4 := cells_all hr4.sr 4
    clear hp hr4
    go_wp2_with fail
    refine (qd_read PQ.out D'.base).mono ?_
    rintro e w5 ⟨vx, rfl, hp⟩
    have PQ := Lib.hid hp
    obtain ⟨o5, f5, lv5, hr5⟩ := hp.p.rb
    have c4 := cells_all hr5.sr 4
    clear hp hr5
    go_wp2_with fail
    refine (qr_read PQ.out D'.base).mono ?_
    rintro e w6 ⟨vy, rfl, hp⟩
    have PQ := Lib.hid hp
    have s1 := hp.str (v := va) (L := (D'.read q).1) (by simp)
    have s2 := hp.str (v := vb) (L := (D'.read q).1) (by simp)
    have s3 := hp.str (v := vp) (L := (D'.load q).1) (by simp)
    have s4 := hp.str (v := vq) (L := (D'.load q).1) (by simp)
    have s5 := hp.str (v := vx) (L := (D'.read D'.base).1) (by simp)
    have s6 := hp.str (v := vy) (L := (D'.read D'.base).1) (by simp)
    obtain ⟨p6, o6, f6, lv6, hd6⟩ := hp.p.da
    obtain ⟨o7, f7, lv7, hr6⟩ := hp.p.rb
    have c3 := cells_all hr6.sr 3
    have c4 := cells_all hr6.sr 4
    have FIN : Hid (∀ n, StepOk A B d r w (.returned (.bool true)) (w6.drewN n)) := fun n => ⟨rfl, D', (hp.drewN n).p.da, (hp.drewN n).p.rb, (hp.drewN n).p.out⟩
    have NU : Hid (∀ (x : Int) n, Calls Try.prog 11 #[.int .i64 x] (w6.drewN n) fun e w'' => e = .returned (.int .i64 x) ∧ ∃ m, w'' = w6.drewN m) := fun x n => by
      refine (num_is x _).mono ?_
      rintro e w'' ⟨rfl, rfl⟩
      exact ⟨rfl, n, rfl⟩
    have BA : Hid (∀ n, Calls Try.prog 19 #[.pointer (some ⟨d, 0, none⟩)] (w6.drewN n) fun e w'' => e = .returned (.int .i64 D'.base) ∧ ∃ m, w'' = w6.drewN m) := fun n => by
      refine (base_is (hd6.drewN n)).mono ?_
      rintro e w'' ⟨rfl, rfl⟩
      exact ⟨rfl, n, rfl⟩
    have EN : Hid (∀ n, Calls Try.prog 20 #[.pointer (some ⟨d, 0, none⟩)] (w6.drewN n) fun e w'' => e = .returned (.int .i64 D'.fin) ∧ ∃ m, w'' = w6.drewN m) := fun n => by
      refine (end_is (hd6.drewN n)).mono ?_
      rintro e w'' ⟨rfl, m, rfl⟩
      exact ⟨rfl, n + m, by rw [World.drewN_drewN]⟩
    have RE : Hid (∀ n, Calls Try.prog 63 #[.pointer (some ⟨r, 0, none⟩)] (w6.drewN n) fun e w'' => e = .returned (.int .i64 D'.fin) ∧ ∃ m, w'' = w6.drewN m) := fun n => by
      refine (rend_is (hr6.drewN n)).mono ?_
      rintro e w'' ⟨rfl, m, rfl⟩
      exact ⟨rfl, n + m, by rw [World.drewN_drewN]⟩
    have DN : Hid (∀ n, Calls Try.prog 27 #[.pointer (some ⟨d, 0, none⟩)] (w6.drewN n) fun e w'' => e = .returned (.bool D'.off) ∧ ∃ m, w'' = w6.drewN m) := fun n => by
      refine (down_is (hd6.drewN n)).mono ?_
      rintro e w'' ⟨rfl, rfl⟩
      exact ⟨rfl, n, rfl⟩
    clear hp hd6 hr6
    go_wp2_with fail
    go_quiet (first | (go_at_call 11; exact NU.out _ _) | (go_at_call 19; exact BA.out _) | (go_at_call 20; exact EN.out _) | (go_at_call 63; exact RE.out _) | (go_at_call 27; exact DN.out _))
    all_goals
      go_wp2_with fail
      go_ret
      exact FIN.out _
end
end Go.Proofs.Ytddcojikbcbihaa
