import Derived.Test.YtlgoenimjmiapaaT33
set_option linter.unusedSimpArgs false
set_option linter.unusedVariables false
set_option linter.unusedSectionVars false
/-! safe. -/
namespace Go.Proofs.Ytlgoenimjmiapaa
open Go.RowKit Go.Maps

section
variable {w w' w1 : World} {w0 : Base} {tb : Nat} {t : Town} {xs : Nat → Nat}
set_option maxRecDepth 100000 in
set_option maxHeartbeats 6000000 in
theorem safe_t (h : TownX w0 tb t xs w) (hy : SafeHyp t) (hs : ∀ i, i < t.n → SafeAt (t.safe i) i) :
    Calls Try.prog 42 #[.pointer (some ⟨tb, 0, none⟩)] w fun e w' => e = .returned (.bool true) ∧ TownX w0 tb (t.safe t.n) xs w' := by
  have HS := Lib.hid hs
  have HY := Lib.hid hy
  have H0 := Lib.hid h
  obtain ⟨n, hn⟩ : ∃ n, t.n = n := ⟨_, rfl⟩
  have h7 : n ≤ 7 := by rw [← hn]; exact hy.h7
  have HN := Lib.hid hn
  rw [hn]
  have NC : Hid (∀ i W, TownX w0 tb (t.safe i) xs W → W.cell? ⟨tb, 0, none⟩ = some (.int .i64 (n : Int))) := fun i W hW => by rw [← hn, ← (safe_n t i).1]; exact hW.ncell
  clear hs hy h hn
  go_enter Try.func42, Try.ntmps42
  go_wp2_with fail
  go_loopw [3, 2] (fun vi vr wr => ∃ i : Nat, i ≤ n ∧ vi = .int .i64 (i : Int) ∧ vr = .bool false ∧ Hid (TownX w0 tb (t.safe i) xs wr)) (fun vi _ _ => n - (intOf vi).toNat)
  case atStart => exact ⟨0, by omega, rfl, rfl, H0⟩
  case round =>
    obtain ⟨i, hi, rfl, rfl, hinv⟩ := hrel
    have c0 := NC.out i wr hinv.out
    by_cases hlt : i < n
    ·
      obtain ⟨u, hu⟩ : ∃ u, t.safe i = u := ⟨_, rfl⟩
      have hun : u.n = n := by rw [← hu, (safe_n t i).1]; exact HN.out
      have hiu : i < u.n := by omega
      have hsa : SafeAt u i := by rw [← hu]; exact HS.out i (by rw [HN.out]; exact hlt)
      have hyu : SafeHyp u := by rw [← hu]; exact HY.out.safe HS.out i (by rw [HN.out]; omega)
      obtain ⟨s, hss⟩ : ∃ s, (u.X i).st = s := ⟨_, rfl⟩
      obtain ⟨C, hC⟩ : ∃ C, (u.X i).commit = C := ⟨_, rfl⟩
      obtain ⟨Ls, hLs⟩ : ∃ Ls, s.log.length = Ls := ⟨_, rfl⟩
      obtain ⟨ep, hep⟩ : ∃ ep, s.ep = ep := ⟨_, rfl⟩
      obtain ⟨vo, hvo⟩ : ∃ vo, s.voted = vo := ⟨_, rfl⟩
      obtain ⟨ro, hro⟩ : ∃ ro, (u.X i).role = ro := ⟨_, rfl⟩
      obtain ⟨N, hN⟩ : ∃ N, (u.notes i).length = N := ⟨_, rfl⟩
      have hCL : C ≤ Ls := by rw [← hC, ← hLs, ← hss]; exact hsa.commit
      have hL2 : Ls ≤ 2048 := by have := (hyu.fit i hiu).log; rw [hss, hLs] at this; exact this
      have hepb : 0 ≤ ep ∧ ep < 4096 := by have := hyu.ep i hiu; rw [hss, hep] at this; exact this
      obtain ⟨PV, hPV⟩ : ∃ PV : List Ent → (Int → Option Int) → World → Value → Nat → Prop, (fun D le W v B => Sees w0 tb { u with done := D, lead := le } xs v s B W) = PV := ⟨_, rfl⟩
      have XC : Hid (∀ W, TownX w0 tb (t.safe i) xs W → ∃ g c, W.cell? ⟨tb, 1, none⟩ = some (.slice (some ⟨g, 0, none⟩) n c) ∧ W.cell? ⟨g, i, none⟩ = some (.pointer (some ⟨xs i, 0, none⟩))) := fun W hW => by
        rw [hu] at hW
        obtain ⟨g, c, _, e1, e2⟩ := hW.xcells hiu
        exact ⟨g, c, by rw [← hun]; exact e1, e2⟩
      have PVX : Hid (∀ D le W v B, PV D le W v B → ∃ g c, W.cell? ⟨tb, 1, none⟩ = some (.slice (some ⟨g, 0, none⟩) n c) ∧ W.cell? ⟨g, i, none⟩ = some (.pointer (some ⟨xs i, 0, none⟩))) := fun D le W v B hW => by
        rw [← hPV] at hW
        obtain ⟨g, c, _, e1, e2⟩ := hW.x.xcells (i := i) hiu
        exact ⟨g, c, by rw [← hun]; exact e1, e2⟩
      have STATE : Hid (∀ W, TownX w0 tb (t.safe i) xs W → Calls Try.prog 10 #[.pointer (some ⟨xs i, 0, none⟩)] W fun e w' => ∃ A c, e = .returned (.agg #[.int .i64 ep, .int .i64 vo, .slice A Ls c]) ∧ Hid (PV u.done u.lead (w'.alloc (.cells #[.int .i64 ep, .int .i64 vo, .slice A Ls c] 28)) (.slice A Ls c) w'.heap.size)) := fun W hW => by
        rw [hu] at hW
        refine (state_t hW hiu (hyu.fit i hiu)).mono ?_
        rintro e w' ⟨A, c, rfl, k1, k2, k3⟩
        rw [hss, hep, hvo, hLs]
        rw [hss, hLs] at k1
        rw [hss, hLs] at k2
        have := Sees.from hW (s := s) k3 (by rw [hLs]; exact k1) k2
        rw [hep, hvo] at this
        refine ⟨A, c, rfl, ?_⟩
        show PV _ _ _ _ _
        rw [← hPV]
        exact this
      have PANY : Hid (∀ D le W W' v B, PV D le W v B → Out Zone.no W W' → PV D le W' v B) := fun D le W W' v B hW ho => by rw [← hPV] at hW ⊢; exact hW.any ho
      have COMMIT : Hid (∀ D le W v B, PV D le W v B → Calls Try.prog 17 #[.pointer (some ⟨xs i, 0, none⟩)] W fun e w' => e = .returned (.int .i64 (C : Int)) ∧ W = w') := fun D le W v B hW => by
        rw [← hPV] at hW
        have := commit_t hW.x (i := i) hiu (hyu.fit i hiu)
        rw [← hC]
        exact this
      have ROLE : Hid (∀ D le W v B, PV D le W v B → Calls Try.prog 16 #[.pointer (some ⟨xs i, 0, none⟩)] W fun e w' => e = .returned (.int .i64 ro) ∧ W = w') := fun D le W v B hW => by
        rw [← hPV] at hW
        have := role_t hW.x (i := i) hiu (hyu.fit i hiu)
        rw [← hro]
        exact this
      have CELLS : Hid (∀ D le W v B, PV D le W v B → W.cell? ⟨B, 0, none⟩ = some (.int .i64 ep) ∧ W.cell? ⟨B, 1, none⟩ = some (.int .i64 vo) ∧ W.cell? ⟨B, 2, none⟩ = some v ∧ ∃ Ad cd, W.cell? ⟨tb, 4, none⟩ = some (.slice Ad D.length cd)) := fun D le W v B hW => by
        rw [← hPV] at hW
        rw [← hep, ← hvo]
        exact hW.cells
      have ENTRY : Hid (∀ D le W v B k, PV D le W v B → k < Ls → ∃ ye yd g c, s.log[k]? = some ye ∧ yd = str ye.data ∧ v = .slice (some ⟨g, 0, none⟩) Ls c ∧ W.cell? ⟨g, k * 2, none⟩ = some (.int .i64 ye.ep) ∧ W.cell? ⟨g, k * 2 + 1, none⟩ = some (.string yd)) := fun D le W v B k hW hk => by
        rw [← hPV] at hW
        obtain ⟨y, hy⟩ : ∃ y, s.log[k]? = some y := ⟨_, List.getElem?_eq_getElem (by omega)⟩
        obtain ⟨g, c, e1, e2, e3⟩ := hW.entry hy
        rw [hLs] at e1
        exact ⟨y, _, g, c, hy, rfl, e1, e2, e3⟩
      have ENTRYD : Hid (∀ D le W v B k y, PV D le W v B → D[k]? = some y → ∃ g c, W.cell? ⟨tb, 4, none⟩ = some (.slice (some ⟨g, 0, none⟩) D.length c) ∧ W.cell? ⟨g, k * 2, none⟩ = some (.int .i64 y.ep) ∧ W.cell? ⟨g, k * 2 + 1, none⟩ = some (.string (str y.data))) := fun D le W v B k y hW hy => by
        rw [← hPV] at hW
        exact hW.entryD hy
      have PUSH : Hid (∀ D le W A c B (y : Ent), PV D le W (.slice A Ls c) B → D.length ≤ 4096 → ∃ (An : Option Addr) (cn : Nat) (A9 : Option Addr) (n9 c9 : Nat) (w1 : World), (∀ W', Out Zone.no W W' → W'.cell? ⟨tb, 4, none⟩ = some (.slice An D.length cn)) ∧
          (Builtin.append_ #[26, 26] 26 #[.slice An D.length cn, .slice (some ⟨W.heap.size, 0, none⟩) 1 1]).run Try.prog (W.drew.alloc (.cells #[.int .i64 y.ep, .string (str y.data)] 38)) = .ok (.slice A9 n9 c9) w1 ∧
          PV (D ++ [y]) le (w1.setCell ⟨tb, 4, none⟩ (.slice A9 n9 c9)) (.slice A Ls c) B ∧ w1.frozen? ⟨tb, 4, none⟩ = false ∧ ∃ u, w1.cell? ⟨tb, 4, none⟩ = some u) := fun D le W A c B y hW hD => by
        rw [← hPV] at hW ⊢
        have hW : Sees w0 tb { u with done := D, lead := le } xs (.slice A Ls c) s B W := hW
        rw [← hLs] at hW ⊢
        exact hW.push (y := y) hD
      have LOOK : Hid (∀ D le W v B, PV D le W v B → ∃ bm, (∀ W', Out Zone.no W W' → W'.cell? ⟨tb, 5, none⟩ = some (.map (some bm)) ∧ (Instr.lookup 66 (.map (some bm)) (.int .i64 ep) true).run Try.prog W' = .ok (.tuple #[.int .i64 ((le ep).getD 0), .bool (le ep).isSome]) W')) := fun D le W v B hW => by
        rw [← hPV] at hW
        exact hW.x.look hepb
      have LED : Hid (∀ D W v B, PV D u.lead W v B → ∃ bm w', W.cell? ⟨tb, 5, none⟩ = some (.map (some bm)) ∧ (Instr.mapUpdate 66 (.map (some bm)) (.int .i64 ep) (.int .i64 (i : Int))).run Try.prog W = .ok () w' ∧ PV D (setL u.lead ep (i : Int)) w' v B) := fun D W v B hW => by
        rw [← hPV] at hW ⊢
        exact hW.led hepb hyu.lead i
      have NCELL : Hid (∀ D le W v B, PV D le W v B → ∃ g c A c', W.cell? ⟨tb, 2, none⟩ = some (.slice (some ⟨g, 0, none⟩) n c) ∧ W.cell? ⟨g, i, none⟩ = some (.slice A N c') ∧ RRow (fun _ => False) W (.slice A N c') N 5 (encN (u.notes i))) := fun D le W v B hW => by
        rw [← hPV] at hW
        obtain ⟨g, c, A, m, c', e1, e2, rfl, e3⟩ := hW.x.ncells (i := i) hiu
        rw [← hun, ← hN]
        exact ⟨g, c, A, c', e1, e2, e3⟩
      have FOLD : Hid (∀ W A c', RRow (fun _ => False) W (.slice A N c') N 5 (encN (u.notes i)) → Calls Try.prog 45 #[.slice A N c'] W fun e w' => ∃ A2 c2, e = .returned (.tuple #[.agg #[.int .i64 ep, .int .i64 vo, .slice A2 Ls c2], .bool true]) ∧ GR w' 38 2 (.slice A2 Ls c2) Ls (encL s.log) ∧ Out Zone.no W w') := fun W A c' hr => by
        rw [← hN] at hr ⊢
        have hf := hsa.fold
        refine (fold_is W _ (u.notes i) _ hr (hyu.notes i hiu) (fold_data hf) hf).mono ?_
        rintro e w' ⟨lv, rfl, k1, k2, k3⟩
        rw [hss] at k1 ⊢
        rw [hep, hvo]
        rw [hLs] at k1
        obtain ⟨A2, c2, rfl⟩ := GRow.form k1
        exact ⟨A2, c2, rfl, k1, k2⟩
      have SAME : Hid (∀ D le W v B A2 c2, PV D le W v B → GR W 38 2 (.slice A2 Ls c2) Ls (encL s.log) → Calls Try.prog 23 #[.slice A2 Ls c2, v] W fun e w' => e = .returned (.bool true) ∧ Hid (PV D le w' v B)) := fun D le W v B A2 c2 hW hg => by
        rw [← hLs] at hg ⊢
        have hv : RRow (fun _ => False) W v s.log.length 2 (encL s.log) := by
          rw [← hPV] at hW
          obtain ⟨L, U, _, _, _, h4, _⟩ := hW
          exact gr_reads h4 (fun _ _ h => h)
        refine (same_is W _ _ s.log (gr_reads hg (N := fun _ => False) (fun _ _ h => h)) hv).mono ?_
        rintro e w' ⟨rfl, ho⟩
        exact ⟨rfl, PANY.out _ _ _ _ _ _ hW ho⟩
      have DD : Hid (∀ k, k < C → ∀ y, s.log[k]? = some y → (doneK u.done s.log (k + 1))[k]? = some y) := fun k hk y hy => by
        rw [doneK_at (fun hk2 => by have := hsa.same k (by omega) hk2; rw [hss] at this; exact this) (by omega), hy]
      have DP : Hid (∀ k, k < C → ∀ y, s.log[k]? = some y → (doneK u.done s.log k).length = k → doneK u.done s.log (k + 1) = doneK u.done s.log k ++ [y]) := fun k hk y hy hl => doneK_push (fun j hj hj2 => by have := hsa.same j (by omega) hj2; rw [hss] at this; exact this) hy hl
      have DS : Hid (∀ k, k < C → (doneK u.done s.log k).length ≠ k → doneK u.done s.log (k + 1) = doneK u.done s.log k) := fun k hk hl => doneK_stay hl (by omega)
      have DL : Hid (∀ k, k ≤ C → (doneK u.done s.log k).length ≤ 4096) := fun k hk => by
        have := doneK_len (D := u.done) (l := s.log) (k := k) (by omega)
        have := hyu.done
        omega
      have D0 : doneK u.done s.log 0 = u.done := by unfold doneK; rw [if_neg (by omega)]
      have LEADS : Hid (ro = 2 → u.lead ep = none ∨ u.lead ep = some (i : Int)) := fun hr => by
        have := hsa.lead (by rw [hro]; exact hr)
        rw [hss, hep] at this
        exact this
      have FIN : Hid (∀ W v B, PV (doneK u.done s.log C) (if ro = 2 then setL u.lead ep (i : Int) else u.lead) W v B → TownX w0 tb (t.safe (i + 1)) xs W) := fun W v B hW => by
        rw [← hPV] at hW
        have := hW.x
        show TownX w0 tb ((t.safe i).seen i) xs W
        rw [hu]
        unfold Town.seen
        rw [hss, hC, hro, hep]
        exact this
      obtain ⟨d0, hd0⟩ : ∃ d0, u.done = d0 := ⟨_, rfl⟩
      obtain ⟨l0, hl0⟩ : ∃ l0, u.lead = l0 := ⟨_, rfl⟩
      rw [hd0, hl0] at STATE
      rw [hd0] at DD DP DS DL D0 FIN
      rw [hl0] at LED LEADS FIN
      obtain ⟨gx, cx, x1, x2⟩ := XC.out wr hinv.out
      have ST := Lib.hid (STATE.out wr hinv.out)
      have i1 : (0 : Int) ≤ (i : Int) := by omega
      have i2 : (i : Int) < (n : Int) := by omega
      clear hu hun hiu hsa hyu hss hC hLs hep hvo hro hN hPV hd0 hl0 STATE XC H0 HS HY HN
      go_upto_region 5 with (first
        | (go_at_call 10; refine ST.out.mono ?_; rintro e w1 ⟨A, c, rfl, hp⟩))
      clear hinv x1 x2 c0 ST
      obtain ⟨B, hB⟩ : ∃ B, w1.heap.size = B := ⟨_, rfl⟩
      obtain ⟨W2, hW2⟩ : ∃ W2, w1.alloc (.cells #[.int .i64 ep, .int .i64 vo, .slice A Ls c] 28) = W2 := ⟨_, rfl⟩
      rw [hW2, hB] at hp
      rw [hW2, hB]
      clear hW2 hB
      obtain ⟨g1, k1, x1, x2⟩ := PVX.out _ _ _ _ _ hp.out
      obtain ⟨b0, b1, b2, -⟩ := CELLS.out _ _ _ _ _ hp.out
      have CM := Lib.hid (COMMIT.out _ _ _ _ _ hp.out)
      have j1 : ¬ (Ls : Int) < (C : Int) := by omega
      have j1n : decide (Ls < C) = false := decide_eq_false (by omega)
      have HP0 : Hid (PV (doneK d0 s.log 0) l0 W2 (.slice A Ls c) B) := by rw [D0]; exact hp
      clear hp D0
      go_wp2_with (go_at_call 17; refine CM.out.mono ?_; rintro e w3 ⟨rfl, rfl⟩)
      clear CM x1 x2 b0 b1 b2
      go_loopw [6, 2] (fun vk vr2 wr => ∃ k : Nat, k ≤ C ∧ vk = .int .i64 (k : Int) ∧ vr2 = .bool false ∧ Hid (PV (doneK d0 s.log k) l0 wr (.slice A Ls c) B)) (fun vk _ _ => C - (intOf vk).toNat)
      case atStart => exact ⟨0, by omega, rfl, rfl, HP0⟩
      case round =>
        obtain ⟨k, hk, rfl, rfl, hinv⟩ := hrel
        by_cases hkc : k < C
        · have hkl : k < Ls := by omega
          obtain ⟨y, yd, gl, cl, hy, hyd, hv, -⟩ := ENTRY.out _ _ _ _ _ k hinv.out hkl
          obtain ⟨rfl, rfl⟩ : A = some ⟨gl, 0, none⟩ ∧ c = cl := by injection hv with e1 _ e2; exact ⟨e1, e2⟩
          obtain ⟨ye, hye⟩ : ∃ ye, y.ep = ye := ⟨_, rfl⟩
          have EC : Hid (∀ D le W B, PV D le W (.slice (some ⟨gl, 0, none⟩) Ls c) B → W.cell? ⟨gl, k * 2, none⟩ = some (.int .i64 ye) ∧ W.cell? ⟨gl, k * 2 + 1, none⟩ = some (.string yd)) := fun D le W B hW => by
            obtain ⟨y', yd', g', c', hy', hyd', hv', e1, e2⟩ := ENTRY.out _ _ _ _ _ k hW hkl
            obtain rfl : gl = g' := by injection hv' with e; injection e with e; injection e with e
            rw [hy] at hy'
            injection hy' with hy'
            subst hy'
            rw [← hye, hyd, ← hyd']
            exact ⟨e1, e2⟩
          have hnx := DD.out k hkc y hy
          obtain ⟨D, hD⟩ : ∃ D, doneK d0 s.log k = D := ⟨_, rfl⟩
          obtain ⟨D', hD'⟩ : ∃ D', doneK d0 s.log (k + 1) = D' := ⟨_, rfl⟩
          have dP := DP.out k hkc y hy
          have dS := DS.out k hkc
          have dL := DL.out k hk
          have dL' := DL.out (k + 1) hkc
          rw [hD, hD'] at dP dS
          rw [hD'] at hnx dL'
          rw [hD] at dL hinv
          obtain ⟨m, hm⟩ : ∃ m, D.length = m := ⟨_, rfl⟩
          obtain ⟨m', hm'⟩ : ∃ m', D'.length = m' := ⟨_, rfl⟩
          have hkm' : k < m' := by rw [← hm']; exact (List.getElem?_eq_some_iff.1 hnx).1
          rw [hm] at dP dS
          have NEXT : Hid (PV D' l0 = PV (doneK d0 s.log (k + 1)) l0) := by show _ = _; rw [hD']
          have HDP := Lib.hid dP
          have HDS := Lib.hid dS
          have HNX := Lib.hid hnx
          have HY := Lib.hid hy
          have HYD := Lib.hid hyd
          have HYE := Lib.hid hye
          have HM := Lib.hid hm
          have HM' := Lib.hid hm'
          have HDL := Lib.hid dL
          obtain ⟨-, -, b2, Ad, cd, b4⟩ := CELLS.out _ _ _ _ _ hinv.out
          rw [hm] at b4
          have j2 : (k : Int) < (C : Int) := by omega
          have j0 : (0 : Int) ≤ (k : Int) := by omega
          clear dP dS dL dL' hnx hy hyd hye hm hm' hD hD' hv
          obtain ⟨gg, hgg⟩ : ∃ gg, ((k : Int) == (m : Int)) = gg := ⟨_, rfl⟩
          go_upto_if 51 with fail
          go_cut [] (fun wx => Hid (PV D' l0 wx (.slice (some ⟨gl, 0, none⟩) Ls c) B))
          case first =>
            cases gg
            · have hkm : m ≠ k := fun e => by rw [e] at hgg; simp at hgg
              have he := HDS.out hkm
              go_wp2_with fail
              go_meet
              show PV _ _ _ _ _
              rw [he]
              exact hinv.out
            · have hkm : m = k := by
                have : (k : Int) = (m : Int) := by simpa using hgg
                omega
              obtain ⟨An, cn, A9, n9, c9, w7, hC, hrun, hP7, fz, uu, eu⟩ := PUSH.out _ _ _ _ _ _ y hinv.out HDL.out
              rw [HYE.out, ← HYD.out, HM.out] at hrun
              rw [HM.out] at hC
              have he := HDP.out hkm
              rw [← he] at hP7
              have hcc := hC _ (Out.refl _ wr)
              rw [b4] at hcc
              obtain ⟨rfl, rfl⟩ : Ad = An ∧ cd = cn := by injection hcc with hcc; injection hcc with e1 _ e2; exact ⟨e1, e2⟩
              have HRUN := Lib.hid hrun
              have HP7 := Lib.hid hP7
              have od : Out Zone.no wr wr.drew := (Out.refl _ _).drew
              have oa : Out Zone.no wr (wr.drew.alloc (.cells #[.int .i64 ye, .string yd] 38)) := od.alloc _
              have ob : Out Zone.no wr (wr.alloc (.cells #[.int .i64 ye, .string yd] 38)) := (Out.refl _ _).alloc _
              obtain ⟨-, -, y2, -⟩ := CELLS.out _ _ _ _ _ (PANY.out _ _ _ _ _ _ hinv.out od)
              obtain ⟨-, -, z2, -⟩ := CELLS.out _ _ _ _ _ (PANY.out _ _ _ _ _ _ hinv.out oa)
              obtain ⟨-, -, q2, -⟩ := CELLS.out _ _ _ _ _ (PANY.out _ _ _ _ _ _ hinv.out ob)
              obtain ⟨e0, e1⟩ := EC.out _ _ _ _ hinv.out
              obtain ⟨y0, y1⟩ := EC.out _ _ _ _ (PANY.out _ _ _ _ _ _ hinv.out od)
              obtain ⟨z0, z1⟩ := EC.out _ _ _ _ (PANY.out _ _ _ _ _ _ hinv.out oa)
              obtain ⟨q0, q1⟩ := EC.out _ _ _ _ (PANY.out _ _ _ _ _ _ hinv.out ob)
              have y4 := hC _ od
              have z4 := hC _ oa
              have q4 := hC _ ob
              clear od oa ob hC hrun hP7 hcc hgg hkm he HDP HDS HNX HY HYD HYE HM HM' HDL
              have j3 : (k : Int) < (Ls : Int) := by omega
              go_upto_region 12 with fail
              go_region_law (refine step_builtin rfl _ _ _ rfl (by exact HRUN.out) ?_)
              go_goals
              all_goals
                go_wp2_with fail
                go_meet
                exact HP7
          case rest =>
          have HP9 := hcut
          clear hcut
          obtain ⟨W9, hW9⟩ : ∃ W9, wc = W9 := ⟨_, rfl⟩
          rw [hW9] at HP9 ⊢
          clear hW9 b2 b4
          obtain ⟨-, -, b2, -⟩ := CELLS.out _ _ _ _ _ HP9.out
          obtain ⟨e0, e1⟩ := EC.out _ _ _ _ HP9.out
          obtain ⟨gd, cd', f4, f0, f1⟩ := ENTRYD.out _ _ _ _ _ _ _ HP9.out HNX.out
          rw [HM'.out] at f4
          rw [HYE.out] at f0
          rw [← HYD.out] at f1
          have j3 : (k : Int) < (Ls : Int) := by omega
          have j4 : (k : Int) < (m' : Int) := by omega
          clear hgg HDP HDS HNX HY HYD HYE HM HM' HDL EC
          go_wp2_with fail
          go_quiet (fail)
          go_wp2_with fail
          go_roundw
          case rel =>
            refine ⟨k + 1, by omega, by go_num, rfl, ?_⟩
            show PV _ _ _ _ _
            rw [← NEXT.out]
            exact PANY.out _ _ _ _ _ _ HP9.out ((Out.refl _ _).drewN nq)
          case measure => simp [intOf]; omega
        · obtain rfl : k = C := by omega
          obtain ⟨DC, hDC⟩ : ∃ DC, doneK d0 s.log k = DC := ⟨_, rfl⟩
          have FI : Hid (∀ W v B, PV DC (if ro = 2 then setL l0 ep (i : Int) else l0) W v B → TownX w0 tb (t.safe (i + 1)) xs W) := fun W v B hW => by rw [← hDC] at hW; exact FIN.out W v B hW
          rw [hDC] at hinv
          clear hDC DD DP DS DL FIN HP0
          obtain ⟨gx, cx, x1, x2⟩ := PVX.out _ _ _ _ _ hinv.out
          have RL := Lib.hid (ROLE.out _ _ _ _ _ hinv.out)
          obtain ⟨gg, hgg⟩ : ∃ gg, (ro == 2) = gg := ⟨_, rfl⟩
          go_upto_if 87 with (go_at_call 16; refine RL.out.mono ?_; rintro e w3 ⟨rfl, rfl⟩)
          obtain ⟨l1, hl1⟩ : ∃ l1, (if ro = 2 then setL l0 ep (i : Int) else l0) = l1 := ⟨_, rfl⟩
          rw [hl1] at FI
          have HL1 := Lib.hid hl1
          clear hl1 x1 x2
          go_cut [2] (fun s2 wx => s2 = .bool false ∧ Hid (PV DC l1 wx (.slice A Ls c) B))
          case first =>
            cases gg
            · have hne : ¬ ro = 2 := fun e => by rw [e] at hgg; simp at hgg
              have he := HL1.out
              rw [if_neg hne] at he
              have hres : Hid (PV DC l1 wr (.slice A Ls c) B) := by show PV _ _ _ _ _; rw [← he]; exact hinv.out
              clear he hne hgg
              go_wp2_with fail
              go_meet
              exact ⟨rfl, hres⟩
            · have heq : ro = 2 := by simpa using hgg
              have he := HL1.out
              rw [if_pos heq] at he
              have ld := LEADS.out heq
              obtain ⟨bm, hK⟩ := LOOK.out _ _ _ _ _ hinv.out
              obtain ⟨m1, r1⟩ := hK wr (Out.refl _ _)
              obtain ⟨m2, r2⟩ := hK wr.drew ((Out.refl _ _).drew)
              obtain ⟨b0, -, -, -⟩ := CELLS.out _ _ _ _ _ hinv.out
              obtain ⟨y0, -, -, -⟩ := CELLS.out _ _ _ _ _ (PANY.out _ _ _ _ _ _ hinv.out ((Out.refl _ _).drew))
              obtain ⟨bm', wL, m3, r3, hL⟩ := LED.out _ _ _ _ (PANY.out _ _ _ _ _ _ hinv.out ((Out.refl _ _).drew.drew))
              have m4 := (hK _ ((Out.refl Zone.no wr).drew.drew)).1
              obtain rfl : bm = bm' := by
                rw [m4] at m3
                injection m3 with m3
                injection m3 with m3
                injection m3 with m3
              obtain ⟨u0, -, -, -⟩ := CELLS.out _ _ _ _ _ (PANY.out _ _ _ _ _ _ hinv.out ((Out.refl _ _).drew.drew))
              have hres : Hid (PV DC l1 wL (.slice A Ls c) B) := by show PV _ _ _ _ _; rw [← he]; exact hL
              clear he hL hK heq hgg
              rcases ld with ld | ld
              · rw [ld] at r1 r2
                have r1 : (Instr.lookup 66 (.map (some bm)) (.int .i64 ep) true).run Try.prog wr = .ok (.tuple #[.int .i64 0, .bool false]) wr := r1
                have r2 : (Instr.lookup 66 (.map (some bm)) (.int .i64 ep) true).run Try.prog wr.drew = .ok (.tuple #[.int .i64 0, .bool false]) wr.drew := r2
                clear ld
                go_wp2_with fail
                go_region
                all_goals
                  go_wp2_with fail
                  go_region
                  all_goals
                    go_wp2_with fail
                    go_meet
                    exact ⟨rfl, hres⟩
              · rw [ld] at r1 r2
                have r1 : (Instr.lookup 66 (.map (some bm)) (.int .i64 ep) true).run Try.prog wr = .ok (.tuple #[.int .i64 (i : Int), .bool true]) wr := r1
                have r2 : (Instr.lookup 66 (.map (some bm)) (.int .i64 ep) true).run Try.prog wr.drew = .ok (.tuple #[.int .i64 (i : Int), .bool true]) wr.drew := r2
                clear ld
                go_wp2_with fail
                go_region
                all_goals
                  go_wp2_with fail
                  go_region
                  all_goals
                    go_wp2_with fail
                    go_meet
                    exact ⟨rfl, hres⟩
          case rest =>
          obtain ⟨rfl, HP9⟩ := hcut
          clear hgg HL1 RL LEADS LOOK LED
          obtain ⟨W9, hW9⟩ : ∃ W9, wc = W9 := ⟨_, rfl⟩
          rw [hW9] at HP9 ⊢
          clear hW9
          obtain ⟨gn, cn, An, c', n1, n2, n3⟩ := NCELL.out _ _ _ _ _ HP9.out
          have FO := Lib.hid (FOLD.out _ _ _ n3)
          clear n3
          go_upto_region 21 with (first
            | (go_at_call 45; refine FO.out.mono ?_; rintro e w5 ⟨A2, c2, rfl, hg, ho⟩; have HG := Lib.hid hg; have HO := Lib.hid ho; clear hg ho))
          obtain ⟨B2, hB2⟩ : ∃ B2, w5.heap.size = B2 := ⟨_, rfl⟩
          obtain ⟨W6, hW6⟩ : ∃ W6, w5.alloc (.cells #[.int .i64 ep, .int .i64 vo, .slice A2 Ls c2] 28) = W6 := ⟨_, rfl⟩
          have f0 := cell_new w5 #[.int .i64 ep, .int .i64 vo, .slice A2 Ls c2] 28 0
          have f1 := cell_new w5 #[.int .i64 ep, .int .i64 vo, .slice A2 Ls c2] 28 1
          have f2 := cell_new w5 #[.int .i64 ep, .int .i64 vo, .slice A2 Ls c2] 28 2
          have oa : Out Zone.no w5 W6 := by rw [← hW6]; exact (Out.refl _ _).alloc _
          have HG6 := Lib.hid (GRow.any HG.out oa)
          have HP6 := Lib.hid (PANY.out _ _ _ _ _ _ HP9.out (HO.out.trans oa))
          rw [hW6, hB2] at f0 f1 f2
          rw [hW6, hB2]
          clear hW6 hB2 oa n1 n2
          have f0 : W6.cell? ⟨B2, 0, none⟩ = some (.int .i64 ep) := f0
          have f1 : W6.cell? ⟨B2, 1, none⟩ = some (.int .i64 vo) := f1
          have f2 : W6.cell? ⟨B2, 2, none⟩ = some (.slice A2 Ls c2) := f2
          obtain ⟨b0, b1, b2, -⟩ := CELLS.out _ _ _ _ _ HP6.out
          have SM := Lib.hid (SAME.out _ _ _ _ _ _ _ HP6.out HG6.out)
          go_wp2_with (go_at_call 23; refine SM.out.mono ?_; rintro e w7 ⟨rfl, h7'⟩)
          go_roundw
          case rel => exact ⟨i + 1, by omega, by go_num, rfl, FI.out _ _ _ h7'.out⟩
          case measure => simp [intOf]; omega
    · have c1 : ¬ (i : Int) < (n : Int) := by omega
      obtain rfl : i = n := by omega
      go_wp2_with fail
      go_ret
      exact ⟨rfl, hinv.out⟩
end
end Go.Proofs.Ytlgoenimjmiapaa
