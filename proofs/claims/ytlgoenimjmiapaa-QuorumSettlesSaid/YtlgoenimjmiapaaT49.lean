import Derived.Test.YtlgoenimjmiapaaT48
import Derived.Deep.CutBlock
set_option linter.unusedSimpArgs false
set_option linter.unusedVariables false
set_option linter.unusedSectionVars false
/-! QuorumSettles, walked. -/
namespace Go.Proofs.Ytlgoenimjmiapaa
open Go.RowKit Go.Maps

set_option maxRecDepth 100000 in
set_option maxHeartbeats 20000000 in
theorem qsettles_is (W : World) (n0 : Int) (v : Value) (ls : List Deed) (hl : Deeds W v ls) (hb : ls.length ≤ 140737488355328) :
    Calls Try.prog 6 #[.int .i64 n0, v] W fun e w' => e = .returned (.bool true) ∧ Out Zone.no W w' := by
  obtain ⟨A, c, rfl, hl⟩ := hl
  obtain ⟨M, hM⟩ : ∃ M, ls.length = M := ⟨_, rfl⟩
  obtain ⟨r, hr⟩ : ∃ r, modN n0 4 = r := ⟨_, rfl⟩
  have hr4 : r < 4 := by rw [← hr]; exact modN_lt _ (by omega)
  obtain ⟨N, hN⟩ : ∃ N : Nat, 1 + 2 * r = N := ⟨_, rfl⟩
  have e1 : (n0.tmod 4 + 4).tmod 4 = (r : Int) := by rw [← hr]; exact modN_eq n0 4 (by omega)
  obtain ⟨w1, w2⟩ := modN_wraps n0 4 (by omega) (by omega)
  have w1' : IntKind.i64.wrap (n0.tmod 4) = n0.tmod 4 := w1
  have w2' : IntKind.i64.wrap (n0.tmod 4 + 4) = n0.tmod 4 + 4 := w2
  have e2 : IntKind.i64.wrap (2 * (r : Int)) = 2 * (r : Int) := IntWalk.i64_in _ (by omega)
  have e3 : IntKind.i64.wrap (1 + 2 * (r : Int)) = 1 + 2 * (r : Int) := IntWalk.i64_in _ (by omega)
  have e4 : 1 + 2 * (r : Int) = (N : Int) := by omega
  have e5 : wrap64 (N : Int) = (N : Int) := IntWalk.wrap64_in _ (by omega)
  have MAKE : Hid (Calls Try.prog 19 #[.int .i64 (N : Int)] W fun e w' => ∃ tb, e = .returned (.pointer (some ⟨tb, 0, none⟩)) ∧ Hid (TownK W tb N 0 w')) := by
    refine (make_is W N (by omega) (by omega) (by omega)).mono ?_
    rintro e w' ⟨tb, rfl, h⟩
    exact ⟨tb, rfl, TownK.new h⟩
  have KNO : Hid (∀ w, Calls Try.prog 11 #[] w fun e w' => e = .returned (.bool true) ∧ Hid (Out Zone.no w w')) := fun w => knows_is w
  have ACT : Hid (∀ (k : Nat) (w : World) (tb : Nat) (a : Deed), TownK W tb N k w → k < 400 → a.Ok → Calls Try.prog 20 #[.pointer (some ⟨tb, 0, none⟩), .agg #[.int .i64 a.kind, .int .i64 a.i, .int .i64 a.k, .int .i64 a.cut, .bool a.falls]] w fun e w' => e = .returned (.bool true) ∧ Hid (TownK W tb N (k + 1) w')) := fun k w tb a h hk ha => h.act (by omega) (by omega) (by omega) hk a ha
  have DE : Hid (∀ (k : Nat) (w : World), k < M → Out Zone.no W w → ∃ a : Deed, a.Ok ∧ ∃ b o : Nat, A = some ⟨b, o, none⟩ ∧ w.cell? ⟨b, o + k * 5, none⟩ = some (.int .i64 a.kind) ∧ w.cell? ⟨b, o + k * 5 + 1, none⟩ = some (.int .i64 a.i) ∧ w.cell? ⟨b, o + k * 5 + 2, none⟩ = some (.int .i64 a.k) ∧ w.cell? ⟨b, o + k * 5 + 3, none⟩ = some (.int .i64 a.cut) ∧ w.cell? ⟨b, o + k * 5 + 4, none⟩ = some (.bool a.falls)) := fun k w hk ho => by
    have hka : ls[k]? = some ls[k] := List.getElem?_eq_getElem (by omega)
    obtain ⟨h1, b, o, h2, c0, c1, c2, c3, c4⟩ := hl k _ hka
    exact ⟨_, h1, b, o, h2, ho.cell c0 id, ho.cell c1 id, ho.cell c2 id, ho.cell c3 id, ho.cell c4 id⟩
  have FE : Hid (∀ (tb k : Nat) (w : World), k ≤ 100 → TownK W tb N k w → ∃ (P : Nat → World → Prop) (s : Nat → St), FallC tb N P s ∧ w.frozen? ⟨tb, 3, none⟩ = false ∧ (∃ u, w.cell? ⟨tb, 3, none⟩ = some u) ∧
    P 0 (w.setCell ⟨tb, 3, none⟩ (.slice none 0 0)) ∧ (∀ i w, P i w → Out Zone.no W w) ∧ ∀ w, P N w → FellW W tb N k k (bestOf (fun j => (s j).log) N) (epOf (fun j => (s j).ep) N) w) := fun tb k w hk h => h.fell (by omega) (by omega) (by omega) hk
  have hN7 : N ≤ 7 := by omega
  have hN0 : 0 < N := by omega
  rw [hM] at hb ⊢
  clear hl hM hr hN w1 w2 hr4
  go_enter Try.func6, Try.ntmps6
  go_upto_block 0 with (first
    | (go_at_call 19; refine MAKE.out.mono ?_; rintro e w3 ⟨tb, rfl, h3⟩)
    | (go_at_call 11; refine (KNO.out _).mono ?_; rintro e w4 ⟨rfl, h4⟩))
  have H4 := Lib.hid (h3.out.any h4.out)
  clear MAKE KNO h3 h4 e1 e2 e3 e4 e5 w1' w2'
  go_cut [] from 18 (fun wx => Hid (∃ k, k ≤ 100 ∧ TownK W tb N k wx))
  case first => as_aux_lemma =>
    clear FE
    go_wp2_with fail
    go_loopw [6] (fun vi wr => ∃ k : Nat, k ≤ M ∧ k ≤ 100 ∧ vi = .int .i64 (k : Int) ∧ Hid (TownK W tb N k wr)) (fun vi _ => M - (intOf vi).toNat)
    case atStart => exact ⟨0, by omega, by omega, rfl, H4⟩
    case round =>
      obtain ⟨k, hk, hk2, rfl, hinv⟩ := hrel
      by_cases hlt : k < M
      · by_cases h250 : k < 100
        · have j0 : (0 : Int) ≤ (k : Int) := by omega
          have j1 : (k : Int) < (M : Int) := by omega
          have j2 : (k : Int) < 100 := by omega
          obtain ⟨a, hao, bb, oo, rfl, c0, c1, c2, c3, c4⟩ := DE.out k wr hlt hinv.out.out
          have CA := Lib.hid (ACT.out k wr tb a hinv.out (by omega) hao)
          obtain ⟨x0, hx0⟩ : ∃ x, a.kind = x := ⟨_, rfl⟩
          obtain ⟨x1, hx1⟩ : ∃ x, a.i = x := ⟨_, rfl⟩
          obtain ⟨x2, hx2⟩ : ∃ x, a.k = x := ⟨_, rfl⟩
          obtain ⟨x3, hx3⟩ : ∃ x, a.cut = x := ⟨_, rfl⟩
          obtain ⟨x4, hx4⟩ : ∃ x, a.falls = x := ⟨_, rfl⟩
          rw [hx0] at c0 CA
          rw [hx1] at c1 CA
          rw [hx2] at c2 CA
          rw [hx3] at c3 CA
          rw [hx4] at c4 CA
          clear hx0 hx1 hx2 hx3 hx4 hao
          go_wp2_with (go_at_call 20; refine CA.out.mono ?_; rintro e w5 ⟨rfl, h5⟩)
          go_roundw
          case rel => exact ⟨k + 1, by omega, by omega, by go_num, h5⟩
          case measure => simp [intOf]; omega
        · have j1 : (k : Int) < (M : Int) := by omega
          have j2 : ¬ (k : Int) < 100 := by omega
          go_wp2_with fail
          go_meet
          exact ⟨k, hk2, hinv.out⟩
      · have j1 : ¬ (k : Int) < (M : Int) := by omega
        go_wp2_with fail
        go_meet
        exact ⟨k, hk2, hinv.out⟩
  case rest =>
    obtain ⟨T, hT, hk⟩ := hcut.out
    obtain ⟨P, s, hF, fz, ⟨uu, cu⟩, P0, PO, PE⟩ := FE.out tb T wc hT hk
    have hF := Lib.hid hF
    have PO := Lib.hid PO
    have PE := Lib.hid PE
    have P0 := Lib.hid P0
    clear FE ACT DE H4 hcut hk
    go_upto_block 2 with fail
    obtain ⟨W1, hW1⟩ : ∃ W1, wc.setCell ⟨tb, 3, none⟩ (.slice none 0 0) = W1 := ⟨_, rfl⟩
    rw [hW1] at P0 ⊢
    clear hW1 fz cu
    go_cut [7, 8] from 18 (fun vb ve wx => ∃ (B : Nat) (E : Int), vb = .int .i64 (B : Int) ∧ ve = .int .i64 E ∧ Hid (FellW W tb N T T B E wx))
    case first => as_aux_lemma =>
      go_wp2_with fail
      go_loopw [7, 8, 9] (fun vb ve vi wr => ∃ i : Nat, i ≤ N ∧ vb = .int .i64 ((bestOf (fun j => (s j).log) i : Nat) : Int) ∧ ve = .int .i64 (epOf (fun j => (s j).ep) i) ∧ vi = .int .i64 (i : Int) ∧ Hid (P i wr)) (fun _ _ vi _ => N - (intOf vi).toNat)
      case atStart => exact ⟨0, by omega, rfl, rfl, rfl, P0⟩
      case round =>
        obtain ⟨i, hi, rfl, rfl, rfl, hinv⟩ := hrel
        have c0 := hF.out.nc i wr hinv.out
        by_cases hlt : i < N
        · have j0 : (0 : Int) ≤ (i : Int) := by omega
          have j1 : (i : Int) < (N : Int) := by omega
          have hBN : bestOf (fun j => (s j).log) i < N := by
            rcases Nat.eq_zero_or_pos i with e | e
            · rw [e]; exact hN0
            · have := bestOf_lt (fun j => (s j).log) i e; omega
          have NB : Hid (bestOf (fun j => (s j).log) (i + 1) = if Better (s i).log (s (bestOf (fun j => (s j).log) i)).log then i else bestOf (fun j => (s j).log) i) := rfl
          have NE : Hid (epOf (fun j => (s j).ep) (i + 1) = max (epOf (fun j => (s j).ep) i) (s i).ep) := rfl
          obtain ⟨B, hB⟩ : ∃ B, bestOf (fun j => (s j).log) i = B := ⟨_, rfl⟩
          obtain ⟨E, hE⟩ : ∃ E, epOf (fun j => (s j).ep) i = E := ⟨_, rfl⟩
          rw [hB] at hBN NB ⊢
          rw [hE] at NE ⊢
          clear hB hE
          have j2 : (0 : Int) ≤ (B : Int) := by omega
          have j3 : (B : Int) < (N : Int) := by omega
          obtain ⟨ep1, hep1⟩ : ∃ x, (s i).ep = x := ⟨_, rfl⟩
          rw [hep1] at NE
          obtain ⟨vo1, hvo1⟩ : ∃ x, (s i).voted = x := ⟨_, rfl⟩
          obtain ⟨L1, hL1⟩ : ∃ x, (s i).log.length = x := ⟨_, rfl⟩
          obtain ⟨ep2, hep2⟩ : ∃ x, (s B).ep = x := ⟨_, rfl⟩
          obtain ⟨vo2, hvo2⟩ : ∃ x, (s B).voted = x := ⟨_, rfl⟩
          obtain ⟨L2, hL2⟩ : ∃ x, (s B).log.length = x := ⟨_, rfl⟩
          have ROW : Hid (∀ w, P (i + 1) w → ∃ g c x, w.cell? ⟨tb, 1, none⟩ = some (.slice (some ⟨g, 0, none⟩) N c) ∧ w.cell? ⟨g, i, none⟩ = some (.pointer (some ⟨x, 0, none⟩)) ∧
              Hid (Calls Try.prog 10 #[.pointer (some ⟨x, 0, none⟩)] w fun e w' => ∃ A c, e = .returned (.agg #[.int .i64 ep1, .int .i64 vo1, .slice A L1 c]) ∧
                Hid (Out Zone.no w w' ∧ StBox (w'.alloc (.cells #[.int .i64 ep1, .int .i64 vo1, .slice A L1 c] 28)) w'.heap.size (.slice A L1 c) (s i)))) := fun w hw => by
            have := hF.out.row (i + 1) w i hw hlt
            rw [hep1, hvo1, hL1] at this
            exact this
          have ROW2 : Hid (∀ w, P (i + 1) w → ∃ g c x, w.cell? ⟨tb, 1, none⟩ = some (.slice (some ⟨g, 0, none⟩) N c) ∧ w.cell? ⟨g, B, none⟩ = some (.pointer (some ⟨x, 0, none⟩)) ∧
              Hid (Calls Try.prog 10 #[.pointer (some ⟨x, 0, none⟩)] w fun e w' => ∃ A c, e = .returned (.agg #[.int .i64 ep2, .int .i64 vo2, .slice A L2 c]) ∧
                Hid (Out Zone.no w w' ∧ StBox (w'.alloc (.cells #[.int .i64 ep2, .int .i64 vo2, .slice A L2 c] 28)) w'.heap.size (.slice A L2 c) (s B)))) := fun w hw => by
            have := hF.out.row (i + 1) w B hw hBN
            rw [hep2, hvo2, hL2] at this
            exact this
          have hl1 : L1 ≤ 2048 := by rw [← hL1]; exact hF.out.len i hlt
          have hl2 : L2 ≤ 2048 := by rw [← hL2]; exact hF.out.len B hBN
          have ANY := Lib.hid hF.out.any
          have CR := Lib.hid (hF.out.fall i wr hinv.out hlt)
          clear hF PE PO P0
          go_upto_region 17 with (go_at_call 21; refine CR.out.mono ?_; rintro e w1 ⟨rfl, hp1⟩)
          obtain ⟨g, cg, x, r1, r2, ST⟩ := ROW.out w1 hp1.out
          clear CR c0 hinv ROW
          go_upto_region 18 with (go_at_call 10; refine ST.out.mono ?_; rintro e w2 ⟨A1, c1, rfl, hp2⟩)
          obtain ⟨B1, hB1⟩ : ∃ B1, w2.heap.size = B1 := ⟨_, rfl⟩
          obtain ⟨W2, hW2⟩ : ∃ W2, w2.alloc (.cells #[.int .i64 ep1, .int .i64 vo1, .slice A1 L1 c1] 28) = W2 := ⟨_, rfl⟩
          have o2 : Out Zone.no w1 W2 := by rw [← hW2]; exact hp2.out.1.alloc _
          have SB1 := hp2.out.2
          rw [hW2, hB1] at SB1
          rw [hW2, hB1]
          have P2 := Lib.hid (ANY.out _ _ _ hp1.out o2)
          have SB1 := Lib.hid SB1
          obtain ⟨g', cg', x', r1', r2', ST2⟩ := ROW2.out W2 P2.out
          clear hp2 o2 hW2 hB1 hp1 r1 r2 ST ROW2
          go_upto_region 19 with (go_at_call 10; refine ST2.out.mono ?_; rintro e w3 ⟨A2, c2, rfl, hp3⟩)
          obtain ⟨B2, hB2⟩ : ∃ B2, w3.heap.size = B2 := ⟨_, rfl⟩
          obtain ⟨W3, hW3⟩ : ∃ W3, w3.alloc (.cells #[.int .i64 ep2, .int .i64 vo2, .slice A2 L2 c2] 28) = W3 := ⟨_, rfl⟩
          have o3 : Out Zone.no W2 W3 := by rw [← hW3]; exact hp3.out.1.alloc _
          have SB2 := hp3.out.2
          rw [hW3, hB2] at SB2
          rw [hW3, hB2]
          have P3 := Lib.hid (ANY.out _ _ _ P2.out o3)
          have SB1 := SB1.out.any o3
          obtain ⟨b0, b2, b3⟩ := SB1.cells
          obtain ⟨d0, d2, d3⟩ := SB2.cells
          rw [hep1] at b0
          rw [hep2] at d0
          rw [hL1] at b3
          rw [hL2] at d3
          have BE : Hid (Better (s i).log (s B).log ↔ lastAt (s B).log L2 < lastAt (s i).log L1 ∨ lastAt (s i).log L1 = lastAt (s B).log L2 ∧ L2 < L1) := by show _ ↔ _; unfold Better; rw [hL1, hL2]
          obtain ⟨x1, hx1⟩ : ∃ x1, lastAt (s i).log L1 = x1 := ⟨_, rfl⟩
          obtain ⟨x2, hx2⟩ : ∃ x2, lastAt (s B).log L2 = x2 := ⟨_, rfl⟩
          rw [hx1, hx2] at BE
          have q1 : (L1 = 0 ∧ x1 = 0) ∨ ∃ M1 g1, L1 = M1 + 1 ∧ A1 = some ⟨g1, 0, none⟩ ∧ W3.cell? ⟨g1, M1 * 2, none⟩ = some (.int .i64 x1) := by
            rcases Nat.eq_zero_or_pos L1 with e | e
            · left; exact ⟨e, by rw [← hx1, e]; rfl⟩
            · right
              obtain ⟨M1, hM1⟩ : ∃ M1, L1 = M1 + 1 := ⟨L1 - 1, by omega⟩
              obtain ⟨g1, c1', e1, e2⟩ := b3 M1 hM1
              injection e1 with e1
              exact ⟨M1, g1, hM1, e1, by rw [← hx1, hM1]; exact e2⟩
          have q2 : (L2 = 0 ∧ x2 = 0) ∨ ∃ M1 g1, L2 = M1 + 1 ∧ A2 = some ⟨g1, 0, none⟩ ∧ W3.cell? ⟨g1, M1 * 2, none⟩ = some (.int .i64 x2) := by
            rcases Nat.eq_zero_or_pos L2 with e | e
            · left; exact ⟨e, by rw [← hx2, e]; rfl⟩
            · right
              obtain ⟨M1, hM1⟩ : ∃ M1, L2 = M1 + 1 := ⟨L2 - 1, by omega⟩
              obtain ⟨g1, c1', e1, e2⟩ := d3 M1 hM1
              injection e1 with e1
              exact ⟨M1, g1, hM1, e1, by rw [← hx2, hM1]; exact e2⟩
          have Q1 := Lib.hid q1
          have Q2 := Lib.hid q2
          clear q1 q2 SB1 SB2 b3 d3 hx1 hx2 hep1 hep2 hvo1 hvo2 hL1 hL2 hp3 o3 hW3 hB2 P2 ST2 r1' r2' ANY
          go_upto_if 86 with fail
          go_cut [12] from 51 to 126 (fun va wx => va = .int .i64 x1 ∧ W3 = wx)
          case first =>
            rcases Q1.out with ⟨hz1, hz2⟩ | ⟨M1, g1, hm1, rfl, y1⟩
            · have j4 : ¬ (0 : Int) < (L1 : Int) := by omega
              go_wp2_with fail
              go_meet
              exact ⟨by rw [hz2], rfl⟩
            · have j4 : (0 : Int) < (L1 : Int) := by omega
              have j5 : (0 : Int) ≤ (M1 : Int) := by omega
              have j6 : (M1 : Int) < (L1 : Int) := by omega
              have e1 : (L1 : Int) - 1 = (M1 : Int) := by omega
              have w1 : IntKind.i64.wrap ((L1 : Int) - 1) = (L1 : Int) - 1 := IntWalk.i64_in _ (by omega)
              go_wp2_with fail
              go_meet
              exact ⟨rfl, rfl⟩
          case rest =>
          obtain ⟨rfl, rfl⟩ := hcut
          go_upto_if 99 with fail
          go_cut [13] from 51 to 126 (fun va wx => va = .int .i64 x2 ∧ W3 = wx)
          case first =>
            rcases Q2.out with ⟨hz1, hz2⟩ | ⟨M1, g1, hm1, rfl, y1⟩
            · have j4 : ¬ (0 : Int) < (L2 : Int) := by omega
              go_wp2_with fail
              go_meet
              exact ⟨by rw [hz2], rfl⟩
            · have j4 : (0 : Int) < (L2 : Int) := by omega
              have j5 : (0 : Int) ≤ (M1 : Int) := by omega
              have j6 : (M1 : Int) < (L2 : Int) := by omega
              have e1 : (L2 : Int) - 1 = (M1 : Int) := by omega
              have w1 : IntKind.i64.wrap ((L2 : Int) - 1) = (L2 : Int) - 1 := IntWalk.i64_in _ (by omega)
              go_wp2_with fail
              go_meet
              exact ⟨rfl, rfl⟩
          case rest =>
          obtain ⟨rfl, rfl⟩ := hcut
          by_cases k1 : x2 < x1
          · skip
            go_wp2_with fail
            go_roundw
            case rel => exact ⟨i + 1, by omega, by rw [NB.out, if_pos (BE.out.2 (Or.inl k1))], by rw [NE.out], by go_num, P3⟩
            case measure => simp [intOf]; omega
          by_cases k2 : x1 = x2
          · by_cases k3 : L2 < L1
            · have k4 : (L2 : Int) < (L1 : Int) := by omega
              have k5 : (x1 == x2) = true := by simp [k2]
              go_wp2_with fail
              go_roundw
              case rel => exact ⟨i + 1, by omega, by rw [NB.out, if_pos (BE.out.2 (Or.inr ⟨k2, k3⟩))], by rw [NE.out], by go_num, P3⟩
              case measure => simp [intOf]; omega
            · have k4 : ¬ (L2 : Int) < (L1 : Int) := by omega
              have k5 : (x1 == x2) = true := by simp [k2]
              go_wp2_with fail
              go_roundw
              case rel => exact ⟨i + 1, by omega, by rw [NB.out, if_neg (fun e => (BE.out.1 e).elim (fun e => k1 e) (fun e => k3 e.2))], by rw [NE.out], by go_num, P3⟩
              case measure => simp [intOf]; omega
          · have k5 : (x1 == x2) = false := by simp [k2]
            go_wp2_with fail
            go_roundw
            case rel => exact ⟨i + 1, by omega, by rw [NB.out, if_neg (fun e => (BE.out.1 e).elim (fun e => k1 e) (fun e => k2 e.1))], by rw [NE.out], by go_num, P3⟩
            case measure => simp [intOf]; omega
        · have j1 : ¬ (i : Int) < (N : Int) := by omega
          obtain rfl : i = N := by omega
          go_wp2_with fail
          go_meet
          exact ⟨_, _, rfl, rfl, PE.out wr hinv.out⟩
    case rest =>
      obtain ⟨B, E, rfl, rfl, hfw⟩ := hcut
      have H := Lib.hid (ElectW.start hfw.out hT)
      clear hfw hF PO PE P0
      go_upto_block 4 with fail
      go_cut [] from 18 (fun wx => Hid (TickW W tb N B E 0 wx))
      case first => as_aux_lemma =>
        go_wp2_with fail
        go_loopw [14] (fun vk wr => ∃ k : Nat, vk = .int .i64 (k : Int) ∧ Hid (ElectW W tb N T B E k wr)) (fun vk _ => 301 - (intOf vk).toNat)
        case atStart => exact ⟨0, rfl, H⟩
        case round =>
          obtain ⟨k, rfl, hinv⟩ := hrel
          obtain ⟨hk, g, cg, x, ep, vo, L, hBN, r1, r2, ST, GO, STOP⟩ := hinv.out.row
          have GO := Lib.hid GO
          have STOP := Lib.hid STOP
          have j0 : (k : Int) < 300 := by omega
          have j1 : (0 : Int) ≤ (B : Int) := by omega
          have j2 : (B : Int) < (N : Int) := by omega
          clear hinv H
          by_cases he : ep ≤ E
          · obtain ⟨hk1, GO⟩ := GO.out he
            have GO := Lib.hid GO
            clear STOP
            go_wp2_with (first
              | (go_at_call 10; refine ST.out.mono ?_; rintro e w2 ⟨A1, c1, rfl, o2⟩; have FLD : ∀ W, (Instr.field 28 (.agg #[.int .i64 ep, .int .i64 vo, .slice A1 L c1]) 0).run Try.prog W = .ok (.int .i64 ep) W := fun W => rfl; have GO2 := Lib.hid (GO.out w2 o2.out))
              | (go_at_call 20; refine GO2.out.mono ?_; rintro e w3 ⟨rfl, RU⟩)
              | (go_at_call 22; refine RU.out.mono ?_; rintro e w4 ⟨rfl, hk4⟩))
            go_roundw
            case rel => exact ⟨k + 1, by go_num, hk4⟩
            case measure => simp [intOf]; omega
          · clear GO
            go_wp2_with (go_at_call 10; refine ST.out.mono ?_; rintro e w2 ⟨A1, c1, rfl, o2⟩; have FLD : ∀ W, (Instr.field 28 (.agg #[.int .i64 ep, .int .i64 vo, .slice A1 L c1]) 0).run Try.prog W = .ok (.int .i64 ep) W := fun W => rfl)
            go_meet
            exact STOP.out he w2 o2.out
      case rest =>
        clear H
        go_upto_block 6 with fail
        go_cut [] from 18 (fun wx => Hid (TickW W tb N B E 60 wx))
        case first => as_aux_lemma =>
          go_wp2_with fail
          go_loopw [15] (fun vk wr => ∃ k : Nat, k ≤ 60 ∧ vk = .int .i64 (k : Int) ∧ Hid (TickW W tb N B E k wr)) (fun vk _ => 60 - (intOf vk).toNat)
          case atStart => exact ⟨0, by omega, rfl, hcut⟩
          case round =>
            obtain ⟨k, hk, rfl, hinv⟩ := hrel
            by_cases hlt : k < 60
            · have j0 : (k : Int) < 60 := by omega
              have NX := Lib.hid (hinv.out.next hlt)
              clear hinv hcut
              go_wp2_with (first
                | (go_at_call 20; refine NX.out.mono ?_; rintro e w3 ⟨rfl, RU⟩)
                | (go_at_call 22; refine RU.out.mono ?_; rintro e w4 ⟨rfl, hk4⟩))
              go_roundw
              case rel => exact ⟨k + 1, by omega, by go_num, hk4⟩
              case measure => simp [intOf]; omega
            · have j0 : ¬ (k : Int) < 60 := by omega
              have hk60 : k = 60 := by omega
              go_wp2_with fail
              go_meet
              have := hinv.out
              rw [hk60] at this
              exact this
        case rest =>
          obtain ⟨g, cg, x, hBN, r1, r2, RO, A1⟩ := hcut.out.last
          have j1 : (0 : Int) ≤ (B : Int) := by omega
          have j2 : (B : Int) < (N : Int) := by omega
          clear hcut
          go_upto_region 40 with (first
            | (go_at_call 16; refine RO.out.mono ?_; rintro e w1 ⟨rfl, rfl⟩)
            | (go_at_call 20; refine A1.out.mono ?_; rintro e w1 ⟨rfl, A2⟩; clear A1)
            | (go_at_call 22; refine A2.out.mono ?_; rintro e w2 ⟨rfl, A3⟩; clear A2)
            | (go_at_call 20; refine A3.out.mono ?_; rintro e w3 ⟨rfl, A4⟩)
            | (go_at_call 22; refine A4.out.mono ?_; rintro e w4 ⟨rfl, hfin⟩))
          clear r1 r2 RO A3 A4
          obtain ⟨L, l, hf⟩ := hfin.out
          obtain ⟨g', cg', x', ep, vo, r1, r2, -, STA⟩ := hf.row hBN
          have HF := Lib.hid hf
          have hLl : l.length = L := by obtain ⟨_, _, _, _, _, h⟩ := hf; exact h
          have HLL := Lib.hid hLl
          clear hf hfin hLl
          go_upto_region 41 with (go_at_call 10; refine (STA.out _ (Out.refl _ _)).mono ?_; rintro e w5 ⟨A1, c1, rfl, o5⟩)
          obtain ⟨B1, hB1⟩ : ∃ B1, w5.heap.size = B1 := ⟨_, rfl⟩
          obtain ⟨W5, hW5⟩ : ∃ W5, w5.alloc (.cells #[.int .i64 ep, .int .i64 vo, .slice A1 L c1] 28) = W5 := ⟨_, rfl⟩
          have b0 : Hid (W5.cell? ⟨B1, 2, none⟩ = some (.slice A1 L c1)) := by
            show _ = _
            rw [← hW5, ← hB1, cells_all (heap_alloc_new w5 _)]; rfl
          have o6 : Out Zone.no w4 W5 := by rw [← hW5]; exact o5.out.1.alloc _
          have G5 : Hid (GR W5 38 2 (.slice A1 L c1) L (encL l)) := by rw [← hW5]; exact GRow.any o5.out.2 ((Out.refl _ _).alloc _)
          have F5 := Lib.hid (HF.out.any o6)
          rw [hW5, hB1]
          clear hW5 hB1 o6 o5 HF STA r1 r2
          go_wp2_with fail
          go_loopw [17] (fun vi wr => ∃ i : Nat, i ≤ N ∧ vi = .int .i64 (i : Int) ∧ Hid (Out Zone.no W5 wr)) (fun vi _ => N - (intOf vi).toNat)
          case atStart => exact ⟨0, by omega, rfl, Out.refl _ _⟩
          case round =>
            obtain ⟨i, hi, rfl, hinv⟩ := hrel
            have c0 := (F5.out.any hinv.out).n
            by_cases hlt : i < N
            · have i0 : (0 : Int) ≤ (i : Int) := by omega
              have i1 : (i : Int) < (N : Int) := by omega
              have od : Out Zone.no wr wr.drew := (Out.refl _ _).drew
              have hi2 : Hid (Out Zone.no W5 wr.drew) := hinv.out.trans od
              obtain ⟨g2, cg2, x2, ep2, vo2, r1, r2, CM, STA⟩ := (F5.out.any hi2.out).row hlt
              have b2 := hi2.out.cell b0.out id
              have CS : wr.drew.cell? ⟨tb, 1, none⟩ = some (.slice (some ⟨g2, 0, none⟩) N cg2) ∧ wr.drew.cell? ⟨g2, i, none⟩ = some (.pointer (some ⟨x2, 0, none⟩)) ∧ wr.drew.cell? ⟨B1, 2, none⟩ = some (.slice A1 L c1) := ⟨r1, r2, b2⟩
              have ST : Hid (Calls Try.prog 10 #[.pointer (some ⟨x2, 0, none⟩)] wr.drew fun e w' => ∃ A c, e = .returned (.agg #[.int .i64 ep2, .int .i64 vo2, .slice A L c]) ∧ Hid (GR w' 38 2 (.slice A L c) L (encL l)) ∧ Hid (Out Zone.no W5 w') ∧ w'.cell? ⟨tb, 1, none⟩ = some (.slice (some ⟨g2, 0, none⟩) N cg2) ∧ w'.cell? ⟨g2, i, none⟩ = some (.pointer (some ⟨x2, 0, none⟩)) ∧ w'.cell? ⟨B1, 2, none⟩ = some (.slice A1 L c1)) := by
                show Calls _ _ _ _ _
                refine (STA.out _ (Out.refl _ _)).mono ?_
                rintro e w' ⟨A, c, rfl, o⟩
                exact ⟨A, c, rfl, o.out.2, hi2.out.trans o.out.1, o.out.1.cell r1 id, o.out.1.cell r2 id, o.out.1.cell b2 id⟩
              have SM : Hid (∀ w2 A c, Out Zone.no W5 w2 → GR w2 38 2 (.slice A L c) L (encL l) → (w2.cell? ⟨tb, 1, none⟩ = some (.slice (some ⟨g2, 0, none⟩) N cg2) ∧ w2.cell? ⟨g2, i, none⟩ = some (.pointer (some ⟨x2, 0, none⟩)) ∧ w2.cell? ⟨B1, 2, none⟩ = some (.slice A1 L c1)) → Calls Try.prog 23 #[.slice A L c, .slice A1 L c1] w2 fun e w' => e = .returned (.bool true) ∧ Hid (Out Zone.no W5 w') ∧ w'.cell? ⟨tb, 1, none⟩ = some (.slice (some ⟨g2, 0, none⟩) N cg2) ∧ w'.cell? ⟨g2, i, none⟩ = some (.pointer (some ⟨x2, 0, none⟩)) ∧ w'.cell? ⟨B1, 2, none⟩ = some (.slice A1 L c1)) := fun w2 A c ho hg hc => by
                have hg1 : RRow (fun _ => False) w2 (.slice A L c) l.length 2 (encL l) := by rw [HLL.out]; exact gr_reads hg (fun _ _ h => h)
                have hg2 : RRow (fun _ => False) w2 (.slice A1 L c1) l.length 2 (encL l) := by rw [HLL.out]; exact gr_reads (GRow.any G5.out ho) (fun _ _ h => h)
                refine (same_is w2 _ _ l hg1 hg2).mono ?_
                rintro e w' ⟨rfl, o⟩
                exact ⟨rfl, ho.trans o, o.cell hc.1 id, o.cell hc.2.1 id, o.cell hc.2.2 id⟩
              clear STA r1 r2 b2 hi2 od G5 F5 b0 hinv HLL
              go_wp2_with fail
              go_region_held3 (fun W => W.cell? ⟨tb, 1, none⟩ = some (.slice (some ⟨g2, 0, none⟩) N cg2) ∧ W.cell? ⟨g2, i, none⟩ = some (.pointer (some ⟨x2, 0, none⟩)) ∧ W.cell? ⟨B1, 2, none⟩ = some (.slice A1 L c1))
                (first | assumption)
                (first
                  | (go_at_call 17; refine CM.out.mono ?_; rintro e w2 ⟨rfl, rfl⟩)
                  | (go_at_call 10; refine ST.out.mono ?_; rintro e w2 ⟨A2, c2, rfl, GG, OO, CS⟩; clear ST; have FLD : ∀ W, (Instr.field 28 (.agg #[.int .i64 ep2, .int .i64 vo2, .slice A2 L c2]) 2).run Try.prog W = .ok (.slice A2 L c2) W := fun W => rfl)
                  | (go_at_call 23; refine (SM.out _ _ _ OO.out GG.out CS).mono ?_; rintro e w3 ⟨rfl, OO, CS⟩))
              all_goals
                go_wp2_with fail
                go_roundw
                case rel => exact ⟨i + 1, by omega, by go_num, OO⟩
                case measure => simp [intOf]; omega
            · have i1 : ¬ (i : Int) < (N : Int) := by omega
              have HO := Lib.hid ((F5.out.any hinv.out).out)
              go_wp2_with fail
              go_ret
              exact ⟨rfl, HO.out⟩
end Go.Proofs.Ytlgoenimjmiapaa
