import Derived.Test.YtlgoenimjmiapaaT36
import Derived.Deep.RegionHeld3
import Derived.Deep.Quiet
set_option linter.unusedSimpArgs false
set_option linter.unusedVariables false
set_option linter.unusedSectionVars false
/-! Do: a message again. -/
namespace Go.Proofs.Ytlgoenimjmiapaa
open Go.RowKit Go.Maps

section
variable {w w' w1 w2 : World} {w0 : Base} {tb : Nat} {t : Town} {i : Nat} {xs : Nat → Nat}
theorem act_msg {t : Town} {a : Deed} {m : Msg} (hk : a.kind = 3 ∨ a.kind = 4 ∨ a.kind = 5) (hm : t.net[modN a.k t.net.length]? = some m) : t.act a = t.deliver a (modN a.k t.net.length) m := by
  unfold Town.act
  rw [if_neg (by omega), if_neg (by omega), if_neg (by omega), if_pos hk, hm]
set_option maxRecDepth 100000 in
set_option maxHeartbeats 4000000 in
theorem do_dup (h : TownX w0 tb t xs w) (h0 : 0 < t.n) (h7 : t.n ≤ 7) (hodd : t.n % 2 = 1) {T D : Nat} (ht : TI t T) (hb : TB t T D) (hT : T < 400) (hD : D < 400000) (a : Deed) (hk : a.kind = 5) (hcut : -9223372036854775808 ≤ a.cut ∧ a.cut ≤ 9223372036854775807) {m : Msg} (hm : t.net[modN a.k t.net.length]? = some m) :
    Calls Try.prog 20 #[.pointer (some ⟨tb, 0, none⟩), .agg (deedV a)] w fun e w' => e = .returned (.bool true) ∧ ∃ xs', TownX w0 tb (t.act a) xs' w' := by
  have hact := (ht.act h0 hodd h7 (by omega) a).2
  obtain ⟨I, hI⟩ : ∃ I, modN a.i t.n = I := ⟨_, rfl⟩
  have hi : I < t.n := by rw [← hI]; exact modN_lt _ h0
  have hfit := ((ht.fine h7 (by omega)).fit I hi).1
  obtain ⟨M, hM⟩ : ∃ M, t.net.length = M := ⟨_, rfl⟩
  obtain ⟨k, hkk⟩ : ∃ k, modN a.k t.net.length = k := ⟨_, rfl⟩
  rw [hkk] at hm
  have hkM : k < M := by rw [← hM]; exact (List.getElem?_eq_some_iff.1 hm).1
  have hM6 : M ≤ 1000000 := by have := hb.net; omega
  have hA : t.act a = { t with net := t.net ++ [m] } := by
    rw [act_msg (by omega) (by rw [hkk]; exact hm), hkk]
    unfold Town.deliver
    rw [if_pos hk]
  obtain ⟨n, hn⟩ : ∃ n, t.n = n := ⟨_, rfl⟩
  obtain ⟨ai, hai⟩ : ∃ x, a.i = x := ⟨_, rfl⟩
  obtain ⟨ak, hak⟩ : ∃ x, a.k = x := ⟨_, rfl⟩
  obtain ⟨ac, hac⟩ : ∃ x, a.cut = x := ⟨_, rfl⟩
  obtain ⟨af, haf⟩ : ∃ x, a.falls = x := ⟨_, rfl⟩
  obtain ⟨B, hB⟩ : ∃ B, w.heap.size = B := ⟨_, rfl⟩
  have hIe : (ai.tmod (n : Int) + (n : Int)).tmod (n : Int) = (I : Int) := by rw [← hI, ← hai, ← hn]; exact modN_eq a.i t.n h0
  obtain ⟨w1e, w2e⟩ := modN_wraps ai n (by omega) (by omega)
  have z1 : ((n : Int) == 0) = false := by rw [beq_eq_false_iff_ne]; omega
  have z2 : ¬ ((n : Int) = 0) := by omega
  have hav : deedV a = #[.int .i64 5, .int .i64 ai, .int .i64 ak, .int .i64 ac, .bool af] := by unfold deedV; rw [hk, hai, hak, hac, haf]
  obtain ⟨b0, hb0⟩ : ∃ b0, w0.put B (.cells (deedV a) 62 (0, 0)) = b0 := ⟨_, rfl⟩
  obtain ⟨Q, hQ⟩ : ∃ Q : World → Prop, (fun w' => ∃ xs', TownX w0 tb (t.act a) xs' w') = Q := ⟨_, rfl⟩
  have BXD : Hid ((B, .cells #[.int .i64 5, .int .i64 ai, .int .i64 ak, .int .i64 ac, .bool af] 62 (0, 0)) ∈ b0.bx) := by rw [← hb0, ← hav]; exact List.mem_cons_self ..
  have hKe : (ak.tmod (M : Int) + (M : Int)).tmod (M : Int) = (k : Int) := by rw [← hkk, ← hak, ← hM]; exact modN_eq a.k t.net.length (by omega)
  obtain ⟨w3e, w4e⟩ := modN_wraps ak M (by omega) (by omega)
  have wk : IntKind.i64.wrap ((k : Int) + 1) = (k : Int) + 1 := IntWalk.i64_in _ (by omega)
  have z3 : ((M : Int) == 0) = false := by rw [beq_eq_false_iff_ne]; omega
  have z4 : ¬ ((M : Int) = 0) := by omega
  have j1 : (0 : Int) ≤ (k : Int) := by omega
  have j2 : (k : Int) < (M : Int) := by omega
  have NV : Hid (∀ W b, TownX b tb t xs W → ∃ A c, W.cell? ⟨tb, 3, none⟩ = some (.slice A M c)) := fun W b hW => by
    rw [← hM]
    exact hW.netv
  obtain ⟨mk, hmk⟩ : ∃ x, m.kind = x := ⟨_, rfl⟩
  obtain ⟨mf, hmf⟩ : ∃ x, m.frm = x := ⟨_, rfl⟩
  obtain ⟨mt, hmt⟩ : ∃ x, m.to = x := ⟨_, rfl⟩
  obtain ⟨me, hme⟩ : ∃ x, m.ep = x := ⟨_, rfl⟩
  obtain ⟨ma, hma⟩ : ∃ x, m.at_ = x := ⟨_, rfl⟩
  obtain ⟨ml, hml⟩ : ∃ x, m.last = x := ⟨_, rfl⟩
  obtain ⟨mc, hmc⟩ : ∃ x, m.commit = x := ⟨_, rfl⟩
  obtain ⟨lm, hlm⟩ : ∃ x, m.log.length = x := ⟨_, rfl⟩
  have GETM : Hid (∀ W b, TownX b tb t xs W → ∃ Ap cp g cn, TownM b tb t xs m (.slice Ap lm cp) W ∧ W.cell? ⟨tb, 3, none⟩ = some (.slice (some ⟨g, 0, none⟩) M cn) ∧
    W.cell? ⟨g, k * 8, none⟩ = some (.int .i64 mk) ∧ W.cell? ⟨g, k * 8 + 1, none⟩ = some (.int .i64 mf) ∧ W.cell? ⟨g, k * 8 + 2, none⟩ = some (.int .i64 mt) ∧ W.cell? ⟨g, k * 8 + 3, none⟩ = some (.int .i64 me) ∧ W.cell? ⟨g, k * 8 + 4, none⟩ = some (.int .i64 ma) ∧ W.cell? ⟨g, k * 8 + 5, none⟩ = some (.int .i64 ml) ∧ W.cell? ⟨g, k * 8 + 6, none⟩ = some (.int .i64 mc) ∧ W.cell? ⟨g, k * 8 + 7, none⟩ = some (.slice Ap lm cp)) := fun W b hW => by
    rw [← hmk, ← hmf, ← hmt, ← hme, ← hma, ← hml, ← hmc, ← hlm, ← hM]
    exact hW.getM hm
  have FINX : Hid (∀ W o o8 B8 Bm, TownX ((b0.put B8 o8).put Bm o) tb { t with net := t.net ++ [m] } xs W → Q W) := fun W o o8 B8 Bm hW => by
    have := hW.unput.unput
    rw [← hb0] at this
    rw [← hQ]
    exact ⟨xs, by rw [hA]; exact this.unput⟩
  have AGAIN : Hid (∀ b W Ap cp, TownM b tb t xs m (.slice Ap lm cp) W → ∃ (An : Option Addr) (cn : Nat) (A9 : Option Addr) (n9 c9 : Nat) (w1 : World), (∀ W', Out Zone.no W W' → W'.cell? ⟨tb, 3, none⟩ = some (.slice An M cn)) ∧
      (Builtin.append_ #[30, 30] 30 #[.slice An M cn, .slice (some ⟨W.heap.size, 0, none⟩) 1 1]).run Try.prog (W.drew.alloc (.cells #[.int .i64 mk, .int .i64 mf, .int .i64 mt, .int .i64 me, .int .i64 ma, .int .i64 ml, .int .i64 mc, .slice Ap lm cp] 36)) = .ok (.slice A9 n9 c9) w1 ∧
      TownX b tb { t with net := t.net ++ [m] } xs (w1.setCell ⟨tb, 3, none⟩ (.slice A9 n9 c9)) ∧ w1.frozen? ⟨tb, 3, none⟩ = false ∧ ∃ u, w1.cell? ⟨tb, 3, none⟩ = some u) := fun b W Ap cp hW => by
    have := TownM.again (Ap := Ap) (cp := cp) (by rw [hlm]; exact hW) (by rw [hM]; exact hM6)
    rw [hmk, hmf, hmt, hme, hma, hml, hmc, hlm, hM] at this
    exact this
  obtain ⟨W0, hW0⟩ : ∃ W0, w.alloc (.cells #[.int .i64 5, .int .i64 ai, .int .i64 ak, .int .i64 ac, .bool af] 62) = W0 := ⟨_, rfl⟩
  have H0 : Hid (TownX b0 tb t xs W0) := by
    have := h.box (.cells (deedV a) 62 (0, 0))
    rw [hB, hb0, hav, hW0] at this
    exact this
  have NC : Hid (∀ W, TownX b0 tb t xs W → W.cell? ⟨tb, 0, none⟩ = some (.int .i64 (n : Int))) := fun W hW => by rw [← hn]; exact hW.ncell
  have XC : Hid (∀ W, TownX b0 tb t xs W → ∃ g c, W.cell? ⟨tb, 1, none⟩ = some (.slice (some ⟨g, 0, none⟩) n c) ∧ W.cell? ⟨g, I, none⟩ = some (.pointer (some ⟨xs I, 0, none⟩))) := fun W hW => by
    obtain ⟨g, c, _, e1, e2⟩ := hW.xcells hi
    rw [← hn]; exact ⟨g, c, e1, e2⟩
  have DC : Hid (∀ W, TownX b0 tb t xs W → W.heap[B]? = some (.cells #[.int .i64 5, .int .i64 ai, .int .i64 ak, .int .i64 ac, .bool af] 62 (0, 0))) := fun W hW => by
    rw [← hav]
    exact hW.boxed (by rw [← hb0]; exact List.mem_cons_self ..)
  have DL : Hid (∀ W, TownX b0 tb t xs W → W.cell? ⟨B, 0, none⟩ = some (.int .i64 5) ∧ W.cell? ⟨B, 1, none⟩ = some (.int .i64 ai) ∧ W.cell? ⟨B, 2, none⟩ = some (.int .i64 ak) ∧ W.cell? ⟨B, 3, none⟩ = some (.int .i64 ac) ∧ W.cell? ⟨B, 4, none⟩ = some (.bool af)) := fun W hW => by
    have := DC.out W hW
    refine ⟨by rw [cells_all this]; rfl, by rw [cells_all this]; rfl, by rw [cells_all this]; rfl, by rw [cells_all this]; rfl, by rw [cells_all this]; rfl⟩
  have i1 : (0 : Int) ≤ (I : Int) := by omega
  have i2 : (I : Int) < (n : Int) := by omega
  have c0 := NC.out W0 H0.out
  obtain ⟨d0, d1, d2, d3, d4⟩ := DL.out W0 H0.out
  have FIN : Hid (∀ W, Q W → ∃ xs', TownX w0 tb (t.act a) xs' W) := fun W h => by rw [← hQ] at h; exact h
  have HN := Lib.hid (And.intro hn h7)
  have HCUT := Lib.hid (And.intro hb0 hav)
  have HH := Lib.hid h
  clear hm hmk hmf hmt hme hma hml hmc hlm hM hkk hkM hM6 h hQ hact hI hfit hai hak hac haf hb0 hav hk ht hb hA hn h7 h0 hodd hi hcut
  rw [HCUT.out.2]
  go_enter Try.func20, Try.ntmps20
  go_wp2_with fail
  clear hB hW0
  go_upto_region 1 with fail
  have HKE := Lib.hid hIe
  go_cut [5] (fun s5 wx => s5 = .int .i64 (I : Int) ∧ Hid (Out Zone.no W0 wx))
  case first =>
    clear GETM NV FINX AGAIN NC XC DC DL H0 HH HCUT HN
    go_quiet (fail)
    go_wp2_with fail
    go_meet
    exact ⟨by first | rfl | rw [HKE.out], (Out.refl _ _).drewN nq⟩
  case rest =>
  obtain ⟨rfl, hcut⟩ := hcut
  obtain ⟨W1, hW1⟩ : ∃ W1, wc = W1 := ⟨_, rfl⟩
  rw [hW1] at hcut ⊢
  have H1 := Lib.hid (H0.out.any hcut.out)
  clear hcut hW1 d0 d1 d2 d3 d4 c0 hIe w1e w2e z1 z2
  obtain ⟨g, c, x1, x2⟩ := XC.out W1 H1.out
  obtain ⟨B8, hB8⟩ : ∃ B8, W1.heap.size = B8 := ⟨_, rfl⟩
  obtain ⟨W2, hW2⟩ : ∃ W2, W1.alloc (.cells #[.slice none 0 0, .slice none 0 0] 32) = W2 := ⟨_, rfl⟩
  have HNB : Hid (∀ p ∈ b0.bx, p.1 ≠ B8) := fun p hp => by have := heap_lt (H1.out.boxed (k := p.1) (o := p.2) hp); omega
  have H2 : Hid (TownX (b0.put B8 (.cells #[.slice none 0 0, .slice none 0 0] 32 (0, 0))) tb t xs W2) := by
    have := H1.out.box (.cells #[.slice none 0 0, .slice none 0 0] 32)
    rw [hB8, hW2] at this
    exact this
  obtain ⟨d0, d1, d2, d3, d4⟩ := DL.out W2 H2.out.unput
  obtain ⟨An0, cn0, x3⟩ := NV.out _ _ H2.out
  obtain ⟨b1, hb1⟩ : ∃ b1, b0.put B8 (.cells #[.slice none 0 0, .slice none 0 0] 32 (0, 0)) = b1 := ⟨_, rfl⟩
  have HB1 := Lib.hid hb1
  rw [hb1] at H2
  have DB : Hid (∀ W v, TownX b1 tb v xs W → W.cell? ⟨B, 0, none⟩ = some (.int .i64 5) ∧ W.cell? ⟨B, 2, none⟩ = some (.int .i64 ak)) := fun W v hW => by
    rw [← HB1.out] at hW
    have hbd := hW.boxed (k := B) (o := .cells #[.int .i64 5, .int .i64 ai, .int .i64 ak, .int .i64 ac, .bool af] 62 (0, 0)) (List.mem_cons_of_mem _ BXD.out)
    exact ⟨by rw [cells_all hbd]; rfl, by rw [cells_all hbd]; rfl⟩
  clear hb1 NC DC DL
  go_upto_region 27 with fail
  have HKE2 := Lib.hid hKe
  go_cut [17] (fun s17 wx => s17 = .int .i64 (k : Int) ∧ Hid (Out Zone.no W2 wx))
  case first =>
    clear GETM NV H2 HH HCUT HN H0 HNB HB1 DB
    go_quiet (fail)
    go_wp2_with fail
    go_meet
    exact ⟨by first | rfl | rw [HKE2.out], (Out.refl _ _).drewN nq⟩
  case rest =>
  obtain ⟨rfl, hcut⟩ := hcut
  obtain ⟨W3, hW3⟩ : ∃ W3, wc = W3 := ⟨_, rfl⟩
  rw [hW3] at hcut ⊢
  have H3 := Lib.hid (H2.out.any hcut.out)
  clear hcut hW3 hW2 hB8 d0 d1 d2 d3 d4 x1 x2 x3 hKe w3e w4e z3 z4 NV H2
  obtain ⟨Ap, cp, gm, cnm, hm0, y3, m0, m1, m2, m3, m4, m5, m6, m7⟩ := GETM.out _ _ H3.out
  obtain ⟨W4, hW4⟩ : ∃ W4, W3.alloc (.cells #[.int .i64 mk, .int .i64 mf, .int .i64 mt, .int .i64 me, .int .i64 ma, .int .i64 ml, .int .i64 mc, .slice Ap lm cp] 36) = W4 := ⟨_, rfl⟩
  obtain ⟨Bm, hBm⟩ : ∃ Bm, W3.heap.size = Bm := ⟨_, rfl⟩
  have H4 : Hid (TownM (b1.put Bm (.cells #[.int .i64 mk, .int .i64 mf, .int .i64 mt, .int .i64 me, .int .i64 ma, .int .i64 ml, .int .i64 mc, .slice Ap lm cp] 36 (0, 0))) tb t xs m (.slice Ap lm cp) W4) := by
    have := hm0.box (.cells #[.int .i64 mk, .int .i64 mf, .int .i64 mt, .int .i64 me, .int .i64 ma, .int .i64 ml, .int .i64 mc, .slice Ap lm cp] 36)
    rw [hBm, hW4] at this
    exact this
  obtain ⟨d0, d2⟩ := DB.out W4 t H4.out.x.unput
  have MB : Hid (∀ W v, TownM (b1.put Bm (.cells #[.int .i64 mk, .int .i64 mf, .int .i64 mt, .int .i64 me, .int .i64 ma, .int .i64 ml, .int .i64 mc, .slice Ap lm cp] 36 (0, 0))) tb v xs m (.slice Ap lm cp) W → W.cell? ⟨Bm, 0, none⟩ = some (.int .i64 mk) ∧ W.cell? ⟨Bm, 1, none⟩ = some (.int .i64 mf) ∧ W.cell? ⟨Bm, 2, none⟩ = some (.int .i64 mt) ∧ W.cell? ⟨Bm, 3, none⟩ = some (.int .i64 me) ∧ W.cell? ⟨Bm, 4, none⟩ = some (.int .i64 ma) ∧ W.cell? ⟨Bm, 5, none⟩ = some (.int .i64 ml) ∧ W.cell? ⟨Bm, 6, none⟩ = some (.int .i64 mc) ∧ W.cell? ⟨Bm, 7, none⟩ = some (.slice Ap lm cp)) := fun W v hW => by
    have hb := hW.x.boxed (List.mem_cons_self ..)
    refine ⟨?_, ?_, ?_, ?_, ?_, ?_, ?_, ?_⟩ <;> (rw [cells_all hb]; rfl)
  clear hm0 GETM H3
  go_upto_region 30 with fail
  obtain ⟨An, cn, A9, n9, c9, w9, hC3, hrun, h9, fz, uu, eu⟩ := AGAIN.out _ _ _ _ H4.out
  have HRUN := Lib.hid hrun
  have H9 := Lib.hid (FINX.out _ _ _ _ _ (by rw [← HB1.out] at h9; exact h9))
  have od : Out Zone.no W4 W4.drew := (Out.refl _ _).drew
  have oa : Out Zone.no W4 (W4.drew.alloc (.cells #[.int .i64 mk, .int .i64 mf, .int .i64 mt, .int .i64 me, .int .i64 ma, .int .i64 ml, .int .i64 mc, .slice Ap lm cp] 36)) := od.alloc _
  have ob : Out Zone.no W4 (W4.alloc (.cells #[.int .i64 mk, .int .i64 mf, .int .i64 mt, .int .i64 me, .int .i64 ma, .int .i64 ml, .int .i64 mc, .slice Ap lm cp] 36)) := (Out.refl _ _).alloc _
  have r0 := hC3 _ (Out.refl _ _)
  have r1 := hC3 _ od
  have r2 := hC3 _ oa
  have r3 := hC3 _ ob
  obtain ⟨p0, p1, p2, p3, p4, p5, p6, p7⟩ := MB.out _ _ H4.out
  obtain ⟨q0, q1, q2, q3, q4, q5, q6, q7⟩ := MB.out _ _ (H4.out.any od)
  obtain ⟨s0, s1, s2, s3, s4, s5, s6, s7⟩ := MB.out _ _ (H4.out.any oa)
  obtain ⟨t0, t1, t2, t3, t4, t5, t6, t7⟩ := MB.out _ _ (H4.out.any ob)
  clear hC3 hrun h9 od oa ob AGAIN FINX MB DB HB1 H4 HNB XC d0 d2 y3 m0 m1 m2 m3 m4 m5 m6 m7 hBm hW4
  go_region_law (refine step_builtin rfl _ _ _ rfl (by exact HRUN.out) ?_)
  go_goals
  all_goals
    go_wp2_with fail
    go_ret
    exact ⟨rfl, FIN.out _ H9.out⟩
end
end Go.Proofs.Ytlgoenimjmiapaa
