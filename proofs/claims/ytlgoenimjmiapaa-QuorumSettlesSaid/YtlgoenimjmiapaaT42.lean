import Derived.Test.YtlgoenimjmiapaaT40
import Derived.Deep.RegionHeld3
import Derived.Deep.Quiet
set_option linter.unusedSimpArgs false
set_option linter.unusedVariables false
set_option linter.unusedSectionVars false
/-! A node steps; what stays of its town as it lay. -/
namespace Go.Proofs.Ytlgoenimjmiapaa
open Go.RowKit Go.Maps

section
variable {w w' w1 w2 : World} {w0 : Base} {tb : Nat} {t : Town} {i : Nat} {xs : Nat → Nat}
theorem cell_of_heap {p : Addr} {v : Value} (h : w'.heap[p.block]? = w.heap[p.block]?) (hc : w.cell? p = some v) : w'.cell? p = some v := by
  unfold World.cell? at hc ⊢
  rw [h]; exact hc
theorem cell_far2 {p : Addr} {B : Nat} {v u0 u1 : Value} (h : p.block ≠ B) (hc : w.cell? p = some v) : ((w.setCell ⟨B, 0, none⟩ u0).setCell ⟨B, 1, none⟩ u1).cell? p = some v := by
  refine cell_of_heap ?_ hc
  rw [Below.heap_setCell _ ⟨B, 1, none⟩ _ _ h, Below.heap_setCell _ ⟨B, 0, none⟩ _ _ h]
theorem cell_block_lt {p : Addr} {v : Value} (hc : w.cell? p = some v) : p.block < w.heap.size := by
  refine Classical.byContradiction (fun h => ?_)
  unfold World.cell? at hc
  rw [Array.getElem?_eq_none (by omega)] at hc
  cases hc
theorem step_t' {m : Msg} {vm : Value} (h : TownM w0 tb t xs m vm w) (hi : i < t.n) (hf : (t.X i).Fit) (hml : m.log.length ≤ 9223372036854775807) (hfit : Fits m.log) {g c : Nat} (hx : w.cell? ⟨tb, 1, none⟩ = some (.slice (some ⟨g, 0, none⟩) t.n c)) :
    Calls Try.prog 8 #[.pointer (some ⟨xs i, 0, none⟩), .agg (m.cells vm).toArray] w fun e w' => ∃ v, e = .returned (.tuple #[v, .int .i64 ((t.X i).step m).2]) ∧ TownW w0 tb { t with X := upd t.X i ((t.X i).step m).1.q } xs v ((t.X i).step m).1.ns ((t.X i).step m).1.ms w' ∧ w'.heap[tb]? = w.heap[tb]? ∧ w'.heap[g]? = w.heap[g]? := by
  obtain ⟨L, U, h1, h2, rfl, h3⟩ := h
  letI := farOf L i
  refine (step_is (h1.farnode hi) hf m vm (h3.less (fun k hk _ => by rw [h1.lab.node i hi k hk]; omega)) hml hfit).mono ?_
  rintro e w' ⟨v, rfl, hh⟩
  refine ⟨v, rfl, h1.handed h2 hi hh, ?_⟩
  obtain ⟨V', k1, k2, k3⟩ := hh
  have hxv : U.xv = .slice (some ⟨g, 0, none⟩) t.n c := by
    rw [h1.c 1] at hx
    exact Option.some.inj hx
  have hg := h1.lab.x g (by rw [hxv]; rfl)
  refine ⟨k2.out.block tb (heap_lt h1.blk) (fun e => ?_), k2.out.block g (h1.lt g (by omega)) (fun e => ?_)⟩
  · have e1 := h1.lab.node i hi tb e
    have e2 := h1.lab.tb
    omega
  · have e1 := h1.lab.node i hi g e
    omega
/-- One box less behind the answer's. -/
theorem Boxed.drop {A1 : Option Addr} {n1 c1 : Nat} {A2 : Option Addr} {n2 c2 : Nat} {ns : List Nt} {ms : List Msg} {B Bm : Nat} {o : Obj} (h : Boxed (w0.put Bm o) tb t xs A1 n1 c1 A2 n2 c2 ns ms B w) : Boxed w0 tb t xs A1 n1 c1 A2 n2 c2 ns ms B w := by
  refine ⟨TownW.less (w0 := (w0.put Bm o).put B _) (bx := (w0.put B _).bx) h.1 (fun p hp => ?_), fun p hp => h.2 p (List.mem_cons_of_mem _ hp)⟩
  rcases List.mem_cons.1 hp with e | e
  · exact List.mem_cons.2 (Or.inl e)
  · exact List.mem_cons_of_mem _ (List.mem_cons_of_mem _ e)
end
end Go.Proofs.Ytlgoenimjmiapaa

/-! Do: a message arrives. -/
namespace Go.Proofs.Ytlgoenimjmiapaa
open Go.RowKit Go.Maps

section
variable {w w' w1 w2 : World} {w0 : Base} {tb : Nat} {t : Town} {i : Nat} {xs : Nat → Nat}
set_option maxRecDepth 100000 in
set_option maxHeartbeats 4000000 in
theorem do_step (h : TownX w0 tb t xs w) (h0 : 0 < t.n) (h7 : t.n ≤ 7) (hodd : t.n % 2 = 1) {T D : Nat} (ht : TI t T) (hb : TB t T D) (hT : T < 400) (hD : D < 400000) (a : Deed) (hk : a.kind = 3) (hcut : -9223372036854775808 ≤ a.cut ∧ a.cut ≤ 9223372036854775807) {m : Msg} (hm : t.net[modN a.k t.net.length]? = some m) :
    Calls Try.prog 20 #[.pointer (some ⟨tb, 0, none⟩), .agg (deedV a)] w fun e w' => e = .returned (.bool true) ∧ ∃ xs', TownX w0 tb (t.act a) xs' w' := by
  have hact := (ht.act h0 hodd h7 (by omega) a).2
  obtain ⟨I, hI⟩ : ∃ I, modN a.i t.n = I := ⟨_, rfl⟩
  have hi : I < t.n := by rw [← hI]; exact modN_lt _ h0
  have hfit := ((ht.fine h7 (by omega)).fit I hi).1
  obtain ⟨M, hM⟩ : ∃ M, t.net.length = M := ⟨_, rfl⟩
  obtain ⟨k, hkk⟩ : ∃ k, modN a.k t.net.length = k := ⟨_, rfl⟩
  rw [hkk] at hm
  have hkM : k < M := by rw [← hM]; exact (List.getElem?_eq_some_iff.1 hm).1
  have hM6 : M ≤ 1000000 := by have := hb.net; omega
  obtain ⟨J, hJe⟩ : ∃ J, m.to.toNat = J := ⟨_, rfl⟩
  have hst := hact.step hk m (by rw [hkk]; exact hm)
  rw [hkk, hJe] at hst
  obtain ⟨hJ, hJm, her, hao⟩ := hst
  have hfin := ht.fine h7 (by omega)
  have hfJ := (hfin.fit J hJ).1
  have hmm := hfin.net m (List.mem_of_getElem? hm)
  have hfits : Fits m.log := fun y hy => Nat.le_trans (hmm.2.2.2 y hy) (by omega)
  have hml2 := hmm.2.1
  have hfew : ((t.X J).step m).1.Few 2060 14 := (few_step hfJ.n7 hmm.2.2.2).up (by omega) (Nat.le_refl _)
  have hA : t.act a = Town.after { t with net := t.net.eraseIdx k } J ((t.X J).step m).1 a := by
    rw [act_msg (by omega) (by rw [hkk]; exact hm), hkk]
    unfold Town.deliver
    rw [if_neg (by omega), if_neg (by omega), hJe]
  clear hmm hfin
  obtain ⟨n, hn⟩ : ∃ n, t.n = n := ⟨_, rfl⟩
  obtain ⟨ai, hai⟩ : ∃ x, a.i = x := ⟨_, rfl⟩
  obtain ⟨ak, hak⟩ : ∃ x, a.k = x := ⟨_, rfl⟩
  obtain ⟨ac, hac⟩ : ∃ x, a.cut = x := ⟨_, rfl⟩
  obtain ⟨af, haf⟩ : ∃ x, a.falls = x := ⟨_, rfl⟩
  obtain ⟨B, hB⟩ : ∃ B, w.heap.size = B := ⟨_, rfl⟩
  have hIe : (ai.tmod (n : Int) + (n : Int)).tmod (n : Int) = (I : Int) := by rw [← hI, ← hai, ← hn]; exact modN_eq a.i t.n h0
  obtain ⟨w1e, w2e⟩ := modN_wraps ai n (by omega) (by omega)
  have z1 : ((n : Int) == 0) = false := by rw [beq_eq_false_iff_ne]; omega
  have z2 : ¬ ((n : Int) = 0) := by omega
  have hav : deedV a = #[.int .i64 3, .int .i64 ai, .int .i64 ak, .int .i64 ac, .bool af] := by unfold deedV; rw [hk, hai, hak, hac, haf]
  obtain ⟨b0, hb0⟩ : ∃ b0, w0.put B (.cells (deedV a) 62 (0, 0)) = b0 := ⟨_, rfl⟩
  obtain ⟨Q, hQ⟩ : ∃ Q : World → Prop, (fun w' => ∃ xs', TownX w0 tb (t.act a) xs' w') = Q := ⟨_, rfl⟩
  have BXD : Hid ((B, .cells #[.int .i64 3, .int .i64 ai, .int .i64 ak, .int .i64 ac, .bool af] 62 (0, 0)) ∈ b0.bx) := by rw [← hb0, ← hav]; exact List.mem_cons_self ..
  have hKe : (ak.tmod (M : Int) + (M : Int)).tmod (M : Int) = (k : Int) := by rw [← hkk, ← hak, ← hM]; exact modN_eq a.k t.net.length (by omega)
  obtain ⟨w3e, w4e⟩ := modN_wraps ak M (by omega) (by omega)
  have wk : IntKind.i64.wrap ((k : Int) + 1) = (k : Int) + 1 := IntWalk.i64_in _ (by omega)
  have z3 : ((M : Int) == 0) = false := by rw [beq_eq_false_iff_ne]; omega
  have z4 : ¬ ((M : Int) = 0) := by omega
  have j1 : (0 : Int) ≤ (k : Int) := by omega
  have j2 : (k : Int) < (M : Int) := by omega
  have NV : Hid (∀ W b, TownX b tb t xs W → ∃ A c, W.cell? ⟨tb, 3, none⟩ = some (.slice A M c)) := fun W b hW => by
    rw [← hM]
    exact hW.netv
  obtain ⟨mk, hmk⟩ : ∃ x, m.kind = x := ⟨_, rfl⟩
  obtain ⟨mf, hmf⟩ : ∃ x, m.frm = x := ⟨_, rfl⟩
  have hmt : m.to = (J : Int) := hJm
  obtain ⟨me, hme⟩ : ∃ x, m.ep = x := ⟨_, rfl⟩
  obtain ⟨ma, hma⟩ : ∃ x, m.at_ = x := ⟨_, rfl⟩
  obtain ⟨ml, hml⟩ : ∃ x, m.last = x := ⟨_, rfl⟩
  obtain ⟨mc, hmc⟩ : ∃ x, m.commit = x := ⟨_, rfl⟩
  obtain ⟨lm, hlm⟩ : ∃ x, m.log.length = x := ⟨_, rfl⟩
  have GETM : Hid (∀ W b, TownX b tb t xs W → ∃ Ap cp g cn, TownM b tb t xs m (.slice Ap lm cp) W ∧ W.cell? ⟨tb, 3, none⟩ = some (.slice (some ⟨g, 0, none⟩) M cn) ∧
    W.cell? ⟨g, k * 8, none⟩ = some (.int .i64 mk) ∧ W.cell? ⟨g, k * 8 + 1, none⟩ = some (.int .i64 mf) ∧ W.cell? ⟨g, k * 8 + 2, none⟩ = some (.int .i64 (J : Int)) ∧ W.cell? ⟨g, k * 8 + 3, none⟩ = some (.int .i64 me) ∧ W.cell? ⟨g, k * 8 + 4, none⟩ = some (.int .i64 ma) ∧ W.cell? ⟨g, k * 8 + 5, none⟩ = some (.int .i64 ml) ∧ W.cell? ⟨g, k * 8 + 6, none⟩ = some (.int .i64 mc) ∧ W.cell? ⟨g, k * 8 + 7, none⟩ = some (.slice Ap lm cp)) := fun W b hW => by
    rw [← hmk, ← hmf, ← hmt, ← hme, ← hma, ← hml, ← hmc, ← hlm, ← hM]
    exact hW.getM hm
  obtain ⟨C, hC⟩ : ∃ C, ((t.X J).step m).1 = C := ⟨_, rfl⟩
  have hlm6 : lm ≤ 9223372036854775807 := by omega
  have TLS : Hid (∀ B8 o, Tails (b0.put B8 o) tb { t with net := t.net.eraseIdx k } xs J C #[.int .i64 3, .int .i64 ai, .int .i64 ak, .int .i64 ac, .bool af] Q) := fun B8 o => by
    have := Tails.of (w0 := w0) (tb := tb) (xs := xs) (B := B) (o := .cells (deedV a) 62 (0, 0)) (B8 := B8) (o8 := o) (t := { t with net := t.net.eraseIdx k }) (T := T) (D := D) hJ h7 hodd hao ⟨hb.notes, hb.ents, by have := hb.net; have := List.length_eraseIdx_le t.net k; show (t.net.eraseIdx k).length ≤ _; omega, hb.done, hb.lead⟩ hfew hT hD hcut hA
    rw [hb0, hC, hQ] at this
    rw [← hav]
    exact this
  have STEP : Hid (∀ W b Ap cp g c, TownM b tb { t with net := t.net.eraseIdx k } xs m (.slice Ap lm cp) W → W.cell? ⟨tb, 1, none⟩ = some (.slice (some ⟨g, 0, none⟩) n c) → Calls Try.prog 8 #[.pointer (some ⟨xs J, 0, none⟩), .agg #[.int .i64 mk, .int .i64 mf, .int .i64 (J : Int), .int .i64 me, .int .i64 ma, .int .i64 ml, .int .i64 mc, .slice Ap lm cp]] W fun e w' => ∃ A1 n1 c1 A2 n2 c2, e = .returned (.tuple #[.agg #[.slice A1 n1 c1, .slice A2 n2 c2], .int .i64 0]) ∧ Hid (TownW b tb { t with net := t.net.eraseIdx k, X := upd t.X J C.q } xs (.agg #[.slice A1 n1 c1, .slice A2 n2 c2]) C.ns C.ms w') ∧ w'.heap[tb]? = W.heap[tb]? ∧ w'.heap[g]? = W.heap[g]?) := fun W b Ap cp g c hW hx => by
    have := step_t' hW (i := J) hJ hfJ (by omega) hfits (g := g) (c := c) (by show W.cell? _ = some (Value.slice _ t.n c); rw [hn]; exact hx)
    have e : (m.cells (.slice Ap lm cp)).toArray = #[.int .i64 mk, .int .i64 mf, .int .i64 (J : Int), .int .i64 me, .int .i64 ma, .int .i64 ml, .int .i64 mc, .slice Ap lm cp] := by rw [← hmk, ← hmf, ← hmt, ← hme, ← hma, ← hml, ← hmc]; rfl
    rw [e] at this
    refine this.mono ?_
    rintro e w' ⟨v, rfl, hh, k1, k2⟩
    obtain ⟨A1, n1, c1, A2, n2, c2, rfl⟩ := hh.form
    have er : (({ t with net := t.net.eraseIdx k } : Town).X J).step m = (t.X J).step m := rfl
    rw [er, hC] at hh
    exact ⟨A1, n1, c1, A2, n2, c2, by rw [er, her], hh, k1, k2⟩
  have XCJ : Hid (∀ W b v, TownM b tb { t with net := t.net.eraseIdx k } xs m v W → ∃ g c, W.cell? ⟨tb, 1, none⟩ = some (.slice (some ⟨g, 0, none⟩) n c) ∧ W.cell? ⟨g, J, none⟩ = some (.pointer (some ⟨xs J, 0, none⟩))) := fun W b v hW => by
    obtain ⟨g, c, _, e1, e2⟩ := hW.x.xcells (i := J) hJ
    rw [← hn]; exact ⟨g, c, e1, e2⟩
  have HJ : Hid (0 ≤ (J : Int) ∧ (J : Int) < (n : Int)) := by rw [← hn]; exact ⟨by omega, by omega⟩
  have ERASED : Hid (∀ b W Ap cp, TownM b tb t xs m (.slice Ap lm cp) W → ∃ (A : Option Addr) (c : Nat) (A1 : Option Addr) (n1 c1 : Nat) (w1 : World) (A2 : Option Addr) (n2 c2 : Nat) (w2 : World), (∀ W', Out Zone.no W W' → W'.cell? ⟨tb, 3, none⟩ = some (.slice A M c)) ∧ k ≤ c ∧
      (Builtin.append_ #[30, 30] 30 #[.slice (some ⟨W.heap.size, 0, none⟩) 0 0, .slice A k c]).run Try.prog (W.drew.alloc (.cells #[] 36)) = .ok (.slice A1 n1 c1) w1 ∧ Out Zone.no W w1 ∧
      (Builtin.append_ #[30, 30] 30 #[.slice A1 n1 c1, fromM A (k + 1) M c]).run Try.prog w1 = .ok (.slice A2 n2 c2) w2 ∧
      TownM b tb { t with net := t.net.eraseIdx k } xs m (.slice Ap lm cp) (w2.setCell ⟨tb, 3, none⟩ (.slice A2 n2 c2)) ∧ w2.frozen? ⟨tb, 3, none⟩ = false ∧ ∃ u, w2.cell? ⟨tb, 3, none⟩ = some u) := fun b W Ap cp hW => by
    have := TownM.erased hW (k := k) (by omega) (by rw [hM]; exact hM6)
    rw [hM] at this
    exact this
  obtain ⟨W0, hW0⟩ : ∃ W0, w.alloc (.cells #[.int .i64 3, .int .i64 ai, .int .i64 ak, .int .i64 ac, .bool af] 62) = W0 := ⟨_, rfl⟩
  have H0 : Hid (TownX b0 tb t xs W0) := by
    have := h.box (.cells (deedV a) 62 (0, 0))
    rw [hB, hb0, hav, hW0] at this
    exact this
  have NC : Hid (∀ W, TownX b0 tb t xs W → W.cell? ⟨tb, 0, none⟩ = some (.int .i64 (n : Int))) := fun W hW => by rw [← hn]; exact hW.ncell
  have XC : Hid (∀ W, TownX b0 tb t xs W → ∃ g c, W.cell? ⟨tb, 1, none⟩ = some (.slice (some ⟨g, 0, none⟩) n c) ∧ W.cell? ⟨g, I, none⟩ = some (.pointer (some ⟨xs I, 0, none⟩))) := fun W hW => by
    obtain ⟨g, c, _, e1, e2⟩ := hW.xcells hi
    rw [← hn]; exact ⟨g, c, e1, e2⟩
  have DC : Hid (∀ W, TownX b0 tb t xs W → W.heap[B]? = some (.cells #[.int .i64 3, .int .i64 ai, .int .i64 ak, .int .i64 ac, .bool af] 62 (0, 0))) := fun W hW => by
    rw [← hav]
    exact hW.boxed (by rw [← hb0]; exact List.mem_cons_self ..)
  have DL : Hid (∀ W, TownX b0 tb t xs W → W.cell? ⟨B, 0, none⟩ = some (.int .i64 3) ∧ W.cell? ⟨B, 1, none⟩ = some (.int .i64 ai) ∧ W.cell? ⟨B, 2, none⟩ = some (.int .i64 ak) ∧ W.cell? ⟨B, 3, none⟩ = some (.int .i64 ac) ∧ W.cell? ⟨B, 4, none⟩ = some (.bool af)) := fun W hW => by
    have := DC.out W hW
    refine ⟨by rw [cells_all this]; rfl, by rw [cells_all this]; rfl, by rw [cells_all this]; rfl, by rw [cells_all this]; rfl, by rw [cells_all this]; rfl⟩
  have i1 : (0 : Int) ≤ (I : Int) := by omega
  have i2 : (I : Int) < (n : Int) := by omega
  have c0 := NC.out W0 H0.out
  obtain ⟨d0, d1, d2, d3, d4⟩ := DL.out W0 H0.out
  have FIN : Hid (∀ W, Q W → ∃ xs', TownX w0 tb (t.act a) xs' W) := fun W h => by rw [← hQ] at h; exact h
  have HN := Lib.hid (And.intro hn h7)
  have HCUT := Lib.hid (And.intro hb0 hav)
  have HH := Lib.hid h
  clear hm hmk hmf hmt hJm hme hma hml hmc hlm hM hkk hkM hC hJ hfJ hfits hfew hlm6 hM6 h hQ hact hI hfit hai hak hac haf hb0 hav hk ht hb hA hn h7 h0 hodd hi hcut
  rw [HCUT.out.2]
  go_enter Try.func20, Try.ntmps20
  go_wp2_with fail
  clear hB hW0
  go_upto_region 1 with fail
  have HKE := Lib.hid hIe
  go_cut [5] (fun s5 wx => s5 = .int .i64 (I : Int) ∧ Hid (Out Zone.no W0 wx))
  case first =>
    clear GETM NV TLS STEP XCJ HJ ERASED NC XC DC DL H0 HH HCUT HN
    go_quiet (fail)
    go_wp2_with fail
    go_meet
    exact ⟨by first | rfl | rw [HKE.out], (Out.refl _ _).drewN nq⟩
  case rest =>
  obtain ⟨rfl, hcut⟩ := hcut
  obtain ⟨W1, hW1⟩ : ∃ W1, wc = W1 := ⟨_, rfl⟩
  rw [hW1] at hcut ⊢
  have H1 := Lib.hid (H0.out.any hcut.out)
  clear hcut hW1 d0 d1 d2 d3 d4 c0 hIe w1e w2e z1 z2
  obtain ⟨g, c, x1, x2⟩ := XC.out W1 H1.out
  obtain ⟨B8, hB8⟩ : ∃ B8, W1.heap.size = B8 := ⟨_, rfl⟩
  obtain ⟨W2, hW2⟩ : ∃ W2, W1.alloc (.cells #[.slice none 0 0, .slice none 0 0] 32) = W2 := ⟨_, rfl⟩
  have HNB : Hid (∀ p ∈ b0.bx, p.1 ≠ B8) := fun p hp => by have := heap_lt (H1.out.boxed (k := p.1) (o := p.2) hp); omega
  have H2 : Hid (TownX (b0.put B8 (.cells #[.slice none 0 0, .slice none 0 0] 32 (0, 0))) tb t xs W2) := by
    have := H1.out.box (.cells #[.slice none 0 0, .slice none 0 0] 32)
    rw [hB8, hW2] at this
    exact this
  obtain ⟨d0, d1, d2, d3, d4⟩ := DL.out W2 H2.out.unput
  obtain ⟨An0, cn0, x3⟩ := NV.out _ _ H2.out
  obtain ⟨b1, hb1⟩ : ∃ b1, b0.put B8 (.cells #[.slice none 0 0, .slice none 0 0] 32 (0, 0)) = b1 := ⟨_, rfl⟩
  have HB1 := Lib.hid hb1
  rw [hb1] at H2
  have DB : Hid (∀ W v, TownX b1 tb v xs W → W.cell? ⟨B, 0, none⟩ = some (.int .i64 3) ∧ W.cell? ⟨B, 2, none⟩ = some (.int .i64 ak)) := fun W v hW => by
    rw [← HB1.out] at hW
    have hbd := hW.boxed (k := B) (o := .cells #[.int .i64 3, .int .i64 ai, .int .i64 ak, .int .i64 ac, .bool af] 62 (0, 0)) (List.mem_cons_of_mem _ BXD.out)
    exact ⟨by rw [cells_all hbd]; rfl, by rw [cells_all hbd]; rfl⟩
  clear hb1 NC DC DL
  go_upto_region 27 with fail
  have HKE2 := Lib.hid hKe
  go_cut [17] (fun s17 wx => s17 = .int .i64 (k : Int) ∧ Hid (Out Zone.no W2 wx))
  case first =>
    clear GETM NV H2 HH HCUT HN H0 HNB HB1 DB
    go_quiet (fail)
    go_wp2_with fail
    go_meet
    exact ⟨by first | rfl | rw [HKE2.out], (Out.refl _ _).drewN nq⟩
  case rest =>
  obtain ⟨rfl, hcut⟩ := hcut
  obtain ⟨W3, hW3⟩ : ∃ W3, wc = W3 := ⟨_, rfl⟩
  rw [hW3] at hcut ⊢
  have H3 := Lib.hid (H2.out.any hcut.out)
  clear hcut hW3 hW2 hB8 d0 d1 d2 d3 d4 x1 x2 x3 hKe w3e w4e z3 z4 NV H2
  obtain ⟨Ap, cp, gm, cnm, hm0, y3, m0, m1, m2, m3, m4, m5, m6, m7⟩ := GETM.out _ _ H3.out
  obtain ⟨W4, hW4⟩ : ∃ W4, W3.alloc (.cells #[.int .i64 mk, .int .i64 mf, .int .i64 (J : Int), .int .i64 me, .int .i64 ma, .int .i64 ml, .int .i64 mc, .slice Ap lm cp] 36) = W4 := ⟨_, rfl⟩
  obtain ⟨Bm, hBm⟩ : ∃ Bm, W3.heap.size = Bm := ⟨_, rfl⟩
  have H4 : Hid (TownM (b1.put Bm (.cells #[.int .i64 mk, .int .i64 mf, .int .i64 (J : Int), .int .i64 me, .int .i64 ma, .int .i64 ml, .int .i64 mc, .slice Ap lm cp] 36 (0, 0))) tb t xs m (.slice Ap lm cp) W4) := by
    have := hm0.box (.cells #[.int .i64 mk, .int .i64 mf, .int .i64 (J : Int), .int .i64 me, .int .i64 ma, .int .i64 ml, .int .i64 mc, .slice Ap lm cp] 36)
    rw [hBm, hW4] at this
    exact this
  obtain ⟨d0, d2⟩ := DB.out W4 t H4.out.x.unput
  have MB : Hid (∀ W v, TownM (b1.put Bm (.cells #[.int .i64 mk, .int .i64 mf, .int .i64 (J : Int), .int .i64 me, .int .i64 ma, .int .i64 ml, .int .i64 mc, .slice Ap lm cp] 36 (0, 0))) tb v xs m (.slice Ap lm cp) W → W.cell? ⟨Bm, 0, none⟩ = some (.int .i64 mk) ∧ W.cell? ⟨Bm, 1, none⟩ = some (.int .i64 mf) ∧ W.cell? ⟨Bm, 2, none⟩ = some (.int .i64 (J : Int)) ∧ W.cell? ⟨Bm, 3, none⟩ = some (.int .i64 me) ∧ W.cell? ⟨Bm, 4, none⟩ = some (.int .i64 ma) ∧ W.cell? ⟨Bm, 5, none⟩ = some (.int .i64 ml) ∧ W.cell? ⟨Bm, 6, none⟩ = some (.int .i64 mc) ∧ W.cell? ⟨Bm, 7, none⟩ = some (.slice Ap lm cp)) := fun W v hW => by
    have hb := hW.x.boxed (List.mem_cons_self ..)
    refine ⟨?_, ?_, ?_, ?_, ?_, ?_, ?_, ?_⟩ <;> (rw [cells_all hb]; rfl)
  clear hm0 GETM H3
  go_upto_region 32 with fail
  obtain ⟨A, cA, E1, l1, f1, v1, E2, l2, f2, v2, hC3, hkc, hrun1, ho1, hrun2, h9, fz, uu, eu⟩ := ERASED.out _ _ _ _ H4.out
  have HR1 := Lib.hid hrun1
  have HR2 := Lib.hid hrun2
  have H9 := Lib.hid h9
  have r0 := hC3 _ (Out.refl _ _)
  have r1 := hC3 _ ((Out.refl Zone.no W4).drew)
  have r2 := hC3 _ (((Out.refl Zone.no W4).drew).alloc (.cells #[] 36))
  have r3 := hC3 _ ((Out.refl Zone.no W4).alloc (.cells #[] 36))
  have r4 := hC3 _ ho1
  have sl1 := fun W => run_uptoM (A := A) (L := M) (c := cA) hkc W
  have sl2 : ∀ W, (Instr.slice 30 (.slice A M cA) (some (.int .i64 ((k : Int) + 1))) none none).run Try.prog W = .ok (fromM A (k + 1) M cA) W := fun W => by
    have := run_fromM (A := A) (n := k + 1) (L := M) (c := cA) (by omega) W
    rw [Int.natCast_add] at this
    exact this
  obtain ⟨vF, hvF⟩ : ∃ vF, fromM A (k + 1) M cA = vF := ⟨_, rfl⟩
  rw [hvF] at sl2 HR2
  clear hvF hC3 hrun1 hrun2 ho1 h9 hkc ERASED y3 m0 m1 m2 m3 m4 m5 m6 m7
  go_cut [] (fun wx => Hid (TownM (b1.put Bm (.cells #[.int .i64 mk, .int .i64 mf, .int .i64 (J : Int), .int .i64 me, .int .i64 ma, .int .i64 ml, .int .i64 mc, .slice Ap lm cp] 36 (0, 0))) tb { t with net := t.net.eraseIdx k } xs m (.slice Ap lm cp) wx))
  case first => as_aux_lemma =>
    clear MB DB H4 HB1 HNB HH HCUT HN H0 HKE HKE2 BXD FIN TLS STEP XCJ HJ
    refine wp_region_noPanic ?_
    refine wp_region_held_drew (S := fun _ => True) (by kernel_rfl) trivial (fun hHeld => ?_)
    refine wpAnyH_take (i := 0) (oi := { dst := some 162, op := Op.move (Operand.tmp 0), type := 58, pos := "law.go:244", after := #[], guard := none }) (v := .pointer (some ⟨tb, 0, none⟩)) rfl (by kernel_rfl) (by kernel_rfl) (by kernel_rfl) (fun _ _ _ h => h) (Or.inl ⟨by rfl, ?_⟩) (by assumption) ?_
    · intro w hSw
      (try dsimp only at hSw)
      go_simp
    try simp only [Act.put, List.setIfInBounds_toArray, List.set_cons_zero, List.set_cons_succ]
    refine wpAnyH_take (i := 2) (oi := { dst := some 164, op := Op.move (Operand.tmp 0), type := 58, pos := "law.go:244", after := #[], guard := none }) (v := .pointer (some ⟨tb, 0, none⟩)) rfl (by kernel_rfl) (by kernel_rfl) (by kernel_rfl) (fun _ _ _ h => h) (Or.inl ⟨by rfl, ?_⟩) (by assumption) ?_
    · intro w hSw
      (try dsimp only at hSw)
      go_simp
    try simp only [Act.put, List.setIfInBounds_toArray, List.set_cons_zero, List.set_cons_succ]
    refine wpAnyH_take (i := 3) (oi := { dst := some 165, op := Op.nilCheck (Operand.tmp 164), type := 0, pos := "law.go:244", after := #[{ on := 2, ground := Ground.data }], guard := none }) (v := .pointer (some ⟨tb, 0, none⟩)) rfl (by kernel_rfl) (by kernel_rfl) (by kernel_rfl) (fun _ _ _ h => h) (Or.inl ⟨by rfl, ?_⟩) (by assumption) ?_
    · intro w hSw
      (try dsimp only at hSw)
      go_simp
    try simp only [Act.put, List.setIfInBounds_toArray, List.set_cons_zero, List.set_cons_succ]
    refine wpAnyH_take (i := 4) (oi := { dst := some 166, op := Op.fieldAddr 68 (Operand.tmp 165) 3, type := 0, pos := "law.go:244", after := #[{ on := 3, ground := Ground.data }], guard := none }) (v := .pointer (some ⟨tb, 3, none⟩)) rfl (by kernel_rfl) (by kernel_rfl) (by kernel_rfl) (fun _ _ _ h => h) (Or.inl ⟨by rfl, ?_⟩) (by assumption) ?_
    · intro w hSw
      (try dsimp only at hSw)
      go_simp
    try simp only [Act.put, List.setIfInBounds_toArray, List.set_cons_zero, List.set_cons_succ]
    refine wpAnyH_take (i := 6) (oi := { dst := some 168, op := Op.move (Operand.tmp 17), type := 3, pos := "law.go:244", after := #[], guard := none }) (v := .int .i64 (k : Int)) rfl (by kernel_rfl) (by kernel_rfl) (by kernel_rfl) (fun _ _ _ h => h) (Or.inl ⟨by rfl, ?_⟩) (by assumption) ?_
    · intro w hSw
      (try dsimp only at hSw)
      go_simp
    try simp only [Act.put, List.setIfInBounds_toArray, List.set_cons_zero, List.set_cons_succ]
    refine wpAnyH_take (i := 9) (oi := { dst := some 171, op := Op.move (Operand.tmp 0), type := 58, pos := "law.go:244", after := #[], guard := none }) (v := .pointer (some ⟨tb, 0, none⟩)) rfl (by kernel_rfl) (by kernel_rfl) (by kernel_rfl) (fun _ _ _ h => h) (Or.inl ⟨by rfl, ?_⟩) (by assumption) ?_
    · intro w hSw
      (try dsimp only at hSw)
      go_simp
    try simp only [Act.put, List.setIfInBounds_toArray, List.set_cons_zero, List.set_cons_succ]
    refine wpAnyH_take (i := 10) (oi := { dst := some 172, op := Op.nilCheck (Operand.tmp 171), type := 0, pos := "law.go:244", after := #[{ on := 9, ground := Ground.data }], guard := none }) (v := .pointer (some ⟨tb, 0, none⟩)) rfl (by kernel_rfl) (by kernel_rfl) (by kernel_rfl) (fun _ _ _ h => h) (Or.inl ⟨by rfl, ?_⟩) (by assumption) ?_
    · intro w hSw
      (try dsimp only at hSw)
      go_simp
    try simp only [Act.put, List.setIfInBounds_toArray, List.set_cons_zero, List.set_cons_succ]
    refine wpAnyH_take (i := 11) (oi := { dst := some 173, op := Op.fieldAddr 68 (Operand.tmp 172) 3, type := 0, pos := "law.go:244", after := #[{ on := 10, ground := Ground.data }], guard := none }) (v := .pointer (some ⟨tb, 3, none⟩)) rfl (by kernel_rfl) (by kernel_rfl) (by kernel_rfl) (fun _ _ _ h => h) (Or.inl ⟨by rfl, ?_⟩) (by assumption) ?_
    · intro w hSw
      (try dsimp only at hSw)
      go_simp
    try simp only [Act.put, List.setIfInBounds_toArray, List.set_cons_zero, List.set_cons_succ]
    refine wpAnyH_take (i := 13) (oi := { dst := some 175, op := Op.move (Operand.tmp 17), type := 3, pos := "law.go:244", after := #[], guard := none }) (v := .int .i64 (k : Int)) rfl (by kernel_rfl) (by kernel_rfl) (by kernel_rfl) (fun _ _ _ h => h) (Or.inl ⟨by rfl, ?_⟩) (by assumption) ?_
    · intro w hSw
      (try dsimp only at hSw)
      go_simp
    try simp only [Act.put, List.setIfInBounds_toArray, List.set_cons_zero, List.set_cons_succ]
    refine wpAnyH_take (i := 14) (oi := { dst := some 176, op := Op.binOp BinOp.add 3 (Operand.tmp 175) (Operand.const (Value.int IntKind.i64 1)) 3, type := 3, pos := "law.go:244", after := #[{ on := 13, ground := Ground.data }], guard := none }) (v := .int .i64 ((k : Int) + 1)) rfl (by kernel_rfl) (by kernel_rfl) (by kernel_rfl) (fun _ _ _ h => h) (Or.inl ⟨by rfl, ?_⟩) (by assumption) ?_
    · intro w hSw
      (try dsimp only at hSw)
      go_simp
    try simp only [Act.put, List.setIfInBounds_toArray, List.set_cons_zero, List.set_cons_succ]
    refine wpAnyH_ready (rs := [1, 5, 12]) (by kernel_rfl) (by simp) ?_
    refine AllReadyH.cons (o := { dst := some 163, op := Op.buildSlice 30 0 #[], type := 30, pos := "law.go:244", after := #[], guard := none }) rfl (fun K hK => ?_) ?_
    · go_simp
      refine hK.out _ _ ?_ (fun hHeld => ?_)
      · trivial
      · clear hK K
        try simp only [Act.put, List.setIfInBounds_toArray, List.set_cons_zero, List.set_cons_succ]
        refine wpAnyH_ready (rs := [5, 12]) (by kernel_rfl) (by simp) ?_
        refine AllReadyH.cons (o := { dst := some 167, op := Op.load 30 (Operand.tmp 166), type := 30, pos := "law.go:244", after := #[{ on := 4, ground := Ground.data }], guard := none }) rfl (fun K hK => ?_) ?_
        · go_simp
          refine hK.out _ _ ?_ (fun hHeld => ?_)
          · trivial
          · clear hK K
            try simp only [Act.put, List.setIfInBounds_toArray, List.set_cons_zero, List.set_cons_succ]
            refine wpAnyH_take (i := 7) (oi := { dst := some 169, op := Op.slice 30 (Operand.tmp 167) none (some (Operand.tmp 168)) none, type := 30, pos := "law.go:244", after := #[{ on := 5, ground := Ground.data }, { on := 6, ground := Ground.data }], guard := none }) (v := .slice A k cA) rfl (by kernel_rfl) (by kernel_rfl) (by kernel_rfl) (fun _ _ _ h => h) (Or.inl ⟨by rfl, ?_⟩) (by assumption) ?_
            · intro w hSw
              (try dsimp only at hSw)
              go_simp
            try simp only [Act.put, List.setIfInBounds_toArray, List.set_cons_zero, List.set_cons_succ]
            refine wpAnyH_ready (rs := [8, 12]) (by kernel_rfl) (by simp) ?_
            refine AllReadyH.cons (o := { dst := some 170, op := Op.call { callee := Callee.builtin Builtin.append, args := #[Operand.tmp 163, Operand.tmp 169], argTypes := #[30, 30] }, type := 30, pos := "law.go:244", after := #[{ on := 1, ground := Ground.data }, { on := 7, ground := Ground.data }], guard := none }) rfl (fun K hK => ?_) ?_
            · refine step_builtin rfl _ _ _ rfl (by exact HR1.out) ?_
              refine hK.out _ _ ?_ (fun hHeld => ?_)
              · trivial
              · clear hK K
                try simp only [Act.put, List.setIfInBounds_toArray, List.set_cons_zero, List.set_cons_succ]
                refine wpAnyH_ready (rs := [12]) (by kernel_rfl) (by simp) ?_
                refine AllReadyH.cons (o := { dst := some 174, op := Op.load 30 (Operand.tmp 173), type := 30, pos := "law.go:244", after := #[{ on := 11, ground := Ground.data }], guard := none }) rfl (fun K hK => ?_) ?_
                · go_simp
                  refine hK.out _ _ ?_ (fun hHeld => ?_)
                  · trivial
                  · clear hK K
                    try simp only [Act.put, List.setIfInBounds_toArray, List.set_cons_zero, List.set_cons_succ]
                    refine wpAnyH_take (i := 15) (oi := { dst := some 177, op := Op.slice 30 (Operand.tmp 174) (some (Operand.tmp 176)) none none, type := 30, pos := "law.go:244", after := #[{ on := 12, ground := Ground.data }, { on := 14, ground := Ground.data }], guard := none }) (v := vF) rfl (by kernel_rfl) (by kernel_rfl) (by kernel_rfl) (fun _ _ _ h => h) (Or.inl ⟨by rfl, ?_⟩) (by assumption) ?_
                    · intro w hSw
                      (try dsimp only at hSw)
                      go_simp
                    try simp only [Act.put, List.setIfInBounds_toArray, List.set_cons_zero, List.set_cons_succ]
                    refine wpAnyH_ready (rs := [16]) (by kernel_rfl) (by simp) ?_
                    refine AllReadyH.cons (o := { dst := some 178, op := Op.call { callee := Callee.builtin Builtin.append, args := #[Operand.tmp 170, Operand.tmp 177], argTypes := #[30, 30] }, type := 30, pos := "law.go:244", after := #[{ on := 8, ground := Ground.data }, { on := 15, ground := Ground.data }, { on := 8, ground := Ground.chain }], guard := none }) rfl (fun K hK => ?_) ?_
                    · refine step_builtin rfl _ _ _ rfl (by exact HR2.out) ?_
                      refine hK.out _ _ ?_ (fun hHeld => ?_)
                      · trivial
                      · clear hK K
                        try simp only [Act.put, List.setIfInBounds_toArray, List.set_cons_zero, List.set_cons_succ]
                        refine wpAnyH_take (i := 17) (oi := { dst := some 179, op := Op.nilCheck (Operand.tmp 162), type := 0, pos := "law.go:244", after := #[{ on := 0, ground := Ground.data }, { on := 0, ground := Ground.phase }, { on := 1, ground := Ground.phase }, { on := 2, ground := Ground.phase }, { on := 3, ground := Ground.phase }, { on := 4, ground := Ground.phase }, { on := 5, ground := Ground.phase }, { on := 6, ground := Ground.phase }, { on := 7, ground := Ground.phase }, { on := 8, ground := Ground.phase }, { on := 9, ground := Ground.phase }, { on := 10, ground := Ground.phase }, { on := 11, ground := Ground.phase }, { on := 12, ground := Ground.phase }, { on := 13, ground := Ground.phase }, { on := 14, ground := Ground.phase }, { on := 15, ground := Ground.phase }, { on := 16, ground := Ground.phase }], guard := none }) (v := .pointer (some ⟨tb, 0, none⟩)) rfl (by kernel_rfl) (by kernel_rfl) (by kernel_rfl) (fun _ _ _ h => h) (Or.inl ⟨by rfl, ?_⟩) (by assumption) ?_
                        · intro w hSw
                          (try dsimp only at hSw)
                          go_simp
                        try simp only [Act.put, List.setIfInBounds_toArray, List.set_cons_zero, List.set_cons_succ]
                        refine wpAnyH_take (i := 18) (oi := { dst := some 180, op := Op.fieldAddr 68 (Operand.tmp 179) 3, type := 0, pos := "law.go:244", after := #[{ on := 17, ground := Ground.data }, { on := 0, ground := Ground.phase }, { on := 1, ground := Ground.phase }, { on := 2, ground := Ground.phase }, { on := 3, ground := Ground.phase }, { on := 4, ground := Ground.phase }, { on := 5, ground := Ground.phase }, { on := 6, ground := Ground.phase }, { on := 7, ground := Ground.phase }, { on := 8, ground := Ground.phase }, { on := 9, ground := Ground.phase }, { on := 10, ground := Ground.phase }, { on := 11, ground := Ground.phase }, { on := 12, ground := Ground.phase }, { on := 13, ground := Ground.phase }, { on := 14, ground := Ground.phase }, { on := 15, ground := Ground.phase }, { on := 16, ground := Ground.phase }], guard := none }) (v := .pointer (some ⟨tb, 3, none⟩)) rfl (by kernel_rfl) (by kernel_rfl) (by kernel_rfl) (fun _ _ _ h => h) (Or.inl ⟨by rfl, ?_⟩) (by assumption) ?_
                        · intro w hSw
                          (try dsimp only at hSw)
                          go_simp
                        try simp only [Act.put, List.setIfInBounds_toArray, List.set_cons_zero, List.set_cons_succ]
                        refine wpAnyH_ready (rs := [19]) (by kernel_rfl) (by simp) ?_
                        refine AllReadyH.cons (o := { dst := none, op := Op.store 30 (Operand.tmp 180) (Operand.tmp 178), type := 0, pos := "law.go:244", after := #[{ on := 18, ground := Ground.data }, { on := 16, ground := Ground.data }, { on := 16, ground := Ground.chain }, { on := 0, ground := Ground.phase }, { on := 1, ground := Ground.phase }, { on := 2, ground := Ground.phase }, { on := 3, ground := Ground.phase }, { on := 4, ground := Ground.phase }, { on := 5, ground := Ground.phase }, { on := 6, ground := Ground.phase }, { on := 7, ground := Ground.phase }, { on := 8, ground := Ground.phase }, { on := 9, ground := Ground.phase }, { on := 10, ground := Ground.phase }, { on := 11, ground := Ground.phase }, { on := 12, ground := Ground.phase }, { on := 13, ground := Ground.phase }, { on := 14, ground := Ground.phase }, { on := 15, ground := Ground.phase }, { on := 16, ground := Ground.phase }], guard := none }) rfl (fun K hK => ?_) ?_
                        · go_simp
                          refine hK.out _ _ ?_ (fun hHeld => ?_)
                          · trivial
                          · clear hK K
                            try simp only [Act.put, List.setIfInBounds_toArray, List.set_cons_zero, List.set_cons_succ]
                            refine wpAnyH_done (by kernel_rfl) ?_ _
                            refine NoPanic.normal ?_
                            go_wp2_with fail
                            go_meet
                            exact H9
                        exact AllReadyH.nil
                    exact AllReadyH.nil
                exact AllReadyH.nil
            refine AllReadyH.cons (o := { dst := some 174, op := Op.load 30 (Operand.tmp 173), type := 30, pos := "law.go:244", after := #[{ on := 11, ground := Ground.data }], guard := none }) rfl (fun K hK => ?_) ?_
            · go_simp
              refine hK.out _ _ ?_ (fun hHeld => ?_)
              · trivial
              · clear hK K
                try simp only [Act.put, List.setIfInBounds_toArray, List.set_cons_zero, List.set_cons_succ]
                refine wpAnyH_take (i := 15) (oi := { dst := some 177, op := Op.slice 30 (Operand.tmp 174) (some (Operand.tmp 176)) none none, type := 30, pos := "law.go:244", after := #[{ on := 12, ground := Ground.data }, { on := 14, ground := Ground.data }], guard := none }) (v := vF) rfl (by kernel_rfl) (by kernel_rfl) (by kernel_rfl) (fun _ _ _ h => h) (Or.inl ⟨by rfl, ?_⟩) (by assumption) ?_
                · intro w hSw
                  (try dsimp only at hSw)
                  go_simp
                try simp only [Act.put, List.setIfInBounds_toArray, List.set_cons_zero, List.set_cons_succ]
                refine wpAnyH_ready (rs := [8]) (by kernel_rfl) (by simp) ?_
                refine AllReadyH.cons (o := { dst := some 170, op := Op.call { callee := Callee.builtin Builtin.append, args := #[Operand.tmp 163, Operand.tmp 169], argTypes := #[30, 30] }, type := 30, pos := "law.go:244", after := #[{ on := 1, ground := Ground.data }, { on := 7, ground := Ground.data }], guard := none }) rfl (fun K hK => ?_) ?_
                · refine step_builtin rfl _ _ _ rfl (by exact HR1.out) ?_
                  refine hK.out _ _ ?_ (fun hHeld => ?_)
                  · trivial
                  · clear hK K
                    try simp only [Act.put, List.setIfInBounds_toArray, List.set_cons_zero, List.set_cons_succ]
                    refine wpAnyH_ready (rs := [16]) (by kernel_rfl) (by simp) ?_
                    refine AllReadyH.cons (o := { dst := some 178, op := Op.call { callee := Callee.builtin Builtin.append, args := #[Operand.tmp 170, Operand.tmp 177], argTypes := #[30, 30] }, type := 30, pos := "law.go:244", after := #[{ on := 8, ground := Ground.data }, { on := 15, ground := Ground.data }, { on := 8, ground := Ground.chain }], guard := none }) rfl (fun K hK => ?_) ?_
                    · refine step_builtin rfl _ _ _ rfl (by exact HR2.out) ?_
                      refine hK.out _ _ ?_ (fun hHeld => ?_)
                      · trivial
                      · clear hK K
                        try simp only [Act.put, List.setIfInBounds_toArray, List.set_cons_zero, List.set_cons_succ]
                        refine wpAnyH_take (i := 17) (oi := { dst := some 179, op := Op.nilCheck (Operand.tmp 162), type := 0, pos := "law.go:244", after := #[{ on := 0, ground := Ground.data }, { on := 0, ground := Ground.phase }, { on := 1, ground := Ground.phase }, { on := 2, ground := Ground.phase }, { on := 3, ground := Ground.phase }, { on := 4, ground := Ground.phase }, { on := 5, ground := Ground.phase }, { on := 6, ground := Ground.phase }, { on := 7, ground := Ground.phase }, { on := 8, ground := Ground.phase }, { on := 9, ground := Ground.phase }, { on := 10, ground := Ground.phase }, { on := 11, ground := Ground.phase }, { on := 12, ground := Ground.phase }, { on := 13, ground := Ground.phase }, { on := 14, ground := Ground.phase }, { on := 15, ground := Ground.phase }, { on := 16, ground := Ground.phase }], guard := none }) (v := .pointer (some ⟨tb, 0, none⟩)) rfl (by kernel_rfl) (by kernel_rfl) (by kernel_rfl) (fun _ _ _ h => h) (Or.inl ⟨by rfl, ?_⟩) (by assumption) ?_
                        · intro w hSw
                          (try dsimp only at hSw)
                          go_simp
                        try simp only [Act.put, List.setIfInBounds_toArray, List.set_cons_zero, List.set_cons_succ]
                        refine wpAnyH_take (i := 18) (oi := { dst := some 180, op := Op.fieldAddr 68 (Operand.tmp 179) 3, type := 0, pos := "law.go:244", after := #[{ on := 17, ground := Ground.data }, { on := 0, ground := Ground.phase }, { on := 1, ground := Ground.phase }, { on := 2, ground := Ground.phase }, { on := 3, ground := Ground.phase }, { on := 4, ground := Ground.phase }, { on := 5, ground := Ground.phase }, { on := 6, ground := Ground.phase }, { on := 7, ground := Ground.phase }, { on := 8, ground := Ground.phase }, { on := 9, ground := Ground.phase }, { on := 10, ground := Ground.phase }, { on := 11, ground := Ground.phase }, { on := 12, ground := Ground.phase }, { on := 13, ground := Ground.phase }, { on := 14, ground := Ground.phase }, { on := 15, ground := Ground.phase }, { on := 16, ground := Ground.phase }], guard := none }) (v := .pointer (some ⟨tb, 3, none⟩)) rfl (by kernel_rfl) (by kernel_rfl) (by kernel_rfl) (fun _ _ _ h => h) (Or.inl ⟨by rfl, ?_⟩) (by assumption) ?_
                        · intro w hSw
                          (try dsimp only at hSw)
                          go_simp
                        try simp only [Act.put, List.setIfInBounds_toArray, List.set_cons_zero, List.set_cons_succ]
                        refine wpAnyH_ready (rs := [19]) (by kernel_rfl) (by simp) ?_
                        refine AllReadyH.cons (o := { dst := none, op := Op.store 30 (Operand.tmp 180) (Operand.tmp 178), type := 0, pos := "law.go:244", after := #[{ on := 18, ground := Ground.data }, { on := 16, ground := Ground.data }, { on := 16, ground := Ground.chain }, { on := 0, ground := Ground.phase }, { on := 1, ground := Ground.phase }, { on := 2, ground := Ground.phase }, { on := 3, ground := Ground.phase }, { on := 4, ground := Ground.phase }, { on := 5, ground := Ground.phase }, { on := 6, ground := Ground.phase }, { on := 7, ground := Ground.phase }, { on := 8, ground := Ground.phase }, { on := 9, ground := Ground.phase }, { on := 10, ground := Ground.phase }, { on := 11, ground := Ground.phase }, { on := 12, ground := Ground.phase }, { on := 13, ground := Ground.phase }, { on := 14, ground := Ground.phase }, { on := 15, ground := Ground.phase }, { on := 16, ground := Ground.phase }], guard := none }) rfl (fun K hK => ?_) ?_
                        · go_simp
                          refine hK.out _ _ ?_ (fun hHeld => ?_)
                          · trivial
                          · clear hK K
                            try simp only [Act.put, List.setIfInBounds_toArray, List.set_cons_zero, List.set_cons_succ]
                            refine wpAnyH_done (by kernel_rfl) ?_ _
                            refine NoPanic.normal ?_
                            go_wp2_with fail
                            go_meet
                            exact H9
                        exact AllReadyH.nil
                    exact AllReadyH.nil
                exact AllReadyH.nil
            exact AllReadyH.nil
        refine AllReadyH.cons (o := { dst := some 174, op := Op.load 30 (Operand.tmp 173), type := 30, pos := "law.go:244", after := #[{ on := 11, ground := Ground.data }], guard := none }) rfl (fun K hK => ?_) ?_
        · go_simp
          refine hK.out _ _ ?_ (fun hHeld => ?_)
          · trivial
          · clear hK K
            try simp only [Act.put, List.setIfInBounds_toArray, List.set_cons_zero, List.set_cons_succ]
            refine wpAnyH_take (i := 15) (oi := { dst := some 177, op := Op.slice 30 (Operand.tmp 174) (some (Operand.tmp 176)) none none, type := 30, pos := "law.go:244", after := #[{ on := 12, ground := Ground.data }, { on := 14, ground := Ground.data }], guard := none }) (v := vF) rfl (by kernel_rfl) (by kernel_rfl) (by kernel_rfl) (fun _ _ _ h => h) (Or.inl ⟨by rfl, ?_⟩) (by assumption) ?_
            · intro w hSw
              (try dsimp only at hSw)
              go_simp
            try simp only [Act.put, List.setIfInBounds_toArray, List.set_cons_zero, List.set_cons_succ]
            refine wpAnyH_ready (rs := [5]) (by kernel_rfl) (by simp) ?_
            refine AllReadyH.cons (o := { dst := some 167, op := Op.load 30 (Operand.tmp 166), type := 30, pos := "law.go:244", after := #[{ on := 4, ground := Ground.data }], guard := none }) rfl (fun K hK => ?_) ?_
            · go_simp
              refine hK.out _ _ ?_ (fun hHeld => ?_)
              · trivial
              · clear hK K
                try simp only [Act.put, List.setIfInBounds_toArray, List.set_cons_zero, List.set_cons_succ]
                refine wpAnyH_take (i := 7) (oi := { dst := some 169, op := Op.slice 30 (Operand.tmp 167) none (some (Operand.tmp 168)) none, type := 30, pos := "law.go:244", after := #[{ on := 5, ground := Ground.data }, { on := 6, ground := Ground.data }], guard := none }) (v := .slice A k cA) rfl (by kernel_rfl) (by kernel_rfl) (by kernel_rfl) (fun _ _ _ h => h) (Or.inl ⟨by rfl, ?_⟩) (by assumption) ?_
                · intro w hSw
                  (try dsimp only at hSw)
                  go_simp
                try simp only [Act.put, List.setIfInBounds_toArray, List.set_cons_zero, List.set_cons_succ]
                refine wpAnyH_ready (rs := [8]) (by kernel_rfl) (by simp) ?_
                refine AllReadyH.cons (o := { dst := some 170, op := Op.call { callee := Callee.builtin Builtin.append, args := #[Operand.tmp 163, Operand.tmp 169], argTypes := #[30, 30] }, type := 30, pos := "law.go:244", after := #[{ on := 1, ground := Ground.data }, { on := 7, ground := Ground.data }], guard := none }) rfl (fun K hK => ?_) ?_
                · refine step_builtin rfl _ _ _ rfl (by exact HR1.out) ?_
                  refine hK.out _ _ ?_ (fun hHeld => ?_)
                  · trivial
                  · clear hK K
                    try simp only [Act.put, List.setIfInBounds_toArray, List.set_cons_zero, List.set_cons_succ]
                    refine wpAnyH_ready (rs := [16]) (by kernel_rfl) (by simp) ?_
                    refine AllReadyH.cons (o := { dst := some 178, op := Op.call { callee := Callee.builtin Builtin.append, args := #[Operand.tmp 170, Operand.tmp 177], argTypes := #[30, 30] }, type := 30, pos := "law.go:244", after := #[{ on := 8, ground := Ground.data }, { on := 15, ground := Ground.data }, { on := 8, ground := Ground.chain }], guard := none }) rfl (fun K hK => ?_) ?_
                    · refine step_builtin rfl _ _ _ rfl (by exact HR2.out) ?_
                      refine hK.out _ _ ?_ (fun hHeld => ?_)
                      · trivial
                      · clear hK K
                        try simp only [Act.put, List.setIfInBounds_toArray, List.set_cons_zero, List.set_cons_succ]
                        refine wpAnyH_take (i := 17) (oi := { dst := some 179, op := Op.nilCheck (Operand.tmp 162), type := 0, pos := "law.go:244", after := #[{ on := 0, ground := Ground.data }, { on := 0, ground := Ground.phase }, { on := 1, ground := Ground.phase }, { on := 2, ground := Ground.phase }, { on := 3, ground := Ground.phase }, { on := 4, ground := Ground.phase }, { on := 5, ground := Ground.phase }, { on := 6, ground := Ground.phase }, { on := 7, ground := Ground.phase }, { on := 8, ground := Ground.phase }, { on := 9, ground := Ground.phase }, { on := 10, ground := Ground.phase }, { on := 11, ground := Ground.phase }, { on := 12, ground := Ground.phase }, { on := 13, ground := Ground.phase }, { on := 14, ground := Ground.phase }, { on := 15, ground := Ground.phase }, { on := 16, ground := Ground.phase }], guard := none }) (v := .pointer (some ⟨tb, 0, none⟩)) rfl (by kernel_rfl) (by kernel_rfl) (by kernel_rfl) (fun _ _ _ h => h) (Or.inl ⟨by rfl, ?_⟩) (by assumption) ?_
                        · intro w hSw
                          (try dsimp only at hSw)
                          go_simp
                        try simp only [Act.put, List.setIfInBounds_toArray, List.set_cons_zero, List.set_cons_succ]
                        refine wpAnyH_take (i := 18) (oi := { dst := some 180, op := Op.fieldAddr 68 (Operand.tmp 179) 3, type := 0, pos := "law.go:244", after := #[{ on := 17, ground := Ground.data }, { on := 0, ground := Ground.phase }, { on := 1, ground := Ground.phase }, { on := 2, ground := Ground.phase }, { on := 3, ground := Ground.phase }, { on := 4, ground := Ground.phase }, { on := 5, ground := Ground.phase }, { on := 6, ground := Ground.phase }, { on := 7, ground := Ground.phase }, { on := 8, ground := Ground.phase }, { on := 9, ground := Ground.phase }, { on := 10, ground := Ground.phase }, { on := 11, ground := Ground.phase }, { on := 12, ground := Ground.phase }, { on := 13, ground := Ground.phase }, { on := 14, ground := Ground.phase }, { on := 15, ground := Ground.phase }, { on := 16, ground := Ground.phase }], guard := none }) (v := .pointer (some ⟨tb, 3, none⟩)) rfl (by kernel_rfl) (by kernel_rfl) (by kernel_rfl) (fun _ _ _ h => h) (Or.inl ⟨by rfl, ?_⟩) (by assumption) ?_
                        · intro w hSw
                          (try dsimp only at hSw)
                          go_simp
                        try simp only [Act.put, List.setIfInBounds_toArray, List.set_cons_zero, List.set_cons_succ]
                        refine wpAnyH_ready (rs := [19]) (by kernel_rfl) (by simp) ?_
                        refine AllReadyH.cons (o := { dst := none, op := Op.store 30 (Operand.tmp 180) (Operand.tmp 178), type := 0, pos := "law.go:244", after := #[{ on := 18, ground := Ground.data }, { on := 16, ground := Ground.data }, { on := 16, ground := Ground.chain }, { on := 0, ground := Ground.phase }, { on := 1, ground := Ground.phase }, { on := 2, ground := Ground.phase }, { on := 3, ground := Ground.phase }, { on := 4, ground := Ground.phase }, { on := 5, ground := Ground.phase }, { on := 6, ground := Ground.phase }, { on := 7, ground := Ground.phase }, { on := 8, ground := Ground.phase }, { on := 9, ground := Ground.phase }, { on := 10, ground := Ground.phase }, { on := 11, ground := Ground.phase }, { on := 12, ground := Ground.phase }, { on := 13, ground := Ground.phase }, { on := 14, ground := Ground.phase }, { on := 15, ground := Ground.phase }, { on := 16, ground := Ground.phase }], guard := none }) rfl (fun K hK => ?_) ?_
                        · go_simp
                          refine hK.out _ _ ?_ (fun hHeld => ?_)
                          · trivial
                          · clear hK K
                            try simp only [Act.put, List.setIfInBounds_toArray, List.set_cons_zero, List.set_cons_succ]
                            refine wpAnyH_done (by kernel_rfl) ?_ _
                            refine NoPanic.normal ?_
                            go_wp2_with fail
                            go_meet
                            exact H9
                        exact AllReadyH.nil
                    exact AllReadyH.nil
                exact AllReadyH.nil
            exact AllReadyH.nil
        exact AllReadyH.nil
    refine AllReadyH.cons (o := { dst := some 167, op := Op.load 30 (Operand.tmp 166), type := 30, pos := "law.go:244", after := #[{ on := 4, ground := Ground.data }], guard := none }) rfl (fun K hK => ?_) ?_
    · go_simp
      refine hK.out _ _ ?_ (fun hHeld => ?_)
      · trivial
      · clear hK K
        try simp only [Act.put, List.setIfInBounds_toArray, List.set_cons_zero, List.set_cons_succ]
        refine wpAnyH_take (i := 7) (oi := { dst := some 169, op := Op.slice 30 (Operand.tmp 167) none (some (Operand.tmp 168)) none, type := 30, pos := "law.go:244", after := #[{ on := 5, ground := Ground.data }, { on := 6, ground := Ground.data }], guard := none }) (v := .slice A k cA) rfl (by kernel_rfl) (by kernel_rfl) (by kernel_rfl) (fun _ _ _ h => h) (Or.inl ⟨by rfl, ?_⟩) (by assumption) ?_
        · intro w hSw
          (try dsimp only at hSw)
          go_simp
        try simp only [Act.put, List.setIfInBounds_toArray, List.set_cons_zero, List.set_cons_succ]
        refine wpAnyH_ready (rs := [1, 12]) (by kernel_rfl) (by simp) ?_
        refine AllReadyH.cons (o := { dst := some 163, op := Op.buildSlice 30 0 #[], type := 30, pos := "law.go:244", after := #[], guard := none }) rfl (fun K hK => ?_) ?_
        · go_simp
          refine hK.out _ _ ?_ (fun hHeld => ?_)
          · trivial
          · clear hK K
            try simp only [Act.put, List.setIfInBounds_toArray, List.set_cons_zero, List.set_cons_succ]
            refine wpAnyH_ready (rs := [8, 12]) (by kernel_rfl) (by simp) ?_
            refine AllReadyH.cons (o := { dst := some 170, op := Op.call { callee := Callee.builtin Builtin.append, args := #[Operand.tmp 163, Operand.tmp 169], argTypes := #[30, 30] }, type := 30, pos := "law.go:244", after := #[{ on := 1, ground := Ground.data }, { on := 7, ground := Ground.data }], guard := none }) rfl (fun K hK => ?_) ?_
            · refine step_builtin rfl _ _ _ rfl (by exact HR1.out) ?_
              refine hK.out _ _ ?_ (fun hHeld => ?_)
              · trivial
              · clear hK K
                try simp only [Act.put, List.setIfInBounds_toArray, List.set_cons_zero, List.set_cons_succ]
                refine wpAnyH_ready (rs := [12]) (by kernel_rfl) (by simp) ?_
                refine AllReadyH.cons (o := { dst := some 174, op := Op.load 30 (Operand.tmp 173), type := 30, pos := "law.go:244", after := #[{ on := 11, ground := Ground.data }], guard := none }) rfl (fun K hK => ?_) ?_
                · go_simp
                  refine hK.out _ _ ?_ (fun hHeld => ?_)
                  · trivial
                  · clear hK K
                    try simp only [Act.put, List.setIfInBounds_toArray, List.set_cons_zero, List.set_cons_succ]
                    refine wpAnyH_take (i := 15) (oi := { dst := some 177, op := Op.slice 30 (Operand.tmp 174) (some (Operand.tmp 176)) none none, type := 30, pos := "law.go:244", after := #[{ on := 12, ground := Ground.data }, { on := 14, ground := Ground.data }], guard := none }) (v := vF) rfl (by kernel_rfl) (by kernel_rfl) (by kernel_rfl) (fun _ _ _ h => h) (Or.inl ⟨by rfl, ?_⟩) (by assumption) ?_
                    · intro w hSw
                      (try dsimp only at hSw)
                      go_simp
                    try simp only [Act.put, List.setIfInBounds_toArray, List.set_cons_zero, List.set_cons_succ]
                    refine wpAnyH_ready (rs := [16]) (by kernel_rfl) (by simp) ?_
                    refine AllReadyH.cons (o := { dst := some 178, op := Op.call { callee := Callee.builtin Builtin.append, args := #[Operand.tmp 170, Operand.tmp 177], argTypes := #[30, 30] }, type := 30, pos := "law.go:244", after := #[{ on := 8, ground := Ground.data }, { on := 15, ground := Ground.data }, { on := 8, ground := Ground.chain }], guard := none }) rfl (fun K hK => ?_) ?_
                    · refine step_builtin rfl _ _ _ rfl (by exact HR2.out) ?_
                      refine hK.out _ _ ?_ (fun hHeld => ?_)
                      · trivial
                      · clear hK K
                        try simp only [Act.put, List.setIfInBounds_toArray, List.set_cons_zero, List.set_cons_succ]
                        refine wpAnyH_take (i := 17) (oi := { dst := some 179, op := Op.nilCheck (Operand.tmp 162), type := 0, pos := "law.go:244", after := #[{ on := 0, ground := Ground.data }, { on := 0, ground := Ground.phase }, { on := 1, ground := Ground.phase }, { on := 2, ground := Ground.phase }, { on := 3, ground := Ground.phase }, { on := 4, ground := Ground.phase }, { on := 5, ground := Ground.phase }, { on := 6, ground := Ground.phase }, { on := 7, ground := Ground.phase }, { on := 8, ground := Ground.phase }, { on := 9, ground := Ground.phase }, { on := 10, ground := Ground.phase }, { on := 11, ground := Ground.phase }, { on := 12, ground := Ground.phase }, { on := 13, ground := Ground.phase }, { on := 14, ground := Ground.phase }, { on := 15, ground := Ground.phase }, { on := 16, ground := Ground.phase }], guard := none }) (v := .pointer (some ⟨tb, 0, none⟩)) rfl (by kernel_rfl) (by kernel_rfl) (by kernel_rfl) (fun _ _ _ h => h) (Or.inl ⟨by rfl, ?_⟩) (by assumption) ?_
                        · intro w hSw
                          (try dsimp only at hSw)
                          go_simp
                        try simp only [Act.put, List.setIfInBounds_toArray, List.set_cons_zero, List.set_cons_succ]
                        refine wpAnyH_take (i := 18) (oi := { dst := some 180, op := Op.fieldAddr 68 (Operand.tmp 179) 3, type := 0, pos := "law.go:244", after := #[{ on := 17, ground := Ground.data }, { on := 0, ground := Ground.phase }, { on := 1, ground := Ground.phase }, { on := 2, ground := Ground.phase }, { on := 3, ground := Ground.phase }, { on := 4, ground := Ground.phase }, { on := 5, ground := Ground.phase }, { on := 6, ground := Ground.phase }, { on := 7, ground := Ground.phase }, { on := 8, ground := Ground.phase }, { on := 9, ground := Ground.phase }, { on := 10, ground := Ground.phase }, { on := 11, ground := Ground.phase }, { on := 12, ground := Ground.phase }, { on := 13, ground := Ground.phase }, { on := 14, ground := Ground.phase }, { on := 15, ground := Ground.phase }, { on := 16, ground := Ground.phase }], guard := none }) (v := .pointer (some ⟨tb, 3, none⟩)) rfl (by kernel_rfl) (by kernel_rfl) (by kernel_rfl) (fun _ _ _ h => h) (Or.inl ⟨by rfl, ?_⟩) (by assumption) ?_
                        · intro w hSw
                          (try dsimp only at hSw)
                          go_simp
                        try simp only [Act.put, List.setIfInBounds_toArray, List.set_cons_zero, List.set_cons_succ]
                        refine wpAnyH_ready (rs := [19]) (by kernel_rfl) (by simp) ?_
                        refine AllReadyH.cons (o := { dst := none, op := Op.store 30 (Operand.tmp 180) (Operand.tmp 178), type := 0, pos := "law.go:244", after := #[{ on := 18, ground := Ground.data }, { on := 16, ground := Ground.data }, { on := 16, ground := Ground.chain }, { on := 0, ground := Ground.phase }, { on := 1, ground := Ground.phase }, { on := 2, ground := Ground.phase }, { on := 3, ground := Ground.phase }, { on := 4, ground := Ground.phase }, { on := 5, ground := Ground.phase }, { on := 6, ground := Ground.phase }, { on := 7, ground := Ground.phase }, { on := 8, ground := Ground.phase }, { on := 9, ground := Ground.phase }, { on := 10, ground := Ground.phase }, { on := 11, ground := Ground.phase }, { on := 12, ground := Ground.phase }, { on := 13, ground := Ground.phase }, { on := 14, ground := Ground.phase }, { on := 15, ground := Ground.phase }, { on := 16, ground := Ground.phase }], guard := none }) rfl (fun K hK => ?_) ?_
                        · go_simp
                          refine hK.out _ _ ?_ (fun hHeld => ?_)
                          · trivial
                          · clear hK K
                            try simp only [Act.put, List.setIfInBounds_toArray, List.set_cons_zero, List.set_cons_succ]
                            refine wpAnyH_done (by kernel_rfl) ?_ _
                            refine NoPanic.normal ?_
                            go_wp2_with fail
                            go_meet
                            exact H9
                        exact AllReadyH.nil
                    exact AllReadyH.nil
                exact AllReadyH.nil
            refine AllReadyH.cons (o := { dst := some 174, op := Op.load 30 (Operand.tmp 173), type := 30, pos := "law.go:244", after := #[{ on := 11, ground := Ground.data }], guard := none }) rfl (fun K hK => ?_) ?_
            · go_simp
              refine hK.out _ _ ?_ (fun hHeld => ?_)
              · trivial
              · clear hK K
                try simp only [Act.put, List.setIfInBounds_toArray, List.set_cons_zero, List.set_cons_succ]
                refine wpAnyH_take (i := 15) (oi := { dst := some 177, op := Op.slice 30 (Operand.tmp 174) (some (Operand.tmp 176)) none none, type := 30, pos := "law.go:244", after := #[{ on := 12, ground := Ground.data }, { on := 14, ground := Ground.data }], guard := none }) (v := vF) rfl (by kernel_rfl) (by kernel_rfl) (by kernel_rfl) (fun _ _ _ h => h) (Or.inl ⟨by rfl, ?_⟩) (by assumption) ?_
                · intro w hSw
                  (try dsimp only at hSw)
                  go_simp
                try simp only [Act.put, List.setIfInBounds_toArray, List.set_cons_zero, List.set_cons_succ]
                refine wpAnyH_ready (rs := [8]) (by kernel_rfl) (by simp) ?_
                refine AllReadyH.cons (o := { dst := some 170, op := Op.call { callee := Callee.builtin Builtin.append, args := #[Operand.tmp 163, Operand.tmp 169], argTypes := #[30, 30] }, type := 30, pos := "law.go:244", after := #[{ on := 1, ground := Ground.data }, { on := 7, ground := Ground.data }], guard := none }) rfl (fun K hK => ?_) ?_
                · refine step_builtin rfl _ _ _ rfl (by exact HR1.out) ?_
                  refine hK.out _ _ ?_ (fun hHeld => ?_)
                  · trivial
                  · clear hK K
                    try simp only [Act.put, List.setIfInBounds_toArray, List.set_cons_zero, List.set_cons_succ]
                    refine wpAnyH_ready (rs := [16]) (by kernel_rfl) (by simp) ?_
                    refine AllReadyH.cons (o := { dst := some 178, op := Op.call { callee := Callee.builtin Builtin.append, args := #[Operand.tmp 170, Operand.tmp 177], argTypes := #[30, 30] }, type := 30, pos := "law.go:244", after := #[{ on := 8, ground := Ground.data }, { on := 15, ground := Ground.data }, { on := 8, ground := Ground.chain }], guard := none }) rfl (fun K hK => ?_) ?_
                    · refine step_builtin rfl _ _ _ rfl (by exact HR2.out) ?_
                      refine hK.out _ _ ?_ (fun hHeld => ?_)
                      · trivial
                      · clear hK K
                        try simp only [Act.put, List.setIfInBounds_toArray, List.set_cons_zero, List.set_cons_succ]
                        refine wpAnyH_take (i := 17) (oi := { dst := some 179, op := Op.nilCheck (Operand.tmp 162), type := 0, pos := "law.go:244", after := #[{ on := 0, ground := Ground.data }, { on := 0, ground := Ground.phase }, { on := 1, ground := Ground.phase }, { on := 2, ground := Ground.phase }, { on := 3, ground := Ground.phase }, { on := 4, ground := Ground.phase }, { on := 5, ground := Ground.phase }, { on := 6, ground := Ground.phase }, { on := 7, ground := Ground.phase }, { on := 8, ground := Ground.phase }, { on := 9, ground := Ground.phase }, { on := 10, ground := Ground.phase }, { on := 11, ground := Ground.phase }, { on := 12, ground := Ground.phase }, { on := 13, ground := Ground.phase }, { on := 14, ground := Ground.phase }, { on := 15, ground := Ground.phase }, { on := 16, ground := Ground.phase }], guard := none }) (v := .pointer (some ⟨tb, 0, none⟩)) rfl (by kernel_rfl) (by kernel_rfl) (by kernel_rfl) (fun _ _ _ h => h) (Or.inl ⟨by rfl, ?_⟩) (by assumption) ?_
                        · intro w hSw
                          (try dsimp only at hSw)
                          go_simp
                        try simp only [Act.put, List.setIfInBounds_toArray, List.set_cons_zero, List.set_cons_succ]
                        refine wpAnyH_take (i := 18) (oi := { dst := some 180, op := Op.fieldAddr 68 (Operand.tmp 179) 3, type := 0, pos := "law.go:244", after := #[{ on := 17, ground := Ground.data }, { on := 0, ground := Ground.phase }, { on := 1, ground := Ground.phase }, { on := 2, ground := Ground.phase }, { on := 3, ground := Ground.phase }, { on := 4, ground := Ground.phase }, { on := 5, ground := Ground.phase }, { on := 6, ground := Ground.phase }, { on := 7, ground := Ground.phase }, { on := 8, ground := Ground.phase }, { on := 9, ground := Ground.phase }, { on := 10, ground := Ground.phase }, { on := 11, ground := Ground.phase }, { on := 12, ground := Ground.phase }, { on := 13, ground := Ground.phase }, { on := 14, ground := Ground.phase }, { on := 15, ground := Ground.phase }, { on := 16, ground := Ground.phase }], guard := none }) (v := .pointer (some ⟨tb, 3, none⟩)) rfl (by kernel_rfl) (by kernel_rfl) (by kernel_rfl) (fun _ _ _ h => h) (Or.inl ⟨by rfl, ?_⟩) (by assumption) ?_
                        · intro w hSw
                          (try dsimp only at hSw)
                          go_simp
                        try simp only [Act.put, List.setIfInBounds_toArray, List.set_cons_zero, List.set_cons_succ]
                        refine wpAnyH_ready (rs := [19]) (by kernel_rfl) (by simp) ?_
                        refine AllReadyH.cons (o := { dst := none, op := Op.store 30 (Operand.tmp 180) (Operand.tmp 178), type := 0, pos := "law.go:244", after := #[{ on := 18, ground := Ground.data }, { on := 16, ground := Ground.data }, { on := 16, ground := Ground.chain }, { on := 0, ground := Ground.phase }, { on := 1, ground := Ground.phase }, { on := 2, ground := Ground.phase }, { on := 3, ground := Ground.phase }, { on := 4, ground := Ground.phase }, { on := 5, ground := Ground.phase }, { on := 6, ground := Ground.phase }, { on := 7, ground := Ground.phase }, { on := 8, ground := Ground.phase }, { on := 9, ground := Ground.phase }, { on := 10, ground := Ground.phase }, { on := 11, ground := Ground.phase }, { on := 12, ground := Ground.phase }, { on := 13, ground := Ground.phase }, { on := 14, ground := Ground.phase }, { on := 15, ground := Ground.phase }, { on := 16, ground := Ground.phase }], guard := none }) rfl (fun K hK => ?_) ?_
                        · go_simp
                          refine hK.out _ _ ?_ (fun hHeld => ?_)
                          · trivial
                          · clear hK K
                            try simp only [Act.put, List.setIfInBounds_toArray, List.set_cons_zero, List.set_cons_succ]
                            refine wpAnyH_done (by kernel_rfl) ?_ _
                            refine NoPanic.normal ?_
                            go_wp2_with fail
                            go_meet
                            exact H9
                        exact AllReadyH.nil
                    exact AllReadyH.nil
                exact AllReadyH.nil
            exact AllReadyH.nil
        refine AllReadyH.cons (o := { dst := some 174, op := Op.load 30 (Operand.tmp 173), type := 30, pos := "law.go:244", after := #[{ on := 11, ground := Ground.data }], guard := none }) rfl (fun K hK => ?_) ?_
        · go_simp
          refine hK.out _ _ ?_ (fun hHeld => ?_)
          · trivial
          · clear hK K
            try simp only [Act.put, List.setIfInBounds_toArray, List.set_cons_zero, List.set_cons_succ]
            refine wpAnyH_take (i := 15) (oi := { dst := some 177, op := Op.slice 30 (Operand.tmp 174) (some (Operand.tmp 176)) none none, type := 30, pos := "law.go:244", after := #[{ on := 12, ground := Ground.data }, { on := 14, ground := Ground.data }], guard := none }) (v := vF) rfl (by kernel_rfl) (by kernel_rfl) (by kernel_rfl) (fun _ _ _ h => h) (Or.inl ⟨by rfl, ?_⟩) (by assumption) ?_
            · intro w hSw
              (try dsimp only at hSw)
              go_simp
            try simp only [Act.put, List.setIfInBounds_toArray, List.set_cons_zero, List.set_cons_succ]
            refine wpAnyH_ready (rs := [1]) (by kernel_rfl) (by simp) ?_
            refine AllReadyH.cons (o := { dst := some 163, op := Op.buildSlice 30 0 #[], type := 30, pos := "law.go:244", after := #[], guard := none }) rfl (fun K hK => ?_) ?_
            · go_simp
              refine hK.out _ _ ?_ (fun hHeld => ?_)
              · trivial
              · clear hK K
                try simp only [Act.put, List.setIfInBounds_toArray, List.set_cons_zero, List.set_cons_succ]
                refine wpAnyH_ready (rs := [8]) (by kernel_rfl) (by simp) ?_
                refine AllReadyH.cons (o := { dst := some 170, op := Op.call { callee := Callee.builtin Builtin.append, args := #[Operand.tmp 163, Operand.tmp 169], argTypes := #[30, 30] }, type := 30, pos := "law.go:244", after := #[{ on := 1, ground := Ground.data }, { on := 7, ground := Ground.data }], guard := none }) rfl (fun K hK => ?_) ?_
                · refine step_builtin rfl _ _ _ rfl (by exact HR1.out) ?_
                  refine hK.out _ _ ?_ (fun hHeld => ?_)
                  · trivial
                  · clear hK K
                    try simp only [Act.put, List.setIfInBounds_toArray, List.set_cons_zero, List.set_cons_succ]
                    refine wpAnyH_ready (rs := [16]) (by kernel_rfl) (by simp) ?_
                    refine AllReadyH.cons (o := { dst := some 178, op := Op.call { callee := Callee.builtin Builtin.append, args := #[Operand.tmp 170, Operand.tmp 177], argTypes := #[30, 30] }, type := 30, pos := "law.go:244", after := #[{ on := 8, ground := Ground.data }, { on := 15, ground := Ground.data }, { on := 8, ground := Ground.chain }], guard := none }) rfl (fun K hK => ?_) ?_
                    · refine step_builtin rfl _ _ _ rfl (by exact HR2.out) ?_
                      refine hK.out _ _ ?_ (fun hHeld => ?_)
                      · trivial
                      · clear hK K
                        try simp only [Act.put, List.setIfInBounds_toArray, List.set_cons_zero, List.set_cons_succ]
                        refine wpAnyH_take (i := 17) (oi := { dst := some 179, op := Op.nilCheck (Operand.tmp 162), type := 0, pos := "law.go:244", after := #[{ on := 0, ground := Ground.data }, { on := 0, ground := Ground.phase }, { on := 1, ground := Ground.phase }, { on := 2, ground := Ground.phase }, { on := 3, ground := Ground.phase }, { on := 4, ground := Ground.phase }, { on := 5, ground := Ground.phase }, { on := 6, ground := Ground.phase }, { on := 7, ground := Ground.phase }, { on := 8, ground := Ground.phase }, { on := 9, ground := Ground.phase }, { on := 10, ground := Ground.phase }, { on := 11, ground := Ground.phase }, { on := 12, ground := Ground.phase }, { on := 13, ground := Ground.phase }, { on := 14, ground := Ground.phase }, { on := 15, ground := Ground.phase }, { on := 16, ground := Ground.phase }], guard := none }) (v := .pointer (some ⟨tb, 0, none⟩)) rfl (by kernel_rfl) (by kernel_rfl) (by kernel_rfl) (fun _ _ _ h => h) (Or.inl ⟨by rfl, ?_⟩) (by assumption) ?_
                        · intro w hSw
                          (try dsimp only at hSw)
                          go_simp
                        try simp only [Act.put, List.setIfInBounds_toArray, List.set_cons_zero, List.set_cons_succ]
                        refine wpAnyH_take (i := 18) (oi := { dst := some 180, op := Op.fieldAddr 68 (Operand.tmp 179) 3, type := 0, pos := "law.go:244", after := #[{ on := 17, ground := Ground.data }, { on := 0, ground := Ground.phase }, { on := 1, ground := Ground.phase }, { on := 2, ground := Ground.phase }, { on := 3, ground := Ground.phase }, { on := 4, ground := Ground.phase }, { on := 5, ground := Ground.phase }, { on := 6, ground := Ground.phase }, { on := 7, ground := Ground.phase }, { on := 8, ground := Ground.phase }, { on := 9, ground := Ground.phase }, { on := 10, ground := Ground.phase }, { on := 11, ground := Ground.phase }, { on := 12, ground := Ground.phase }, { on := 13, ground := Ground.phase }, { on := 14, ground := Ground.phase }, { on := 15, ground := Ground.phase }, { on := 16, ground := Ground.phase }], guard := none }) (v := .pointer (some ⟨tb, 3, none⟩)) rfl (by kernel_rfl) (by kernel_rfl) (by kernel_rfl) (fun _ _ _ h => h) (Or.inl ⟨by rfl, ?_⟩) (by assumption) ?_
                        · intro w hSw
                          (try dsimp only at hSw)
                          go_simp
                        try simp only [Act.put, List.setIfInBounds_toArray, List.set_cons_zero, List.set_cons_succ]
                        refine wpAnyH_ready (rs := [19]) (by kernel_rfl) (by simp) ?_
                        refine AllReadyH.cons (o := { dst := none, op := Op.store 30 (Operand.tmp 180) (Operand.tmp 178), type := 0, pos := "law.go:244", after := #[{ on := 18, ground := Ground.data }, { on := 16, ground := Ground.data }, { on := 16, ground := Ground.chain }, { on := 0, ground := Ground.phase }, { on := 1, ground := Ground.phase }, { on := 2, ground := Ground.phase }, { on := 3, ground := Ground.phase }, { on := 4, ground := Ground.phase }, { on := 5, ground := Ground.phase }, { on := 6, ground := Ground.phase }, { on := 7, ground := Ground.phase }, { on := 8, ground := Ground.phase }, { on := 9, ground := Ground.phase }, { on := 10, ground := Ground.phase }, { on := 11, ground := Ground.phase }, { on := 12, ground := Ground.phase }, { on := 13, ground := Ground.phase }, { on := 14, ground := Ground.phase }, { on := 15, ground := Ground.phase }, { on := 16, ground := Ground.phase }], guard := none }) rfl (fun K hK => ?_) ?_
                        · go_simp
                          refine hK.out _ _ ?_ (fun hHeld => ?_)
                          · trivial
                          · clear hK K
                            try simp only [Act.put, List.setIfInBounds_toArray, List.set_cons_zero, List.set_cons_succ]
                            refine wpAnyH_done (by kernel_rfl) ?_ _
                            refine NoPanic.normal ?_
                            go_wp2_with fail
                            go_meet
                            exact H9
                        exact AllReadyH.nil
                    exact AllReadyH.nil
                exact AllReadyH.nil
            exact AllReadyH.nil
        exact AllReadyH.nil
    refine AllReadyH.cons (o := { dst := some 174, op := Op.load 30 (Operand.tmp 173), type := 30, pos := "law.go:244", after := #[{ on := 11, ground := Ground.data }], guard := none }) rfl (fun K hK => ?_) ?_
    · go_simp
      refine hK.out _ _ ?_ (fun hHeld => ?_)
      · trivial
      · clear hK K
        try simp only [Act.put, List.setIfInBounds_toArray, List.set_cons_zero, List.set_cons_succ]
        refine wpAnyH_take (i := 15) (oi := { dst := some 177, op := Op.slice 30 (Operand.tmp 174) (some (Operand.tmp 176)) none none, type := 30, pos := "law.go:244", after := #[{ on := 12, ground := Ground.data }, { on := 14, ground := Ground.data }], guard := none }) (v := vF) rfl (by kernel_rfl) (by kernel_rfl) (by kernel_rfl) (fun _ _ _ h => h) (Or.inl ⟨by rfl, ?_⟩) (by assumption) ?_
        · intro w hSw
          (try dsimp only at hSw)
          go_simp
        try simp only [Act.put, List.setIfInBounds_toArray, List.set_cons_zero, List.set_cons_succ]
        refine wpAnyH_ready (rs := [1, 5]) (by kernel_rfl) (by simp) ?_
        refine AllReadyH.cons (o := { dst := some 163, op := Op.buildSlice 30 0 #[], type := 30, pos := "law.go:244", after := #[], guard := none }) rfl (fun K hK => ?_) ?_
        · go_simp
          refine hK.out _ _ ?_ (fun hHeld => ?_)
          · trivial
          · clear hK K
            try simp only [Act.put, List.setIfInBounds_toArray, List.set_cons_zero, List.set_cons_succ]
            refine wpAnyH_ready (rs := [5]) (by kernel_rfl) (by simp) ?_
            refine AllReadyH.cons (o := { dst := some 167, op := Op.load 30 (Operand.tmp 166), type := 30, pos := "law.go:244", after := #[{ on := 4, ground := Ground.data }], guard := none }) rfl (fun K hK => ?_) ?_
            · go_simp
              refine hK.out _ _ ?_ (fun hHeld => ?_)
              · trivial
              · clear hK K
                try simp only [Act.put, List.setIfInBounds_toArray, List.set_cons_zero, List.set_cons_succ]
                refine wpAnyH_take (i := 7) (oi := { dst := some 169, op := Op.slice 30 (Operand.tmp 167) none (some (Operand.tmp 168)) none, type := 30, pos := "law.go:244", after := #[{ on := 5, ground := Ground.data }, { on := 6, ground := Ground.data }], guard := none }) (v := .slice A k cA) rfl (by kernel_rfl) (by kernel_rfl) (by kernel_rfl) (fun _ _ _ h => h) (Or.inl ⟨by rfl, ?_⟩) (by assumption) ?_
                · intro w hSw
                  (try dsimp only at hSw)
                  go_simp
                try simp only [Act.put, List.setIfInBounds_toArray, List.set_cons_zero, List.set_cons_succ]
                refine wpAnyH_ready (rs := [8]) (by kernel_rfl) (by simp) ?_
                refine AllReadyH.cons (o := { dst := some 170, op := Op.call { callee := Callee.builtin Builtin.append, args := #[Operand.tmp 163, Operand.tmp 169], argTypes := #[30, 30] }, type := 30, pos := "law.go:244", after := #[{ on := 1, ground := Ground.data }, { on := 7, ground := Ground.data }], guard := none }) rfl (fun K hK => ?_) ?_
                · refine step_builtin rfl _ _ _ rfl (by exact HR1.out) ?_
                  refine hK.out _ _ ?_ (fun hHeld => ?_)
                  · trivial
                  · clear hK K
                    try simp only [Act.put, List.setIfInBounds_toArray, List.set_cons_zero, List.set_cons_succ]
                    refine wpAnyH_ready (rs := [16]) (by kernel_rfl) (by simp) ?_
                    refine AllReadyH.cons (o := { dst := some 178, op := Op.call { callee := Callee.builtin Builtin.append, args := #[Operand.tmp 170, Operand.tmp 177], argTypes := #[30, 30] }, type := 30, pos := "law.go:244", after := #[{ on := 8, ground := Ground.data }, { on := 15, ground := Ground.data }, { on := 8, ground := Ground.chain }], guard := none }) rfl (fun K hK => ?_) ?_
                    · refine step_builtin rfl _ _ _ rfl (by exact HR2.out) ?_
                      refine hK.out _ _ ?_ (fun hHeld => ?_)
                      · trivial
                      · clear hK K
                        try simp only [Act.put, List.setIfInBounds_toArray, List.set_cons_zero, List.set_cons_succ]
                        refine wpAnyH_take (i := 17) (oi := { dst := some 179, op := Op.nilCheck (Operand.tmp 162), type := 0, pos := "law.go:244", after := #[{ on := 0, ground := Ground.data }, { on := 0, ground := Ground.phase }, { on := 1, ground := Ground.phase }, { on := 2, ground := Ground.phase }, { on := 3, ground := Ground.phase }, { on := 4, ground := Ground.phase }, { on := 5, ground := Ground.phase }, { on := 6, ground := Ground.phase }, { on := 7, ground := Ground.phase }, { on := 8, ground := Ground.phase }, { on := 9, ground := Ground.phase }, { on := 10, ground := Ground.phase }, { on := 11, ground := Ground.phase }, { on := 12, ground := Ground.phase }, { on := 13, ground := Ground.phase }, { on := 14, ground := Ground.phase }, { on := 15, ground := Ground.phase }, { on := 16, ground := Ground.phase }], guard := none }) (v := .pointer (some ⟨tb, 0, none⟩)) rfl (by kernel_rfl) (by kernel_rfl) (by kernel_rfl) (fun _ _ _ h => h) (Or.inl ⟨by rfl, ?_⟩) (by assumption) ?_
                        · intro w hSw
                          (try dsimp only at hSw)
                          go_simp
                        try simp only [Act.put, List.setIfInBounds_toArray, List.set_cons_zero, List.set_cons_succ]
                        refine wpAnyH_take (i := 18) (oi := { dst := some 180, op := Op.fieldAddr 68 (Operand.tmp 179) 3, type := 0, pos := "law.go:244", after := #[{ on := 17, ground := Ground.data }, { on := 0, ground := Ground.phase }, { on := 1, ground := Ground.phase }, { on := 2, ground := Ground.phase }, { on := 3, ground := Ground.phase }, { on := 4, ground := Ground.phase }, { on := 5, ground := Ground.phase }, { on := 6, ground := Ground.phase }, { on := 7, ground := Ground.phase }, { on := 8, ground := Ground.phase }, { on := 9, ground := Ground.phase }, { on := 10, ground := Ground.phase }, { on := 11, ground := Ground.phase }, { on := 12, ground := Ground.phase }, { on := 13, ground := Ground.phase }, { on := 14, ground := Ground.phase }, { on := 15, ground := Ground.phase }, { on := 16, ground := Ground.phase }], guard := none }) (v := .pointer (some ⟨tb, 3, none⟩)) rfl (by kernel_rfl) (by kernel_rfl) (by kernel_rfl) (fun _ _ _ h => h) (Or.inl ⟨by rfl, ?_⟩) (by assumption) ?_
                        · intro w hSw
                          (try dsimp only at hSw)
                          go_simp
                        try simp only [Act.put, List.setIfInBounds_toArray, List.set_cons_zero, List.set_cons_succ]
                        refine wpAnyH_ready (rs := [19]) (by kernel_rfl) (by simp) ?_
                        refine AllReadyH.cons (o := { dst := none, op := Op.store 30 (Operand.tmp 180) (Operand.tmp 178), type := 0, pos := "law.go:244", after := #[{ on := 18, ground := Ground.data }, { on := 16, ground := Ground.data }, { on := 16, ground := Ground.chain }, { on := 0, ground := Ground.phase }, { on := 1, ground := Ground.phase }, { on := 2, ground := Ground.phase }, { on := 3, ground := Ground.phase }, { on := 4, ground := Ground.phase }, { on := 5, ground := Ground.phase }, { on := 6, ground := Ground.phase }, { on := 7, ground := Ground.phase }, { on := 8, ground := Ground.phase }, { on := 9, ground := Ground.phase }, { on := 10, ground := Ground.phase }, { on := 11, ground := Ground.phase }, { on := 12, ground := Ground.phase }, { on := 13, ground := Ground.phase }, { on := 14, ground := Ground.phase }, { on := 15, ground := Ground.phase }, { on := 16, ground := Ground.phase }], guard := none }) rfl (fun K hK => ?_) ?_
                        · go_simp
                          refine hK.out _ _ ?_ (fun hHeld => ?_)
                          · trivial
                          · clear hK K
                            try simp only [Act.put, List.setIfInBounds_toArray, List.set_cons_zero, List.set_cons_succ]
                            refine wpAnyH_done (by kernel_rfl) ?_ _
                            refine NoPanic.normal ?_
                            go_wp2_with fail
                            go_meet
                            exact H9
                        exact AllReadyH.nil
                    exact AllReadyH.nil
                exact AllReadyH.nil
            exact AllReadyH.nil
        refine AllReadyH.cons (o := { dst := some 167, op := Op.load 30 (Operand.tmp 166), type := 30, pos := "law.go:244", after := #[{ on := 4, ground := Ground.data }], guard := none }) rfl (fun K hK => ?_) ?_
        · go_simp
          refine hK.out _ _ ?_ (fun hHeld => ?_)
          · trivial
          · clear hK K
            try simp only [Act.put, List.setIfInBounds_toArray, List.set_cons_zero, List.set_cons_succ]
            refine wpAnyH_take (i := 7) (oi := { dst := some 169, op := Op.slice 30 (Operand.tmp 167) none (some (Operand.tmp 168)) none, type := 30, pos := "law.go:244", after := #[{ on := 5, ground := Ground.data }, { on := 6, ground := Ground.data }], guard := none }) (v := .slice A k cA) rfl (by kernel_rfl) (by kernel_rfl) (by kernel_rfl) (fun _ _ _ h => h) (Or.inl ⟨by rfl, ?_⟩) (by assumption) ?_
            · intro w hSw
              (try dsimp only at hSw)
              go_simp
            try simp only [Act.put, List.setIfInBounds_toArray, List.set_cons_zero, List.set_cons_succ]
            refine wpAnyH_ready (rs := [1]) (by kernel_rfl) (by simp) ?_
            refine AllReadyH.cons (o := { dst := some 163, op := Op.buildSlice 30 0 #[], type := 30, pos := "law.go:244", after := #[], guard := none }) rfl (fun K hK => ?_) ?_
            · go_simp
              refine hK.out _ _ ?_ (fun hHeld => ?_)
              · trivial
              · clear hK K
                try simp only [Act.put, List.setIfInBounds_toArray, List.set_cons_zero, List.set_cons_succ]
                refine wpAnyH_ready (rs := [8]) (by kernel_rfl) (by simp) ?_
                refine AllReadyH.cons (o := { dst := some 170, op := Op.call { callee := Callee.builtin Builtin.append, args := #[Operand.tmp 163, Operand.tmp 169], argTypes := #[30, 30] }, type := 30, pos := "law.go:244", after := #[{ on := 1, ground := Ground.data }, { on := 7, ground := Ground.data }], guard := none }) rfl (fun K hK => ?_) ?_
                · refine step_builtin rfl _ _ _ rfl (by exact HR1.out) ?_
                  refine hK.out _ _ ?_ (fun hHeld => ?_)
                  · trivial
                  · clear hK K
                    try simp only [Act.put, List.setIfInBounds_toArray, List.set_cons_zero, List.set_cons_succ]
                    refine wpAnyH_ready (rs := [16]) (by kernel_rfl) (by simp) ?_
                    refine AllReadyH.cons (o := { dst := some 178, op := Op.call { callee := Callee.builtin Builtin.append, args := #[Operand.tmp 170, Operand.tmp 177], argTypes := #[30, 30] }, type := 30, pos := "law.go:244", after := #[{ on := 8, ground := Ground.data }, { on := 15, ground := Ground.data }, { on := 8, ground := Ground.chain }], guard := none }) rfl (fun K hK => ?_) ?_
                    · refine step_builtin rfl _ _ _ rfl (by exact HR2.out) ?_
                      refine hK.out _ _ ?_ (fun hHeld => ?_)
                      · trivial
                      · clear hK K
                        try simp only [Act.put, List.setIfInBounds_toArray, List.set_cons_zero, List.set_cons_succ]
                        refine wpAnyH_take (i := 17) (oi := { dst := some 179, op := Op.nilCheck (Operand.tmp 162), type := 0, pos := "law.go:244", after := #[{ on := 0, ground := Ground.data }, { on := 0, ground := Ground.phase }, { on := 1, ground := Ground.phase }, { on := 2, ground := Ground.phase }, { on := 3, ground := Ground.phase }, { on := 4, ground := Ground.phase }, { on := 5, ground := Ground.phase }, { on := 6, ground := Ground.phase }, { on := 7, ground := Ground.phase }, { on := 8, ground := Ground.phase }, { on := 9, ground := Ground.phase }, { on := 10, ground := Ground.phase }, { on := 11, ground := Ground.phase }, { on := 12, ground := Ground.phase }, { on := 13, ground := Ground.phase }, { on := 14, ground := Ground.phase }, { on := 15, ground := Ground.phase }, { on := 16, ground := Ground.phase }], guard := none }) (v := .pointer (some ⟨tb, 0, none⟩)) rfl (by kernel_rfl) (by kernel_rfl) (by kernel_rfl) (fun _ _ _ h => h) (Or.inl ⟨by rfl, ?_⟩) (by assumption) ?_
                        · intro w hSw
                          (try dsimp only at hSw)
                          go_simp
                        try simp only [Act.put, List.setIfInBounds_toArray, List.set_cons_zero, List.set_cons_succ]
                        refine wpAnyH_take (i := 18) (oi := { dst := some 180, op := Op.fieldAddr 68 (Operand.tmp 179) 3, type := 0, pos := "law.go:244", after := #[{ on := 17, ground := Ground.data }, { on := 0, ground := Ground.phase }, { on := 1, ground := Ground.phase }, { on := 2, ground := Ground.phase }, { on := 3, ground := Ground.phase }, { on := 4, ground := Ground.phase }, { on := 5, ground := Ground.phase }, { on := 6, ground := Ground.phase }, { on := 7, ground := Ground.phase }, { on := 8, ground := Ground.phase }, { on := 9, ground := Ground.phase }, { on := 10, ground := Ground.phase }, { on := 11, ground := Ground.phase }, { on := 12, ground := Ground.phase }, { on := 13, ground := Ground.phase }, { on := 14, ground := Ground.phase }, { on := 15, ground := Ground.phase }, { on := 16, ground := Ground.phase }], guard := none }) (v := .pointer (some ⟨tb, 3, none⟩)) rfl (by kernel_rfl) (by kernel_rfl) (by kernel_rfl) (fun _ _ _ h => h) (Or.inl ⟨by rfl, ?_⟩) (by assumption) ?_
                        · intro w hSw
                          (try dsimp only at hSw)
                          go_simp
                        try simp only [Act.put, List.setIfInBounds_toArray, List.set_cons_zero, List.set_cons_succ]
                        refine wpAnyH_ready (rs := [19]) (by kernel_rfl) (by simp) ?_
                        refine AllReadyH.cons (o := { dst := none, op := Op.store 30 (Operand.tmp 180) (Operand.tmp 178), type := 0, pos := "law.go:244", after := #[{ on := 18, ground := Ground.data }, { on := 16, ground := Ground.data }, { on := 16, ground := Ground.chain }, { on := 0, ground := Ground.phase }, { on := 1, ground := Ground.phase }, { on := 2, ground := Ground.phase }, { on := 3, ground := Ground.phase }, { on := 4, ground := Ground.phase }, { on := 5, ground := Ground.phase }, { on := 6, ground := Ground.phase }, { on := 7, ground := Ground.phase }, { on := 8, ground := Ground.phase }, { on := 9, ground := Ground.phase }, { on := 10, ground := Ground.phase }, { on := 11, ground := Ground.phase }, { on := 12, ground := Ground.phase }, { on := 13, ground := Ground.phase }, { on := 14, ground := Ground.phase }, { on := 15, ground := Ground.phase }, { on := 16, ground := Ground.phase }], guard := none }) rfl (fun K hK => ?_) ?_
                        · go_simp
                          refine hK.out _ _ ?_ (fun hHeld => ?_)
                          · trivial
                          · clear hK K
                            try simp only [Act.put, List.setIfInBounds_toArray, List.set_cons_zero, List.set_cons_succ]
                            refine wpAnyH_done (by kernel_rfl) ?_ _
                            refine NoPanic.normal ?_
                            go_wp2_with fail
                            go_meet
                            exact H9
                        exact AllReadyH.nil
                    exact AllReadyH.nil
                exact AllReadyH.nil
            exact AllReadyH.nil
        exact AllReadyH.nil
    exact AllReadyH.nil
  case rest =>
  obtain ⟨W5, hW5⟩ : ∃ W5, wc = W5 := ⟨_, rfl⟩
  rw [hW5] at hcut ⊢
  have H5 := hcut
  clear hcut hW5 r0 r1 r2 r3 r4 fz eu sl1 sl2 HR1 HR2 H9 H4 d0 d2 wk
  obtain ⟨d0, d2⟩ := DB.out W5 _ H5.out.x.unput
  obtain ⟨p0, p1, p2, p3, p4, p5, p6, p7⟩ := MB.out _ _ H5.out
  go_upto_region 36 with fail
  obtain ⟨bm, hbm⟩ : ∃ bm, b1.put Bm (.cells #[.int .i64 mk, .int .i64 mf, .int .i64 (J : Int), .int .i64 me, .int .i64 ma, .int .i64 ml, .int .i64 mc, .slice Ap lm cp] 36 (0, 0)) = bm := ⟨_, rfl⟩
  have HBM := Lib.hid hbm
  rw [hbm] at H5
  have MBX : Hid ((Bm, .cells #[.int .i64 mk, .int .i64 mf, .int .i64 (J : Int), .int .i64 me, .int .i64 ma, .int .i64 ml, .int .i64 mc, .slice Ap lm cp] 36 (0, 0)) ∈ bm.bx) := by rw [← hbm]; exact List.mem_cons_self ..
  clear hbm d0 d2 p0 p1 p2 p3 p4 p5 p6 p7 DB MB
  obtain ⟨g, c, y1, y2⟩ := XCJ.out _ _ _ H5.out
  obtain ⟨S, hS⟩ : ∃ S : World → Prop, (fun W => W.cell? ⟨tb, 1, none⟩ = some (.slice (some ⟨g, 0, none⟩) n c) ∧ W.cell? ⟨g, J, none⟩ = some (.pointer (some ⟨xs J, 0, none⟩)) ∧ W.cell? ⟨Bm, 0, none⟩ = some (.int .i64 mk) ∧ W.cell? ⟨Bm, 1, none⟩ = some (.int .i64 mf) ∧ W.cell? ⟨Bm, 2, none⟩ = some (.int .i64 (J : Int)) ∧ W.cell? ⟨Bm, 3, none⟩ = some (.int .i64 me) ∧ W.cell? ⟨Bm, 4, none⟩ = some (.int .i64 ma) ∧ W.cell? ⟨Bm, 5, none⟩ = some (.int .i64 ml) ∧ W.cell? ⟨Bm, 6, none⟩ = some (.int .i64 mc) ∧ W.cell? ⟨Bm, 7, none⟩ = some (.slice Ap lm cp)) = S := ⟨_, rfl⟩
  have MBC : Hid (∀ W, W.heap[Bm]? = some (.cells #[.int .i64 mk, .int .i64 mf, .int .i64 (J : Int), .int .i64 me, .int .i64 ma, .int .i64 ml, .int .i64 mc, .slice Ap lm cp] 36 (0, 0)) → W.cell? ⟨tb, 1, none⟩ = some (.slice (some ⟨g, 0, none⟩) n c) → W.cell? ⟨g, J, none⟩ = some (.pointer (some ⟨xs J, 0, none⟩)) → S W) := fun W hb e1 e2 => by
    rw [← hS]
    refine ⟨e1, e2, ?_, ?_, ?_, ?_, ?_, ?_, ?_, ?_⟩ <;> (rw [cells_all hb]; rfl)
  have SOUT : Hid (∀ W W', S W → Out Zone.no W W' → S W') := fun W W' h ho => by
    rw [← hS] at h ⊢
    obtain ⟨a0, a1, a2, a3, a4, a5, a6, a7, a8, a9⟩ := h
    exact ⟨ho.cell a0 id, ho.cell a1 id, ho.cell a2 id, ho.cell a3 id, ho.cell a4 id, ho.cell a5 id, ho.cell a6 id, ho.cell a7 id, ho.cell a8 id, ho.cell a9 id⟩
  have S5 : Hid (S W5) := MBC.out _ (H5.out.x.boxed MBX.out) y1 y2
  have ltt := cell_block_lt y1
  have ltg := cell_block_lt y2
  have ltm := heap_lt (H5.out.x.boxed MBX.out)
  have SST : Hid (∀ W u v, S W → S ((W.setCell ⟨W5.heap.size, 0, none⟩ u).setCell ⟨W5.heap.size, 1, none⟩ v)) := fun W u v h => by
    rw [← hS] at h ⊢
    obtain ⟨a0, a1, a2, a3, a4, a5, a6, a7, a8, a9⟩ := h
    have n0 : tb ≠ W5.heap.size := Nat.ne_of_lt ltt
    have n1 : g ≠ W5.heap.size := Nat.ne_of_lt ltg
    have n2 : Bm ≠ W5.heap.size := Nat.ne_of_lt ltm
    exact ⟨cell_far2 n0 a0, cell_far2 n1 a1, cell_far2 n2 a2, cell_far2 n2 a3, cell_far2 n2 a4, cell_far2 n2 a5, cell_far2 n2 a6, cell_far2 n2 a7, cell_far2 n2 a8, cell_far2 n2 a9⟩
  have SAL : Hid (∀ (W : World) (o : Obj), S W → S (W.alloc o)) := fun W o h => SOUT.out _ _ h ((Out.refl _ _).alloc o)
  have SY : Hid (S (W5.alloc (.cells #[.slice none 0 0, .slice none 0 0] 32)).drew) := SOUT.out _ _ S5.out (((Out.refl _ _).alloc _).drew)
  have SY0 : Hid (S W5.drew) := SOUT.out _ _ S5.out ((Out.refl _ _).drew)
  have NB2 : Hid (∀ p ∈ bm.bx, p.1 ≠ W5.heap.size) := fun p hp => by have := heap_lt (H5.out.x.boxed (k := p.1) (o := p.2) hp); omega
  have CALL : Hid (∀ W b, TownM b tb { t with net := t.net.eraseIdx k } xs m (.slice Ap lm cp) W → (∀ p ∈ bm.bx, p ∈ b.bx) → S W → Calls Try.prog 8 #[.pointer (some ⟨xs J, 0, none⟩), .agg #[.int .i64 mk, .int .i64 mf, .int .i64 (J : Int), .int .i64 me, .int .i64 ma, .int .i64 ml, .int .i64 mc, .slice Ap lm cp]] W fun e w' => ∃ A1 n1 c1 A2 n2 c2, e = .returned (.tuple #[.agg #[.slice A1 n1 c1, .slice A2 n2 c2], .int .i64 0]) ∧ Hid (TownW b tb { t with net := t.net.eraseIdx k, X := upd t.X J C.q } xs (.agg #[.slice A1 n1 c1, .slice A2 n2 c2]) C.ns C.ms w') ∧ Hid (S w')) := fun W b hW hsub hSW => by
    rw [← hS] at hSW
    refine (STEP.out W b Ap cp g c hW hSW.1).mono ?_
    rintro e w' ⟨A1, n1, c1, A2, n2, c2, rfl, hh, k1, k2⟩
    refine ⟨A1, n1, c1, A2, n2, c2, rfl, hh, MBC.out _ (hh.out.boxed (hsub _ MBX.out)) (cell_of_heap k1 hSW.1) (cell_of_heap k2 hSW.2.1)⟩
  have HX1 := Lib.hid (CALL.out _ _ (H5.out.any ((Out.refl _ _).drew)) (fun p hp => hp) SY0.out)
  have HX2 := Lib.hid (CALL.out _ _ ((H5.out.box (.cells #[.slice none 0 0, .slice none 0 0] 32)).any ((Out.refl _ _).drew)) (fun p hp => List.mem_cons_of_mem _ hp) SY.out)
  have j3 := HJ.out.1
  have j4 := HJ.out.2
  rw [← hS] at SY0 SY SST SAL HX1 HX2
  clear CALL STEP SOUT MBC S5 hS ltt ltg ltm XCJ y1 y2 S
  go_cut [19, 20] (fun s19 s20 wx => Exists fun BB => Exists fun A1 => Exists fun n1 => Exists fun c1 => Exists fun A2 => Exists fun n2 => Exists fun c2 => s19 = .pointer (some ⟨BB, 0, none⟩) ∧ s20 = .int .i64 0 ∧ Hid (Boxed bm tb { t with net := t.net.eraseIdx k, X := upd t.X J C.q } xs A1 n1 c1 A2 n2 c2 C.ns C.ms BB wx))
  case first => as_aux_lemma =>
    clear TLS HNB HB1 HBM MBX HH HCUT HN H0 HKE HKE2 FIN HJ BXD
    refine wp_region_noPanic ?_
    refine wp_region_held_drew (S := fun W => W.cell? ⟨tb, 1, none⟩ = some (.slice (some ⟨g, 0, none⟩) n c) ∧ W.cell? ⟨g, J, none⟩ = some (.pointer (some ⟨xs J, 0, none⟩)) ∧ W.cell? ⟨Bm, 0, none⟩ = some (.int .i64 mk) ∧ W.cell? ⟨Bm, 1, none⟩ = some (.int .i64 mf) ∧ W.cell? ⟨Bm, 2, none⟩ = some (.int .i64 (J : Int)) ∧ W.cell? ⟨Bm, 3, none⟩ = some (.int .i64 me) ∧ W.cell? ⟨Bm, 4, none⟩ = some (.int .i64 ma) ∧ W.cell? ⟨Bm, 5, none⟩ = some (.int .i64 ml) ∧ W.cell? ⟨Bm, 6, none⟩ = some (.int .i64 mc) ∧ W.cell? ⟨Bm, 7, none⟩ = some (.slice Ap lm cp)) (by kernel_rfl) SY0.out (fun hHeld => ?_)
    refine wpAnyH_take (i := 0) (oi := { dst := some 187, op := Op.move (Operand.tmp 0), type := 58, pos := "law.go:249", after := #[], guard := none }) (v := .pointer (some ⟨tb, 0, none⟩)) rfl (by kernel_rfl) (by kernel_rfl) (by kernel_rfl) (fun _ _ _ h => h) (Or.inl ⟨by rfl, ?_⟩) (by assumption) ?_
    · intro w hSw
      (try dsimp only at hSw)
      go_simp
    try simp only [Act.put, List.setIfInBounds_toArray, List.set_cons_zero, List.set_cons_succ]
    refine wpAnyH_take (i := 1) (oi := { dst := some 188, op := Op.nilCheck (Operand.tmp 187), type := 0, pos := "law.go:249", after := #[{ on := 0, ground := Ground.data }], guard := none }) (v := .pointer (some ⟨tb, 0, none⟩)) rfl (by kernel_rfl) (by kernel_rfl) (by kernel_rfl) (fun _ _ _ h => h) (Or.inl ⟨by rfl, ?_⟩) (by assumption) ?_
    · intro w hSw
      (try dsimp only at hSw)
      go_simp
    try simp only [Act.put, List.setIfInBounds_toArray, List.set_cons_zero, List.set_cons_succ]
    refine wpAnyH_take (i := 2) (oi := { dst := some 189, op := Op.fieldAddr 68 (Operand.tmp 188) 1, type := 0, pos := "law.go:249", after := #[{ on := 1, ground := Ground.data }], guard := none }) (v := .pointer (some ⟨tb, 1, none⟩)) rfl (by kernel_rfl) (by kernel_rfl) (by kernel_rfl) (fun _ _ _ h => h) (Or.inl ⟨by rfl, ?_⟩) (by assumption) ?_
    · intro w hSw
      (try dsimp only at hSw)
      go_simp
    try simp only [Act.put, List.setIfInBounds_toArray, List.set_cons_zero, List.set_cons_succ]
    refine wpAnyH_take (i := 3) (oi := { dst := some 190, op := Op.load 64 (Operand.tmp 189), type := 64, pos := "law.go:249", after := #[{ on := 2, ground := Ground.data }], guard := none }) (v := .slice (some ⟨g, 0, none⟩) n c) rfl (by kernel_rfl) (by kernel_rfl) (by kernel_rfl) (fun _ _ _ h => h) (Or.inl ⟨by rfl, ?_⟩) (by assumption) ?_
    · intro w hSw
      (try dsimp only at hSw)
      go_simp
    try simp only [Act.put, List.setIfInBounds_toArray, List.set_cons_zero, List.set_cons_succ]
    refine wpAnyH_take (i := 4) (oi := { dst := some 191, op := Op.move (Operand.tmp 5), type := 3, pos := "law.go:249", after := #[], guard := none }) (v := .int .i64 (J : Int)) rfl (by kernel_rfl) (by kernel_rfl) (by kernel_rfl) (fun _ _ _ h => h) (Or.inl ⟨by rfl, ?_⟩) (by assumption) ?_
    · intro w hSw
      (try dsimp only at hSw)
      go_simp
    try simp only [Act.put, List.setIfInBounds_toArray, List.set_cons_zero, List.set_cons_succ]
    refine wpAnyH_take (i := 5) (oi := { dst := some 192, op := Op.indexAddr 64 (Operand.tmp 190) (Operand.tmp 191), type := 0, pos := "law.go:249", after := #[{ on := 3, ground := Ground.data }, { on := 4, ground := Ground.data }], guard := none }) (v := .pointer (some ⟨g, J, none⟩)) rfl (by kernel_rfl) (by kernel_rfl) (by kernel_rfl) (fun _ _ _ h => h) (Or.inl ⟨by rfl, ?_⟩) (by assumption) ?_
    · intro w hSw
      (try dsimp only at hSw)
      go_simp
    try simp only [Act.put, List.setIfInBounds_toArray, List.set_cons_zero, List.set_cons_succ]
    refine wpAnyH_take (i := 6) (oi := { dst := some 193, op := Op.load 22 (Operand.tmp 192), type := 22, pos := "law.go:249", after := #[{ on := 5, ground := Ground.data }], guard := none }) (v := .pointer (some ⟨xs J, 0, none⟩)) rfl (by kernel_rfl) (by kernel_rfl) (by kernel_rfl) (fun _ _ _ h => h) (Or.inl ⟨by rfl, ?_⟩) (by assumption) ?_
    · intro w hSw
      (try dsimp only at hSw)
      go_simp
    try simp only [Act.put, List.setIfInBounds_toArray, List.set_cons_zero, List.set_cons_succ]
    refine wpAnyH_take (i := 7) (oi := { dst := some 194, op := Op.load 36 (Operand.tmp 18), type := 36, pos := "law.go:249", after := #[], guard := none }) (v := .agg #[.int .i64 mk, .int .i64 mf, .int .i64 (J : Int), .int .i64 me, .int .i64 ma, .int .i64 ml, .int .i64 mc, .slice Ap lm cp]) rfl (by kernel_rfl) (by kernel_rfl) (by kernel_rfl) (fun _ _ _ h => h) (Or.inl ⟨by rfl, ?_⟩) (by assumption) ?_
    · intro w hSw
      (try dsimp only at hSw)
      go_simp
    try simp only [Act.put, List.setIfInBounds_toArray, List.set_cons_zero, List.set_cons_succ]
    refine wpAnyH_ready (rs := [8, 12]) (by kernel_rfl) (by simp) ?_
    refine AllReadyH.cons (o := { dst := some 195, op := Op.call { callee := Callee.value (Operand.func 8), args := #[Operand.tmp 193, Operand.tmp 194], argTypes := #[22, 36] }, type := 33, pos := "law.go:249", after := #[{ on := 6, ground := Ground.data }, { on := 7, ground := Ground.data }], guard := none }) rfl (fun K hK => ?_) ?_
    · go_simp
      go_at_call 8
      with_reducible refine HX1.out.mono ?_
      rintro e w3 ⟨A1, n1, c1, A2, n2, c2, rfl, h3, hS3⟩
      obtain ⟨k0, k1, k2, k3, h4⟩ := h3.out.boxLate (.slice none 0 0) (.slice none 0 0)
      have h6 := Lib.hid h3.out.boxNew
      refine hK.out _ _ ?_ (fun hHeld => ?_)
      · exact hS3.out
      · clear hK K
        try simp only [Act.put, List.setIfInBounds_toArray, List.set_cons_zero, List.set_cons_succ]
        refine wpAnyH_take (i := 9) (oi := { dst := some 186, op := Op.move (Operand.tmp 195), type := 33, pos := "law.go:249", after := #[{ on := 8, ground := Ground.data }], guard := none }) (v := .tuple #[.agg #[.slice A1 n1 c1, .slice A2 n2 c2], .int .i64 0]) rfl (by kernel_rfl) (by kernel_rfl) (by kernel_rfl) (fun _ _ _ h => h) (Or.inl ⟨by rfl, ?_⟩) (by assumption) ?_
        · intro w hSw
          (try dsimp only at hSw)
          go_simp
        try simp only [Act.put, List.setIfInBounds_toArray, List.set_cons_zero, List.set_cons_succ]
        refine wpAnyH_take (i := 10) (oi := { dst := some 196, op := Op.extract (Operand.tmp 186) 0, type := 32, pos := "law.go:249", after := #[{ on := 9, ground := Ground.data }], guard := none }) (v := .agg #[.slice A1 n1 c1, .slice A2 n2 c2]) rfl (by kernel_rfl) (by kernel_rfl) (by kernel_rfl) (fun _ _ _ h => h) (Or.inl ⟨by rfl, ?_⟩) (by assumption) ?_
        · intro w hSw
          (try dsimp only at hSw)
          go_simp
        try simp only [Act.put, List.setIfInBounds_toArray, List.set_cons_zero, List.set_cons_succ]
        refine wpAnyH_take (i := 11) (oi := { dst := some 197, op := Op.extract (Operand.tmp 186) 1, type := 23, pos := "law.go:249", after := #[{ on := 9, ground := Ground.data }, { on := 13, ground := Ground.gcOnly Departure.lateStores }], guard := none }) (v := .int .i64 0) rfl (by kernel_rfl) (by kernel_rfl) (by kernel_rfl) (fun _ _ _ h => h) (Or.inl ⟨by rfl, ?_⟩) (by assumption) ?_
        · intro w hSw
          (try dsimp only at hSw)
          go_simp
        try simp only [Act.put, List.setIfInBounds_toArray, List.set_cons_zero, List.set_cons_succ]
        refine wpAnyH_ready (rs := [12]) (by kernel_rfl) (by simp) ?_
        refine AllReadyH.cons (o := { dst := some 19, op := Op.alloc 32, type := 0, pos := "law.go:249", after := #[], guard := none }) rfl (fun K hK => ?_) ?_
        · go_simp
          refine hK.out _ _ ?_ (fun hHeld => ?_)
          · exact SAL.out _ _ hS3.out
          · clear hK K
            try simp only [Act.put, List.setIfInBounds_toArray, List.set_cons_zero, List.set_cons_succ]
            refine wpAnyH_ready (rs := [13]) (by kernel_rfl) (by simp) ?_
            refine AllReadyH.cons (o := { dst := none, op := Op.store 32 (Operand.tmp 19) (Operand.tmp 196), type := 0, pos := "law.go:249", after := #[{ on := 12, ground := Ground.data }, { on := 10, ground := Ground.data }, { on := 8, ground := Ground.chain }, { on := 0, ground := Ground.phase }, { on := 1, ground := Ground.phase }, { on := 2, ground := Ground.phase }, { on := 3, ground := Ground.phase }, { on := 4, ground := Ground.phase }, { on := 5, ground := Ground.phase }, { on := 6, ground := Ground.phase }, { on := 7, ground := Ground.phase }, { on := 8, ground := Ground.phase }, { on := 9, ground := Ground.phase }, { on := 10, ground := Ground.phase }, { on := 11, ground := Ground.textOnly Departure.lateStores }, { on := 12, ground := Ground.phase }], guard := none }) rfl (fun K hK => ?_) ?_
            · go_simp
              refine hK.out _ _ ?_ (fun hHeld => ?_)
              · exact SAL.out _ _ hS3.out
              · clear hK K
                try simp only [Act.put, List.setIfInBounds_toArray, List.set_cons_zero, List.set_cons_succ]
                refine wpAnyH_take (i := 14) (oi := { dst := some 20, op := Op.assign (Operand.tmp 197), type := 23, pos := "law.go:249", after := #[{ on := 11, ground := Ground.data }, { on := 13, ground := Ground.chain }, { on := 0, ground := Ground.phase }, { on := 1, ground := Ground.phase }, { on := 2, ground := Ground.phase }, { on := 3, ground := Ground.phase }, { on := 4, ground := Ground.phase }, { on := 5, ground := Ground.phase }, { on := 6, ground := Ground.phase }, { on := 7, ground := Ground.phase }, { on := 8, ground := Ground.phase }, { on := 9, ground := Ground.phase }, { on := 10, ground := Ground.phase }, { on := 11, ground := Ground.phase }, { on := 12, ground := Ground.phase }, { on := 13, ground := Ground.phase }], guard := none }) (v := .int .i64 0) rfl (by kernel_rfl) (by kernel_rfl) (by kernel_rfl) (fun _ _ _ h => h) (Or.inl ⟨by rfl, ?_⟩) (by assumption) ?_
                · intro w hSw
                  (try dsimp only at hSw)
                  go_simp
                try simp only [Act.put, List.setIfInBounds_toArray, List.set_cons_zero, List.set_cons_succ]
                refine wpAnyH_done (by kernel_rfl) ?_ _
                refine NoPanic.normal ?_
                go_wp2_with fail
                go_meet
                exact ⟨_, A1, n1, c1, A2, n2, c2, rfl, rfl, h6⟩
            exact AllReadyH.nil
        exact AllReadyH.nil
    refine AllReadyH.cons (o := { dst := some 19, op := Op.alloc 32, type := 0, pos := "law.go:249", after := #[], guard := none }) rfl (fun K hK => ?_) ?_
    · go_simp
      refine hK.out _ _ ?_ (fun hHeld => ?_)
      · exact SY.out
      · clear hK K
        try simp only [Act.put, List.setIfInBounds_toArray, List.set_cons_zero, List.set_cons_succ]
        refine wpAnyH_ready (rs := [8]) (by kernel_rfl) (by simp) ?_
        refine AllReadyH.cons (o := { dst := some 195, op := Op.call { callee := Callee.value (Operand.func 8), args := #[Operand.tmp 193, Operand.tmp 194], argTypes := #[22, 36] }, type := 33, pos := "law.go:249", after := #[{ on := 6, ground := Ground.data }, { on := 7, ground := Ground.data }], guard := none }) rfl (fun K hK => ?_) ?_
        · go_simp
          go_at_call 8
          with_reducible refine HX2.out.mono ?_
          rintro e w3 ⟨A1, n1, c1, A2, n2, c2, rfl, h3, hS3⟩
          obtain ⟨k0, k1, k2, k3, h4⟩ := h3.out.boxOld NB2.out
          refine hK.out _ _ ?_ (fun hHeld => ?_)
          · exact hS3.out
          · clear hK K
            try simp only [Act.put, List.setIfInBounds_toArray, List.set_cons_zero, List.set_cons_succ]
            refine wpAnyH_take (i := 9) (oi := { dst := some 186, op := Op.move (Operand.tmp 195), type := 33, pos := "law.go:249", after := #[{ on := 8, ground := Ground.data }], guard := none }) (v := .tuple #[.agg #[.slice A1 n1 c1, .slice A2 n2 c2], .int .i64 0]) rfl (by kernel_rfl) (by kernel_rfl) (by kernel_rfl) (fun _ _ _ h => h) (Or.inl ⟨by rfl, ?_⟩) (by assumption) ?_
            · intro w hSw
              (try dsimp only at hSw)
              go_simp
            try simp only [Act.put, List.setIfInBounds_toArray, List.set_cons_zero, List.set_cons_succ]
            refine wpAnyH_take (i := 10) (oi := { dst := some 196, op := Op.extract (Operand.tmp 186) 0, type := 32, pos := "law.go:249", after := #[{ on := 9, ground := Ground.data }], guard := none }) (v := .agg #[.slice A1 n1 c1, .slice A2 n2 c2]) rfl (by kernel_rfl) (by kernel_rfl) (by kernel_rfl) (fun _ _ _ h => h) (Or.inl ⟨by rfl, ?_⟩) (by assumption) ?_
            · intro w hSw
              (try dsimp only at hSw)
              go_simp
            try simp only [Act.put, List.setIfInBounds_toArray, List.set_cons_zero, List.set_cons_succ]
            refine wpAnyH_take (i := 11) (oi := { dst := some 197, op := Op.extract (Operand.tmp 186) 1, type := 23, pos := "law.go:249", after := #[{ on := 9, ground := Ground.data }, { on := 13, ground := Ground.gcOnly Departure.lateStores }], guard := none }) (v := .int .i64 0) rfl (by kernel_rfl) (by kernel_rfl) (by kernel_rfl) (fun _ _ _ h => h) (Or.inl ⟨by rfl, ?_⟩) (by assumption) ?_
            · intro w hSw
              (try dsimp only at hSw)
              go_simp
            try simp only [Act.put, List.setIfInBounds_toArray, List.set_cons_zero, List.set_cons_succ]
            refine wpAnyH_ready (rs := [13]) (by kernel_rfl) (by simp) ?_
            refine AllReadyH.cons (o := { dst := none, op := Op.store 32 (Operand.tmp 19) (Operand.tmp 196), type := 0, pos := "law.go:249", after := #[{ on := 12, ground := Ground.data }, { on := 10, ground := Ground.data }, { on := 8, ground := Ground.chain }, { on := 0, ground := Ground.phase }, { on := 1, ground := Ground.phase }, { on := 2, ground := Ground.phase }, { on := 3, ground := Ground.phase }, { on := 4, ground := Ground.phase }, { on := 5, ground := Ground.phase }, { on := 6, ground := Ground.phase }, { on := 7, ground := Ground.phase }, { on := 8, ground := Ground.phase }, { on := 9, ground := Ground.phase }, { on := 10, ground := Ground.phase }, { on := 11, ground := Ground.textOnly Departure.lateStores }, { on := 12, ground := Ground.phase }], guard := none }) rfl (fun K hK => ?_) ?_
            · go_simp
              refine hK.out _ _ ?_ (fun hHeld => ?_)
              · exact SST.out _ _ _ hS3.out
              · clear hK K
                try simp only [Act.put, List.setIfInBounds_toArray, List.set_cons_zero, List.set_cons_succ]
                refine wpAnyH_take (i := 14) (oi := { dst := some 20, op := Op.assign (Operand.tmp 197), type := 23, pos := "law.go:249", after := #[{ on := 11, ground := Ground.data }, { on := 13, ground := Ground.chain }, { on := 0, ground := Ground.phase }, { on := 1, ground := Ground.phase }, { on := 2, ground := Ground.phase }, { on := 3, ground := Ground.phase }, { on := 4, ground := Ground.phase }, { on := 5, ground := Ground.phase }, { on := 6, ground := Ground.phase }, { on := 7, ground := Ground.phase }, { on := 8, ground := Ground.phase }, { on := 9, ground := Ground.phase }, { on := 10, ground := Ground.phase }, { on := 11, ground := Ground.phase }, { on := 12, ground := Ground.phase }, { on := 13, ground := Ground.phase }], guard := none }) (v := .int .i64 0) rfl (by kernel_rfl) (by kernel_rfl) (by kernel_rfl) (fun _ _ _ h => h) (Or.inl ⟨by rfl, ?_⟩) (by assumption) ?_
                · intro w hSw
                  (try dsimp only at hSw)
                  go_simp
                try simp only [Act.put, List.setIfInBounds_toArray, List.set_cons_zero, List.set_cons_succ]
                refine wpAnyH_done (by kernel_rfl) ?_ _
                refine NoPanic.normal ?_
                go_wp2_with fail
                go_meet
                exact ⟨_, A1, n1, c1, A2, n2, c2, rfl, rfl, h4⟩
            exact AllReadyH.nil
        exact AllReadyH.nil
    exact AllReadyH.nil
  case rest =>
  obtain ⟨BB, A1, n1, c1, A2, n2, c2, rfl, rfl, hbx⟩ := hcut
  obtain ⟨W6, hW6⟩ : ∃ W6, wc = W6 := ⟨_, rfl⟩
  rw [hW6, ← HBM.out] at hbx
  rw [hW6]
  have hbx2 := hbx.out.drop
  rw [← HB1.out] at hbx2
  obtain ⟨k0, k1, k2, k3, k4, k5, hm⟩ := hbx2.moved HNB.out
  clear hW6 hbx hbx2 HX1 HX2 SST SAL SY SY0 NB2 MBX HBM HB1 H5
  go_upto_region 41 with (first
    | (go_at_call 9; with_reducible refine (num_is _ _).mono ?_; rintro e w' ⟨rfl, rfl⟩))
  obtain ⟨W7, hW7⟩ : ∃ W7, (W6.setCell ⟨B8, 0, none⟩ (.slice A1 n1 c1)).setCell ⟨B8, 1, none⟩ (.slice A2 n2 c2) = W7 := ⟨_, rfl⟩
  rw [hW7] at hm ⊢
  clear hW7 k0 k1 k2 k3 k4 k5
  have hb8 := hm.out.boxed (List.mem_cons_self ..)
  have hbd := hm.out.boxed (k := B) (o := .cells #[.int .i64 3, .int .i64 ai, .int .i64 ak, .int .i64 ac, .bool af] 62 (0, 0)) (List.mem_cons_of_mem _ BXD.out)
  have e0 : W7.cell? ⟨B8, 0, none⟩ = some (.slice A1 n1 c1) := by rw [cells_all hb8]; rfl
  have e1 : W7.cell? ⟨B8, 1, none⟩ = some (.slice A2 n2 c2) := by rw [cells_all hb8]; rfl
  have d0 : W7.cell? ⟨B, 0, none⟩ = some (.int .i64 3) := by rw [cells_all hbd]; rfl
  have d1 : W7.cell? ⟨B, 1, none⟩ = some (.int .i64 ai) := by rw [cells_all hbd]; rfl
  have d2 : W7.cell? ⟨B, 2, none⟩ = some (.int .i64 ak) := by rw [cells_all hbd]; rfl
  have d3 : W7.cell? ⟨B, 3, none⟩ = some (.int .i64 ac) := by rw [cells_all hbd]; rfl
  have d4 : W7.cell? ⟨B, 4, none⟩ = some (.bool af) := by rw [cells_all hbd]; rfl
  obtain ⟨P2, P3, WK, SF, NW⟩ := TLS.out B8 _
  have W43 := Lib.hid (WK.out W7 _ hm.out)
  clear hb8 hbd hm WK TLS
  go_wp2_with (first
    | (go_at_call 43; refine W43.out.mono ?_; rintro e w5 ⟨rfl, h5⟩)
    | (go_at_call 42; refine (SF.out _ h5.out).mono ?_; rintro e w6 ⟨rfl, h6⟩)
    | (go_at_call 44; refine (NW.out _ h6.out).mono ?_; rintro e w7 ⟨rfl, h7⟩))
  go_ret
  exact ⟨rfl, FIN.out _ h7.out⟩
end
end Go.Proofs.Ytlgoenimjmiapaa
