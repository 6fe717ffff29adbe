import Derived.Test.YtlgoenimjmiapaaT36
import Derived.Deep.RegionHeld3
import Derived.Deep.Quiet
set_option linter.unusedSimpArgs false
set_option linter.unusedVariables false
set_option linter.unusedSectionVars false
/-! Do: a crash; no kind. -/
namespace Go.Proofs.Ytlgoenimjmiapaa
open Go.RowKit Go.Maps

section
variable {w w' w1 w2 : World} {w0 : Base} {tb : Nat} {t : Town} {i : Nat} {xs : Nat → Nat}
set_option maxRecDepth 100000 in
set_option maxHeartbeats 4000000 in
theorem do_crash (h : TownX w0 tb t xs w) (h0 : 0 < t.n) (h7 : t.n ≤ 7) (hodd : t.n % 2 = 1) {T D : Nat} (ht : TI t T) (hb : TB t T D) (hT : T < 400) (hD : D < 400000) (a : Deed) (hk : a.kind = 6) (hcut : -9223372036854775808 ≤ a.cut ∧ a.cut ≤ 9223372036854775807) :
    Calls Try.prog 20 #[.pointer (some ⟨tb, 0, none⟩), .agg (deedV a)] w fun e w' => e = .returned (.bool true) ∧ ∃ xs', TownX w0 tb (t.act a) xs' w' := by
  have hact := (ht.act h0 hodd h7 (by omega) a).2
  obtain ⟨I, hI⟩ : ∃ I, modN a.i t.n = I := ⟨_, rfl⟩
  have hi : I < t.n := by rw [← hI]; exact modN_lt _ h0
  have hfit := ((ht.fine h7 (by omega)).fit I hi).1
  have hA : t.act a = (t.crash I).safe t.n := by unfold Town.act; rw [if_neg (by omega), if_neg (by omega), if_neg (by omega), if_neg (by omega), if_pos hk, hI]
  have hcs := hact.crash hk
  rw [hI] at hcs
  obtain ⟨n, hn⟩ : ∃ n, t.n = n := ⟨_, rfl⟩
  obtain ⟨ai, hai⟩ : ∃ x, a.i = x := ⟨_, rfl⟩
  obtain ⟨ak, hak⟩ : ∃ x, a.k = x := ⟨_, rfl⟩
  obtain ⟨ac, hac⟩ : ∃ x, a.cut = x := ⟨_, rfl⟩
  obtain ⟨af, haf⟩ : ∃ x, a.falls = x := ⟨_, rfl⟩
  obtain ⟨B, hB⟩ : ∃ B, w.heap.size = B := ⟨_, rfl⟩
  have hIe : (ai.tmod (n : Int) + (n : Int)).tmod (n : Int) = (I : Int) := by rw [← hI, ← hai, ← hn]; exact modN_eq a.i t.n h0
  obtain ⟨w1e, w2e⟩ := modN_wraps ai n (by omega) (by omega)
  have z1 : ((n : Int) == 0) = false := by rw [beq_eq_false_iff_ne]; omega
  have z2 : ¬ ((n : Int) = 0) := by omega
  have hav : deedV a = #[.int .i64 6, .int .i64 ai, .int .i64 ak, .int .i64 ac, .bool af] := by unfold deedV; rw [hk, hai, hak, hac, haf]
  obtain ⟨b0, hb0⟩ : ∃ b0, w0.put B (.cells (deedV a) 62 (0, 0)) = b0 := ⟨_, rfl⟩
  obtain ⟨Q, hQ⟩ : ∃ Q : World → Prop, (fun w' => ∃ xs', TownX w0 tb (t.act a) xs' w') = Q := ⟨_, rfl⟩
  obtain ⟨P2, hP2⟩ : ∃ P2 : World → Prop, (fun w' => ∃ xs', TownX w0 tb (t.crash I) xs' w') = P2 := ⟨_, rfl⟩
  have CR : Hid (∀ W, TownX b0 tb t xs W → Calls Try.prog 21 #[.pointer (some ⟨tb, 0, none⟩), .int .i64 (I : Int)] W fun e w' => e = .returned (.bool true) ∧ Hid (P2 w')) := fun W hW => by
    rw [← hb0] at hW
    refine (crash_ok hW.unput hi h7 hodd ht hb (by omega) (by omega)).mono ?_
    rintro e w' ⟨rfl, hh⟩
    exact ⟨rfl, by show P2 w'; rw [← hP2]; exact hh⟩
  have SF : Hid (∀ W, P2 W → Calls Try.prog 42 #[.pointer (some ⟨tb, 0, none⟩)] W fun e w' => e = .returned (.bool true) ∧ Hid (Q w')) := fun W hW => by
    rw [← hP2] at hW
    obtain ⟨xs', hW⟩ := hW
    refine (crashsafe_ok hW hi h7 ht hb (by omega) (by omega) hcs).mono ?_
    rintro e w' ⟨rfl, hh⟩
    exact ⟨rfl, by show Q w'; rw [← hQ, hA]; exact ⟨xs', hh⟩⟩
  obtain ⟨W0, hW0⟩ : ∃ W0, w.alloc (.cells #[.int .i64 6, .int .i64 ai, .int .i64 ak, .int .i64 ac, .bool af] 62) = W0 := ⟨_, rfl⟩
  have H0 : Hid (TownX b0 tb t xs W0) := by
    have := h.box (.cells (deedV a) 62 (0, 0))
    rw [hB, hb0, hav, hW0] at this
    exact this
  have NC : Hid (∀ W, TownX b0 tb t xs W → W.cell? ⟨tb, 0, none⟩ = some (.int .i64 (n : Int))) := fun W hW => by rw [← hn]; exact hW.ncell
  have XC : Hid (∀ W, TownX b0 tb t xs W → ∃ g c, W.cell? ⟨tb, 1, none⟩ = some (.slice (some ⟨g, 0, none⟩) n c) ∧ W.cell? ⟨g, I, none⟩ = some (.pointer (some ⟨xs I, 0, none⟩))) := fun W hW => by
    obtain ⟨g, c, _, e1, e2⟩ := hW.xcells hi
    rw [← hn]; exact ⟨g, c, e1, e2⟩
  have DC : Hid (∀ W, TownX b0 tb t xs W → W.heap[B]? = some (.cells #[.int .i64 6, .int .i64 ai, .int .i64 ak, .int .i64 ac, .bool af] 62 (0, 0))) := fun W hW => by
    rw [← hav]
    exact hW.boxed (by rw [← hb0]; exact List.mem_cons_self ..)
  have DL : Hid (∀ W, TownX b0 tb t xs W → W.cell? ⟨B, 0, none⟩ = some (.int .i64 6) ∧ W.cell? ⟨B, 1, none⟩ = some (.int .i64 ai) ∧ W.cell? ⟨B, 2, none⟩ = some (.int .i64 ak) ∧ W.cell? ⟨B, 3, none⟩ = some (.int .i64 ac) ∧ W.cell? ⟨B, 4, none⟩ = some (.bool af)) := fun W hW => by
    have := DC.out W hW
    refine ⟨by rw [cells_all this]; rfl, by rw [cells_all this]; rfl, by rw [cells_all this]; rfl, by rw [cells_all this]; rfl, by rw [cells_all this]; rfl⟩
  have i1 : (0 : Int) ≤ (I : Int) := by omega
  have i2 : (I : Int) < (n : Int) := by omega
  have c0 := NC.out W0 H0.out
  obtain ⟨d0, d1, d2, d3, d4⟩ := DL.out W0 H0.out
  have FIN : Hid (∀ W, Q W → ∃ xs', TownX w0 tb (t.act a) xs' W) := fun W h => by rw [← hQ] at h; exact h
  have HN := Lib.hid (And.intro hn h7)
  have HCUT := Lib.hid (And.intro hb0 hav)
  have HH := Lib.hid h
  clear h hQ hP2 hcs hact hI hfit hai hak hac haf hb0 hav hk ht hb hA hn h7 h0 hodd hi hcut
  rw [HCUT.out.2]
  go_enter Try.func20, Try.ntmps20
  go_wp2_with fail
  clear hB hW0
  go_upto_region 1 with fail
  have HKE := Lib.hid hIe
  go_cut [5] (fun s5 wx => s5 = .int .i64 (I : Int) ∧ Hid (Out Zone.no W0 wx))
  case first =>
    clear CR SF NC XC DC DL H0 HH HCUT HN
    go_quiet (fail)
    go_wp2_with fail
    go_meet
    exact ⟨by first | rfl | rw [HKE.out], (Out.refl _ _).drewN nq⟩
  case rest =>
  obtain ⟨rfl, hcut⟩ := hcut
  obtain ⟨W1, hW1⟩ : ∃ W1, wc = W1 := ⟨_, rfl⟩
  rw [hW1] at hcut ⊢
  have H1 := Lib.hid (H0.out.any hcut.out)
  clear hcut hW1 d0 d1 d2 d3 d4 c0 hIe w1e w2e z1 z2
  obtain ⟨g, c, x1, x2⟩ := XC.out W1 H1.out
  obtain ⟨B8, hB8⟩ : ∃ B8, W1.heap.size = B8 := ⟨_, rfl⟩
  obtain ⟨W2, hW2⟩ : ∃ W2, W1.alloc (.cells #[.slice none 0 0, .slice none 0 0] 32) = W2 := ⟨_, rfl⟩
  have HNB : Hid (∀ p ∈ b0.bx, p.1 ≠ B8) := fun p hp => by have := heap_lt (H1.out.boxed (k := p.1) (o := p.2) hp); omega
  have H2 : Hid (TownX (b0.put B8 (.cells #[.slice none 0 0, .slice none 0 0] 32 (0, 0))) tb t xs W2) := by
    have := H1.out.box (.cells #[.slice none 0 0, .slice none 0 0] 32)
    rw [hB8, hW2] at this
    exact this
  obtain ⟨d0, d1, d2, d3, d4⟩ := DL.out W2 H2.out.unput
  have CR2 := Lib.hid (CR.out _ H2.out.unput)
  clear CR NC XC DC DL
  go_wp2_with (first
    | (go_at_call 21; refine CR2.out.mono ?_; rintro e w5 ⟨rfl, h5⟩)
    | (go_at_call 42; refine (SF.out _ h5.out).mono ?_; rintro e w6 ⟨rfl, h6⟩))
  go_ret
  exact ⟨rfl, FIN.out _ h6.out⟩
theorem TownX.idle (h : TownX w0 tb t xs w) (i : Nat) : TownW w0 tb { t with X := upd t.X i (⟨t.X i, [], []⟩ : NS).q } xs (.agg #[.slice none 0 0, .slice none 0 0]) [] [] w := by
  obtain ⟨L, U, h1, h2, h3⟩ := h
  refine ⟨L, U, ?_, h2, h3, .slice none 0 0, .slice none 0 0, [], rfl, rfl, ⟨grow_nil _ _ _ _, grow_nil _ _ _ _, fun p hp => (by cases hp), fun k hk => (by cases hk), fun k hk => (by cases hk)⟩⟩
  have e : ({ t with X := upd t.X i (⟨t.X i, [], []⟩ : NS).q } : Town) = t := by
    show ({ t with X := upd t.X i (t.X i) } : Town) = t
    rw [upd_same]
  rw [e]; exact h1
set_option maxRecDepth 100000 in
set_option maxHeartbeats 4000000 in
theorem do_none (h : TownX w0 tb t xs w) (h0 : 0 < t.n) (h7 : t.n ≤ 7) (hodd : t.n % 2 = 1) {T D : Nat} (ht : TI t T) (hb : TB t T D) (hT : T < 400) (hD : D < 400000) (a : Deed) (hk0 : a.kind ≠ 0) (hk1 : a.kind ≠ 1) (hk2 : a.kind ≠ 2) (hk3 : a.kind ≠ 3) (hk4 : a.kind ≠ 4) (hk5 : a.kind ≠ 5) (hk6 : a.kind ≠ 6) (hcut : -9223372036854775808 ≤ a.cut ∧ a.cut ≤ 9223372036854775807) :
    Calls Try.prog 20 #[.pointer (some ⟨tb, 0, none⟩), .agg (deedV a)] w fun e w' => e = .returned (.bool true) ∧ ∃ xs', TownX w0 tb (t.act a) xs' w' := by
  have hact := (ht.act h0 hodd h7 (by omega) a).2
  obtain ⟨I, hI⟩ : ∃ I, modN a.i t.n = I := ⟨_, rfl⟩
  have hi : I < t.n := by rw [← hI]; exact modN_lt _ h0
  have hfit := ((ht.fine h7 (by omega)).fit I hi).1
  have hao : AfterOk t I ⟨t.X I, [], []⟩ a (T + 1) := by have := hact.none hk0 hk1 hk2 hk3 hk4 hk5 hk6; rw [hI] at this; exact this
  have hA : t.act a = t.after I ⟨t.X I, [], []⟩ a := by unfold Town.act; rw [if_neg hk0, if_neg hk1, if_neg hk2, if_neg (by omega), if_neg hk6, hI]
  obtain ⟨kd, hk⟩ : ∃ kd, a.kind = kd := ⟨_, rfl⟩
  rw [hk] at hk0 hk1 hk2 hk3 hk4 hk5 hk6
  have n0 : (kd == 0) = false := by rw [beq_eq_false_iff_ne]; exact hk0
  have n1 : (kd == 1) = false := by rw [beq_eq_false_iff_ne]; exact hk1
  have n2 : (kd == 2) = false := by rw [beq_eq_false_iff_ne]; exact hk2
  have n3 : (kd == 3) = false := by rw [beq_eq_false_iff_ne]; exact hk3
  have n4 : (kd == 4) = false := by rw [beq_eq_false_iff_ne]; exact hk4
  have n5 : (kd == 5) = false := by rw [beq_eq_false_iff_ne]; exact hk5
  have n6 : (kd == 6) = false := by rw [beq_eq_false_iff_ne]; exact hk6
  obtain ⟨n, hn⟩ : ∃ n, t.n = n := ⟨_, rfl⟩
  obtain ⟨ai, hai⟩ : ∃ x, a.i = x := ⟨_, rfl⟩
  obtain ⟨ak, hak⟩ : ∃ x, a.k = x := ⟨_, rfl⟩
  obtain ⟨ac, hac⟩ : ∃ x, a.cut = x := ⟨_, rfl⟩
  obtain ⟨af, haf⟩ : ∃ x, a.falls = x := ⟨_, rfl⟩
  obtain ⟨B, hB⟩ : ∃ B, w.heap.size = B := ⟨_, rfl⟩
  have hIe : (ai.tmod (n : Int) + (n : Int)).tmod (n : Int) = (I : Int) := by rw [← hI, ← hai, ← hn]; exact modN_eq a.i t.n h0
  obtain ⟨w1e, w2e⟩ := modN_wraps ai n (by omega) (by omega)
  have z1 : ((n : Int) == 0) = false := by rw [beq_eq_false_iff_ne]; omega
  have z2 : ¬ ((n : Int) = 0) := by omega
  have hav : deedV a = #[.int .i64 kd, .int .i64 ai, .int .i64 ak, .int .i64 ac, .bool af] := by unfold deedV; rw [hk, hai, hak, hac, haf]
  obtain ⟨b0, hb0⟩ : ∃ b0, w0.put B (.cells (deedV a) 62 (0, 0)) = b0 := ⟨_, rfl⟩
  have BXD : Hid ((B, .cells #[.int .i64 kd, .int .i64 ai, .int .i64 ak, .int .i64 ac, .bool af] 62 (0, 0)) ∈ b0.bx) := by rw [← hb0, ← hav]; exact List.mem_cons_self ..
  obtain ⟨C, hC⟩ : ∃ C : NS, ⟨t.X I, [], []⟩ = C := ⟨_, rfl⟩
  obtain ⟨Q, hQ⟩ : ∃ Q : World → Prop, (fun w' => ∃ xs', TownX w0 tb (t.act a) xs' w') = Q := ⟨_, rfl⟩
  have TLS : Hid (∀ B8 o, Tails (b0.put B8 o) tb t xs I C #[.int .i64 kd, .int .i64 ai, .int .i64 ak, .int .i64 ac, .bool af] Q) := fun B8 o => by
    have := Tails.of (w0 := w0) (tb := tb) (xs := xs) (B := B) (o := .cells (deedV a) 62 (0, 0)) (B8 := B8) (o8 := o) hi h7 hodd hao hb ((NS.Few.start _).up (by omega) (by omega)) hT hD hcut hA
    rw [hb0, hC, hQ] at this
    rw [← hav]
    exact this
  have IDLE : Hid (∀ b W, TownX b tb t xs W → TownW b tb { t with X := upd t.X I C.q } xs (.agg #[.slice none 0 0, .slice none 0 0]) C.ns C.ms W) := fun b W hW => by
    have := hW.idle I
    rw [← hC]
    exact this
  obtain ⟨W0, hW0⟩ : ∃ W0, w.alloc (.cells #[.int .i64 kd, .int .i64 ai, .int .i64 ak, .int .i64 ac, .bool af] 62) = W0 := ⟨_, rfl⟩
  have H0 : Hid (TownX b0 tb t xs W0) := by
    have := h.box (.cells (deedV a) 62 (0, 0))
    rw [hB, hb0, hav, hW0] at this
    exact this
  have NC : Hid (∀ W, TownX b0 tb t xs W → W.cell? ⟨tb, 0, none⟩ = some (.int .i64 (n : Int))) := fun W hW => by rw [← hn]; exact hW.ncell
  have XC : Hid (∀ W, TownX b0 tb t xs W → ∃ g c, W.cell? ⟨tb, 1, none⟩ = some (.slice (some ⟨g, 0, none⟩) n c) ∧ W.cell? ⟨g, I, none⟩ = some (.pointer (some ⟨xs I, 0, none⟩))) := fun W hW => by
    obtain ⟨g, c, _, e1, e2⟩ := hW.xcells hi
    rw [← hn]; exact ⟨g, c, e1, e2⟩
  have DC : Hid (∀ W, TownX b0 tb t xs W → W.heap[B]? = some (.cells #[.int .i64 kd, .int .i64 ai, .int .i64 ak, .int .i64 ac, .bool af] 62 (0, 0))) := fun W hW => by
    rw [← hav]
    exact hW.boxed (by rw [← hb0]; exact List.mem_cons_self ..)
  have DL : Hid (∀ W, TownX b0 tb t xs W → W.cell? ⟨B, 0, none⟩ = some (.int .i64 kd) ∧ W.cell? ⟨B, 1, none⟩ = some (.int .i64 ai) ∧ W.cell? ⟨B, 2, none⟩ = some (.int .i64 ak) ∧ W.cell? ⟨B, 3, none⟩ = some (.int .i64 ac) ∧ W.cell? ⟨B, 4, none⟩ = some (.bool af)) := fun W hW => by
    have := DC.out W hW
    refine ⟨by rw [cells_all this]; rfl, by rw [cells_all this]; rfl, by rw [cells_all this]; rfl, by rw [cells_all this]; rfl, by rw [cells_all this]; rfl⟩
  have i1 : (0 : Int) ≤ (I : Int) := by omega
  have i2 : (I : Int) < (n : Int) := by omega
  have c0 := NC.out W0 H0.out
  obtain ⟨d0, d1, d2, d3, d4⟩ := DL.out W0 H0.out
  have FIN : Hid (∀ W, Q W → ∃ xs', TownX w0 tb (t.act a) xs' W) := fun W h => by rw [← hQ] at h; exact h
  have HN := Lib.hid (And.intro hn h7)
  have HCUT := Lib.hid (And.intro hb0 hav)
  have HH := Lib.hid h
  clear h hC hQ hact hI hfit hao hai hak hac haf hb0 hav hk hk0 hk1 hk2 hk3 hk4 hk5 hk6 ht hb hA hn h7 h0 hodd hi hcut
  rw [HCUT.out.2]
  go_enter Try.func20, Try.ntmps20
  go_wp2_with fail
  clear hB hW0
  go_upto_region 1 with fail
  have HKE := Lib.hid hIe
  go_cut [5] (fun s5 wx => s5 = .int .i64 (I : Int) ∧ Hid (Out Zone.no W0 wx))
  case first =>
    clear n0 n1 n2 n3 n4 n5 n6 TLS IDLE NC XC DC DL H0 HH HCUT HN
    go_quiet (fail)
    go_wp2_with fail
    go_meet
    exact ⟨by first | rfl | rw [HKE.out], (Out.refl _ _).drewN nq⟩
  case rest =>
  obtain ⟨rfl, hcut⟩ := hcut
  obtain ⟨W1, hW1⟩ : ∃ W1, wc = W1 := ⟨_, rfl⟩
  rw [hW1] at hcut ⊢
  have H1 := Lib.hid (H0.out.any hcut.out)
  clear hcut hW1 d0 d1 d2 d3 d4 c0 hIe w1e w2e z1 z2
  obtain ⟨g, c, x1, x2⟩ := XC.out W1 H1.out
  obtain ⟨B8, hB8⟩ : ∃ B8, W1.heap.size = B8 := ⟨_, rfl⟩
  obtain ⟨W2, hW2⟩ : ∃ W2, W1.alloc (.cells #[.slice none 0 0, .slice none 0 0] 32) = W2 := ⟨_, rfl⟩
  have HNB : Hid (∀ p ∈ b0.bx, p.1 ≠ B8) := fun p hp => by have := heap_lt (H1.out.boxed (k := p.1) (o := p.2) hp); omega
  have H2 : Hid (TownX (b0.put B8 (.cells #[.slice none 0 0, .slice none 0 0] 32 (0, 0))) tb t xs W2) := by
    have := H1.out.box (.cells #[.slice none 0 0, .slice none 0 0] 32)
    rw [hB8, hW2] at this
    exact this
  obtain ⟨d0, d1, d2, d3, d4⟩ := DL.out W2 H2.out.unput
  have hw3 := Lib.hid (IDLE.out _ _ H2.out)
  clear IDLE NC XC DC DL
  go_upto_region 41 with fail
  clear n0 n1 n2 n3 n4 n5 n6
  have hb8 := hw3.out.boxed (List.mem_cons_self ..)
  have hbd := hw3.out.boxed (k := B) (o := .cells #[.int .i64 kd, .int .i64 ai, .int .i64 ak, .int .i64 ac, .bool af] 62 (0, 0)) (List.mem_cons_of_mem _ BXD.out)
  have e0 : W2.cell? ⟨B8, 0, none⟩ = some (.slice none 0 0) := by rw [cells_all hb8]; rfl
  have e1 : W2.cell? ⟨B8, 1, none⟩ = some (.slice none 0 0) := by rw [cells_all hb8]; rfl
  clear d0 d1 d2 d3 d4
  have d0 : W2.cell? ⟨B, 0, none⟩ = some (.int .i64 kd) := by rw [cells_all hbd]; rfl
  have d1 : W2.cell? ⟨B, 1, none⟩ = some (.int .i64 ai) := by rw [cells_all hbd]; rfl
  have d2 : W2.cell? ⟨B, 2, none⟩ = some (.int .i64 ak) := by rw [cells_all hbd]; rfl
  have d3 : W2.cell? ⟨B, 3, none⟩ = some (.int .i64 ac) := by rw [cells_all hbd]; rfl
  have d4 : W2.cell? ⟨B, 4, none⟩ = some (.bool af) := by rw [cells_all hbd]; rfl
  obtain ⟨P2, P3, WK, SF, NW⟩ := TLS.out B8 _
  have W23 := Lib.hid (WK.out W2 _ hw3.out)
  clear hb8 hbd hw3 WK TLS
  go_wp2_with (first
    | (go_at_call 43; refine W23.out.mono ?_; rintro e w5 ⟨rfl, h5⟩)
    | (go_at_call 42; refine (SF.out _ h5.out).mono ?_; rintro e w6 ⟨rfl, h6⟩)
    | (go_at_call 44; refine (NW.out _ h6.out).mono ?_; rintro e w7 ⟨rfl, h7⟩))
  go_ret
  exact ⟨rfl, FIN.out _ h7.out⟩
end
end Go.Proofs.Ytlgoenimjmiapaa

/-! Do: no message; a message again. -/
namespace Go.Proofs.Ytlgoenimjmiapaa
open Go.RowKit Go.Maps

section
variable {w w' w1 w2 : World} {w0 : Base} {tb : Nat} {t : Town} {i : Nat} {xs : Nat → Nat}
set_option maxRecDepth 100000 in
set_option maxHeartbeats 4000000 in
theorem do_empty3 (h : TownX w0 tb t xs w) (h0 : 0 < t.n) (h7 : t.n ≤ 7) (hodd : t.n % 2 = 1) {T D : Nat} (ht : TI t T) (hb : TB t T D) (hT : T < 400) (hD : D < 400000) (a : Deed) (hk : a.kind = 3) (hcut : -9223372036854775808 ≤ a.cut ∧ a.cut ≤ 9223372036854775807) (hnt : t.net = []) :
    Calls Try.prog 20 #[.pointer (some ⟨tb, 0, none⟩), .agg (deedV a)] w fun e w' => e = .returned (.bool true) ∧ ∃ xs', TownX w0 tb (t.act a) xs' w' := by
  have hact := (ht.act h0 hodd h7 (by omega) a).2
  obtain ⟨I, hI⟩ : ∃ I, modN a.i t.n = I := ⟨_, rfl⟩
  have hi : I < t.n := by rw [← hI]; exact modN_lt _ h0
  have hfit := ((ht.fine h7 (by omega)).fit I hi).1
  have hA : t.act a = t := by unfold Town.act; rw [if_neg (by omega), if_neg (by omega), if_neg (by omega), if_pos (by omega)]; rw [hnt]; rfl
  obtain ⟨n, hn⟩ : ∃ n, t.n = n := ⟨_, rfl⟩
  obtain ⟨ai, hai⟩ : ∃ x, a.i = x := ⟨_, rfl⟩
  obtain ⟨ak, hak⟩ : ∃ x, a.k = x := ⟨_, rfl⟩
  obtain ⟨ac, hac⟩ : ∃ x, a.cut = x := ⟨_, rfl⟩
  obtain ⟨af, haf⟩ : ∃ x, a.falls = x := ⟨_, rfl⟩
  obtain ⟨B, hB⟩ : ∃ B, w.heap.size = B := ⟨_, rfl⟩
  have hIe : (ai.tmod (n : Int) + (n : Int)).tmod (n : Int) = (I : Int) := by rw [← hI, ← hai, ← hn]; exact modN_eq a.i t.n h0
  obtain ⟨w1e, w2e⟩ := modN_wraps ai n (by omega) (by omega)
  have z1 : ((n : Int) == 0) = false := by rw [beq_eq_false_iff_ne]; omega
  have z2 : ¬ ((n : Int) = 0) := by omega
  have hav : deedV a = #[.int .i64 3, .int .i64 ai, .int .i64 ak, .int .i64 ac, .bool af] := by unfold deedV; rw [hk, hai, hak, hac, haf]
  obtain ⟨b0, hb0⟩ : ∃ b0, w0.put B (.cells (deedV a) 62 (0, 0)) = b0 := ⟨_, rfl⟩
  obtain ⟨Q, hQ⟩ : ∃ Q : World → Prop, (fun w' => ∃ xs', TownX w0 tb (t.act a) xs' w') = Q := ⟨_, rfl⟩
  have BACK : Hid (∀ W o B8, TownX (b0.put B8 o) tb t xs W → Q W) := fun W o B8 hW => by
    have := hW.unput
    rw [← hb0] at this
    rw [← hQ]
    exact ⟨xs, by rw [hA]; exact this.unput⟩
  have NV : Hid (∀ W b, TownX b tb t xs W → ∃ A c, W.cell? ⟨tb, 3, none⟩ = some (.slice A 0 c)) := fun W b hW => by
    obtain ⟨A, c, e⟩ := hW.netv
    rw [hnt] at e
    exact ⟨A, c, e⟩
  obtain ⟨W0, hW0⟩ : ∃ W0, w.alloc (.cells #[.int .i64 3, .int .i64 ai, .int .i64 ak, .int .i64 ac, .bool af] 62) = W0 := ⟨_, rfl⟩
  have H0 : Hid (TownX b0 tb t xs W0) := by
    have := h.box (.cells (deedV a) 62 (0, 0))
    rw [hB, hb0, hav, hW0] at this
    exact this
  have NC : Hid (∀ W, TownX b0 tb t xs W → W.cell? ⟨tb, 0, none⟩ = some (.int .i64 (n : Int))) := fun W hW => by rw [← hn]; exact hW.ncell
  have XC : Hid (∀ W, TownX b0 tb t xs W → ∃ g c, W.cell? ⟨tb, 1, none⟩ = some (.slice (some ⟨g, 0, none⟩) n c) ∧ W.cell? ⟨g, I, none⟩ = some (.pointer (some ⟨xs I, 0, none⟩))) := fun W hW => by
    obtain ⟨g, c, _, e1, e2⟩ := hW.xcells hi
    rw [← hn]; exact ⟨g, c, e1, e2⟩
  have DC : Hid (∀ W, TownX b0 tb t xs W → W.heap[B]? = some (.cells #[.int .i64 3, .int .i64 ai, .int .i64 ak, .int .i64 ac, .bool af] 62 (0, 0))) := fun W hW => by
    rw [← hav]
    exact hW.boxed (by rw [← hb0]; exact List.mem_cons_self ..)
  have DL : Hid (∀ W, TownX b0 tb t xs W → W.cell? ⟨B, 0, none⟩ = some (.int .i64 3) ∧ W.cell? ⟨B, 1, none⟩ = some (.int .i64 ai) ∧ W.cell? ⟨B, 2, none⟩ = some (.int .i64 ak) ∧ W.cell? ⟨B, 3, none⟩ = some (.int .i64 ac) ∧ W.cell? ⟨B, 4, none⟩ = some (.bool af)) := fun W hW => by
    have := DC.out W hW
    refine ⟨by rw [cells_all this]; rfl, by rw [cells_all this]; rfl, by rw [cells_all this]; rfl, by rw [cells_all this]; rfl, by rw [cells_all this]; rfl⟩
  have i1 : (0 : Int) ≤ (I : Int) := by omega
  have i2 : (I : Int) < (n : Int) := by omega
  have c0 := NC.out W0 H0.out
  obtain ⟨d0, d1, d2, d3, d4⟩ := DL.out W0 H0.out
  have FIN : Hid (∀ W, Q W → ∃ xs', TownX w0 tb (t.act a) xs' W) := fun W h => by rw [← hQ] at h; exact h
  have HN := Lib.hid (And.intro hn h7)
  have HCUT := Lib.hid (And.intro hb0 hav)
  have HH := Lib.hid h
  clear hnt h hQ hact hI hfit hai hak hac haf hb0 hav hk ht hb hA hn h7 h0 hodd hi hcut
  rw [HCUT.out.2]
  go_enter Try.func20, Try.ntmps20
  go_wp2_with fail
  clear hB hW0
  go_upto_region 1 with fail
  have HKE := Lib.hid hIe
  go_cut [5] (fun s5 wx => s5 = .int .i64 (I : Int) ∧ Hid (Out Zone.no W0 wx))
  case first =>
    clear BACK NV NC XC DC DL H0 HH HCUT HN
    go_quiet (fail)
    go_wp2_with fail
    go_meet
    exact ⟨by first | rfl | rw [HKE.out], (Out.refl _ _).drewN nq⟩
  case rest =>
  obtain ⟨rfl, hcut⟩ := hcut
  obtain ⟨W1, hW1⟩ : ∃ W1, wc = W1 := ⟨_, rfl⟩
  rw [hW1] at hcut ⊢
  have H1 := Lib.hid (H0.out.any hcut.out)
  clear hcut hW1 d0 d1 d2 d3 d4 c0 hIe w1e w2e z1 z2
  obtain ⟨g, c, x1, x2⟩ := XC.out W1 H1.out
  obtain ⟨B8, hB8⟩ : ∃ B8, W1.heap.size = B8 := ⟨_, rfl⟩
  obtain ⟨W2, hW2⟩ : ∃ W2, W1.alloc (.cells #[.slice none 0 0, .slice none 0 0] 32) = W2 := ⟨_, rfl⟩
  have HNB : Hid (∀ p ∈ b0.bx, p.1 ≠ B8) := fun p hp => by have := heap_lt (H1.out.boxed (k := p.1) (o := p.2) hp); omega
  have H2 : Hid (TownX (b0.put B8 (.cells #[.slice none 0 0, .slice none 0 0] 32 (0, 0))) tb t xs W2) := by
    have := H1.out.box (.cells #[.slice none 0 0, .slice none 0 0] 32)
    rw [hB8, hW2] at this
    exact this
  obtain ⟨d0, d1, d2, d3, d4⟩ := DL.out W2 H2.out.unput
  obtain ⟨An, cn, x3⟩ := NV.out _ _ H2.out
  have F2 := Lib.hid (BACK.out _ _ _ H2.out)
  clear NC XC DC DL BACK NV
  go_wp2_with fail
  go_ret
  exact ⟨rfl, FIN.out _ F2.out⟩
set_option maxRecDepth 100000 in
set_option maxHeartbeats 4000000 in
theorem do_empty4 (h : TownX w0 tb t xs w) (h0 : 0 < t.n) (h7 : t.n ≤ 7) (hodd : t.n % 2 = 1) {T D : Nat} (ht : TI t T) (hb : TB t T D) (hT : T < 400) (hD : D < 400000) (a : Deed) (hk : a.kind = 4) (hcut : -9223372036854775808 ≤ a.cut ∧ a.cut ≤ 9223372036854775807) (hnt : t.net = []) :
    Calls Try.prog 20 #[.pointer (some ⟨tb, 0, none⟩), .agg (deedV a)] w fun e w' => e = .returned (.bool true) ∧ ∃ xs', TownX w0 tb (t.act a) xs' w' := by
  have hact := (ht.act h0 hodd h7 (by omega) a).2
  obtain ⟨I, hI⟩ : ∃ I, modN a.i t.n = I := ⟨_, rfl⟩
  have hi : I < t.n := by rw [← hI]; exact modN_lt _ h0
  have hfit := ((ht.fine h7 (by omega)).fit I hi).1
  have hA : t.act a = t := by unfold Town.act; rw [if_neg (by omega), if_neg (by omega), if_neg (by omega), if_pos (by omega)]; rw [hnt]; rfl
  obtain ⟨n, hn⟩ : ∃ n, t.n = n := ⟨_, rfl⟩
  obtain ⟨ai, hai⟩ : ∃ x, a.i = x := ⟨_, rfl⟩
  obtain ⟨ak, hak⟩ : ∃ x, a.k = x := ⟨_, rfl⟩
  obtain ⟨ac, hac⟩ : ∃ x, a.cut = x := ⟨_, rfl⟩
  obtain ⟨af, haf⟩ : ∃ x, a.falls = x := ⟨_, rfl⟩
  obtain ⟨B, hB⟩ : ∃ B, w.heap.size = B := ⟨_, rfl⟩
  have hIe : (ai.tmod (n : Int) + (n : Int)).tmod (n : Int) = (I : Int) := by rw [← hI, ← hai, ← hn]; exact modN_eq a.i t.n h0
  obtain ⟨w1e, w2e⟩ := modN_wraps ai n (by omega) (by omega)
  have z1 : ((n : Int) == 0) = false := by rw [beq_eq_false_iff_ne]; omega
  have z2 : ¬ ((n : Int) = 0) := by omega
  have hav : deedV a = #[.int .i64 4, .int .i64 ai, .int .i64 ak, .int .i64 ac, .bool af] := by unfold deedV; rw [hk, hai, hak, hac, haf]
  obtain ⟨b0, hb0⟩ : ∃ b0, w0.put B (.cells (deedV a) 62 (0, 0)) = b0 := ⟨_, rfl⟩
  obtain ⟨Q, hQ⟩ : ∃ Q : World → Prop, (fun w' => ∃ xs', TownX w0 tb (t.act a) xs' w') = Q := ⟨_, rfl⟩
  have BACK : Hid (∀ W o B8, TownX (b0.put B8 o) tb t xs W → Q W) := fun W o B8 hW => by
    have := hW.unput
    rw [← hb0] at this
    rw [← hQ]
    exact ⟨xs, by rw [hA]; exact this.unput⟩
  have NV : Hid (∀ W b, TownX b tb t xs W → ∃ A c, W.cell? ⟨tb, 3, none⟩ = some (.slice A 0 c)) := fun W b hW => by
    obtain ⟨A, c, e⟩ := hW.netv
    rw [hnt] at e
    exact ⟨A, c, e⟩
  obtain ⟨W0, hW0⟩ : ∃ W0, w.alloc (.cells #[.int .i64 4, .int .i64 ai, .int .i64 ak, .int .i64 ac, .bool af] 62) = W0 := ⟨_, rfl⟩
  have H0 : Hid (TownX b0 tb t xs W0) := by
    have := h.box (.cells (deedV a) 62 (0, 0))
    rw [hB, hb0, hav, hW0] at this
    exact this
  have NC : Hid (∀ W, TownX b0 tb t xs W → W.cell? ⟨tb, 0, none⟩ = some (.int .i64 (n : Int))) := fun W hW => by rw [← hn]; exact hW.ncell
  have XC : Hid (∀ W, TownX b0 tb t xs W → ∃ g c, W.cell? ⟨tb, 1, none⟩ = some (.slice (some ⟨g, 0, none⟩) n c) ∧ W.cell? ⟨g, I, none⟩ = some (.pointer (some ⟨xs I, 0, none⟩))) := fun W hW => by
    obtain ⟨g, c, _, e1, e2⟩ := hW.xcells hi
    rw [← hn]; exact ⟨g, c, e1, e2⟩
  have DC : Hid (∀ W, TownX b0 tb t xs W → W.heap[B]? = some (.cells #[.int .i64 4, .int .i64 ai, .int .i64 ak, .int .i64 ac, .bool af] 62 (0, 0))) := fun W hW => by
    rw [← hav]
    exact hW.boxed (by rw [← hb0]; exact List.mem_cons_self ..)
  have DL : Hid (∀ W, TownX b0 tb t xs W → W.cell? ⟨B, 0, none⟩ = some (.int .i64 4) ∧ W.cell? ⟨B, 1, none⟩ = some (.int .i64 ai) ∧ W.cell? ⟨B, 2, none⟩ = some (.int .i64 ak) ∧ W.cell? ⟨B, 3, none⟩ = some (.int .i64 ac) ∧ W.cell? ⟨B, 4, none⟩ = some (.bool af)) := fun W hW => by
    have := DC.out W hW
    refine ⟨by rw [cells_all this]; rfl, by rw [cells_all this]; rfl, by rw [cells_all this]; rfl, by rw [cells_all this]; rfl, by rw [cells_all this]; rfl⟩
  have i1 : (0 : Int) ≤ (I : Int) := by omega
  have i2 : (I : Int) < (n : Int) := by omega
  have c0 := NC.out W0 H0.out
  obtain ⟨d0, d1, d2, d3, d4⟩ := DL.out W0 H0.out
  have FIN : Hid (∀ W, Q W → ∃ xs', TownX w0 tb (t.act a) xs' W) := fun W h => by rw [← hQ] at h; exact h
  have HN := Lib.hid (And.intro hn h7)
  have HCUT := Lib.hid (And.intro hb0 hav)
  have HH := Lib.hid h
  clear hnt h hQ hact hI hfit hai hak hac haf hb0 hav hk ht hb hA hn h7 h0 hodd hi hcut
  rw [HCUT.out.2]
  go_enter Try.func20, Try.ntmps20
  go_wp2_with fail
  clear hB hW0
  go_upto_region 1 with fail
  have HKE := Lib.hid hIe
  go_cut [5] (fun s5 wx => s5 = .int .i64 (I : Int) ∧ Hid (Out Zone.no W0 wx))
  case first =>
    clear BACK NV NC XC DC DL H0 HH HCUT HN
    go_quiet (fail)
    go_wp2_with fail
    go_meet
    exact ⟨by first | rfl | rw [HKE.out], (Out.refl _ _).drewN nq⟩
  case rest =>
  obtain ⟨rfl, hcut⟩ := hcut
  obtain ⟨W1, hW1⟩ : ∃ W1, wc = W1 := ⟨_, rfl⟩
  rw [hW1] at hcut ⊢
  have H1 := Lib.hid (H0.out.any hcut.out)
  clear hcut hW1 d0 d1 d2 d3 d4 c0 hIe w1e w2e z1 z2
  obtain ⟨g, c, x1, x2⟩ := XC.out W1 H1.out
  obtain ⟨B8, hB8⟩ : ∃ B8, W1.heap.size = B8 := ⟨_, rfl⟩
  obtain ⟨W2, hW2⟩ : ∃ W2, W1.alloc (.cells #[.slice none 0 0, .slice none 0 0] 32) = W2 := ⟨_, rfl⟩
  have HNB : Hid (∀ p ∈ b0.bx, p.1 ≠ B8) := fun p hp => by have := heap_lt (H1.out.boxed (k := p.1) (o := p.2) hp); omega
  have H2 : Hid (TownX (b0.put B8 (.cells #[.slice none 0 0, .slice none 0 0] 32 (0, 0))) tb t xs W2) := by
    have := H1.out.box (.cells #[.slice none 0 0, .slice none 0 0] 32)
    rw [hB8, hW2] at this
    exact this
  obtain ⟨d0, d1, d2, d3, d4⟩ := DL.out W2 H2.out.unput
  obtain ⟨An, cn, x3⟩ := NV.out _ _ H2.out
  have F2 := Lib.hid (BACK.out _ _ _ H2.out)
  clear NC XC DC DL BACK NV
  go_wp2_with fail
  go_ret
  exact ⟨rfl, FIN.out _ F2.out⟩
set_option maxRecDepth 100000 in
set_option maxHeartbeats 4000000 in
theorem do_empty5 (h : TownX w0 tb t xs w) (h0 : 0 < t.n) (h7 : t.n ≤ 7) (hodd : t.n % 2 = 1) {T D : Nat} (ht : TI t T) (hb : TB t T D) (hT : T < 400) (hD : D < 400000) (a : Deed) (hk : a.kind = 5) (hcut : -9223372036854775808 ≤ a.cut ∧ a.cut ≤ 9223372036854775807) (hnt : t.net = []) :
    Calls Try.prog 20 #[.pointer (some ⟨tb, 0, none⟩), .agg (deedV a)] w fun e w' => e = .returned (.bool true) ∧ ∃ xs', TownX w0 tb (t.act a) xs' w' := by
  have hact := (ht.act h0 hodd h7 (by omega) a).2
  obtain ⟨I, hI⟩ : ∃ I, modN a.i t.n = I := ⟨_, rfl⟩
  have hi : I < t.n := by rw [← hI]; exact modN_lt _ h0
  have hfit := ((ht.fine h7 (by omega)).fit I hi).1
  have hA : t.act a = t := by unfold Town.act; rw [if_neg (by omega), if_neg (by omega), if_neg (by omega), if_pos (by omega)]; rw [hnt]; rfl
  obtain ⟨n, hn⟩ : ∃ n, t.n = n := ⟨_, rfl⟩
  obtain ⟨ai, hai⟩ : ∃ x, a.i = x := ⟨_, rfl⟩
  obtain ⟨ak, hak⟩ : ∃ x, a.k = x := ⟨_, rfl⟩
  obtain ⟨ac, hac⟩ : ∃ x, a.cut = x := ⟨_, rfl⟩
  obtain ⟨af, haf⟩ : ∃ x, a.falls = x := ⟨_, rfl⟩
  obtain ⟨B, hB⟩ : ∃ B, w.heap.size = B := ⟨_, rfl⟩
  have hIe : (ai.tmod (n : Int) + (n : Int)).tmod (n : Int) = (I : Int) := by rw [← hI, ← hai, ← hn]; exact modN_eq a.i t.n h0
  obtain ⟨w1e, w2e⟩ := modN_wraps ai n (by omega) (by omega)
  have z1 : ((n : Int) == 0) = false := by rw [beq_eq_false_iff_ne]; omega
  have z2 : ¬ ((n : Int) = 0) := by omega
  have hav : deedV a = #[.int .i64 5, .int .i64 ai, .int .i64 ak, .int .i64 ac, .bool af] := by unfold deedV; rw [hk, hai, hak, hac, haf]
  obtain ⟨b0, hb0⟩ : ∃ b0, w0.put B (.cells (deedV a) 62 (0, 0)) = b0 := ⟨_, rfl⟩
  obtain ⟨Q, hQ⟩ : ∃ Q : World → Prop, (fun w' => ∃ xs', TownX w0 tb (t.act a) xs' w') = Q := ⟨_, rfl⟩
  have BACK : Hid (∀ W o B8, TownX (b0.put B8 o) tb t xs W → Q W) := fun W o B8 hW => by
    have := hW.unput
    rw [← hb0] at this
    rw [← hQ]
    exact ⟨xs, by rw [hA]; exact this.unput⟩
  have NV : Hid (∀ W b, TownX b tb t xs W → ∃ A c, W.cell? ⟨tb, 3, none⟩ = some (.slice A 0 c)) := fun W b hW => by
    obtain ⟨A, c, e⟩ := hW.netv
    rw [hnt] at e
    exact ⟨A, c, e⟩
  obtain ⟨W0, hW0⟩ : ∃ W0, w.alloc (.cells #[.int .i64 5, .int .i64 ai, .int .i64 ak, .int .i64 ac, .bool af] 62) = W0 := ⟨_, rfl⟩
  have H0 : Hid (TownX b0 tb t xs W0) := by
    have := h.box (.cells (deedV a) 62 (0, 0))
    rw [hB, hb0, hav, hW0] at this
    exact this
  have NC : Hid (∀ W, TownX b0 tb t xs W → W.cell? ⟨tb, 0, none⟩ = some (.int .i64 (n : Int))) := fun W hW => by rw [← hn]; exact hW.ncell
  have XC : Hid (∀ W, TownX b0 tb t xs W → ∃ g c, W.cell? ⟨tb, 1, none⟩ = some (.slice (some ⟨g, 0, none⟩) n c) ∧ W.cell? ⟨g, I, none⟩ = some (.pointer (some ⟨xs I, 0, none⟩))) := fun W hW => by
    obtain ⟨g, c, _, e1, e2⟩ := hW.xcells hi
    rw [← hn]; exact ⟨g, c, e1, e2⟩
  have DC : Hid (∀ W, TownX b0 tb t xs W → W.heap[B]? = some (.cells #[.int .i64 5, .int .i64 ai, .int .i64 ak, .int .i64 ac, .bool af] 62 (0, 0))) := fun W hW => by
    rw [← hav]
    exact hW.boxed (by rw [← hb0]; exact List.mem_cons_self ..)
  have DL : Hid (∀ W, TownX b0 tb t xs W → W.cell? ⟨B, 0, none⟩ = some (.int .i64 5) ∧ W.cell? ⟨B, 1, none⟩ = some (.int .i64 ai) ∧ W.cell? ⟨B, 2, none⟩ = some (.int .i64 ak) ∧ W.cell? ⟨B, 3, none⟩ = some (.int .i64 ac) ∧ W.cell? ⟨B, 4, none⟩ = some (.bool af)) := fun W hW => by
    have := DC.out W hW
    refine ⟨by rw [cells_all this]; rfl, by rw [cells_all this]; rfl, by rw [cells_all this]; rfl, by rw [cells_all this]; rfl, by rw [cells_all this]; rfl⟩
  have i1 : (0 : Int) ≤ (I : Int) := by omega
  have i2 : (I : Int) < (n : Int) := by omega
  have c0 := NC.out W0 H0.out
  obtain ⟨d0, d1, d2, d3, d4⟩ := DL.out W0 H0.out
  have FIN : Hid (∀ W, Q W → ∃ xs', TownX w0 tb (t.act a) xs' W) := fun W h => by rw [← hQ] at h; exact h
  have HN := Lib.hid (And.intro hn h7)
  have HCUT := Lib.hid (And.intro hb0 hav)
  have HH := Lib.hid h
  clear hnt h hQ hact hI hfit hai hak hac haf hb0 hav hk ht hb hA hn h7 h0 hodd hi hcut
  rw [HCUT.out.2]
  go_enter Try.func20, Try.ntmps20
  go_wp2_with fail
  clear hB hW0
  go_upto_region 1 with fail
  have HKE := Lib.hid hIe
  go_cut [5] (fun s5 wx => s5 = .int .i64 (I : Int) ∧ Hid (Out Zone.no W0 wx))
  case first =>
    clear BACK NV NC XC DC DL H0 HH HCUT HN
    go_quiet (fail)
    go_wp2_with fail
    go_meet
    exact ⟨by first | rfl | rw [HKE.out], (Out.refl _ _).drewN nq⟩
  case rest =>
  obtain ⟨rfl, hcut⟩ := hcut
  obtain ⟨W1, hW1⟩ : ∃ W1, wc = W1 := ⟨_, rfl⟩
  rw [hW1] at hcut ⊢
  have H1 := Lib.hid (H0.out.any hcut.out)
  clear hcut hW1 d0 d1 d2 d3 d4 c0 hIe w1e w2e z1 z2
  obtain ⟨g, c, x1, x2⟩ := XC.out W1 H1.out
  obtain ⟨B8, hB8⟩ : ∃ B8, W1.heap.size = B8 := ⟨_, rfl⟩
  obtain ⟨W2, hW2⟩ : ∃ W2, W1.alloc (.cells #[.slice none 0 0, .slice none 0 0] 32) = W2 := ⟨_, rfl⟩
  have HNB : Hid (∀ p ∈ b0.bx, p.1 ≠ B8) := fun p hp => by have := heap_lt (H1.out.boxed (k := p.1) (o := p.2) hp); omega
  have H2 : Hid (TownX (b0.put B8 (.cells #[.slice none 0 0, .slice none 0 0] 32 (0, 0))) tb t xs W2) := by
    have := H1.out.box (.cells #[.slice none 0 0, .slice none 0 0] 32)
    rw [hB8, hW2] at this
    exact this
  obtain ⟨d0, d1, d2, d3, d4⟩ := DL.out W2 H2.out.unput
  obtain ⟨An, cn, x3⟩ := NV.out _ _ H2.out
  have F2 := Lib.hid (BACK.out _ _ _ H2.out)
  clear NC XC DC DL BACK NV
  go_wp2_with fail
  go_ret
  exact ⟨rfl, FIN.out _ F2.out⟩
end
end Go.Proofs.Ytlgoenimjmiapaa
