import Derived.Test.YtlgoenimjmiapaaT36
import Derived.Deep.RegionHeld3
import Derived.Deep.Quiet
set_option linter.unusedSimpArgs false
set_option linter.unusedVariables false
set_option linter.unusedSectionVars false
/-! Do: Append. -/
namespace Go.Proofs.Ytlgoenimjmiapaa
open Go.RowKit Go.Maps

section
variable {w w' w1 w2 : World} {w0 : Base} {tb : Nat} {t : Town} {i : Nat} {xs : Nat → Nat}
/-- The entry's data, as it is made: two bytes. -/
theorem two_string {W : World} {g : Nat} {x1 x2 : Int} {b1 b2 : UInt8} (h1 : x1 = (b1.toNat : Int)) (h2 : x2 = (b2.toNat : Int)) (h : W.heap[g]? = some (.cells #[.int .u8 x1, .int .u8 x2] 5 (0, 0))) : (convert 83 9 (.slice (some ⟨g, 0, none⟩) 2 2)).run Try.prog W = .ok (.string (str [b1, b2])) W := by
  refine run_string (Z := Zone.no) (L := [b1, b2]) Try.underlying83 Try.underlying5 Try.underlying9 ⟨some ⟨g, 0, none⟩, 2, rfl, Nat.le_refl _, le_maxLen (by omega), fun j u hu => ⟨⟨g, 0, none⟩, rfl, ?_, ?_⟩⟩
  · exact id
  · rw [addr0_add, cells_all h j]
    have e : bytes [b1, b2] = [.int .u8 x1, .int .u8 x2] := by rw [h1, h2]; rfl
    rw [e] at hu
    simpa using hu
set_option maxRecDepth 100000 in
set_option maxHeartbeats 4000000 in
theorem do_append (h : TownX w0 tb t xs w) (h0 : 0 < t.n) (h7 : t.n ≤ 7) (hodd : t.n % 2 = 1) {T D : Nat} (ht : TI t T) (hb : TB t T D) (hT : T < 400) (hD : D < 400000) (a : Deed) (hk : a.kind = 1) (hcut : -9223372036854775808 ≤ a.cut ∧ a.cut ≤ 9223372036854775807) (has : t.asked ≤ 1000) :
    Calls Try.prog 20 #[.pointer (some ⟨tb, 0, none⟩), .agg (deedV a)] w fun e w' => e = .returned (.bool true) ∧ ∃ xs', TownX w0 tb (t.act a) xs' w' := by
  have hact := (ht.act h0 hodd h7 (by omega) a).2
  obtain ⟨I, hI⟩ : ∃ I, modN a.i t.n = I := ⟨_, rfl⟩
  have hi : I < t.n := by rw [← hI]; exact modN_lt _ h0
  have hfit := ((ht.fine h7 (by omega)).fit I hi).1
  have hao : AfterOk { t with asked := t.asked + 1 } I ((t.X I).append t.data).1 a (T + 1) := by have := (hact.append hk).2; rw [hI] at this; exact this
  have her : ((t.X I).append t.data).2.2 = 0 ∨ ((t.X I).append t.data).2.2 = 52 ∧ ((t.X I).append t.data).2.1 = 0 ∧ (t.X I).role ≠ 2 := by have := (hact.append hk).1; rw [hI] at this; exact this
  have hA : t.act a = Town.after { t with asked := t.asked + 1 } I ((t.X I).append t.data).1 a := by unfold Town.act; rw [if_neg (by omega), if_pos hk, hI]
  obtain ⟨n, hn⟩ : ∃ n, t.n = n := ⟨_, rfl⟩
  obtain ⟨ai, hai⟩ : ∃ x, a.i = x := ⟨_, rfl⟩
  obtain ⟨ak, hak⟩ : ∃ x, a.k = x := ⟨_, rfl⟩
  obtain ⟨ac, hac⟩ : ∃ x, a.cut = x := ⟨_, rfl⟩
  obtain ⟨af, haf⟩ : ∃ x, a.falls = x := ⟨_, rfl⟩
  obtain ⟨B, hB⟩ : ∃ B, w.heap.size = B := ⟨_, rfl⟩
  have hIe : (ai.tmod (n : Int) + (n : Int)).tmod (n : Int) = (I : Int) := by rw [← hI, ← hai, ← hn]; exact modN_eq a.i t.n h0
  obtain ⟨w1e, w2e⟩ := modN_wraps ai n (by omega) (by omega)
  have z1 : ((n : Int) == 0) = false := by rw [beq_eq_false_iff_ne]; omega
  have z2 : ¬ ((n : Int) = 0) := by omega
  have hav : deedV a = #[.int .i64 1, .int .i64 ai, .int .i64 ak, .int .i64 ac, .bool af] := by unfold deedV; rw [hk, hai, hak, hac, haf]
  obtain ⟨b0, hb0⟩ : ∃ b0, w0.put B (.cells (deedV a) 62 (0, 0)) = b0 := ⟨_, rfl⟩
  have BXD : Hid ((B, .cells #[.int .i64 1, .int .i64 ai, .int .i64 ak, .int .i64 ac, .bool af] 62 (0, 0)) ∈ b0.bx) := by rw [← hb0, ← hav]; exact List.mem_cons_self ..
  obtain ⟨C, hC⟩ : ∃ C, ((t.X I).append t.data).1 = C := ⟨_, rfl⟩
  obtain ⟨no, hno⟩ : ∃ no, ((t.X I).append t.data).2.1 = no := ⟨_, rfl⟩
  obtain ⟨er, hre⟩ : ∃ er, ((t.X I).append t.data).2.2 = er := ⟨_, rfl⟩
  obtain ⟨ro, hro⟩ : ∃ ro, (t.X I).role = ro := ⟨_, rfl⟩
  obtain ⟨aq, hasn⟩ : ∃ aq, t.asked = aq := ⟨_, rfl⟩
  rw [hno, hre, hro] at her
  obtain ⟨Q, hQ⟩ : ∃ Q : World → Prop, (fun w' => ∃ xs', TownX w0 tb (t.act a) xs' w') = Q := ⟨_, rfl⟩
  have TLS : Hid (∀ B8 o, Tails (b0.put B8 o) tb { t with asked := t.asked + 1 } xs I C #[.int .i64 1, .int .i64 ai, .int .i64 ak, .int .i64 ac, .bool af] Q) := fun B8 o => by
    have := Tails.of (w0 := w0) (tb := tb) (xs := xs) (B := B) (o := .cells (deedV a) 62 (0, 0)) (B8 := B8) (o8 := o) (t := { t with asked := t.asked + 1 }) (T := T) (D := D) hi h7 hodd hao ⟨hb.notes, hb.ents, hb.net, hb.done, hb.lead⟩ ((few_append hfit.n7 (d := t.data) (by simp [Town.data])).up (by omega) (Nat.le_refl _)) hT hD hcut hA
    rw [hb0, hC, hQ] at this
    rw [← hav]
    exact this
  have APPD : Hid (∀ W b, TownX b tb t xs W → Calls Try.prog 13 #[.pointer (some ⟨xs I, 0, none⟩), .string (str [UInt8.ofNat (97 + aq % 26), UInt8.ofNat (aq / 26)])] W fun e w' => ∃ A1 n1 c1 A2 n2 c2, e = .returned (.tuple #[.int .i64 no, .agg #[.slice A1 n1 c1, .slice A2 n2 c2], .int .i64 er]) ∧ Hid (TownW b tb { t with X := upd t.X I C.q } xs (.agg #[.slice A1 n1 c1, .slice A2 n2 c2]) C.ns C.ms w')) := fun W b hW => by
    rw [← hasn]
    refine (append_t hW hi hfit t.data (by simp [Town.data])).mono ?_
    rintro e w' ⟨v, rfl, hh⟩
    obtain ⟨A1, n1, c1, A2, n2, c2, rfl⟩ := hh.form
    rw [hC] at hh
    exact ⟨A1, n1, c1, A2, n2, c2, by rw [hno, hre], hh⟩
  have ROLE : Hid (∀ W b, TownX b tb t xs W → Calls Try.prog 16 #[.pointer (some ⟨xs I, 0, none⟩)] W fun e w' => e = .returned (.int .i64 ro) ∧ W = w') := fun W b hW => by
    rw [← hro]
    exact role_t hW hi hfit
  have ASKS : Hid (∀ W b ns ms v, TownW b tb { t with X := upd t.X I C.q } xs v ns ms W → W.cell? ⟨tb, 6, none⟩ = some (.int .i64 (aq : Int)) ∧ W.frozen? ⟨tb, 6, none⟩ = false ∧ Hid (TownW b tb { t with X := upd t.X I C.q, asked := t.asked + 1 } xs v ns ms (W.setCell ⟨tb, 6, none⟩ (.int .i64 ((aq : Int) + 1))))) := fun W b ns ms v hW => by
    rw [← hasn]
    exact hW.asks
  have AC : Hid (∀ W b, TownX b tb t xs W → W.cell? ⟨tb, 6, none⟩ = some (.int .i64 (aq : Int))) := fun W b hW => by
    rw [← hasn]
    exact hW.askedC
  have HER := Lib.hid her
  have HAS : Hid (aq ≤ 1000) := by rw [← hasn]; exact has
  obtain ⟨W0, hW0⟩ : ∃ W0, w.alloc (.cells #[.int .i64 1, .int .i64 ai, .int .i64 ak, .int .i64 ac, .bool af] 62) = W0 := ⟨_, rfl⟩
  have H0 : Hid (TownX b0 tb t xs W0) := by
    have := h.box (.cells (deedV a) 62 (0, 0))
    rw [hB, hb0, hav, hW0] at this
    exact this
  have NC : Hid (∀ W, TownX b0 tb t xs W → W.cell? ⟨tb, 0, none⟩ = some (.int .i64 (n : Int))) := fun W hW => by rw [← hn]; exact hW.ncell
  have XC : Hid (∀ W, TownX b0 tb t xs W → ∃ g c, W.cell? ⟨tb, 1, none⟩ = some (.slice (some ⟨g, 0, none⟩) n c) ∧ W.cell? ⟨g, I, none⟩ = some (.pointer (some ⟨xs I, 0, none⟩))) := fun W hW => by
    obtain ⟨g, c, _, e1, e2⟩ := hW.xcells hi
    rw [← hn]; exact ⟨g, c, e1, e2⟩
  have DC : Hid (∀ W, TownX b0 tb t xs W → W.heap[B]? = some (.cells #[.int .i64 1, .int .i64 ai, .int .i64 ak, .int .i64 ac, .bool af] 62 (0, 0))) := fun W hW => by
    rw [← hav]
    exact hW.boxed (by rw [← hb0]; exact List.mem_cons_self ..)
  have DL : Hid (∀ W, TownX b0 tb t xs W → W.cell? ⟨B, 0, none⟩ = some (.int .i64 1) ∧ W.cell? ⟨B, 1, none⟩ = some (.int .i64 ai) ∧ W.cell? ⟨B, 2, none⟩ = some (.int .i64 ak) ∧ W.cell? ⟨B, 3, none⟩ = some (.int .i64 ac) ∧ W.cell? ⟨B, 4, none⟩ = some (.bool af)) := fun W hW => by
    have := DC.out W hW
    refine ⟨by rw [cells_all this]; rfl, by rw [cells_all this]; rfl, by rw [cells_all this]; rfl, by rw [cells_all this]; rfl, by rw [cells_all this]; rfl⟩
  have i1 : (0 : Int) ≤ (I : Int) := by omega
  have i2 : (I : Int) < (n : Int) := by omega
  have c0 := NC.out W0 H0.out
  obtain ⟨d0, d1, d2, d3, d4⟩ := DL.out W0 H0.out
  have FIN : Hid (∀ W, Q W → ∃ xs', TownX w0 tb (t.act a) xs' W) := fun W h => by rw [← hQ] at h; exact h
  have HN := Lib.hid (And.intro hn h7)
  have HCUT := Lib.hid (And.intro hb0 hav)
  have HH := Lib.hid h
  clear hno hre hro has hasn h hC hQ hact hI hfit hao her hai hak hac haf hb0 hav hk ht hb hA hn h7 h0 hodd hi hcut
  rw [HCUT.out.2]
  go_enter Try.func20, Try.ntmps20
  go_wp2_with fail
  clear hB hW0
  go_upto_region 1 with fail
  have HKE := Lib.hid hIe
  go_cut [5] (fun s5 wx => s5 = .int .i64 (I : Int) ∧ Hid (Out Zone.no W0 wx))
  case first =>
    clear APPD ROLE ASKS AC TLS HER NC XC DC DL H0 HH HCUT HN
    go_quiet (fail)
    go_wp2_with fail
    go_meet
    exact ⟨by first | rfl | rw [HKE.out], (Out.refl _ _).drewN nq⟩
  case rest =>
  obtain ⟨rfl, hcut⟩ := hcut
  obtain ⟨W1, hW1⟩ : ∃ W1, wc = W1 := ⟨_, rfl⟩
  rw [hW1] at hcut ⊢
  have H1 := Lib.hid (H0.out.any hcut.out)
  clear hcut hW1 d0 d1 d2 d3 d4 c0 hIe w1e w2e z1 z2
  obtain ⟨g, c, x1, x2⟩ := XC.out W1 H1.out
  obtain ⟨B8, hB8⟩ : ∃ B8, W1.heap.size = B8 := ⟨_, rfl⟩
  obtain ⟨W2, hW2⟩ : ∃ W2, W1.alloc (.cells #[.slice none 0 0, .slice none 0 0] 32) = W2 := ⟨_, rfl⟩
  have HNB : Hid (∀ p ∈ b0.bx, p.1 ≠ B8) := fun p hp => by have := heap_lt (H1.out.boxed (k := p.1) (o := p.2) hp); omega
  have H2 : Hid (TownX (b0.put B8 (.cells #[.slice none 0 0, .slice none 0 0] 32 (0, 0))) tb t xs W2) := by
    have := H1.out.box (.cells #[.slice none 0 0, .slice none 0 0] 32)
    rw [hB8, hW2] at this
    exact this
  obtain ⟨d0, d1, d2, d3, d4⟩ := DL.out W2 H2.out.unput
  have RO := Lib.hid (ROLE.out _ _ H2.out)
  clear ROLE H1
  go_upto_region 12 with (first
    | (go_at_call 16; refine RO.out.mono ?_; rintro e w2 ⟨rfl, rfl⟩))
  clear d0 d1 d2 d3 d4 x1 x2 RO
  obtain ⟨b1, hb1⟩ : ∃ b1, b0.put B8 (.cells #[.slice none 0 0, .slice none 0 0] 32 (0, 0)) = b1 := ⟨_, rfl⟩
  have HB1 := Lib.hid hb1
  rw [hb1] at H2
  clear hb1
  obtain ⟨rr, hrr⟩ : ∃ rr, (aq : Int).tmod 26 = rr := ⟨_, rfl⟩
  obtain ⟨qq, hqq⟩ : ∃ qq, (aq : Int).tdiv 26 = qq := ⟨_, rfl⟩
  obtain ⟨x1, hx1⟩ : ∃ x1, ((97 + aq % 26 : Nat) : Int) = x1 := ⟨_, rfl⟩
  obtain ⟨x2, hx2⟩ : ∃ x2, ((aq / 26 : Nat) : Int) = x2 := ⟨_, rfl⟩
  have haq := HAS.out
  have r1 : rr = ((aq % 26 : Nat) : Int) := by rw [← hrr, Int.tmod_eq_emod_of_nonneg (by omega)]; rfl
  have r2 : qq = ((aq / 26 : Nat) : Int) := by rw [← hqq, Int.tdiv_eq_ediv_of_nonneg (by omega)]; rfl
  have v1 : IntKind.i64.wrap rr = rr := IntWalk.i64_in _ (by omega)
  have v2 : IntKind.i64.wrap (97 + rr) = 97 + rr := IntWalk.i64_in _ (by omega)
  have v3 : IntKind.u8.wrap (97 + rr) = x1 := by rw [IntWalk.u8_in _ (by omega)]; omega
  have v4 : IntKind.i64.wrap qq = qq := IntWalk.i64_in _ (by omega)
  have v5 : IntKind.u8.wrap qq = x2 := by rw [IntWalk.u8_in _ (by omega)]; omega
  obtain ⟨SD, hSD⟩ : ∃ SD, str [UInt8.ofNat (97 + aq % 26), UInt8.ofNat (aq / 26)] = SD := ⟨_, rfl⟩
  rw [hSD] at APPD
  have e1 : x1 = ((UInt8.ofNat (97 + aq % 26)).toNat : Int) := by rw [← hx1, UInt8.toNat_ofNat', Nat.mod_eq_of_lt (show 97 + aq % 26 < 2 ^ 8 by omega)]
  have e2 : x2 = ((UInt8.ofNat (aq / 26)).toNat : Int) := by rw [← hx2, UInt8.toNat_ofNat', Nat.mod_eq_of_lt (show aq / 26 < 2 ^ 8 by omega)]
  have cv : ∀ W : World, ∀ g : Nat, W.heap[g]? = some (.cells #[.int .u8 x1, .int .u8 x2] 5 (0, 0)) → (convert 83 9 (.slice (some ⟨g, 0, none⟩) 2 2)).run Try.prog W = .ok (.string SD) W := fun W g h => by rw [← hSD]; exact two_string e1 e2 h
  have z0 : ∀ W : World, (W.alloc (.cells #[.int .u8 x1, .int .u8 x2] 5)).heap[W.heap.size]? = some (.cells #[.int .u8 x1, .int .u8 x2] 5 (0, 0)) := fun W => heap_alloc_new W _
  have hsb : (W2.alloc (.cells #[.slice none 0 0, .slice none 0 0] 32)).heap.size = W2.heap.size + 1 := by simp
  have hsx : (W2.alloc (.cells #[.int .u8 x1, .int .u8 x2] 5)).heap.size = W2.heap.size + 1 := by simp
  have cv1 := cv (W2.alloc (.cells #[.int .u8 x1, .int .u8 x2] 5)).drew W2.heap.size (z0 W2)
  have cv2 := cv ((W2.alloc (.cells #[.slice none 0 0, .slice none 0 0] 32)).alloc (.cells #[.int .u8 x1, .int .u8 x2] 5)).drew (W2.heap.size + 1) (by have := z0 (W2.alloc (.cells #[.slice none 0 0, .slice none 0 0] 32)); rw [hsb] at this; exact this)
  have cv3 := cv ((W2.alloc (.cells #[.int .u8 x1, .int .u8 x2] 5)).alloc (.cells #[.slice none 0 0, .slice none 0 0] 32)).drew W2.heap.size (((Out.refl Zone.no _).alloc _).get (z0 W2) id)
  clear cv z0 e1 e2 hSD hx1 hx2 r1 r2 haq
  have HX1 : Hid (TownX b1 tb t xs (W2.alloc (.cells #[.int .u8 x1, .int .u8 x2] 5)).drew) := H2.out.any (((Out.refl _ _).alloc _).drew)
  have HX2 : Hid (TownX (b1.put W2.heap.size (.cells #[.slice none 0 0, .slice none 0 0] 32 (0, 0))) tb t xs ((W2.alloc (.cells #[.slice none 0 0, .slice none 0 0] 32)).alloc (.cells #[.int .u8 x1, .int .u8 x2] 5)).drew) := (H2.out.box _).any (((Out.refl _ _).alloc _).drew)
  have HX3 : Hid (TownX (b1.put (W2.heap.size + 1) (.cells #[.slice none 0 0, .slice none 0 0] 32 (0, 0))) tb t xs ((W2.alloc (.cells #[.int .u8 x1, .int .u8 x2] 5)).alloc (.cells #[.slice none 0 0, .slice none 0 0] 32)).drew) := by
    have := ((H2.out.any ((Out.refl _ _).alloc (.cells #[.int .u8 x1, .int .u8 x2] 5))).box (.cells #[.slice none 0 0, .slice none 0 0] 32)).any ((Out.refl _ _).drew)
    rw [hsx] at this
    exact this
  have NB2 : Hid (∀ p ∈ b1.bx, p.1 ≠ W2.heap.size) := fun p hp => by have := heap_lt (H2.out.boxed (k := p.1) (o := p.2) hp); omega
  have NB3 : Hid (∀ p ∈ b1.bx, p.1 ≠ W2.heap.size + 1) := fun p hp => by have := heap_lt (H2.out.boxed (k := p.1) (o := p.2) hp); omega
  clear hsb hsx
  have y6 := AC.out _ _ (H2.out.any ((Out.refl _ _).drew))
  have AL : Hid (∀ (W : World) (o : Obj), W.cell? ⟨tb, 6, none⟩ = some (.int .i64 (aq : Int)) → (W.alloc o).cell? ⟨tb, 6, none⟩ = some (.int .i64 (aq : Int))) := fun W o h => ((Out.refl Zone.no W).alloc o).cell h id
  have Y1 := AC.out _ _ HX1.out
  have Y2 := AC.out _ _ HX2.out
  have Y3 := AC.out _ _ HX3.out
  have Y4 := AC.out _ _ (H2.out.any (((Out.refl _ _).alloc (.cells #[.slice none 0 0, .slice none 0 0] 32)).drew))
  go_cut [12, 13, 14] (fun s12 s13 s14 wx => Exists fun BB => Exists fun A1 => Exists fun n1 => Exists fun c1 => Exists fun A2 => Exists fun n2 => Exists fun c2 => s12 = .int .i64 no ∧ s13 = .pointer (some ⟨BB, 0, none⟩) ∧ s14 = .int .i64 er ∧ Hid (Boxed b1 tb { t with X := upd t.X I C.q } xs A1 n1 c1 A2 n2 c2 C.ns C.ms BB wx))
  case first =>
    clear TLS HER NC XC DC DL HCUT HN HH FIN HNB BXD H0 HAS HB1 HKE
    refine wp_region_noPanic ?_
    refine wp_region_held_drew (S := fun W => W.cell? ⟨tb, 6, none⟩ = some (.int .i64 (aq : Int))) (by kernel_rfl) y6 (fun hHeld => ?_)
    refine wpAnyH_take (i := 0) (oi := { dst := some 62, op := Op.move (Operand.tmp 6), type := 22, pos := "law.go:223", after := #[], guard := none }) (v := .pointer (some ⟨xs I, 0, none⟩)) rfl (by kernel_rfl) (by kernel_rfl) (by kernel_rfl) (fun _ _ _ h => h) (Or.inl ⟨by rfl, ?_⟩) (by assumption) ?_
    · intro w hSw
      (try dsimp only at hSw)
      go_simp
    try simp only [Act.put, List.setIfInBounds_toArray, List.set_cons_zero, List.set_cons_succ]
    refine wpAnyH_take (i := 1) (oi := { dst := some 63, op := Op.move (Operand.tmp 0), type := 58, pos := "law.go:223", after := #[], guard := none }) (v := .pointer (some ⟨tb, 0, none⟩)) rfl (by kernel_rfl) (by kernel_rfl) (by kernel_rfl) (fun _ _ _ h => h) (Or.inl ⟨by rfl, ?_⟩) (by assumption) ?_
    · intro w hSw
      (try dsimp only at hSw)
      go_simp
    try simp only [Act.put, List.setIfInBounds_toArray, List.set_cons_zero, List.set_cons_succ]
    refine wpAnyH_take (i := 2) (oi := { dst := some 64, op := Op.nilCheck (Operand.tmp 63), type := 0, pos := "law.go:223", after := #[{ on := 1, ground := Ground.data }], guard := none }) (v := .pointer (some ⟨tb, 0, none⟩)) rfl (by kernel_rfl) (by kernel_rfl) (by kernel_rfl) (fun _ _ _ h => h) (Or.inl ⟨by rfl, ?_⟩) (by assumption) ?_
    · intro w hSw
      (try dsimp only at hSw)
      go_simp
    try simp only [Act.put, List.setIfInBounds_toArray, List.set_cons_zero, List.set_cons_succ]
    refine wpAnyH_take (i := 3) (oi := { dst := some 65, op := Op.fieldAddr 68 (Operand.tmp 64) 6, type := 0, pos := "law.go:223", after := #[{ on := 2, ground := Ground.data }], guard := none }) (v := .pointer (some ⟨tb, 6, none⟩)) rfl (by kernel_rfl) (by kernel_rfl) (by kernel_rfl) (fun _ _ _ h => h) (Or.inl ⟨by rfl, ?_⟩) (by assumption) ?_
    · intro w hSw
      (try dsimp only at hSw)
      go_simp
    try simp only [Act.put, List.setIfInBounds_toArray, List.set_cons_zero, List.set_cons_succ]
    refine wpAnyH_take (i := 4) (oi := { dst := some 66, op := Op.load 3 (Operand.tmp 65), type := 3, pos := "law.go:223", after := #[{ on := 3, ground := Ground.data }], guard := none }) (v := .int .i64 (aq : Int)) rfl (by kernel_rfl) (by kernel_rfl) (by kernel_rfl) (fun _ _ _ h => h) (Or.inl ⟨by rfl, ?_⟩) (by assumption) ?_
    · intro w hSw
      (try dsimp only at hSw)
      go_simp
    try simp only [Act.put, List.setIfInBounds_toArray, List.set_cons_zero, List.set_cons_succ]
    refine wpAnyH_take (i := 5) (oi := { dst := some 67, op := Op.binOp BinOp.rem 3 (Operand.tmp 66) (Operand.const (Value.int IntKind.i64 26)) 3, type := 3, pos := "law.go:223", after := #[{ on := 4, ground := Ground.data }], guard := none }) (v := .int .i64 rr) rfl (by kernel_rfl) (by kernel_rfl) (by kernel_rfl) (fun _ _ _ h => h) (Or.inl ⟨by rfl, ?_⟩) (by assumption) ?_
    · intro w hSw
      (try dsimp only at hSw)
      go_simp
    try simp only [Act.put, List.setIfInBounds_toArray, List.set_cons_zero, List.set_cons_succ]
    refine wpAnyH_take (i := 6) (oi := { dst := some 68, op := Op.binOp BinOp.add 3 (Operand.const (Value.int IntKind.i64 97)) (Operand.tmp 67) 3, type := 3, pos := "law.go:223", after := #[{ on := 5, ground := Ground.data }], guard := none }) (v := .int .i64 (97 + rr)) rfl (by kernel_rfl) (by kernel_rfl) (by kernel_rfl) (fun _ _ _ h => h) (Or.inl ⟨by rfl, ?_⟩) (by assumption) ?_
    · intro w hSw
      (try dsimp only at hSw)
      go_simp
    try simp only [Act.put, List.setIfInBounds_toArray, List.set_cons_zero, List.set_cons_succ]
    refine wpAnyH_take (i := 7) (oi := { dst := some 69, op := Op.convert 3 5 (Operand.tmp 68), type := 5, pos := "law.go:223", after := #[{ on := 6, ground := Ground.data }], guard := none }) (v := .int .u8 x1) rfl (by kernel_rfl) (by kernel_rfl) (by kernel_rfl) (fun _ _ _ h => h) (Or.inl ⟨by rfl, ?_⟩) (by assumption) ?_
    · intro w hSw
      (try dsimp only at hSw)
      go_simp
    try simp only [Act.put, List.setIfInBounds_toArray, List.set_cons_zero, List.set_cons_succ]
    refine wpAnyH_take (i := 8) (oi := { dst := some 70, op := Op.move (Operand.tmp 0), type := 58, pos := "law.go:223", after := #[], guard := none }) (v := .pointer (some ⟨tb, 0, none⟩)) rfl (by kernel_rfl) (by kernel_rfl) (by kernel_rfl) (fun _ _ _ h => h) (Or.inl ⟨by rfl, ?_⟩) (by assumption) ?_
    · intro w hSw
      (try dsimp only at hSw)
      go_simp
    try simp only [Act.put, List.setIfInBounds_toArray, List.set_cons_zero, List.set_cons_succ]
    refine wpAnyH_take (i := 9) (oi := { dst := some 71, op := Op.nilCheck (Operand.tmp 70), type := 0, pos := "law.go:223", after := #[{ on := 8, ground := Ground.data }], guard := none }) (v := .pointer (some ⟨tb, 0, none⟩)) rfl (by kernel_rfl) (by kernel_rfl) (by kernel_rfl) (fun _ _ _ h => h) (Or.inl ⟨by rfl, ?_⟩) (by assumption) ?_
    · intro w hSw
      (try dsimp only at hSw)
      go_simp
    try simp only [Act.put, List.setIfInBounds_toArray, List.set_cons_zero, List.set_cons_succ]
    refine wpAnyH_take (i := 10) (oi := { dst := some 72, op := Op.fieldAddr 68 (Operand.tmp 71) 6, type := 0, pos := "law.go:223", after := #[{ on := 9, ground := Ground.data }], guard := none }) (v := .pointer (some ⟨tb, 6, none⟩)) rfl (by kernel_rfl) (by kernel_rfl) (by kernel_rfl) (fun _ _ _ h => h) (Or.inl ⟨by rfl, ?_⟩) (by assumption) ?_
    · intro w hSw
      (try dsimp only at hSw)
      go_simp
    try simp only [Act.put, List.setIfInBounds_toArray, List.set_cons_zero, List.set_cons_succ]
    refine wpAnyH_take (i := 11) (oi := { dst := some 73, op := Op.load 3 (Operand.tmp 72), type := 3, pos := "law.go:223", after := #[{ on := 10, ground := Ground.data }], guard := none }) (v := .int .i64 (aq : Int)) rfl (by kernel_rfl) (by kernel_rfl) (by kernel_rfl) (fun _ _ _ h => h) (Or.inl ⟨by rfl, ?_⟩) (by assumption) ?_
    · intro w hSw
      (try dsimp only at hSw)
      go_simp
    try simp only [Act.put, List.setIfInBounds_toArray, List.set_cons_zero, List.set_cons_succ]
    refine wpAnyH_take (i := 12) (oi := { dst := some 74, op := Op.binOp BinOp.quo 3 (Operand.tmp 73) (Operand.const (Value.int IntKind.i64 26)) 3, type := 3, pos := "law.go:223", after := #[{ on := 11, ground := Ground.data }], guard := none }) (v := .int .i64 qq) rfl (by kernel_rfl) (by kernel_rfl) (by kernel_rfl) (fun _ _ _ h => h) (Or.inl ⟨by rfl, ?_⟩) (by assumption) ?_
    · intro w hSw
      (try dsimp only at hSw)
      go_simp
    try simp only [Act.put, List.setIfInBounds_toArray, List.set_cons_zero, List.set_cons_succ]
    refine wpAnyH_take (i := 13) (oi := { dst := some 75, op := Op.convert 3 5 (Operand.tmp 74), type := 5, pos := "law.go:223", after := #[{ on := 12, ground := Ground.data }], guard := none }) (v := .int .u8 x2) rfl (by kernel_rfl) (by kernel_rfl) (by kernel_rfl) (fun _ _ _ h => h) (Or.inl ⟨by rfl, ?_⟩) (by assumption) ?_
    · intro w hSw
      (try dsimp only at hSw)
      go_simp
    try simp only [Act.put, List.setIfInBounds_toArray, List.set_cons_zero, List.set_cons_succ]
    refine wpAnyH_ready (rs := [14, 21]) (by kernel_rfl) (by simp) ?_
    refine AllReadyH.cons (o := { dst := some 76, op := Op.buildSlice 83 2 #[(0, Operand.tmp 69), (1, Operand.tmp 75)], type := 83, pos := "law.go:223", after := #[{ on := 7, ground := Ground.data }, { on := 13, ground := Ground.data }], guard := none }) rfl (fun K hK => ?_) ?_
    · go_simp
      refine hK.out _ _ ?_ (fun hHeld => ?_)
      · (try dsimp only); first | assumption | exact AL.out _ _ (by assumption) | exact AL.out _ _ (AL.out _ _ (by assumption))
      · clear hK K
        try simp only [Act.put, List.setIfInBounds_toArray, List.set_cons_zero, List.set_cons_succ]
        refine wpAnyH_ready (rs := [15, 21]) (by kernel_rfl) (by simp) ?_
        refine AllReadyH.cons (o := { dst := some 77, op := Op.convert 83 9 (Operand.tmp 76), type := 9, pos := "law.go:223", after := #[{ on := 14, ground := Ground.data }], guard := none }) rfl (fun K hK => ?_) ?_
        · go_simp
          refine hK.out _ _ ?_ (fun hHeld => ?_)
          · (try dsimp only); first | assumption | exact AL.out _ _ (by assumption) | exact AL.out _ _ (AL.out _ _ (by assumption))
          · clear hK K
            try simp only [Act.put, List.setIfInBounds_toArray, List.set_cons_zero, List.set_cons_succ]
            refine wpAnyH_ready (rs := [16, 21]) (by kernel_rfl) (by simp) ?_
            refine AllReadyH.cons (o := { dst := some 78, op := Op.call { callee := Callee.value (Operand.func 13), args := #[Operand.tmp 62, Operand.tmp 77], argTypes := #[22, 9] }, type := 47, pos := "law.go:223", after := #[{ on := 0, ground := Ground.data }, { on := 15, ground := Ground.data }], guard := none }) rfl (fun K hK => ?_) ?_
            · go_simp
              go_at_call 13
              with_reducible refine (APPD.out _ _ HX1.out).mono ?_
              rintro e w3 ⟨A1, n1, c1, A2, n2, c2, rfl, h3⟩
              have y7 := (ASKS.out _ _ _ _ _ h3.out).1
              obtain ⟨k0, k1, k2, k3, h4⟩ := h3.out.boxLate (.slice none 0 0) (.slice none 0 0)
              have y8 := (ASKS.out _ _ _ _ _ h4.out.tw).1
              have h6 := Lib.hid h3.out.boxNew
              have y9 := (ASKS.out _ _ _ _ _ h6.out.tw).1
              refine hK.out _ _ ?_ (fun hHeld => ?_)
              · (try dsimp only); first | assumption | exact AL.out _ _ (by assumption) | exact AL.out _ _ (AL.out _ _ (by assumption))
              · clear hK K
                try simp only [Act.put, List.setIfInBounds_toArray, List.set_cons_zero, List.set_cons_succ]
                refine wpAnyH_take (i := 17) (oi := { dst := some 61, op := Op.move (Operand.tmp 78), type := 47, pos := "law.go:223", after := #[{ on := 16, ground := Ground.data }], guard := none }) (v := .tuple #[.int .i64 no, .agg #[.slice A1 n1 c1, .slice A2 n2 c2], .int .i64 er]) rfl (by kernel_rfl) (by kernel_rfl) (by kernel_rfl) (fun _ _ _ h => h) (Or.inl ⟨by rfl, ?_⟩) (by assumption) ?_
                · intro w hSw
                  (try dsimp only at hSw)
                  go_simp
                try simp only [Act.put, List.setIfInBounds_toArray, List.set_cons_zero, List.set_cons_succ]
                refine wpAnyH_take (i := 18) (oi := { dst := some 79, op := Op.extract (Operand.tmp 61) 0, type := 3, pos := "law.go:223", after := #[{ on := 17, ground := Ground.data }], guard := none }) (v := .int .i64 no) rfl (by kernel_rfl) (by kernel_rfl) (by kernel_rfl) (fun _ _ _ h => h) (Or.inl ⟨by rfl, ?_⟩) (by assumption) ?_
                · intro w hSw
                  (try dsimp only at hSw)
                  go_simp
                try simp only [Act.put, List.setIfInBounds_toArray, List.set_cons_zero, List.set_cons_succ]
                refine wpAnyH_take (i := 19) (oi := { dst := some 80, op := Op.extract (Operand.tmp 61) 1, type := 32, pos := "law.go:223", after := #[{ on := 17, ground := Ground.data }, { on := 22, ground := Ground.gcOnly Departure.lateStores }], guard := none }) (v := .agg #[.slice A1 n1 c1, .slice A2 n2 c2]) rfl (by kernel_rfl) (by kernel_rfl) (by kernel_rfl) (fun _ _ _ h => h) (Or.inl ⟨by rfl, ?_⟩) (by assumption) ?_
                · intro w hSw
                  (try dsimp only at hSw)
                  go_simp
                try simp only [Act.put, List.setIfInBounds_toArray, List.set_cons_zero, List.set_cons_succ]
                refine wpAnyH_take (i := 20) (oi := { dst := some 81, op := Op.extract (Operand.tmp 61) 2, type := 23, pos := "law.go:223", after := #[{ on := 17, ground := Ground.data }, { on := 23, ground := Ground.gcOnly Departure.lateStores }], guard := none }) (v := .int .i64 er) rfl (by kernel_rfl) (by kernel_rfl) (by kernel_rfl) (fun _ _ _ h => h) (Or.inl ⟨by rfl, ?_⟩) (by assumption) ?_
                · intro w hSw
                  (try dsimp only at hSw)
                  go_simp
                try simp only [Act.put, List.setIfInBounds_toArray, List.set_cons_zero, List.set_cons_succ]
                refine wpAnyH_ready (rs := [21]) (by kernel_rfl) (by simp) ?_
                refine AllReadyH.cons (o := { dst := some 13, op := Op.alloc 32, type := 0, pos := "law.go:223", after := #[], guard := none }) rfl (fun K hK => ?_) ?_
                · go_simp
                  refine hK.out _ _ ?_ (fun hHeld => ?_)
                  · (try dsimp only); first | assumption | exact AL.out _ _ (by assumption) | exact AL.out _ _ (AL.out _ _ (by assumption))
                  · clear hK K
                    try simp only [Act.put, List.setIfInBounds_toArray, List.set_cons_zero, List.set_cons_succ]
                    refine wpAnyH_take (i := 22) (oi := { dst := some 12, op := Op.assign (Operand.tmp 79), type := 3, pos := "law.go:223", after := #[{ on := 18, ground := Ground.data }, { on := 16, ground := Ground.chain }, { on := 0, ground := Ground.phase }, { on := 1, ground := Ground.phase }, { on := 2, ground := Ground.phase }, { on := 3, ground := Ground.phase }, { on := 4, ground := Ground.phase }, { on := 5, ground := Ground.phase }, { on := 6, ground := Ground.phase }, { on := 7, ground := Ground.phase }, { on := 8, ground := Ground.phase }, { on := 9, ground := Ground.phase }, { on := 10, ground := Ground.phase }, { on := 11, ground := Ground.phase }, { on := 12, ground := Ground.phase }, { on := 13, ground := Ground.phase }, { on := 14, ground := Ground.phase }, { on := 15, ground := Ground.phase }, { on := 16, ground := Ground.phase }, { on := 17, ground := Ground.phase }, { on := 18, ground := Ground.phase }, { on := 19, ground := Ground.textOnly Departure.lateStores }, { on := 20, ground := Ground.textOnly Departure.lateStores }, { on := 21, ground := Ground.phase }], guard := none }) (v := .int .i64 no) rfl (by kernel_rfl) (by kernel_rfl) (by kernel_rfl) (fun _ _ _ h => h) (Or.inl ⟨by rfl, ?_⟩) (by assumption) ?_
                    · intro w hSw
                      (try dsimp only at hSw)
                      go_simp
                    try simp only [Act.put, List.setIfInBounds_toArray, List.set_cons_zero, List.set_cons_succ]
                    refine wpAnyH_ready (rs := [23]) (by kernel_rfl) (by simp) ?_
                    refine AllReadyH.cons (o := { dst := none, op := Op.store 32 (Operand.tmp 13) (Operand.tmp 80), type := 0, pos := "law.go:223", after := #[{ on := 21, ground := Ground.data }, { on := 19, ground := Ground.data }, { on := 22, ground := Ground.chain }, { on := 0, ground := Ground.phase }, { on := 1, ground := Ground.phase }, { on := 2, ground := Ground.phase }, { on := 3, ground := Ground.phase }, { on := 4, ground := Ground.phase }, { on := 5, ground := Ground.phase }, { on := 6, ground := Ground.phase }, { on := 7, ground := Ground.phase }, { on := 8, ground := Ground.phase }, { on := 9, ground := Ground.phase }, { on := 10, ground := Ground.phase }, { on := 11, ground := Ground.phase }, { on := 12, ground := Ground.phase }, { on := 13, ground := Ground.phase }, { on := 14, ground := Ground.phase }, { on := 15, ground := Ground.phase }, { on := 16, ground := Ground.phase }, { on := 17, ground := Ground.phase }, { on := 18, ground := Ground.phase }, { on := 19, ground := Ground.phase }, { on := 20, ground := Ground.textOnly Departure.lateStores }, { on := 21, ground := Ground.phase }, { on := 22, ground := Ground.phase }], guard := none }) rfl (fun K hK => ?_) ?_
                    · go_simp
                      refine hK.out _ _ ?_ (fun hHeld => ?_)
                      · (try dsimp only); first | assumption | exact AL.out _ _ (by assumption) | exact AL.out _ _ (AL.out _ _ (by assumption))
                      · clear hK K
                        try simp only [Act.put, List.setIfInBounds_toArray, List.set_cons_zero, List.set_cons_succ]
                        refine wpAnyH_take (i := 24) (oi := { dst := some 14, op := Op.assign (Operand.tmp 81), type := 23, pos := "law.go:223", after := #[{ on := 20, ground := Ground.data }, { on := 23, ground := Ground.chain }, { on := 0, ground := Ground.phase }, { on := 1, ground := Ground.phase }, { on := 2, ground := Ground.phase }, { on := 3, ground := Ground.phase }, { on := 4, ground := Ground.phase }, { on := 5, ground := Ground.phase }, { on := 6, ground := Ground.phase }, { on := 7, ground := Ground.phase }, { on := 8, ground := Ground.phase }, { on := 9, ground := Ground.phase }, { on := 10, ground := Ground.phase }, { on := 11, ground := Ground.phase }, { on := 12, ground := Ground.phase }, { on := 13, ground := Ground.phase }, { on := 14, ground := Ground.phase }, { on := 15, ground := Ground.phase }, { on := 16, ground := Ground.phase }, { on := 17, ground := Ground.phase }, { on := 18, ground := Ground.phase }, { on := 19, ground := Ground.phase }, { on := 20, ground := Ground.phase }, { on := 21, ground := Ground.phase }, { on := 22, ground := Ground.phase }, { on := 23, ground := Ground.phase }], guard := none }) (v := .int .i64 er) rfl (by kernel_rfl) (by kernel_rfl) (by kernel_rfl) (fun _ _ _ h => h) (Or.inl ⟨by rfl, ?_⟩) (by assumption) ?_
                        · intro w hSw
                          (try dsimp only at hSw)
                          go_simp
                        try simp only [Act.put, List.setIfInBounds_toArray, List.set_cons_zero, List.set_cons_succ]
                        refine wpAnyH_done (by kernel_rfl) ?_ _
                        refine NoPanic.normal ?_
                        go_wp2_with fail
                        go_meet
                        exact ⟨_, A1, n1, c1, A2, n2, c2, rfl, rfl, rfl, h6⟩
                    exact AllReadyH.nil
                exact AllReadyH.nil
            refine AllReadyH.cons (o := { dst := some 13, op := Op.alloc 32, type := 0, pos := "law.go:223", after := #[], guard := none }) rfl (fun K hK => ?_) ?_
            · go_simp
              refine hK.out _ _ ?_ (fun hHeld => ?_)
              · (try dsimp only); first | assumption | exact AL.out _ _ (by assumption) | exact AL.out _ _ (AL.out _ _ (by assumption))
              · clear hK K
                try simp only [Act.put, List.setIfInBounds_toArray, List.set_cons_zero, List.set_cons_succ]
                refine wpAnyH_ready (rs := [16]) (by kernel_rfl) (by simp) ?_
                refine AllReadyH.cons (o := { dst := some 78, op := Op.call { callee := Callee.value (Operand.func 13), args := #[Operand.tmp 62, Operand.tmp 77], argTypes := #[22, 9] }, type := 47, pos := "law.go:223", after := #[{ on := 0, ground := Ground.data }, { on := 15, ground := Ground.data }], guard := none }) rfl (fun K hK => ?_) ?_
                · go_simp
                  go_at_call 13
                  with_reducible refine (APPD.out _ _ HX3.out).mono ?_
                  rintro e w3 ⟨A1, n1, c1, A2, n2, c2, rfl, h3⟩
                  have y7 := (ASKS.out _ _ _ _ _ h3.out).1
                  obtain ⟨k0, k1, k2, k3, h4⟩ := h3.out.boxOld NB3.out
                  have y8 := (ASKS.out _ _ _ _ _ h4.out.tw).1
                  refine hK.out _ _ ?_ (fun hHeld => ?_)
                  · (try dsimp only); first | assumption | exact AL.out _ _ (by assumption) | exact AL.out _ _ (AL.out _ _ (by assumption))
                  · clear hK K
                    try simp only [Act.put, List.setIfInBounds_toArray, List.set_cons_zero, List.set_cons_succ]
                    refine wpAnyH_take (i := 17) (oi := { dst := some 61, op := Op.move (Operand.tmp 78), type := 47, pos := "law.go:223", after := #[{ on := 16, ground := Ground.data }], guard := none }) (v := .tuple #[.int .i64 no, .agg #[.slice A1 n1 c1, .slice A2 n2 c2], .int .i64 er]) rfl (by kernel_rfl) (by kernel_rfl) (by kernel_rfl) (fun _ _ _ h => h) (Or.inl ⟨by rfl, ?_⟩) (by assumption) ?_
                    · intro w hSw
                      (try dsimp only at hSw)
                      go_simp
                    try simp only [Act.put, List.setIfInBounds_toArray, List.set_cons_zero, List.set_cons_succ]
                    refine wpAnyH_take (i := 18) (oi := { dst := some 79, op := Op.extract (Operand.tmp 61) 0, type := 3, pos := "law.go:223", after := #[{ on := 17, ground := Ground.data }], guard := none }) (v := .int .i64 no) rfl (by kernel_rfl) (by kernel_rfl) (by kernel_rfl) (fun _ _ _ h => h) (Or.inl ⟨by rfl, ?_⟩) (by assumption) ?_
                    · intro w hSw
                      (try dsimp only at hSw)
                      go_simp
                    try simp only [Act.put, List.setIfInBounds_toArray, List.set_cons_zero, List.set_cons_succ]
                    refine wpAnyH_take (i := 19) (oi := { dst := some 80, op := Op.extract (Operand.tmp 61) 1, type := 32, pos := "law.go:223", after := #[{ on := 17, ground := Ground.data }, { on := 22, ground := Ground.gcOnly Departure.lateStores }], guard := none }) (v := .agg #[.slice A1 n1 c1, .slice A2 n2 c2]) rfl (by kernel_rfl) (by kernel_rfl) (by kernel_rfl) (fun _ _ _ h => h) (Or.inl ⟨by rfl, ?_⟩) (by assumption) ?_
                    · intro w hSw
                      (try dsimp only at hSw)
                      go_simp
                    try simp only [Act.put, List.setIfInBounds_toArray, List.set_cons_zero, List.set_cons_succ]
                    refine wpAnyH_take (i := 20) (oi := { dst := some 81, op := Op.extract (Operand.tmp 61) 2, type := 23, pos := "law.go:223", after := #[{ on := 17, ground := Ground.data }, { on := 23, ground := Ground.gcOnly Departure.lateStores }], guard := none }) (v := .int .i64 er) rfl (by kernel_rfl) (by kernel_rfl) (by kernel_rfl) (fun _ _ _ h => h) (Or.inl ⟨by rfl, ?_⟩) (by assumption) ?_
                    · intro w hSw
                      (try dsimp only at hSw)
                      go_simp
                    try simp only [Act.put, List.setIfInBounds_toArray, List.set_cons_zero, List.set_cons_succ]
                    refine wpAnyH_take (i := 22) (oi := { dst := some 12, op := Op.assign (Operand.tmp 79), type := 3, pos := "law.go:223", after := #[{ on := 18, ground := Ground.data }, { on := 16, ground := Ground.chain }, { on := 0, ground := Ground.phase }, { on := 1, ground := Ground.phase }, { on := 2, ground := Ground.phase }, { on := 3, ground := Ground.phase }, { on := 4, ground := Ground.phase }, { on := 5, ground := Ground.phase }, { on := 6, ground := Ground.phase }, { on := 7, ground := Ground.phase }, { on := 8, ground := Ground.phase }, { on := 9, ground := Ground.phase }, { on := 10, ground := Ground.phase }, { on := 11, ground := Ground.phase }, { on := 12, ground := Ground.phase }, { on := 13, ground := Ground.phase }, { on := 14, ground := Ground.phase }, { on := 15, ground := Ground.phase }, { on := 16, ground := Ground.phase }, { on := 17, ground := Ground.phase }, { on := 18, ground := Ground.phase }, { on := 19, ground := Ground.textOnly Departure.lateStores }, { on := 20, ground := Ground.textOnly Departure.lateStores }, { on := 21, ground := Ground.phase }], guard := none }) (v := .int .i64 no) rfl (by kernel_rfl) (by kernel_rfl) (by kernel_rfl) (fun _ _ _ h => h) (Or.inl ⟨by rfl, ?_⟩) (by assumption) ?_
                    · intro w hSw
                      (try dsimp only at hSw)
                      go_simp
                    try simp only [Act.put, List.setIfInBounds_toArray, List.set_cons_zero, List.set_cons_succ]
                    refine wpAnyH_ready (rs := [23]) (by kernel_rfl) (by simp) ?_
                    refine AllReadyH.cons (o := { dst := none, op := Op.store 32 (Operand.tmp 13) (Operand.tmp 80), type := 0, pos := "law.go:223", after := #[{ on := 21, ground := Ground.data }, { on := 19, ground := Ground.data }, { on := 22, ground := Ground.chain }, { on := 0, ground := Ground.phase }, { on := 1, ground := Ground.phase }, { on := 2, ground := Ground.phase }, { on := 3, ground := Ground.phase }, { on := 4, ground := Ground.phase }, { on := 5, ground := Ground.phase }, { on := 6, ground := Ground.phase }, { on := 7, ground := Ground.phase }, { on := 8, ground := Ground.phase }, { on := 9, ground := Ground.phase }, { on := 10, ground := Ground.phase }, { on := 11, ground := Ground.phase }, { on := 12, ground := Ground.phase }, { on := 13, ground := Ground.phase }, { on := 14, ground := Ground.phase }, { on := 15, ground := Ground.phase }, { on := 16, ground := Ground.phase }, { on := 17, ground := Ground.phase }, { on := 18, ground := Ground.phase }, { on := 19, ground := Ground.phase }, { on := 20, ground := Ground.textOnly Departure.lateStores }, { on := 21, ground := Ground.phase }, { on := 22, ground := Ground.phase }], guard := none }) rfl (fun K hK => ?_) ?_
                    · go_simp
                      refine hK.out _ _ ?_ (fun hHeld => ?_)
                      · (try dsimp only); first | assumption | exact AL.out _ _ (by assumption) | exact AL.out _ _ (AL.out _ _ (by assumption))
                      · clear hK K
                        try simp only [Act.put, List.setIfInBounds_toArray, List.set_cons_zero, List.set_cons_succ]
                        refine wpAnyH_take (i := 24) (oi := { dst := some 14, op := Op.assign (Operand.tmp 81), type := 23, pos := "law.go:223", after := #[{ on := 20, ground := Ground.data }, { on := 23, ground := Ground.chain }, { on := 0, ground := Ground.phase }, { on := 1, ground := Ground.phase }, { on := 2, ground := Ground.phase }, { on := 3, ground := Ground.phase }, { on := 4, ground := Ground.phase }, { on := 5, ground := Ground.phase }, { on := 6, ground := Ground.phase }, { on := 7, ground := Ground.phase }, { on := 8, ground := Ground.phase }, { on := 9, ground := Ground.phase }, { on := 10, ground := Ground.phase }, { on := 11, ground := Ground.phase }, { on := 12, ground := Ground.phase }, { on := 13, ground := Ground.phase }, { on := 14, ground := Ground.phase }, { on := 15, ground := Ground.phase }, { on := 16, ground := Ground.phase }, { on := 17, ground := Ground.phase }, { on := 18, ground := Ground.phase }, { on := 19, ground := Ground.phase }, { on := 20, ground := Ground.phase }, { on := 21, ground := Ground.phase }, { on := 22, ground := Ground.phase }, { on := 23, ground := Ground.phase }], guard := none }) (v := .int .i64 er) rfl (by kernel_rfl) (by kernel_rfl) (by kernel_rfl) (fun _ _ _ h => h) (Or.inl ⟨by rfl, ?_⟩) (by assumption) ?_
                        · intro w hSw
                          (try dsimp only at hSw)
                          go_simp
                        try simp only [Act.put, List.setIfInBounds_toArray, List.set_cons_zero, List.set_cons_succ]
                        refine wpAnyH_done (by kernel_rfl) ?_ _
                        refine NoPanic.normal ?_
                        go_wp2_with fail
                        go_meet
                        exact ⟨_, A1, n1, c1, A2, n2, c2, rfl, rfl, rfl, h4⟩
                    exact AllReadyH.nil
                exact AllReadyH.nil
            exact AllReadyH.nil
        refine AllReadyH.cons (o := { dst := some 13, op := Op.alloc 32, type := 0, pos := "law.go:223", after := #[], guard := none }) rfl (fun K hK => ?_) ?_
        · go_simp
          refine hK.out _ _ ?_ (fun hHeld => ?_)
          · (try dsimp only); first | assumption | exact AL.out _ _ (by assumption) | exact AL.out _ _ (AL.out _ _ (by assumption))
          · clear hK K
            try simp only [Act.put, List.setIfInBounds_toArray, List.set_cons_zero, List.set_cons_succ]
            refine wpAnyH_ready (rs := [15]) (by kernel_rfl) (by simp) ?_
            refine AllReadyH.cons (o := { dst := some 77, op := Op.convert 83 9 (Operand.tmp 76), type := 9, pos := "law.go:223", after := #[{ on := 14, ground := Ground.data }], guard := none }) rfl (fun K hK => ?_) ?_
            · go_simp
              refine hK.out _ _ ?_ (fun hHeld => ?_)
              · (try dsimp only); first | assumption | exact AL.out _ _ (by assumption) | exact AL.out _ _ (AL.out _ _ (by assumption))
              · clear hK K
                try simp only [Act.put, List.setIfInBounds_toArray, List.set_cons_zero, List.set_cons_succ]
                refine wpAnyH_ready (rs := [16]) (by kernel_rfl) (by simp) ?_
                refine AllReadyH.cons (o := { dst := some 78, op := Op.call { callee := Callee.value (Operand.func 13), args := #[Operand.tmp 62, Operand.tmp 77], argTypes := #[22, 9] }, type := 47, pos := "law.go:223", after := #[{ on := 0, ground := Ground.data }, { on := 15, ground := Ground.data }], guard := none }) rfl (fun K hK => ?_) ?_
                · go_simp
                  go_at_call 13
                  with_reducible refine (APPD.out _ _ HX3.out).mono ?_
                  rintro e w3 ⟨A1, n1, c1, A2, n2, c2, rfl, h3⟩
                  have y7 := (ASKS.out _ _ _ _ _ h3.out).1
                  obtain ⟨k0, k1, k2, k3, h4⟩ := h3.out.boxOld NB3.out
                  have y8 := (ASKS.out _ _ _ _ _ h4.out.tw).1
                  refine hK.out _ _ ?_ (fun hHeld => ?_)
                  · (try dsimp only); first | assumption | exact AL.out _ _ (by assumption) | exact AL.out _ _ (AL.out _ _ (by assumption))
                  · clear hK K
                    try simp only [Act.put, List.setIfInBounds_toArray, List.set_cons_zero, List.set_cons_succ]
                    refine wpAnyH_take (i := 17) (oi := { dst := some 61, op := Op.move (Operand.tmp 78), type := 47, pos := "law.go:223", after := #[{ on := 16, ground := Ground.data }], guard := none }) (v := .tuple #[.int .i64 no, .agg #[.slice A1 n1 c1, .slice A2 n2 c2], .int .i64 er]) rfl (by kernel_rfl) (by kernel_rfl) (by kernel_rfl) (fun _ _ _ h => h) (Or.inl ⟨by rfl, ?_⟩) (by assumption) ?_
                    · intro w hSw
                      (try dsimp only at hSw)
                      go_simp
                    try simp only [Act.put, List.setIfInBounds_toArray, List.set_cons_zero, List.set_cons_succ]
                    refine wpAnyH_take (i := 18) (oi := { dst := some 79, op := Op.extract (Operand.tmp 61) 0, type := 3, pos := "law.go:223", after := #[{ on := 17, ground := Ground.data }], guard := none }) (v := .int .i64 no) rfl (by kernel_rfl) (by kernel_rfl) (by kernel_rfl) (fun _ _ _ h => h) (Or.inl ⟨by rfl, ?_⟩) (by assumption) ?_
                    · intro w hSw
                      (try dsimp only at hSw)
                      go_simp
                    try simp only [Act.put, List.setIfInBounds_toArray, List.set_cons_zero, List.set_cons_succ]
                    refine wpAnyH_take (i := 19) (oi := { dst := some 80, op := Op.extract (Operand.tmp 61) 1, type := 32, pos := "law.go:223", after := #[{ on := 17, ground := Ground.data }, { on := 22, ground := Ground.gcOnly Departure.lateStores }], guard := none }) (v := .agg #[.slice A1 n1 c1, .slice A2 n2 c2]) rfl (by kernel_rfl) (by kernel_rfl) (by kernel_rfl) (fun _ _ _ h => h) (Or.inl ⟨by rfl, ?_⟩) (by assumption) ?_
                    · intro w hSw
                      (try dsimp only at hSw)
                      go_simp
                    try simp only [Act.put, List.setIfInBounds_toArray, List.set_cons_zero, List.set_cons_succ]
                    refine wpAnyH_take (i := 20) (oi := { dst := some 81, op := Op.extract (Operand.tmp 61) 2, type := 23, pos := "law.go:223", after := #[{ on := 17, ground := Ground.data }, { on := 23, ground := Ground.gcOnly Departure.lateStores }], guard := none }) (v := .int .i64 er) rfl (by kernel_rfl) (by kernel_rfl) (by kernel_rfl) (fun _ _ _ h => h) (Or.inl ⟨by rfl, ?_⟩) (by assumption) ?_
                    · intro w hSw
                      (try dsimp only at hSw)
                      go_simp
                    try simp only [Act.put, List.setIfInBounds_toArray, List.set_cons_zero, List.set_cons_succ]
                    refine wpAnyH_take (i := 22) (oi := { dst := some 12, op := Op.assign (Operand.tmp 79), type := 3, pos := "law.go:223", after := #[{ on := 18, ground := Ground.data }, { on := 16, ground := Ground.chain }, { on := 0, ground := Ground.phase }, { on := 1, ground := Ground.phase }, { on := 2, ground := Ground.phase }, { on := 3, ground := Ground.phase }, { on := 4, ground := Ground.phase }, { on := 5, ground := Ground.phase }, { on := 6, ground := Ground.phase }, { on := 7, ground := Ground.phase }, { on := 8, ground := Ground.phase }, { on := 9, ground := Ground.phase }, { on := 10, ground := Ground.phase }, { on := 11, ground := Ground.phase }, { on := 12, ground := Ground.phase }, { on := 13, ground := Ground.phase }, { on := 14, ground := Ground.phase }, { on := 15, ground := Ground.phase }, { on := 16, ground := Ground.phase }, { on := 17, ground := Ground.phase }, { on := 18, ground := Ground.phase }, { on := 19, ground := Ground.textOnly Departure.lateStores }, { on := 20, ground := Ground.textOnly Departure.lateStores }, { on := 21, ground := Ground.phase }], guard := none }) (v := .int .i64 no) rfl (by kernel_rfl) (by kernel_rfl) (by kernel_rfl) (fun _ _ _ h => h) (Or.inl ⟨by rfl, ?_⟩) (by assumption) ?_
                    · intro w hSw
                      (try dsimp only at hSw)
                      go_simp
                    try simp only [Act.put, List.setIfInBounds_toArray, List.set_cons_zero, List.set_cons_succ]
                    refine wpAnyH_ready (rs := [23]) (by kernel_rfl) (by simp) ?_
                    refine AllReadyH.cons (o := { dst := none, op := Op.store 32 (Operand.tmp 13) (Operand.tmp 80), type := 0, pos := "law.go:223", after := #[{ on := 21, ground := Ground.data }, { on := 19, ground := Ground.data }, { on := 22, ground := Ground.chain }, { on := 0, ground := Ground.phase }, { on := 1, ground := Ground.phase }, { on := 2, ground := Ground.phase }, { on := 3, ground := Ground.phase }, { on := 4, ground := Ground.phase }, { on := 5, ground := Ground.phase }, { on := 6, ground := Ground.phase }, { on := 7, ground := Ground.phase }, { on := 8, ground := Ground.phase }, { on := 9, ground := Ground.phase }, { on := 10, ground := Ground.phase }, { on := 11, ground := Ground.phase }, { on := 12, ground := Ground.phase }, { on := 13, ground := Ground.phase }, { on := 14, ground := Ground.phase }, { on := 15, ground := Ground.phase }, { on := 16, ground := Ground.phase }, { on := 17, ground := Ground.phase }, { on := 18, ground := Ground.phase }, { on := 19, ground := Ground.phase }, { on := 20, ground := Ground.textOnly Departure.lateStores }, { on := 21, ground := Ground.phase }, { on := 22, ground := Ground.phase }], guard := none }) rfl (fun K hK => ?_) ?_
                    · go_simp
                      refine hK.out _ _ ?_ (fun hHeld => ?_)
                      · (try dsimp only); first | assumption | exact AL.out _ _ (by assumption) | exact AL.out _ _ (AL.out _ _ (by assumption))
                      · clear hK K
                        try simp only [Act.put, List.setIfInBounds_toArray, List.set_cons_zero, List.set_cons_succ]
                        refine wpAnyH_take (i := 24) (oi := { dst := some 14, op := Op.assign (Operand.tmp 81), type := 23, pos := "law.go:223", after := #[{ on := 20, ground := Ground.data }, { on := 23, ground := Ground.chain }, { on := 0, ground := Ground.phase }, { on := 1, ground := Ground.phase }, { on := 2, ground := Ground.phase }, { on := 3, ground := Ground.phase }, { on := 4, ground := Ground.phase }, { on := 5, ground := Ground.phase }, { on := 6, ground := Ground.phase }, { on := 7, ground := Ground.phase }, { on := 8, ground := Ground.phase }, { on := 9, ground := Ground.phase }, { on := 10, ground := Ground.phase }, { on := 11, ground := Ground.phase }, { on := 12, ground := Ground.phase }, { on := 13, ground := Ground.phase }, { on := 14, ground := Ground.phase }, { on := 15, ground := Ground.phase }, { on := 16, ground := Ground.phase }, { on := 17, ground := Ground.phase }, { on := 18, ground := Ground.phase }, { on := 19, ground := Ground.phase }, { on := 20, ground := Ground.phase }, { on := 21, ground := Ground.phase }, { on := 22, ground := Ground.phase }, { on := 23, ground := Ground.phase }], guard := none }) (v := .int .i64 er) rfl (by kernel_rfl) (by kernel_rfl) (by kernel_rfl) (fun _ _ _ h => h) (Or.inl ⟨by rfl, ?_⟩) (by assumption) ?_
                        · intro w hSw
                          (try dsimp only at hSw)
                          go_simp
                        try simp only [Act.put, List.setIfInBounds_toArray, List.set_cons_zero, List.set_cons_succ]
                        refine wpAnyH_done (by kernel_rfl) ?_ _
                        refine NoPanic.normal ?_
                        go_wp2_with fail
                        go_meet
                        exact ⟨_, A1, n1, c1, A2, n2, c2, rfl, rfl, rfl, h4⟩
                    exact AllReadyH.nil
                exact AllReadyH.nil
            exact AllReadyH.nil
        exact AllReadyH.nil
    refine AllReadyH.cons (o := { dst := some 13, op := Op.alloc 32, type := 0, pos := "law.go:223", after := #[], guard := none }) rfl (fun K hK => ?_) ?_
    · go_simp
      refine hK.out _ _ ?_ (fun hHeld => ?_)
      · (try dsimp only); first | assumption | exact AL.out _ _ (by assumption) | exact AL.out _ _ (AL.out _ _ (by assumption))
      · clear hK K
        try simp only [Act.put, List.setIfInBounds_toArray, List.set_cons_zero, List.set_cons_succ]
        refine wpAnyH_ready (rs := [14]) (by kernel_rfl) (by simp) ?_
        refine AllReadyH.cons (o := { dst := some 76, op := Op.buildSlice 83 2 #[(0, Operand.tmp 69), (1, Operand.tmp 75)], type := 83, pos := "law.go:223", after := #[{ on := 7, ground := Ground.data }, { on := 13, ground := Ground.data }], guard := none }) rfl (fun K hK => ?_) ?_
        · go_simp
          refine hK.out _ _ ?_ (fun hHeld => ?_)
          · (try dsimp only); first | assumption | exact AL.out _ _ (by assumption) | exact AL.out _ _ (AL.out _ _ (by assumption))
          · clear hK K
            try simp only [Act.put, List.setIfInBounds_toArray, List.set_cons_zero, List.set_cons_succ]
            refine wpAnyH_ready (rs := [15]) (by kernel_rfl) (by simp) ?_
            refine AllReadyH.cons (o := { dst := some 77, op := Op.convert 83 9 (Operand.tmp 76), type := 9, pos := "law.go:223", after := #[{ on := 14, ground := Ground.data }], guard := none }) rfl (fun K hK => ?_) ?_
            · go_simp
              refine hK.out _ _ ?_ (fun hHeld => ?_)
              · (try dsimp only); first | assumption | exact AL.out _ _ (by assumption) | exact AL.out _ _ (AL.out _ _ (by assumption))
              · clear hK K
                try simp only [Act.put, List.setIfInBounds_toArray, List.set_cons_zero, List.set_cons_succ]
                refine wpAnyH_ready (rs := [16]) (by kernel_rfl) (by simp) ?_
                refine AllReadyH.cons (o := { dst := some 78, op := Op.call { callee := Callee.value (Operand.func 13), args := #[Operand.tmp 62, Operand.tmp 77], argTypes := #[22, 9] }, type := 47, pos := "law.go:223", after := #[{ on := 0, ground := Ground.data }, { on := 15, ground := Ground.data }], guard := none }) rfl (fun K hK => ?_) ?_
                · go_simp
                  go_at_call 13
                  with_reducible refine (APPD.out _ _ HX2.out).mono ?_
                  rintro e w3 ⟨A1, n1, c1, A2, n2, c2, rfl, h3⟩
                  have y7 := (ASKS.out _ _ _ _ _ h3.out).1
                  obtain ⟨k0, k1, k2, k3, h4⟩ := h3.out.boxOld NB2.out
                  have y8 := (ASKS.out _ _ _ _ _ h4.out.tw).1
                  refine hK.out _ _ ?_ (fun hHeld => ?_)
                  · (try dsimp only); first | assumption | exact AL.out _ _ (by assumption) | exact AL.out _ _ (AL.out _ _ (by assumption))
                  · clear hK K
                    try simp only [Act.put, List.setIfInBounds_toArray, List.set_cons_zero, List.set_cons_succ]
                    refine wpAnyH_take (i := 17) (oi := { dst := some 61, op := Op.move (Operand.tmp 78), type := 47, pos := "law.go:223", after := #[{ on := 16, ground := Ground.data }], guard := none }) (v := .tuple #[.int .i64 no, .agg #[.slice A1 n1 c1, .slice A2 n2 c2], .int .i64 er]) rfl (by kernel_rfl) (by kernel_rfl) (by kernel_rfl) (fun _ _ _ h => h) (Or.inl ⟨by rfl, ?_⟩) (by assumption) ?_
                    · intro w hSw
                      (try dsimp only at hSw)
                      go_simp
                    try simp only [Act.put, List.setIfInBounds_toArray, List.set_cons_zero, List.set_cons_succ]
                    refine wpAnyH_take (i := 18) (oi := { dst := some 79, op := Op.extract (Operand.tmp 61) 0, type := 3, pos := "law.go:223", after := #[{ on := 17, ground := Ground.data }], guard := none }) (v := .int .i64 no) rfl (by kernel_rfl) (by kernel_rfl) (by kernel_rfl) (fun _ _ _ h => h) (Or.inl ⟨by rfl, ?_⟩) (by assumption) ?_
                    · intro w hSw
                      (try dsimp only at hSw)
                      go_simp
                    try simp only [Act.put, List.setIfInBounds_toArray, List.set_cons_zero, List.set_cons_succ]
                    refine wpAnyH_take (i := 19) (oi := { dst := some 80, op := Op.extract (Operand.tmp 61) 1, type := 32, pos := "law.go:223", after := #[{ on := 17, ground := Ground.data }, { on := 22, ground := Ground.gcOnly Departure.lateStores }], guard := none }) (v := .agg #[.slice A1 n1 c1, .slice A2 n2 c2]) rfl (by kernel_rfl) (by kernel_rfl) (by kernel_rfl) (fun _ _ _ h => h) (Or.inl ⟨by rfl, ?_⟩) (by assumption) ?_
                    · intro w hSw
                      (try dsimp only at hSw)
                      go_simp
                    try simp only [Act.put, List.setIfInBounds_toArray, List.set_cons_zero, List.set_cons_succ]
                    refine wpAnyH_take (i := 20) (oi := { dst := some 81, op := Op.extract (Operand.tmp 61) 2, type := 23, pos := "law.go:223", after := #[{ on := 17, ground := Ground.data }, { on := 23, ground := Ground.gcOnly Departure.lateStores }], guard := none }) (v := .int .i64 er) rfl (by kernel_rfl) (by kernel_rfl) (by kernel_rfl) (fun _ _ _ h => h) (Or.inl ⟨by rfl, ?_⟩) (by assumption) ?_
                    · intro w hSw
                      (try dsimp only at hSw)
                      go_simp
                    try simp only [Act.put, List.setIfInBounds_toArray, List.set_cons_zero, List.set_cons_succ]
                    refine wpAnyH_take (i := 22) (oi := { dst := some 12, op := Op.assign (Operand.tmp 79), type := 3, pos := "law.go:223", after := #[{ on := 18, ground := Ground.data }, { on := 16, ground := Ground.chain }, { on := 0, ground := Ground.phase }, { on := 1, ground := Ground.phase }, { on := 2, ground := Ground.phase }, { on := 3, ground := Ground.phase }, { on := 4, ground := Ground.phase }, { on := 5, ground := Ground.phase }, { on := 6, ground := Ground.phase }, { on := 7, ground := Ground.phase }, { on := 8, ground := Ground.phase }, { on := 9, ground := Ground.phase }, { on := 10, ground := Ground.phase }, { on := 11, ground := Ground.phase }, { on := 12, ground := Ground.phase }, { on := 13, ground := Ground.phase }, { on := 14, ground := Ground.phase }, { on := 15, ground := Ground.phase }, { on := 16, ground := Ground.phase }, { on := 17, ground := Ground.phase }, { on := 18, ground := Ground.phase }, { on := 19, ground := Ground.textOnly Departure.lateStores }, { on := 20, ground := Ground.textOnly Departure.lateStores }, { on := 21, ground := Ground.phase }], guard := none }) (v := .int .i64 no) rfl (by kernel_rfl) (by kernel_rfl) (by kernel_rfl) (fun _ _ _ h => h) (Or.inl ⟨by rfl, ?_⟩) (by assumption) ?_
                    · intro w hSw
                      (try dsimp only at hSw)
                      go_simp
                    try simp only [Act.put, List.setIfInBounds_toArray, List.set_cons_zero, List.set_cons_succ]
                    refine wpAnyH_ready (rs := [23]) (by kernel_rfl) (by simp) ?_
                    refine AllReadyH.cons (o := { dst := none, op := Op.store 32 (Operand.tmp 13) (Operand.tmp 80), type := 0, pos := "law.go:223", after := #[{ on := 21, ground := Ground.data }, { on := 19, ground := Ground.data }, { on := 22, ground := Ground.chain }, { on := 0, ground := Ground.phase }, { on := 1, ground := Ground.phase }, { on := 2, ground := Ground.phase }, { on := 3, ground := Ground.phase }, { on := 4, ground := Ground.phase }, { on := 5, ground := Ground.phase }, { on := 6, ground := Ground.phase }, { on := 7, ground := Ground.phase }, { on := 8, ground := Ground.phase }, { on := 9, ground := Ground.phase }, { on := 10, ground := Ground.phase }, { on := 11, ground := Ground.phase }, { on := 12, ground := Ground.phase }, { on := 13, ground := Ground.phase }, { on := 14, ground := Ground.phase }, { on := 15, ground := Ground.phase }, { on := 16, ground := Ground.phase }, { on := 17, ground := Ground.phase }, { on := 18, ground := Ground.phase }, { on := 19, ground := Ground.phase }, { on := 20, ground := Ground.textOnly Departure.lateStores }, { on := 21, ground := Ground.phase }, { on := 22, ground := Ground.phase }], guard := none }) rfl (fun K hK => ?_) ?_
                    · go_simp
                      refine hK.out _ _ ?_ (fun hHeld => ?_)
                      · (try dsimp only); first | assumption | exact AL.out _ _ (by assumption) | exact AL.out _ _ (AL.out _ _ (by assumption))
                      · clear hK K
                        try simp only [Act.put, List.setIfInBounds_toArray, List.set_cons_zero, List.set_cons_succ]
                        refine wpAnyH_take (i := 24) (oi := { dst := some 14, op := Op.assign (Operand.tmp 81), type := 23, pos := "law.go:223", after := #[{ on := 20, ground := Ground.data }, { on := 23, ground := Ground.chain }, { on := 0, ground := Ground.phase }, { on := 1, ground := Ground.phase }, { on := 2, ground := Ground.phase }, { on := 3, ground := Ground.phase }, { on := 4, ground := Ground.phase }, { on := 5, ground := Ground.phase }, { on := 6, ground := Ground.phase }, { on := 7, ground := Ground.phase }, { on := 8, ground := Ground.phase }, { on := 9, ground := Ground.phase }, { on := 10, ground := Ground.phase }, { on := 11, ground := Ground.phase }, { on := 12, ground := Ground.phase }, { on := 13, ground := Ground.phase }, { on := 14, ground := Ground.phase }, { on := 15, ground := Ground.phase }, { on := 16, ground := Ground.phase }, { on := 17, ground := Ground.phase }, { on := 18, ground := Ground.phase }, { on := 19, ground := Ground.phase }, { on := 20, ground := Ground.phase }, { on := 21, ground := Ground.phase }, { on := 22, ground := Ground.phase }, { on := 23, ground := Ground.phase }], guard := none }) (v := .int .i64 er) rfl (by kernel_rfl) (by kernel_rfl) (by kernel_rfl) (fun _ _ _ h => h) (Or.inl ⟨by rfl, ?_⟩) (by assumption) ?_
                        · intro w hSw
                          (try dsimp only at hSw)
                          go_simp
                        try simp only [Act.put, List.setIfInBounds_toArray, List.set_cons_zero, List.set_cons_succ]
                        refine wpAnyH_done (by kernel_rfl) ?_ _
                        refine NoPanic.normal ?_
                        go_wp2_with fail
                        go_meet
                        exact ⟨_, A1, n1, c1, A2, n2, c2, rfl, rfl, rfl, h4⟩
                    exact AllReadyH.nil
                exact AllReadyH.nil
            exact AllReadyH.nil
        exact AllReadyH.nil
    exact AllReadyH.nil
  case rest =>
  obtain ⟨BB, A1, n1, c1, A2, n2, c2, rfl, rfl, rfl, hbx⟩ := hcut
  obtain ⟨W3, hW3⟩ : ∃ W3, wc = W3 := ⟨_, rfl⟩
  rw [hW3, ← HB1.out] at hbx
  rw [hW3]
  clear hW3 Y1 Y2 Y3 Y4 HX1 HX2 HX3 NB2 NB3 y6 AL cv1 cv2 cv3 v1 v2 v3 v4 v5 hrr hqq H2 HB1 hW2 hB8
  obtain ⟨k0, k1, k2, k3, k4, k5, hm⟩ := hbx.out.moved HNB.out
  obtain ⟨W4, hW4⟩ : ∃ W4, (W3.setCell ⟨B8, 0, none⟩ (.slice A1 n1 c1)).setCell ⟨B8, 1, none⟩ (.slice A2 n2 c2) = W4 := ⟨_, rfl⟩
  rw [hW4] at hm
  obtain ⟨q0, q1, hq⟩ := ASKS.out _ _ _ _ _ hm.out
  have w9 : IntKind.i64.wrap ((aq : Int) + 1) = (aq : Int) + 1 := IntWalk.i64_in _ (by have := HAS.out; omega)
  clear hbx hm
  go_upto_region 16 with (first
    | (go_at_call 9; with_reducible refine (num_is _ _).mono ?_; rintro e w' ⟨rfl, rfl⟩))
  obtain ⟨W5, hW5⟩ : ∃ W5, W4.setCell ⟨tb, 6, none⟩ (.int .i64 ((aq : Int) + 1)) = W5 := ⟨_, rfl⟩
  rw [hW5] at hq ⊢
  clear hW5 hW4 k0 k1 k2 k3 k4 k5 q0 q1 w9 APPD ASKS AC HAS
  have hb8 := hq.out.boxed (List.mem_cons_self ..)
  have hbd := hq.out.boxed (k := B) (o := .cells #[.int .i64 1, .int .i64 ai, .int .i64 ak, .int .i64 ac, .bool af] 62 (0, 0)) (List.mem_cons_of_mem _ BXD.out)
  have e0 : W5.cell? ⟨B8, 0, none⟩ = some (.slice A1 n1 c1) := by rw [cells_all hb8]; rfl
  have e1 : W5.cell? ⟨B8, 1, none⟩ = some (.slice A2 n2 c2) := by rw [cells_all hb8]; rfl
  have d0 : W5.cell? ⟨B, 0, none⟩ = some (.int .i64 1) := by rw [cells_all hbd]; rfl
  have d1 : W5.cell? ⟨B, 1, none⟩ = some (.int .i64 ai) := by rw [cells_all hbd]; rfl
  have d2 : W5.cell? ⟨B, 2, none⟩ = some (.int .i64 ak) := by rw [cells_all hbd]; rfl
  have d3 : W5.cell? ⟨B, 3, none⟩ = some (.int .i64 ac) := by rw [cells_all hbd]; rfl
  have d4 : W5.cell? ⟨B, 4, none⟩ = some (.bool af) := by rw [cells_all hbd]; rfl
  obtain ⟨P2, P3, WK, SF, NW⟩ := TLS.out B8 _
  have W43 := Lib.hid (WK.out W5 _ hq.out)
  clear hb8 hbd hq WK TLS NC XC DC DL
  rcases HER.out with e00 | ⟨e52, n00, hr⟩
  · subst e00
    by_cases hr : ro = 2
    · subst hr
      go_wp2_with (first
        | (go_at_call 43; refine W43.out.mono ?_; rintro e w5 ⟨rfl, h5⟩)
        | (go_at_call 42; refine (SF.out _ h5.out).mono ?_; rintro e w6 ⟨rfl, h6⟩)
        | (go_at_call 44; refine (NW.out _ h6.out).mono ?_; rintro e w7 ⟨rfl, h7⟩))
      go_ret
      exact ⟨rfl, FIN.out _ h7.out⟩
    · have rb : (ro == 2) = false := by rw [beq_eq_false_iff_ne]; exact hr
      have rb2 : (ro != 2) = true := by rw [bne_iff_ne]; exact hr
      clear hr
      go_wp2_with (first
        | (go_at_call 43; refine W43.out.mono ?_; rintro e w5 ⟨rfl, h5⟩)
        | (go_at_call 42; refine (SF.out _ h5.out).mono ?_; rintro e w6 ⟨rfl, h6⟩)
        | (go_at_call 44; refine (NW.out _ h6.out).mono ?_; rintro e w7 ⟨rfl, h7⟩))
      go_ret
      exact ⟨rfl, FIN.out _ h7.out⟩
  · subst e52 n00
    have rb : (ro == 2) = false := by rw [beq_eq_false_iff_ne]; exact hr
    have rb2 : (ro != 2) = true := by rw [bne_iff_ne]; exact hr
    clear hr
    go_wp2_with (first
      | (go_at_call 43; refine W43.out.mono ?_; rintro e w5 ⟨rfl, h5⟩)
      | (go_at_call 42; refine (SF.out _ h5.out).mono ?_; rintro e w6 ⟨rfl, h6⟩)
      | (go_at_call 44; refine (NW.out _ h6.out).mono ?_; rintro e w7 ⟨rfl, h7⟩))
    go_ret
    exact ⟨rfl, FIN.out _ h7.out⟩
end
end Go.Proofs.Ytlgoenimjmiapaa
