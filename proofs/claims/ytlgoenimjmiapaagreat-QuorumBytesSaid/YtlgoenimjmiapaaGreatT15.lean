import Derived.Test.YtlgoenimjmiapaaGreatT14
set_option linter.unusedSimpArgs false
set_option linter.unusedVariables false
set_option linter.unusedSectionVars false
/-! asked. -/
set_option linter.unusedVariables false
set_option linter.unusedSectionVars false
namespace Go.Proofs.YtlgoenimjmiapaaGreat
open Go.RowKit Go.Maps

def ND.newer (q : ND) (m : Msg) : Bool := decide (q.st.last q.st.log.length < m.last) || (m.last == q.st.last q.st.log.length && decide ((q.st.log.length : Int) ≤ m.at_))
def grantMsg (m : Msg) : Msg := ⟨2, 0, m.frm, 0, 0, 0, 0, []⟩
def NS.asked (c : NS) (m : Msg) : NS :=
  if c.q.newer m = false then c
  else if c.q.st.voted = -1 then (c.note ⟨1, c.q.st.ep, m.frm, ⟨0, []⟩⟩).sent (grantMsg m)
  else if c.q.st.voted = m.frm then c.sent (grantMsg m)
  else c

def Msg.cells (m : Msg) (v : Value) : List Value := [.int .i64 m.kind, .int .i64 m.frm, .int .i64 m.to, .int .i64 m.ep, .int .i64 m.at_, .int .i64 m.last, .int .i64 m.commit, v]

section
variable [Far] {w w' : World} {x : Nat} {c c' : NS} {V : NV}

theorem NAt.last_g (h : NAt w x c V) (n : Nat) (hn : n ≤ c.q.st.log.length) (hl : c.q.st.log.length ≤ 1000000) : Calls Tryz.prog 78 #[.pointer (some ⟨x, 0, none⟩), .int .i64 (n : Int)] w fun e w' => e = .returned (.int .i64 (c.q.st.last n)) ∧ w = w' := by
  obtain ⟨ss, _, k⟩ := h
  exact last_is w x 111 c.q.st V.lv _ k.blk k.log n hn hl

set_option maxRecDepth 100000 in
set_option maxHeartbeats 4000000 in
theorem asked_is (h : NAt w x c V) (m : Msg) (A : Option Addr) (na ca : Nat) (hl : c.q.st.log.length ≤ 1000000) (hns : c.ns.length ≤ 1000000) (hms : c.ms.length ≤ 1000000) :
    Calls Tryz.prog 67 #[.pointer (some ⟨x, 0, none⟩), .agg #[.int .i64 m.kind, .int .i64 m.frm, .int .i64 m.to, .int .i64 m.ep, .int .i64 m.at_, .int .i64 m.last, .int .i64 m.commit, .slice A na ca]] w fun e w' => e = .returned (.tuple #[]) ∧ Gone w x V (c.asked m) w' := by
  have HBX : Hid (∀ W, Out Zone.no (w.alloc (.cells #[.int .i64 m.kind, .int .i64 m.frm, .int .i64 m.to, .int .i64 m.ep, .int .i64 m.at_, .int .i64 m.last, .int .i64 m.commit, .slice A na ca] 49)) W →
      (W.cell? ⟨w.heap.size, 1, none⟩ = some (.int .i64 m.frm) ∧ W.cell? ⟨w.heap.size, 4, none⟩ = some (.int .i64 m.at_) ∧ W.cell? ⟨w.heap.size, 5, none⟩ = some (.int .i64 m.last)) ∧ NAt W x c V ∧ Out Zone.no w W) := fun W ho => by
    have hb := ho.get (heap_alloc_new w (.cells #[.int .i64 m.kind, .int .i64 m.frm, .int .i64 m.to, .int .i64 m.ep, .int .i64 m.at_, .int .i64 m.last, .int .i64 m.commit, .slice A na ca] 49)) id
    have ho2 := ((Out.refl Zone.no w).alloc (.cells #[.int .i64 m.kind, .int .i64 m.frm, .int .i64 m.to, .int .i64 m.ep, .int .i64 m.at_, .int .i64 m.last, .int .i64 m.commit, .slice A na ca] 49)).trans ho
    exact ⟨⟨by rw [cells_all hb]; rfl, by rw [cells_all hb]; rfl, by rw [cells_all hb]; rfl⟩, h.any ho2, ho2⟩
  have HC : Hid (∀ W, NAt W x c V → (∃ AL cL, W.cell? ⟨x, 2, none⟩ = some (.slice AL c.q.st.log.length cL)) ∧ W.cell? ⟨x, 0, none⟩ = some (.int .i64 c.q.st.ep) ∧ W.cell? ⟨x, 1, none⟩ = some (.int .i64 c.q.st.voted)) := fun W hW => by
    obtain ⟨ss, _, k⟩ := hW
    obtain ⟨AL, cL, hlv⟩ := GRow.form k.log
    exact ⟨⟨AL, cL, by rw [← hlv]; exact k.blk.c2⟩, k.blk.c0, k.blk.c1⟩
  have hbx : w.heap.size > x := by obtain ⟨ss, _, k⟩ := h; exact heap_lt k.blk
  have HBXX := Lib.hid hbx
  have HNB : Hid (¬ V.own x w.heap.size) := fun e => Nat.lt_irrefl _ (own_lt h e)
  obtain ⟨c1, hc1⟩ : ∃ c1, c.note ⟨1, c.q.st.ep, m.frm, ⟨0, []⟩⟩ = c1 := ⟨_, rfl⟩
  have hq1 : c1.ms.length = c.ms.length := by rw [← hc1]; rfl
  have NOTE : Hid (∀ W, NAt W x c V → Calls Tryz.prog 62 #[.pointer (some ⟨x, 0, none⟩), .agg #[.int .i64 1, .int .i64 c.q.st.ep, .int .i64 m.frm, .int .i64 0, .string ⟨#[]⟩]] W fun e w' => e = .returned (.tuple #[]) ∧ Gone W x V c1 w') := fun W hW => by
    rw [← hc1]
    exact noted_g hW hl hns ⟨1, c.q.st.ep, m.frm, ⟨0, []⟩⟩ (by show (0 : Nat) ≤ _; omega)
  have SEND : Hid (∀ (c2 : NS) W V2, c2.ms.length = c.ms.length → NAt W x c2 V2 → Calls Tryz.prog 66 #[.pointer (some ⟨x, 0, none⟩), .agg #[.int .i64 2, .int .i64 0, .int .i64 m.frm, .int .i64 0, .int .i64 0, .int .i64 0, .int .i64 0, .slice none 0 0]] W fun e w' => e = .returned (.tuple #[]) ∧ Gone W x V2 (c2.sent (grantMsg m)) w') := fun c2 W V2 hm hW =>
    send_g hW (by omega) (grantMsg m) (.slice none 0 0) (rrow_nil _ _ _)
  have HLA : Hid (∀ W, NAt W x c V → Calls Tryz.prog 78 #[.pointer (some ⟨x, 0, none⟩), .int .i64 (c.q.st.log.length : Int)] W fun e w' => e = .returned (.int .i64 (c.q.st.last c.q.st.log.length)) ∧ W = w') := fun W hW => hW.last_g _ (Nat.le_refl _) hl
  have HX0 : Hid (c.q.newer m = false → c.asked m = c) := fun h => if_pos h
  have HX1 : Hid (c.q.newer m = true → c.q.st.voted = -1 → c.asked m = c1.sent (grantMsg m)) := fun h hv => by rw [← hc1]; exact (if_neg (by rw [h]; decide)).trans (if_pos hv)
  have HX2 : Hid (c.q.newer m = true → c.q.st.voted ≠ -1 → c.q.st.voted = m.frm → c.asked m = c.sent (grantMsg m)) := fun h hv hw => (if_neg (by rw [h]; decide)).trans ((if_neg hv).trans (if_pos hw))
  have HX3 : Hid (c.q.newer m = true → c.q.st.voted ≠ -1 → c.q.st.voted ≠ m.frm → c.asked m = c) := fun h hv hw => (if_neg (by rw [h]; decide)).trans ((if_neg hv).trans (if_neg hw))
  obtain ⟨X, hX⟩ : ∃ X, c.asked m = X := ⟨_, rfl⟩
  rw [hX] at HX0 HX1 HX2 HX3 ⊢
  have HM1 := Lib.hid hq1
  have hnw : c.q.newer m = (decide (c.q.st.last c.q.st.log.length < m.last) || (m.last == c.q.st.last c.q.st.log.length && decide ((c.q.st.log.length : Int) ≤ m.at_))) := rfl
  obtain ⟨nw, hnw2⟩ : ∃ nw, c.q.newer m = nw := ⟨_, rfl⟩
  rw [hnw2] at hnw HX0 HX1 HX2 HX3
  obtain ⟨L, hL⟩ : ∃ L, c.q.st.log.length = L := ⟨_, rfl⟩
  obtain ⟨la, hla⟩ : ∃ la, c.q.st.last L = la := ⟨_, rfl⟩
  obtain ⟨fr, hfr⟩ : ∃ fr, m.frm = fr := ⟨_, rfl⟩
  obtain ⟨atv, hat⟩ : ∃ atv, m.at_ = atv := ⟨_, rfl⟩
  obtain ⟨ml, hml⟩ : ∃ ml, m.last = ml := ⟨_, rfl⟩
  obtain ⟨ep, hep⟩ : ∃ ep, c.q.st.ep = ep := ⟨_, rfl⟩
  obtain ⟨vo, hvo⟩ : ∃ vo, c.q.st.voted = vo := ⟨_, rfl⟩
  rw [hL, hla, hat, hml] at hnw
  rw [hL, hep, hvo] at HC
  rw [hL, hla] at HLA
  rw [hep, hfr] at NOTE
  rw [hfr] at SEND
  rw [hfr, hat, hml] at HBX
  rw [hfr, hat, hml]
  rw [hvo] at HX1 HX2 HX3
  rw [hfr] at HX2 HX3
  have hL2 : L ≤ 1000000 := by rw [← hL]; exact hl
  have H0 := Lib.hid h
  clear hL hla hfr hat hml hep hvo hX hnw2 hc1 hq1 hl hns hms h hbx
  obtain ⟨b1, hb1⟩ : ∃ b1, decide (la < ml) = b1 := ⟨_, rfl⟩
  obtain ⟨b2, hb2⟩ : ∃ b2, (ml == la) = b2 := ⟨_, rfl⟩
  obtain ⟨b3, hb3⟩ : ∃ b3, decide ((L : Int) ≤ atv) = b3 := ⟨_, rfl⟩
  rw [hb1, hb2, hb3] at hnw
  cases b1 with
  | true =>
    obtain rfl : nw = true := hnw
    by_cases hv : vo = -1
    · have HX := Lib.hid (HX1.out rfl hv)
      subst hv
      obtain ⟨B, hB⟩ : ∃ B, w.heap.size = B := ⟨_, rfl⟩
      rw [hB] at HBX HNB
      obtain ⟨⟨m1, m4, m5⟩, hN, hO⟩ := HBX.out _ (Out.refl _ _)
      obtain ⟨⟨AL, cL, k2⟩, k0, k1⟩ := HC.out _ hN
      have HN := Lib.hid hN
      have HO := Lib.hid hO
      clear hN hO
      go_enter Tryz.func67, Tryz.ntmps67
      go_wp2_with fail
      obtain ⟨W1, hW1⟩ : ∃ W1, w.alloc (.cells #[.int .i64 m.kind, .int .i64 fr, .int .i64 m.to, .int .i64 m.ep, .int .i64 atv, .int .i64 ml, .int .i64 m.commit, .slice A na ca] 49) = W1 := ⟨_, rfl⟩
      rw [hW1] at HN HO k2 k0 k1 m1 m4 m5 HBX ⊢
      have LAQ : Hid (∀ n, Calls Tryz.prog 78 #[.pointer (some ⟨x, 0, none⟩), .int .i64 (L : Int)] (W1.drewN n) fun e w'' => e = .returned (.int .i64 la) ∧ ∃ m, w'' = W1.drewN m) := fun n => (HLA.out _ (HN.out.any ((Out.refl Zone.no W1).drewN n))).mono (fun e w' ⟨h1, h2⟩ => ⟨h1, n, h2.symm⟩)
      clear hW1 hB
      go_quiet (first | (go_at_call 78; exact LAQ.out _))
      go_wp2_with fail
      go_quiet (fail)
      go_wp2_with fail
      have HND : Hid (∀ n, NAt (W1.drewN n).drew x c V) := fun n => HN.out.any (((Out.refl _ _).drewN n).drew)
      have HOD : Hid (∀ n, Out Zone.no w (W1.drewN n).drew) := fun n => HO.out.trans (((Out.refl _ _).drewN n).drew)
      have MD : Hid (∀ n, (W1.drewN n).drew.cell? ⟨B, 1, none⟩ = some (.int .i64 fr)) := fun n => m1
      go_region_with (first
        | (go_at_call 62; refine (NOTE.out _ (HND.out _)).mono ?_; rintro e w3 ⟨rfl, V3, hn3, hx3⟩; have m3 := hx3.out.cell (MD.out _) HNB.out; have HN3 := Lib.hid hn3; have HX3 := Lib.hid ((Next.of_out (HOD.out _)).trans hx3); clear hn3 hx3)
        | fail)
      all_goals
        go_wp2_with (first
          | (go_at_call 66; refine (SEND.out c1 _ V3 HM1.out HN3.out).mono ?_; rintro e w4 ⟨rfl, hg⟩; have HG := Lib.hid (Gone.trans HX3.out hg); clear hg))
        go_end0
        exact ⟨rfl, by rw [HX.out]; exact HG.out⟩
    · have e1 : (vo == -1) = false := by rw [beq_eq_false_iff_ne]; exact hv
      have e1b : (vo != -1) = true := by rw [bne_iff_ne]; exact hv
      have e1c : decide (vo = -1) = false := decide_eq_false hv
      by_cases hw : vo = fr
      · have HX := Lib.hid (HX2.out rfl hv hw)
        have hw' := hw.symm
        subst hw'
        clear hv hw
        obtain ⟨B, hB⟩ : ∃ B, w.heap.size = B := ⟨_, rfl⟩
        rw [hB] at HBX HNB
        obtain ⟨⟨m1, m4, m5⟩, hN, hO⟩ := HBX.out _ (Out.refl _ _)
        obtain ⟨⟨AL, cL, k2⟩, k0, k1⟩ := HC.out _ hN
        have HN := Lib.hid hN
        have HO := Lib.hid hO
        clear hN hO
        go_enter Tryz.func67, Tryz.ntmps67
        go_wp2_with fail
        obtain ⟨W1, hW1⟩ : ∃ W1, w.alloc (.cells #[.int .i64 m.kind, .int .i64 fr, .int .i64 m.to, .int .i64 m.ep, .int .i64 atv, .int .i64 ml, .int .i64 m.commit, .slice A na ca] 49) = W1 := ⟨_, rfl⟩
        rw [hW1] at HN HO k2 k0 k1 m1 m4 m5 HBX ⊢
        have LAQ : Hid (∀ n, Calls Tryz.prog 78 #[.pointer (some ⟨x, 0, none⟩), .int .i64 (L : Int)] (W1.drewN n) fun e w'' => e = .returned (.int .i64 la) ∧ ∃ m, w'' = W1.drewN m) := fun n => (HLA.out _ (HN.out.any ((Out.refl Zone.no W1).drewN n))).mono (fun e w' ⟨h1, h2⟩ => ⟨h1, n, h2.symm⟩)
        clear hW1 hB
        go_quiet (first | (go_at_call 78; exact LAQ.out _))
        go_wp2_with fail
        go_quiet (fail)
        go_wp2_with (first
          | (go_at_call 66; refine (SEND.out c _ V rfl (HN.out.any ((Out.refl _ _).drewN _))).mono ?_; rintro e w4 ⟨rfl, hg⟩; have HG := Lib.hid (Gone.trans (Next.of_out (HO.out.trans ((Out.refl _ _).drewN _))) hg); clear hg))
        go_end0
        exact ⟨rfl, by rw [HX.out]; exact HG.out⟩
      · have e2 : (vo == fr) = false := by rw [beq_eq_false_iff_ne]; exact hw
        have e2b : (vo != fr) = true := by rw [bne_iff_ne]; exact hw
        have e2c : decide (vo = fr) = false := decide_eq_false hw
        have HX := Lib.hid (HX3.out rfl hv hw)
        clear hv hw
        obtain ⟨B, hB⟩ : ∃ B, w.heap.size = B := ⟨_, rfl⟩
        rw [hB] at HBX HNB
        obtain ⟨⟨m1, m4, m5⟩, hN, hO⟩ := HBX.out _ (Out.refl _ _)
        obtain ⟨⟨AL, cL, k2⟩, k0, k1⟩ := HC.out _ hN
        have HN := Lib.hid hN
        have HO := Lib.hid hO
        clear hN hO
        go_enter Tryz.func67, Tryz.ntmps67
        go_wp2_with fail
        obtain ⟨W1, hW1⟩ : ∃ W1, w.alloc (.cells #[.int .i64 m.kind, .int .i64 fr, .int .i64 m.to, .int .i64 m.ep, .int .i64 atv, .int .i64 ml, .int .i64 m.commit, .slice A na ca] 49) = W1 := ⟨_, rfl⟩
        rw [hW1] at HN HO k2 k0 k1 m1 m4 m5 HBX ⊢
        have LAQ : Hid (∀ n, Calls Tryz.prog 78 #[.pointer (some ⟨x, 0, none⟩), .int .i64 (L : Int)] (W1.drewN n) fun e w'' => e = .returned (.int .i64 la) ∧ ∃ m, w'' = W1.drewN m) := fun n => (HLA.out _ (HN.out.any ((Out.refl Zone.no W1).drewN n))).mono (fun e w' ⟨h1, h2⟩ => ⟨h1, n, h2.symm⟩)
        clear hW1 hB
        go_quiet (first | (go_at_call 78; exact LAQ.out _))
        go_wp2_with fail
        go_quiet (fail)
        go_wp2_with fail
        refine bodyPost_ret (v := .tuple #[]) (by simp [results, Tryz.results67, go_sem]) rfl ?_
        refine ⟨rfl, ?_⟩
        rw [HX.out]
        exact (Gone.refl H0.out).any (by first | exact HO.out.trans ((Out.refl _ _).drewN _) | exact HO.out.trans (((Out.refl _ _).drewN _).drewN _))
  | false =>
    cases b2 with
    | true =>
      cases b3 with
      | true =>
        obtain rfl : nw = true := hnw
        by_cases hv : vo = -1
        · have HX := Lib.hid (HX1.out rfl hv)
          subst hv
          obtain ⟨B, hB⟩ : ∃ B, w.heap.size = B := ⟨_, rfl⟩
          rw [hB] at HBX HNB
          obtain ⟨⟨m1, m4, m5⟩, hN, hO⟩ := HBX.out _ (Out.refl _ _)
          obtain ⟨⟨AL, cL, k2⟩, k0, k1⟩ := HC.out _ hN
          have HN := Lib.hid hN
          have HO := Lib.hid hO
          clear hN hO
          go_enter Tryz.func67, Tryz.ntmps67
          go_wp2_with fail
          obtain ⟨W1, hW1⟩ : ∃ W1, w.alloc (.cells #[.int .i64 m.kind, .int .i64 fr, .int .i64 m.to, .int .i64 m.ep, .int .i64 atv, .int .i64 ml, .int .i64 m.commit, .slice A na ca] 49) = W1 := ⟨_, rfl⟩
          rw [hW1] at HN HO k2 k0 k1 m1 m4 m5 HBX ⊢
          have LAQ : Hid (∀ n, Calls Tryz.prog 78 #[.pointer (some ⟨x, 0, none⟩), .int .i64 (L : Int)] (W1.drewN n) fun e w'' => e = .returned (.int .i64 la) ∧ ∃ m, w'' = W1.drewN m) := fun n => (HLA.out _ (HN.out.any ((Out.refl Zone.no W1).drewN n))).mono (fun e w' ⟨h1, h2⟩ => ⟨h1, n, h2.symm⟩)
          clear hW1 hB
          go_quiet (first | (go_at_call 78; exact LAQ.out _))
          go_wp2_with fail
          go_quiet (fail)
          go_wp2_with fail
          have HND : Hid (∀ n, NAt (W1.drewN n).drew x c V) := fun n => HN.out.any (((Out.refl _ _).drewN n).drew)
          have HOD : Hid (∀ n, Out Zone.no w (W1.drewN n).drew) := fun n => HO.out.trans (((Out.refl _ _).drewN n).drew)
          have MD : Hid (∀ n, (W1.drewN n).drew.cell? ⟨B, 1, none⟩ = some (.int .i64 fr)) := fun n => m1
          go_region_with (first
            | (go_at_call 62; refine (NOTE.out _ (HND.out _)).mono ?_; rintro e w3 ⟨rfl, V3, hn3, hx3⟩; have m3 := hx3.out.cell (MD.out _) HNB.out; have HN3 := Lib.hid hn3; have HX3 := Lib.hid ((Next.of_out (HOD.out _)).trans hx3); clear hn3 hx3)
            | fail)
          all_goals
            go_wp2_with (first
              | (go_at_call 66; refine (SEND.out c1 _ V3 HM1.out HN3.out).mono ?_; rintro e w4 ⟨rfl, hg⟩; have HG := Lib.hid (Gone.trans HX3.out hg); clear hg))
            go_end0
            exact ⟨rfl, by rw [HX.out]; exact HG.out⟩
        · have e1 : (vo == -1) = false := by rw [beq_eq_false_iff_ne]; exact hv
          have e1b : (vo != -1) = true := by rw [bne_iff_ne]; exact hv
          have e1c : decide (vo = -1) = false := decide_eq_false hv
          by_cases hw : vo = fr
          · have HX := Lib.hid (HX2.out rfl hv hw)
            have hw' := hw.symm
            subst hw'
            clear hv hw
            obtain ⟨B, hB⟩ : ∃ B, w.heap.size = B := ⟨_, rfl⟩
            rw [hB] at HBX HNB
            obtain ⟨⟨m1, m4, m5⟩, hN, hO⟩ := HBX.out _ (Out.refl _ _)
            obtain ⟨⟨AL, cL, k2⟩, k0, k1⟩ := HC.out _ hN
            have HN := Lib.hid hN
            have HO := Lib.hid hO
            clear hN hO
            go_enter Tryz.func67, Tryz.ntmps67
            go_wp2_with fail
            obtain ⟨W1, hW1⟩ : ∃ W1, w.alloc (.cells #[.int .i64 m.kind, .int .i64 fr, .int .i64 m.to, .int .i64 m.ep, .int .i64 atv, .int .i64 ml, .int .i64 m.commit, .slice A na ca] 49) = W1 := ⟨_, rfl⟩
            rw [hW1] at HN HO k2 k0 k1 m1 m4 m5 HBX ⊢
            have LAQ : Hid (∀ n, Calls Tryz.prog 78 #[.pointer (some ⟨x, 0, none⟩), .int .i64 (L : Int)] (W1.drewN n) fun e w'' => e = .returned (.int .i64 la) ∧ ∃ m, w'' = W1.drewN m) := fun n => (HLA.out _ (HN.out.any ((Out.refl Zone.no W1).drewN n))).mono (fun e w' ⟨h1, h2⟩ => ⟨h1, n, h2.symm⟩)
            clear hW1 hB
            go_quiet (first | (go_at_call 78; exact LAQ.out _))
            go_wp2_with fail
            go_quiet (fail)
            go_wp2_with (first
              | (go_at_call 66; refine (SEND.out c _ V rfl (HN.out.any ((Out.refl _ _).drewN _))).mono ?_; rintro e w4 ⟨rfl, hg⟩; have HG := Lib.hid (Gone.trans (Next.of_out (HO.out.trans ((Out.refl _ _).drewN _))) hg); clear hg))
            go_end0
            exact ⟨rfl, by rw [HX.out]; exact HG.out⟩
          · have e2 : (vo == fr) = false := by rw [beq_eq_false_iff_ne]; exact hw
            have e2b : (vo != fr) = true := by rw [bne_iff_ne]; exact hw
            have e2c : decide (vo = fr) = false := decide_eq_false hw
            have HX := Lib.hid (HX3.out rfl hv hw)
            clear hv hw
            obtain ⟨B, hB⟩ : ∃ B, w.heap.size = B := ⟨_, rfl⟩
            rw [hB] at HBX HNB
            obtain ⟨⟨m1, m4, m5⟩, hN, hO⟩ := HBX.out _ (Out.refl _ _)
            obtain ⟨⟨AL, cL, k2⟩, k0, k1⟩ := HC.out _ hN
            have HN := Lib.hid hN
            have HO := Lib.hid hO
            clear hN hO
            go_enter Tryz.func67, Tryz.ntmps67
            go_wp2_with fail
            obtain ⟨W1, hW1⟩ : ∃ W1, w.alloc (.cells #[.int .i64 m.kind, .int .i64 fr, .int .i64 m.to, .int .i64 m.ep, .int .i64 atv, .int .i64 ml, .int .i64 m.commit, .slice A na ca] 49) = W1 := ⟨_, rfl⟩
            rw [hW1] at HN HO k2 k0 k1 m1 m4 m5 HBX ⊢
            have LAQ : Hid (∀ n, Calls Tryz.prog 78 #[.pointer (some ⟨x, 0, none⟩), .int .i64 (L : Int)] (W1.drewN n) fun e w'' => e = .returned (.int .i64 la) ∧ ∃ m, w'' = W1.drewN m) := fun n => (HLA.out _ (HN.out.any ((Out.refl Zone.no W1).drewN n))).mono (fun e w' ⟨h1, h2⟩ => ⟨h1, n, h2.symm⟩)
            clear hW1 hB
            go_quiet (first | (go_at_call 78; exact LAQ.out _))
            go_wp2_with fail
            go_quiet (fail)
            go_wp2_with fail
            refine bodyPost_ret (v := .tuple #[]) (by simp [results, Tryz.results67, go_sem]) rfl ?_
            refine ⟨rfl, ?_⟩
            rw [HX.out]
            exact (Gone.refl H0.out).any (by first | exact HO.out.trans ((Out.refl _ _).drewN _) | exact HO.out.trans (((Out.refl _ _).drewN _).drewN _))
      | false =>
        obtain rfl : nw = false := hnw
        have HX := Lib.hid (HX0.out rfl)
        obtain ⟨B, hB⟩ : ∃ B, w.heap.size = B := ⟨_, rfl⟩
        rw [hB] at HBX HNB
        obtain ⟨⟨m1, m4, m5⟩, hN, hO⟩ := HBX.out _ (Out.refl _ _)
        obtain ⟨⟨AL, cL, k2⟩, k0, k1⟩ := HC.out _ hN
        have HN := Lib.hid hN
        have HO := Lib.hid hO
        clear hN hO
        go_enter Tryz.func67, Tryz.ntmps67
        go_wp2_with fail
        obtain ⟨W1, hW1⟩ : ∃ W1, w.alloc (.cells #[.int .i64 m.kind, .int .i64 fr, .int .i64 m.to, .int .i64 m.ep, .int .i64 atv, .int .i64 ml, .int .i64 m.commit, .slice A na ca] 49) = W1 := ⟨_, rfl⟩
        rw [hW1] at HN HO k2 k0 k1 m1 m4 m5 HBX ⊢
        have LAQ : Hid (∀ n, Calls Tryz.prog 78 #[.pointer (some ⟨x, 0, none⟩), .int .i64 (L : Int)] (W1.drewN n) fun e w'' => e = .returned (.int .i64 la) ∧ ∃ m, w'' = W1.drewN m) := fun n => (HLA.out _ (HN.out.any ((Out.refl Zone.no W1).drewN n))).mono (fun e w' ⟨h1, h2⟩ => ⟨h1, n, h2.symm⟩)
        clear hW1 hB
        go_quiet (first | (go_at_call 78; exact LAQ.out _))
        go_wp2_with fail
        go_quiet (fail)
        go_wp2_with fail
        refine bodyPost_ret (v := .tuple #[]) (by simp [results, Tryz.results67, go_sem]) rfl ?_
        refine ⟨rfl, ?_⟩
        rw [HX.out]
        exact (Gone.refl H0.out).any (by first | exact HO.out.trans ((Out.refl _ _).drewN _) | exact HO.out.trans (((Out.refl _ _).drewN _).drewN _))
    | false =>
      obtain rfl : nw = false := hnw
      have HX := Lib.hid (HX0.out rfl)
      obtain ⟨B, hB⟩ : ∃ B, w.heap.size = B := ⟨_, rfl⟩
      rw [hB] at HBX HNB
      obtain ⟨⟨m1, m4, m5⟩, hN, hO⟩ := HBX.out _ (Out.refl _ _)
      obtain ⟨⟨AL, cL, k2⟩, k0, k1⟩ := HC.out _ hN
      have HN := Lib.hid hN
      have HO := Lib.hid hO
      clear hN hO
      go_enter Tryz.func67, Tryz.ntmps67
      go_wp2_with fail
      obtain ⟨W1, hW1⟩ : ∃ W1, w.alloc (.cells #[.int .i64 m.kind, .int .i64 fr, .int .i64 m.to, .int .i64 m.ep, .int .i64 atv, .int .i64 ml, .int .i64 m.commit, .slice A na ca] 49) = W1 := ⟨_, rfl⟩
      rw [hW1] at HN HO k2 k0 k1 m1 m4 m5 HBX ⊢
      have LAQ : Hid (∀ n, Calls Tryz.prog 78 #[.pointer (some ⟨x, 0, none⟩), .int .i64 (L : Int)] (W1.drewN n) fun e w'' => e = .returned (.int .i64 la) ∧ ∃ m, w'' = W1.drewN m) := fun n => (HLA.out _ (HN.out.any ((Out.refl Zone.no W1).drewN n))).mono (fun e w' ⟨h1, h2⟩ => ⟨h1, n, h2.symm⟩)
      clear hW1 hB
      go_quiet (first | (go_at_call 78; exact LAQ.out _))
      go_wp2_with fail
      go_quiet (fail)
      go_wp2_with fail
      refine bodyPost_ret (v := .tuple #[]) (by simp [results, Tryz.results67, go_sem]) rfl ?_
      refine ⟨rfl, ?_⟩
      rw [HX.out]
      exact (Gone.refl H0.out).any (by first | exact HO.out.trans ((Out.refl _ _).drewN _) | exact HO.out.trans (((Out.refl _ _).drewN _).drewN _))
end
end Go.Proofs.YtlgoenimjmiapaaGreat
