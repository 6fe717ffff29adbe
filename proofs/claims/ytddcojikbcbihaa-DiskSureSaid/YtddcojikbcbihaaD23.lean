import Derived.Test.YtddcojikbcbihaaD22
/-! The law DiskSure, walked. -/
set_option linter.unusedVariables false
namespace Go.Proofs.Ytddcojikbcbihaa
open Go.RowKit

theorem bytes_at {L : List UInt8} {k : Nat} {u : UInt8} (h : L[k]? = some u) : (bytes L)[k]? = some (.int .u8 u.toNat) := by
  unfold bytes
  rw [List.getElem?_map, h]
  rfl

/-- An operation that came in. -/
structure OpL where
  kind : Int
  n : Int
  b : List UInt8
  vb : Value
  torn : Bool
  vf : Value

/-- Operations that came in, as a slice. -/
def Ops (w : World) (v : Value) (ls : List OpL) : Prop :=
  ∃ A c, v = .slice A ls.length c ∧ ls.length ≤ c ∧ c ≤ maxLen ∧ ∀ i o, ls[i]? = some o →
    (-9223372036854775808 ≤ o.kind ∧ o.kind ≤ 9223372036854775807) ∧ (-9223372036854775808 ≤ o.n ∧ o.n ≤ 9223372036854775807) ∧ Row Zone.no w o.vb (bytes o.b) ∧ (∃ Af nf cf, o.vf = .slice Af nf cf) ∧
    ∃ a, A = some a ∧ w.cell? (a.add (i * 5)) = some (.int .i64 o.kind) ∧ w.cell? (a.add (i * 5 + 1)) = some (.int .i64 o.n) ∧ w.cell? (a.add (i * 5 + 2)) = some o.vb ∧
      w.cell? (a.add (i * 5 + 3)) = some (.bool o.torn) ∧ w.cell? (a.add (i * 5 + 4)) = some o.vf

set_option maxRecDepth 100000 in
set_option maxHeartbeats 4000000 in
theorem sure_is (w : World) (va vp vl vf : Value) (a p : List UInt8) (ls : List OpL) (F : List Int) (ha : Row Zone.no w va (bytes a)) (hp : Row Zone.no w vp (bytes p)) (hl : Ops w vl ls)
    (hf : Row Zone.no w vf (F.map (Value.int .i64))) (hF : ∀ x ∈ F, -9223372036854775808 ≤ x ∧ x ≤ 9223372036854775807) (K : Int) (hK : -9223372036854775808 ≤ K ∧ K ≤ 9223372036854775807) (torn : Bool) (hsmall : a.length ≤ 10000) :
    Calls Try.prog 4 #[va, vp, vl, .int .i64 K, .bool torn, vf] w fun e w' => e = .returned (.bool true) ∧ Out Zone.no w w' := by
  obtain ⟨A, cA, rfl, hcA, hcA2⟩ := ha.form
  obtain ⟨Ap, cp, rfl, _, _⟩ := hp.form
  obtain ⟨Al, cl, rfl, hl1, hl2, hl3⟩ := id hl
  have N1 := Lib.hid (new_ok w 1048576 8 (by omega) (by omega) (by omega) (by omega))
  have HA := Lib.hid ha
  have HP := Lib.hid hp
  have HL := Lib.hid hl3
  have HFR := Lib.hid hf
  have HFB := Lib.hid hF
  clear ha hp hl hl3 hf hF hcA2
  go_enter Try.func4, Try.ntmps4
  go_wp2_with fail
  refine N1.out.mono ?_
  rintro e w1 ⟨d, rfl, hd, hd1, hd2, ho⟩
  have H1 := Lib.hid hd
  have HO1 := Lib.hid ho
  clear hd ho N1
  go_wp2_with (first | (go_at_call 11; refine (num_is _ _).mono ?_; rintro e w' ⟨rfl, rfl⟩) | (go_at_call 12; refine (knows_is _).mono ?_; rintro e w2 ⟨rfl, hok⟩; have HOK := Lib.hid hok; clear hok))
  obtain ⟨Z, hZ⟩ : ∃ Z, Zone.of w.heap.size w1.heap.size = Z := ⟨_, rfl⟩
  have ZP : Hid (∀ k, Z.T k → w.heap.size ≤ k) := by rw [← hZ]; exact fun k hk => hk.1
  rw [hZ] at H1
  have H2 := Lib.hid (H1.out.any HOK.out)
  have HO2 := Lib.hid (HO1.out.trans HOK.out)
  clear hZ
  have BL := Lib.hid (block_is (Z := Z) (w := w2) (.int .i64 0) (.int .i64 0) (.slice Ap p.length cp) p (HP.out.ahead HO2.out ZP.out) H2.out.top false (.slice none 0 0))
  go_wp2_with fail
  refine BL.out.mono ?_
  rintro e w3 ⟨vb, rfl, hrb, ho3⟩
  have HRB := Lib.hid hrb
  have HO3 := Lib.hid (HO2.out.trans ho3)
  have H3 := Lib.hid (H2.out.any ho3)
  clear hrb ho3 BL
  have ST := Lib.hid (sure_start a (page512 p) hsmall (length_page512 p))
  have ZS : Hid (Z.Past w.heap.size) := fun k hk => ZP.out k (Z.sub k hk)
  go_wp2_with fail
  refine (append_is H3.out _ a (HA.out.ahead HO3.out ZP.out) (by omega)).mono ?_
  rintro e w4 ⟨rfl, hd4, ho4⟩
  rw [ST.out.1] at hd4 ⊢
  have H4 := Lib.hid hd4
  have HO4 := Lib.hid (HO3.out.fresh ho4 ZS.out)
  have HRB4 := Lib.hid (HRB.out.out ho4)
  clear hd4 ho4
  go_wp2_with (go_at_call 11; refine (num_is _ _).mono ?_; rintro e w' ⟨rfl, rfl⟩)
  refine (write_is H4.out 7 _ (page512 p) HRB4.out).mono ?_
  rintro e w5 ⟨rfl, hd5, ho5⟩
  rw [ST.out.2.1] at hd5 ⊢
  have H5 := Lib.hid hd5
  have HO5 := Lib.hid (HO4.out.fresh ho5 ZS.out)
  have HRB5 := Lib.hid (HRB4.out.out ho5)
  clear hd5 ho5
  go_wp2_with (go_at_call 11; refine (num_is _ _).mono ?_; rintro e w' ⟨rfl, rfl⟩)
  refine (sync_is H5.out).mono ?_
  rintro e w6 ⟨rfl, hd6, ho6⟩
  rw [ST.out.2.2] at hd6 ⊢
  have H6 := Lib.hid hd6
  have HO6 := Lib.hid (HO5.out.fresh ho6 ZS.out)
  have HRB6 := Lib.hid (HRB5.out.out ho6)
  have SA := Lib.hid (sure_began a (page512 p))
  clear hd6 ho6 ST
  go_wp2_with (go_at_call 11; refine (num_is _ _).mono ?_; rintro e w' ⟨rfl, rfl⟩)
  have HRB7 : Hid (Row Z w6 vb (bytes (page512 p))) := HRB6
  clear HRB6
  generalize hB : page512 p = B at *
  clear hB HRB HRB4 HRB5 H1 H2 H3 H4 H5 HO1 HO2 HO3 HO4 HO5 HOK
  have INV : Hid (SureInv w d vb a B Z.S [] [] (.slice none 0 0) none w6) := ⟨Z, _, rfl, ZP.out, H6.out, SA.out, HRB7.out, owns_nil _ _, (fun g hg => by cases hg), HO6.out, fun g x hx => by cases hx⟩
  generalize hS0 : Z.S = S0 at *
  clear hS0 ZP ZS SA HRB7 H6 HO6
  go_loopw [18, 19] (fun vm vi wr => ∃ (i : Nat) (M : List UInt8), vi = .int .i64 (i : Int) ∧ i ≤ 50 ∧ M.length ≤ 1000 * i ∧ Hid (SureInv w d vb a B S0 M M vm none wr)) (fun _ vi _ => 50 - (intOf vi).toNat)
  case atStart => exact ⟨0, [], rfl, by omega, by simp, INV⟩
  case round =>
    obtain ⟨i, M, rfl, hi, hM, hinv⟩ := hrel
    by_cases hlt : i < ls.length ∧ i < 50
    · obtain ⟨hlt1, hlt2⟩ := hlt
      obtain ⟨o, ho⟩ : ∃ o, ls[i]? = some o := ⟨_, List.getElem?_eq_getElem hlt1⟩
      obtain ⟨hk, hn, hrow, ⟨Af, nf, cf, hvf⟩, A', rfl, q0, q1, q2, q3, q4⟩ := HL.out i o ho
      obtain ⟨Ab, cb, hvb, hb1, hb2⟩ := hrow.form
      rw [hvb] at q2 hrow
      rw [hvf] at q4
      have HROW := Lib.hid hrow
      have hbl : o.b.length ≤ 9223372036854775807 := by unfold maxLen at hb2; omega
      obtain ⟨X, hX⟩ : ∃ X, A'.add (i * 5) = X := ⟨_, rfl⟩
      simp only [← addr_add_add, hX] at q0 q1 q2 q3 q4
      have at_ : ∀ j v, 0 < j → w.cell? (X.add j) = some v → wr.cell? ⟨X.block, X.off + j, none⟩ = some v := fun j v hj hc => by
        have := hinv.out.ahead.cell hc id
        rwa [Addr.add, if_neg (by omega)] at this
      have p0 : wr.cell? X = some (.int .i64 o.kind) := hinv.out.ahead.cell q0 id
      have p1 := at_ 1 _ (by omega) q1
      have p2 := at_ 2 _ (by omega) q2
      have p3 := at_ 3 _ (by omega) q3
      have p4 := at_ 4 _ (by omega) q4
      have IM := Lib.hid (hinv.out.made (.cells #[.int .i64 o.kind, .int .i64 o.n, .slice Ab o.b.length cb, .bool o.torn, .slice Af nf cf] 42))
      clear at_ q0 q1 q2 q3 q4 hrow hvb hb1 hb2 hvf
      by_cases hbig : 1000 < o.b.length
      · go_wp2_with fail
        go_roundw
        case rel => exact ⟨i + 1, M, by go_num, by omega, by omega, IM.out.forget⟩
        case measure => simp [intOf]; omega
      · by_cases hk0 : o.kind = 0
        · rw [hk0] at IM
          go_wp2_with fail
          refine (IM.out.append _ o.b HROW.out (by omega)).mono ?_
          rintro e w8 ⟨x, g, rfl, hg⟩
          rcases hg with ⟨rfl, hi8⟩ | ⟨hg0, hi8⟩
          · have I8 := Lib.hid hi8
            obtain ⟨v9, w9, hrun, hi9⟩ := hi8.more _ o.b HROW.out (by omega) 22
            have HR9 := Lib.hid hrun
            have I9 := Lib.hid hi9
            have c8 := cells_all hi8.held
            have c9 := cells_all hi9.held
            clear hi8 hi9 hrun
            go_wp2_with (first | (go_at_call 11; refine (num_is _ _).mono ?_; rintro e w' ⟨rfl, rfl⟩) | (at_builtin; refine wpList_builtin rfl _ _ _ rfl HR9.out ?_))
            go_roundw
            case rel => exact ⟨i + 1, M ++ o.b, by go_num, by omega, by rw [List.length_append]; omega, I9.out.forget⟩
            case measure => simp [intOf]; omega
          · have I8 := Lib.hid hi8
            have c8 := cells_all hi8.held
            clear hi8
            go_wp2_with (go_at_call 11; refine (num_is _ _).mono ?_; rintro e w' ⟨rfl, rfl⟩)
            go_roundw
            case rel => exact ⟨i + 1, M, by go_num, by omega, by omega, I8.out.forget⟩
            case measure => simp [intOf]; omega
        · by_cases hk4 : o.kind = 4
          · by_cases hn7 : o.n = 7
            · rw [hk4, hn7] at IM
              go_wp2_with fail
              go_roundw
              case rel => exact ⟨i + 1, M, by go_num, by omega, by omega, IM.out.forget⟩
              case measure => simp [intOf]; omega
            · rw [hk4] at IM
              have BW := Lib.hid (fun k n v hv f => IM.out.blockWrite k n v o.b hv o.torn f o.n hn7)
              go_wp2_with fail
              clear p0 p1 p2 p3 p4
              generalize wr.alloc (.cells #[.int .i64 4, .int .i64 o.n, .slice Ab o.b.length cb, .bool o.torn, .slice Af nf cf] 42) = W7 at *
              generalize wr.heap.size = G7 at *
              have k0 := cells_all IM.out.held 0
              have k1 := cells_all IM.out.held 1
              have k2 := cells_all IM.out.held 2
              have k3 := cells_all IM.out.held 3
              have k4 := cells_all IM.out.held 4
              go_region_with (first | (go_at_call 21; refine (BW.out _ _ _ HROW.out _ _).mono ?_; rintro e w8 ⟨v8, rfl, ho8, hw8⟩; have W8 := Lib.hid hw8; have m0 := cells_all (ho8.get IM.out.held id) 0; have m1 := cells_all (ho8.get IM.out.held id) 1; have m2 := cells_all (ho8.get IM.out.held id) 2; clear hw8 ho8) | (go_at_call 22; refine (W8.out 0).mono ?_; rintro e w9 ⟨g9, rfl, hi9⟩; have I9 := Lib.hid hi9; have c9 := cells_all hi9.held; clear hi9))
              all_goals
                go_wp2_with fail
                go_roundw
                case rel => exact ⟨i + 1, M, by go_num, by omega, by omega, I9.out.forget⟩
                case measure => simp [intOf]; omega
          · by_cases hk5 : o.kind = 5
            · rw [hk5] at IM
              go_wp2_with fail
              refine (IM.out.fuse o.n hn.2).mono ?_
              rintro e w8 ⟨rfl, hi8⟩
              have I8 := Lib.hid hi8
              clear hi8
              go_wp2_with fail
              go_roundw
              case rel => exact ⟨i + 1, M, by go_num, by omega, by omega, I8.out.forget⟩
              case measure => simp [intOf]; omega
            · go_wp2_with fail
              go_roundw
              case rel => exact ⟨i + 1, M, by go_num, by omega, by omega, IM.out.forget⟩
              case measure => simp [intOf]; omega
    · obtain ⟨Z', D', g1, g2, g3, g4, g5, g6, g7, g8, g9⟩ := id hinv.out
      have INV' := hinv
      have CR := Lib.hid (crash_is g3 K hK torn vf F (HFR.out.ahead g8 g2) HFB.out)
      by_cases h50 : i < ls.length
      case' pos =>
        have h51 : ¬ i < 50 := fun e => hlt ⟨h50, e⟩
        go_wp2_with fail
      case' neg =>
        go_wp2_with fail
      all_goals
        refine CR.out.mono ?_
        rintro e w7 ⟨rfl, hd7, ho7⟩
        obtain ⟨p7, o7, f7, lv7, hd7⟩ := hd7
        have H7 := Lib.hid hd7
        have HO7 := Lib.hid (g8.fresh ho7 (fun k hk => g2 k (Z'.sub k hk)))
        have HRB7 := Lib.hid (g5.out ho7)
        have HOM7 := Lib.hid (g6.out ho7 (fun g hg => (g7 g hg).2))
        have gok : D'.Ok := by obtain ⟨_, _, _, _, g30⟩ := g3; exact g30.ok
        have RD := Lib.hid (g4.read gok K torn F)
        have LD := Lib.hid (g4.load gok K torn F)
        clear hd7 ho7 CR
        go_wp2_with fail
        refine (read_is H7.out 0).mono ?_
        rintro e w8 ⟨v8, rfl, hr8, hd8, ho8⟩
        rw [RD.out] at hr8 ⊢
        have H8 := Lib.hid hd8
        have HR8 := Lib.hid hr8
        have HO8 := Lib.hid (HO7.out.trans ho8)
        have HRB8 := Lib.hid (HRB7.out.far ho8 (fun _ h => h.elim))
        have HOM8 := Lib.hid (HOM7.out.out ho8 (fun g _ h => h))
        clear hr8 hd8 ho8
        go_wp2_with fail
        refine (load_is H8.out.at_ 7).mono ?_
        rintro e w9 ⟨v9, rfl, hr9, hd9, ho9⟩
        rw [LD.out] at hr9 ⊢
        have HR9 := Lib.hid hr9
        have HO9 := Lib.hid (HO8.out.fresh ho9 (fun k hk => g2 k (Z'.sub k hk)))
        have HR8' := Lib.hid (HR8.out.out ho9)
        clear hr9 hd9
        go_wp2_with fail
        have HOM9 := Lib.hid (HOM8.out.out ho9 (fun g hg => (g7 g hg).2))
        have HRB9 := Lib.hid (HRB8.out.out ho9)
        have NU : Hid (∀ (x : Int) n, Calls Try.prog 11 #[.int .i64 x] (w9.drewN n) fun e w'' => e = .returned (.int .i64 x) ∧ ∃ m, w'' = w9.drewN m) := fun x n => by
          refine (num_is x _).mono ?_
          rintro e w'' ⟨rfl, rfl⟩
          exact ⟨rfl, n, rfl⟩
        obtain ⟨L, hL⟩ : ∃ L, left a M K torn = L := ⟨_, rfl⟩
        rw [hL] at HR8 HR8'
        have hl1 := length_left a M K torn
        have hl2 := left_take a M K torn
        have hl3 := left_rest a M K torn
        rw [hL] at hl1 hl2 hl3
        obtain ⟨m, hm⟩ : ∃ m, min (max K 0).toNat M.length = m := ⟨_, rfl⟩
        have hmM : m ≤ M.length := by omega
        rw [hm] at hl1 hl3
        have b1 : a.length ≤ L.length := by omega
        have b2 : L.length ≤ a.length + M.length := by omega
        have HM := Lib.hid hm
        have HL1 := Lib.hid hl1
        have HL2 := Lib.hid hl2
        have HL3 := Lib.hid hl3
        clear hL hm hl1 hl2 hl3 RD LD
        obtain ⟨A8, c8, rfl, h8a, h8b⟩ := HR8'.out.form
        unfold maxLen at h8b
        have hro := HOM9.out.row (Z := Zone.no) (fun g _ h => h)
        obtain ⟨Am, cm, rfl, hma, hmb⟩ := hro.form
        have HRM := Lib.hid hro
        clear hro
        have hs9 : ∀ n, (convert 22 9 v9).run Try.prog (w9.drewN n) = .ok (.string (str B)) (w9.drewN n) := fun n => run_string Try.underlying22 Try.underlying5 Try.underlying9 (HR9.out.drewN n)
        have hsb : ∀ n, (convert 22 9 vb).run Try.prog (w9.drewN n) = .ok (.string (str B)) (w9.drewN n) := fun n => run_string Try.underlying22 Try.underlying5 Try.underlying9 (HRB9.out.drewN n)
        have hsa : ∀ n, (convert 22 9 (.slice A a.length cA)).run Try.prog (w9.drewN n) = .ok (.string (str a)) (w9.drewN n) := fun n => run_string Try.underlying22 Try.underlying5 Try.underlying9 ((HA.out.far HO9.out (fun _ h => h)).drewN n)
        have hsx : ∀ n, (convert 22 9 (.slice A8 a.length c8)).run Try.prog (w9.drewN n) = .ok (.string (str a)) (w9.drewN n) := fun n => by
          have h := (HR8'.out.cut3 (l := 0) (k := a.length) (m := c8) (by omega) (by omega) (by omega) (Nat.le_refl _)).drewN n
          rw [List.drop_zero, ← bytes_take, HL2.out] at h
          have hc := run_string (P := Try.prog) Try.underlying22 Try.underlying5 Try.underlying9 h
          unfold cut3 at hc
          by_cases hc0 : c8 = 0
          · rw [if_pos hc0] at hc; exact hc
          · rw [if_neg hc0] at hc
            have e0 : A8.map (·.add 0) = A8 := by cases A8 <;> simp [Addr.add]
            rw [e0] at hc
            exact hc
        have d1 : decide (L.length < a.length) = false := by simpa using b1
        have d2 : decide ((a.length : Int) + (M.length : Int) < (L.length : Int)) = false := by simp; omega
        have hmi : (M.length : Int) ≤ 50000 := by omega
        go_wp2_with fail
        go_quiet (first | (go_at_call 11; exact NU.out _ _))
        obtain ⟨AX, hAX⟩ : ∃ AX, (if c8 = a.length then A8 else Option.map (fun x => x.add a.length) A8) = AX := ⟨_, rfl⟩
        have HRX := HR8'.out.drop_ (k := a.length) b1
        rw [hAX] at HRX
        obtain ⟨n, hn⟩ : ∃ n, L.length - a.length = n := ⟨_, rfl⟩
        rw [hn] at HRX
        have hnM : n ≤ M.length := by omega
        have HRX' := Lib.hid HRX
        have HN : Hid (n = m) := by have := HL1.out; show n = m; omega
        clear HRX
        go_wp2_with fail
        have hn63 : n ≤ 9223372036854775807 := by omega
        go_loopw [28] (fun vk wx => ∃ k q : Nat, k ≤ n ∧ vk = .int .i64 (k : Int) ∧ wx = w9.drewN q) (fun vk _ => n - (intOf vk).toNat)
        case atStart => exact ⟨0, _, Nat.zero_le _, rfl, rfl⟩
        case round =>
          obtain ⟨k, q, hkn, rfl, rfl⟩ := hrel
          by_cases hk : k < n
          · obtain ⟨ax, rfl, ux, hux⟩ : ∃ ax, AX = some ax ∧ ∃ u, (L.drop a.length)[k]? = some u := by
              have hlen := HRX'.out.len
              rw [length_bytes] at hlen
              obtain ⟨u, hu⟩ : ∃ u, (L.drop a.length)[k]? = some u := ⟨_, List.getElem?_eq_getElem (by omega)⟩
              obtain ⟨A', c', hv, _, _, hc⟩ := HRX'.out
              obtain ⟨b, hb, _, _⟩ := hc k (.int .u8 u.toNat) (bytes_at hu)
              injection hv with hv
              exact ⟨b, hv.trans hb, u, hu⟩
            obtain ⟨am, rfl, um, hum⟩ : ∃ am, Am = some am ∧ ∃ u, M[k]? = some u := by
              obtain ⟨u, hu⟩ : ∃ u, M[k]? = some u := ⟨_, List.getElem?_eq_getElem (by omega)⟩
              obtain ⟨A', c', hv, _, _, hc⟩ := HRM.out
              obtain ⟨b, hb, _, _⟩ := hc k (.int .u8 u.toNat) (bytes_at hu)
              injection hv with hv
              exact ⟨b, hv.trans hb, u, hu⟩
            have cx : ∀ q, (w9.drewN q).cell? (ax.add k) = some (.int .u8 ux.toNat) := fun q => by
              obtain ⟨A', c', hv, _, _, hc⟩ := HRX'.out
              obtain ⟨b, hb, _, h⟩ := hc k (.int .u8 ux.toNat) (bytes_at hux)
              injection hv with hv
              cases hv.trans hb
              exact h
            have cm' : ∀ q, (w9.drewN q).cell? (am.add k) = some (.int .u8 um.toNat) := fun q => by
              obtain ⟨A', c', hv, _, _, hc⟩ := HRM.out
              obtain ⟨b, hb, _, h⟩ := hc k (.int .u8 um.toNat) (bytes_at hum)
              injection hv with hv
              cases hv.trans hb
              exact h
            have hkM : k < M.length := by omega
            have hor := HL3.out k (by rw [← HN.out]; exact hk)
            rw [hux, hum, ← HN.out] at hor
            clear hux hum
            have HOR := Lib.hid hor
            clear hor
            by_cases hun : ux = um
            · obtain rfl := hun
              go_wp2_with fail
              go_quiet (fail)
              go_wp2_with fail
              go_roundw
              case rel => exact ⟨k + 1, _, by omega, by go_num, rfl⟩
              case measure => simp [intOf]; omega
            · have hor : torn = true ∧ k + 1 = n := HOR.out.resolve_left (fun e => hun (by injection e))
              obtain ⟨rfl, hk1⟩ := hor
              have hne : ((ux.toNat : Int) == (um.toNat : Int)) = false := by
                have : ux.toNat ≠ um.toNat := fun e => hun (UInt8.toNat_inj.1 e)
                simp; omega
              have hne' : ((ux.toNat : Int) != (um.toNat : Int)) = true := by simp [bne, hne]
              have hke : ((k : Int) == (n : Int) - 1) = true := by simp; omega
              obtain rfl := hk1
              go_wp2_with fail
              go_quiet (fail)
              go_wp2_with fail
              go_roundw
              case rel => exact ⟨k + 1, _, by omega, by go_num, rfl⟩
              case measure => simp [intOf]
          · obtain rfl : k = n := by omega
            have hfin : ((k : Int) == min (max K 0) (M.length : Int)) = true := by
              have h1 := HN.out
              have h2 := HM.out
              rw [beq_iff_eq]
              omega
            go_wp2_with fail
            go_ret
            exact ⟨rfl, HO9.out.drewN _⟩
end Go.Proofs.Ytddcojikbcbihaa
