import Derived.Test.YtddcojikbcbihaaT3
import Derived.Deep.DeepCutAuto
import Derived.Deep.CutBlock
import Derived.Outline
import Derived.Deep.QuietTactic
import Derived.BigQuiet
/-! The law WalLasts, walked. -/
set_option linter.unusedVariables false
namespace Go.Proofs.Ytddcojikbcbihaa
open Go.RowKit

/-- An operation that came in. -/
structure OpW where
  kind : Int
  n : Int
  b : List UInt8
  vb : Value
  torn : Bool
/-- Operations that came in, as a slice. -/
def OpsW (w : World) (v : Value) (ls : List OpW) : Prop :=
  ∃ A c, v = .slice A ls.length c ∧ ls.length ≤ c ∧ c ≤ maxLen ∧ ∀ i o, ls[i]? = some o →
    (-9223372036854775808 ≤ o.kind ∧ o.kind ≤ 9223372036854775807) ∧ (-9223372036854775808 ≤ o.n ∧ o.n ≤ 9223372036854775807) ∧ Row Zone.no w o.vb (bytes o.b) ∧
    ∃ a, A = some a ∧ w.cell? (a.add (i * 4)) = some (.int .i64 o.kind) ∧ w.cell? (a.add (i * 4 + 1)) = some (.int .i64 o.n) ∧ w.cell? (a.add (i * 4 + 2)) = some o.vb ∧
      w.cell? (a.add (i * 4 + 3)) = some (.bool o.torn)

set_option maxRecDepth 100000 in
set_option maxHeartbeats 4000000 in
theorem lasts_is (w : World) (vl : Value) (ls : List OpW) (hl : OpsW w vl ls) :
    Calls Try.prog 8 #[vl] w fun e w' => e = .returned (.bool true) ∧ Out Zone.no w w' := by
  obtain ⟨Al, cl, rfl, hl1, hl2, hl3⟩ := hl
  have HL := Lib.hid hl3
  unfold maxLen at hl2
  clear hl3
  go_enter Try.func8, Try.ntmps8
  go_wp2_with fail
  refine (made_is w 1048576 (by omega) (by omega)).mono ?_
  rintro e w1 ⟨d, rfl, hd, hd1, hd2, ho⟩
  have H1 := Lib.hid hd
  have HO1 := Lib.hid ho
  have HZ1 : Hid (∀ k, (Zone.of w.heap.size w1.heap.size).T k → w.heap.size ≤ k) := fun k hk => hk.1
  clear hd ho
  go_wp2_with fail
  obtain ⟨Z1, hZ1⟩ : ∃ Z1, Zone.of w.heap.size w1.heap.size = Z1 := ⟨_, rfl⟩
  rw [hZ1] at H1 HZ1
  clear hZ1
  have OP := open_is H1.out rfl rfl rfl
  unfold OpenOk at OP
  rw [show (DS.new 1048576 0).log = [] from rfl, recEnd_nil, recs_nil, show (0 : Int).toNat = 0 from rfl] at OP
  refine OP.mono ?_
  rintro e w2 ⟨wb, lv, xs, rfl, hw, hwb, hl, hk, hx, hd, ho⟩
  obtain rfl : xs = [] := by simpa using hk
  obtain ⟨Al, cl, rfl⟩ := ownsE_form2 hl
  rw [List.length_nil]
  have INV0 : Hid (LastInv w d wb (.slice none 0 0) (.slice none 0 0) [] [] [] [] 0 none w2) := by
    refine ⟨Z1.plus wb, _, _, ?_, hd, hw, fun hk => by have := H1.out.top.lt hk; omega, Or.inr rfl, WalInv.start, vowns_nil _ _ _, vowns_nil _ _ _, fun g hg => (by cases hg), fun g hg => (by cases hg), fun g _ hg => (by cases hg), HO1.out.fresh ho (fun k hk => HZ1.out k (Z1.sub k hk)), fun g x hx => (by cases hx)⟩
    rintro k (hk | hk)
    · exact HZ1.out k hk
    · have := HO1.out.size; rw [show k = wb from hk]; omega
  clear OP hw hwb hl hk hx hd ho H1 HZ1 HO1 hd1 hd2
  go_wp2_with (first
    | (go_at_call 36; refine (wnum_is _ _).mono ?_; rintro e w' ⟨rfl, rfl⟩)
    | (go_at_call 28; refine (wknows_is _).mono ?_; rintro e w3 ⟨rfl, hok⟩; have INV3 := Lib.hid (INV0.out.any hok); clear hok)
    | fail)
  clear INV0
  go_loopw [4, 7, 8, 9] (fun v4 v7 v8 v9 wr => ∃ (i wb : Nat) (S M : List (List UInt8)), v9 = .int .i64 (i : Int) ∧ i ≤ 120 ∧ v4 = .pointer (some ⟨wb, 0, none⟩) ∧ Hid (LastInv w d wb v7 v8 S M S M i none wr)) (fun _ _ _ v9 _ => 120 - (intOf v9).toNat)
  case atStart => exact ⟨0, wb, [], [], rfl, by omega, rfl, INV3.out⟩
  case round =>
    clear INV3
    obtain ⟨i, wb', S, M, rfl, hi, rfl, hinv⟩ := hrel
    by_cases hlt : i < ls.length ∧ i < 120
    · obtain ⟨hlt1, hlt2⟩ := hlt
      obtain ⟨o, ho⟩ : ∃ o, ls[i]? = some o := ⟨_, List.getElem?_eq_getElem hlt1⟩
      obtain ⟨hk, hn, hrow, A', rfl, q0, q1, q2, q3⟩ := HL.out i o ho
      obtain ⟨Ab, cb, hvb, hb1, hb2⟩ := hrow.form
      rw [hvb] at q2 hrow
      have HROW := Lib.hid hrow
      have hbl : o.b.length ≤ 9223372036854775807 := by unfold maxLen at hb2; omega
      obtain ⟨X, hX⟩ : ∃ X, A'.add (i * 4) = X := ⟨_, rfl⟩
      simp only [← addr_add_add, hX] at q0 q1 q2 q3
      have at_ : ∀ j v, 0 < j → w.cell? (X.add j) = some v → wr.cell? ⟨X.block, X.off + j, none⟩ = some v := fun j v hj hc => by
        have := hinv.out.out.cell hc id
        rwa [Addr.add, if_neg (by omega)] at this
      have p0 : wr.cell? X = some (.int .i64 o.kind) := hinv.out.out.cell q0 id
      have p1 := at_ 1 _ (by omega) q1
      have p2 := at_ 2 _ (by omega) q2
      have p3 := at_ 3 _ (by omega) q3
      have IM := Lib.hid (hinv.out.made (.cells #[.int .i64 o.kind, .int .i64 o.n, .slice Ab o.b.length cb, .bool o.torn] 72))
      clear at_ q0 q1 q2 q3 hrow hvb hb1 hb2 ho
      go_upto_block 2 with fail
      obtain ⟨W, hW⟩ : ∃ W, wr.alloc (.cells #[.int .i64 o.kind, .int .i64 o.n, .slice Ab o.b.length cb, .bool o.torn] 72) = W := ⟨_, rfl⟩
      obtain ⟨g, hg⟩ : ∃ g, wr.heap.size = g := ⟨_, rfl⟩
      rw [hW, hg] at IM ⊢
      have HLEN : Hid (S.length + M.length ≤ i) := by
        obtain ⟨Z, D, s, h⟩ := hinv.out
        exact h.inv.few
      clear hW hg p0 p1 p2 p3 hinv
      obtain ⟨k, hk'⟩ : ∃ k, o.kind = k := ⟨_, rfl⟩
      rw [hk'] at hk IM ⊢
      have c0 := cells_all IM.out.got 0
      have c1 := cells_all IM.out.got 1
      have c2 := cells_all IM.out.got 2
      have c3 := cells_all IM.out.got 3
      go_cut [7, 8, 11] (fun s7 s8 s11 wx => Exists fun f : Int => Exists fun S' : List (List UInt8) => Exists fun M' : List (List UInt8) => s11 = .int .i64 f ∧ (f = 0 ∨ f = 9) ∧ Hid (LastInv w d wb' s7 s8 S' M' S' M' (i + 1) (some (g, .cells #[.int .i64 k, .int .i64 o.n, .slice Ab o.b.length cb, .bool o.torn] 72)) wx))
      case first =>
        by_cases hk0 : k = 0
        · subst hk0
          obtain ⟨S1, b', hb', hr', hsl⟩ : ∃ S1 b', b'.length ≤ 1000 ∧ Row Zone.no w S1 (bytes b') ∧ (o.b.length ≤ 1000 ∧ S1 = .slice Ab o.b.length cb ∨ 1000 < o.b.length ∧ ∀ W, (Instr.slice 22 (.slice Ab o.b.length cb) none (some (.int .i64 1000)) none).run Try.prog W = .ok S1 W) := by
            by_cases hbig : 1000 < o.b.length
            · obtain ⟨_, _, hv, q1, q2, _⟩ := id HROW.out
              injection hv with _ _ hv
              subst hv
              rw [length_bytes] at q1
              refine ⟨_, o.b.take 1000, by rw [List.length_take]; omega, ?_, Or.inr ⟨hbig, fun W => run_slice_h elem22 Ab o.b.length cb 1000 (by omega) W⟩⟩
              have := HROW.out.cut3 (l := 0) (k := 1000) (m := cb) (by omega) (by omega) (by omega) (Nat.le_refl _)
              rw [List.drop_zero, ← bytes_take] at this
              exact this
            · exact ⟨_, o.b, by omega, HROW.out, Or.inl ⟨by omega, rfl⟩⟩
          obtain ⟨A1, n1, c1', hS1⟩ : ∃ A1 n1 c1', S1 = .slice A1 n1 c1' := by obtain ⟨A, c, h, _⟩ := hr'; exact ⟨_, _, _, h⟩
          subst hS1
          have AP := Lib.hid (IM.out.append hlt2 _ b' hr' hb')
          have HR' := Lib.hid hr'
          clear hr' hb'
          rcases hsl with ⟨hsm, hs2⟩ | ⟨hbig, hsl⟩
          · as_aux_lemma =>
            injection hs2 with e1 e2 e3
            subst e1 e2 e3
            go_wp2_with fail
            refine AP.out.mono ?_
            rintro e w8 ⟨a, q, rfl, ha, hq⟩
            rcases hq with ⟨rfl, hi8⟩ | ⟨rfl, hi8⟩
            · have hs := string_of (HR'.out.out hi8.out)
              obtain ⟨v9, w9, hrun, hi9⟩ := (hi8.any ((Out.refl Zone.no w8).alloc (.cells #[.string (str b')] 9))).push _ [b'] (sone w8 b') (by have := HLEN.out; simp; omega)
              have HR9 := Lib.hid hrun
              have I9 := Lib.hid hi9
              clear hi8 hi9 hrun
              go_wp2_with (first | (go_at_call 36; refine (wnum_is _ _).mono ?_; rintro e w' ⟨rfl, rfl⟩) | (at_builtin; refine wpList_builtin rfl _ _ _ rfl HR9.out ?_))
              go_meet
              exact ⟨0, S, M ++ [b'], rfl, Or.inl rfl, I9.out⟩
            · have I8 := Lib.hid hi8
              clear hi8
              go_wp2_with (go_at_call 36; refine (wnum_is _ _).mono ?_; rintro e w' ⟨rfl, rfl⟩)
              go_meet
              exact ⟨9, S, M, rfl, Or.inr rfl, I8.out⟩
          · as_aux_lemma =>
            go_wp2_with fail
            refine AP.out.mono ?_
            rintro e w8 ⟨a, q, rfl, ha, hq⟩
            rcases hq with ⟨rfl, hi8⟩ | ⟨rfl, hi8⟩
            · have hs := string_of (HR'.out.out hi8.out)
              obtain ⟨v9, w9, hrun, hi9⟩ := (hi8.any ((Out.refl Zone.no w8).alloc (.cells #[.string (str b')] 9))).push _ [b'] (sone w8 b') (by have := HLEN.out; simp; omega)
              have HR9 := Lib.hid hrun
              have I9 := Lib.hid hi9
              clear hi8 hi9 hrun
              go_wp2_with (first | (go_at_call 36; refine (wnum_is _ _).mono ?_; rintro e w' ⟨rfl, rfl⟩) | (at_builtin; refine wpList_builtin rfl _ _ _ rfl HR9.out ?_))
              go_meet
              exact ⟨0, S, M ++ [b'], rfl, Or.inl rfl, I9.out⟩
            · have I8 := Lib.hid hi8
              clear hi8
              go_wp2_with (go_at_call 36; refine (wnum_is _ _).mono ?_; rintro e w' ⟨rfl, rfl⟩)
              go_meet
              exact ⟨9, S, M, rfl, Or.inr rfl, I8.out⟩
        · by_cases hk1 : k = 1
          · as_aux_lemma =>
            subst hk1
            have SY := Lib.hid IM.out.sync
            go_wp2_with fail
            refine SY.out.mono ?_
            rintro e w8 ⟨q, rfl, hq⟩
            rcases hq with ⟨rfl, hi8⟩ | ⟨rfl, hi8⟩
            · obtain ⟨v9, w9, hrun, hi9⟩ := hi8.merge (by have := HLEN.out; omega)
              have HR9 := Lib.hid hrun
              have I9 := Lib.hid hi9
              clear hi8 hi9 hrun
              go_wp2_with (first | (go_at_call 36; refine (wnum_is _ _).mono ?_; rintro e w' ⟨rfl, rfl⟩) | (at_builtin; refine wpList_builtin rfl _ _ _ rfl HR9.out ?_))
              go_meet
              exact ⟨0, S ++ M, [], rfl, Or.inl rfl, I9.out⟩
            · have I8 := Lib.hid hi8
              clear hi8
              go_wp2_with (go_at_call 36; refine (wnum_is _ _).mono ?_; rintro e w' ⟨rfl, rfl⟩)
              go_meet
              exact ⟨9, S, M, rfl, Or.inr rfl, I8.out⟩
          · by_cases hk5 : k = 5
            · as_aux_lemma =>
              subst hk5
              obtain ⟨K, hK⟩ : ∃ K, o.n.tmod 9 = K := ⟨_, rfl⟩
              have hK2 : -9 < K ∧ K < 9 := by
                rcases Int.lt_or_le o.n 0 with h | h
                · obtain ⟨m, hm⟩ : ∃ m : Nat, o.n = -(m : Int) := ⟨(-o.n).toNat, by omega⟩
                  rw [hm, Int.neg_tmod, Int.tmod_eq_emod_of_nonneg (by omega)] at hK
                  omega
                · rw [Int.tmod_eq_emod_of_nonneg h] at hK
                  omega
              have FU := Lib.hid (fun k hk => IM.out.fuse k hk)
              go_wp2_with fail
              refine (FU.out _ (by omega)).mono ?_
              rintro e w8 ⟨rfl, hi8⟩
              have I8 := Lib.hid hi8
              clear hi8
              go_wp2_with fail
              go_meet
              exact ⟨0, S, M, rfl, Or.inl rfl, I8.out⟩
            · as_aux_lemma =>
              have e0 : (k == 0) = false := by simpa using hk0
              have e1 : (k == 1) = false := by simpa using hk1
              have e5 : (k == 5) = false := by simpa using hk5
              go_wp2_with fail
              go_meet
              exact ⟨0, S, M, rfl, Or.inl rfl, IM.out.more⟩
      case rest =>
        obtain ⟨f, S', M', rfl, hf, HI⟩ := hcut
        clear IM c0 c1 c2 c3
        rename_i wc
        have c0 := cells_all HI.out.got 0
        have c1 := cells_all HI.out.got 1
        have c3 := cells_all HI.out.got 3
        by_cases hgo : f = 0 ∧ k ≠ 6
        · as_aux_lemma =>
          obtain ⟨rfl, hk6⟩ := hgo
          have e6 : (k == 6) = false := by simpa using hk6
          go_wp2_with fail
          go_roundw
          case rel => exact ⟨i + 1, wb', S', M', by go_num, by omega, rfl, HI.out.forget⟩
          case measure => simp [intOf]; omega
        · have hgo' : f = 9 ∨ f = 0 ∧ k = 6 := by
            rcases hf with rfl | rfl
            · exact Or.inr ⟨rfl, Classical.byContradiction fun h => hgo ⟨rfl, h⟩⟩
            · exact Or.inl rfl
          obtain ⟨q, hq, CR⟩ := HI.out.crash o.n hn o.torn
          have HC := Lib.hid CR
          have HQ := Lib.hid hq
          clear CR hgo hf hq
          rcases hgo' with rfl | ⟨rfl, rfl⟩
          all_goals
            as_aux_lemma =>
            go_wp2_with fail
            refine HC.out.mono ?_
            rintro e w4 ⟨rfl, Z, E, hF, e1, e2, e3, hrecs, hinv4⟩
            have HF := Lib.hid hF
            have OP := open_is hF.disk e1 e2 e3
            unfold OpenOk at OP
            rw [hrecs] at OP
            have HOP := Lib.hid OP
            have HI4 := Lib.hid hinv4
            obtain ⟨A, hA⟩ : ∃ A, S' ++ M'.take q = A := ⟨_, rfl⟩
            rw [hA] at HOP HI4
            have HA := Lib.hid hA
            clear OP hinv4 hrecs e1 e2 e3 hF HC hA
            go_wp2_with fail
            refine HOP.out.mono ?_
            rintro e w5 ⟨wb2, lv, xs, rfl, hw5, hwb, hl5, hkey, hx, hd5, ho5⟩
            have hEnt := ents_of hl5 (fun x hx' => ⟨_, hx x hx'⟩)
            have hsz := HF.out.out.size
            have hout5 : Out Zone.no w w5 := HF.out.out.fresh ho5 (fun k hk => HF.out.hT k (Z.sub k hk))
            have os5 := HF.out.os.outZ ho5 HF.out.bs
            have om5 := HF.out.om.outZ ho5 HF.out.bm
            have o6 := (Out.refl Zone.no w5).alloc (.cells #[] 9)
            have hlA : A.length ≤ S'.length + M'.length := by rw [← HA.out, List.length_append, List.length_take]; omega
            have hfew : S'.length + M'.length ≤ i + 1 := by
              obtain ⟨Z', D', s', h⟩ := HI.out
              exact h.inv.few
            obtain ⟨v6, w6, hrun6, hv6, hg6, ho6, _⟩ := sapp (snew w5 w5.heap.size (Nat.le_refl _)) o6 rfl (os5.row.out o6) (by simp; omega)
            obtain ⟨v7, w7, hrun7, hv7, hg7, ho7, _⟩ := sapp hv6 ho6 rfl (om5.row.out ho6) (by simp; omega)
            simp only [List.nil_append] at hv7
            have HR6 := Lib.hid hrun6
            have HR7 := Lib.hid hrun7
            have HE7 := Lib.hid (hEnt.out ho7)
            have HK := Lib.hid hkey
            have HV7 := Lib.hid hv7
            have HO7 := Lib.hid ho7
            have HD5 := Lib.hid (show DiskAt (Z.plus wb2) w5 d _ ∧ WalAt w5 wb2 d _ ∧ w.heap.size ≤ wb2 from ⟨hd5, hw5, by have := HF.out.out.size; omega⟩)
            have HOUT5 := Lib.hid hout5
            have HNS : Hid (¬ Z.S wb2) := fun hk => by have := HF.out.disk.top.lt hk; omega
            obtain ⟨Am, cm, rfl⟩ := hEnt.form
            obtain ⟨A7, c7, rfl⟩ := hv7.form
            obtain ⟨Ass, css, rfl⟩ := os5.form
            rw [length_strs] at HV7 HR6 HR7 ⊢
            have hxl : xs.length = A.length := by
              have := congrArg List.length hkey
              rwa [List.length_map, entsR_length] at this
            have hge : S'.length ≤ xs.length := by rw [hxl, ← HA.out, List.length_append]; omega
            have hle : xs.length ≤ (S' ++ M').length := by rw [hxl, List.length_append]; omega
            have hAk : Hid (∀ (k : Nat) (x : Ent), xs[k]? = some x → (strs (S' ++ M'))[k]? = some (Value.string (str x.X))) := fun k x hx' => by
              have e1 : (xs.map Ent.key)[k]? = some x.key := by simp [hx']
              rw [hkey] at e1
              have hk' : k < A.length := by have := (List.getElem?_eq_some_iff.1 hx').1; omega
              obtain ⟨b, hb⟩ : ∃ b, A[k]? = some b := ⟨_, List.getElem?_eq_getElem hk'⟩
              rw [entsR_at A 0 k b hb] at e1
              injection e1 with e1
              have eb : b = x.X := congrArg (fun p => p.2.1) e1
              have hb2 : (S' ++ M')[k]? = some b := by
                rw [← HA.out] at hb
                have e2 : S' ++ M'.take q = (S' ++ M').take (S'.length + q) := (List.take_length_add_append q).symm
                rw [e2, List.getElem?_take] at hb
                split at hb
                · exact hb
                · cases hb
              unfold strs
              rw [List.getElem?_map, hb2, eb]
              rfl
            have hri : Hid (∀ (k : Nat) (x y : Ent), xs[k]? = some x → xs[k + 1]? = some y → x.at_ < y.at_) := fun k x y hx' hy' => by
              have e1 : (xs.map Ent.key)[k]? = some x.key := by simp [hx']
              have e2 : (xs.map Ent.key)[k + 1]? = some y.key := by simp [hy']
              rw [hkey] at e1 e2
              exact entsR_rise A k _ _ e1 e2
            have HNX : Hid (Exists fun na : Nat => xs.length = na) := ⟨_, rfl⟩
            obtain ⟨na, hna⟩ : ∃ na, xs.length = na := ⟨_, rfl⟩
            obtain ⟨ns, hns⟩ : ∃ ns, S'.length = ns := ⟨_, rfl⟩
            obtain ⟨nl, hnl⟩ : ∃ nl, (S' ++ M').length = nl := ⟨_, rfl⟩
            have hn63 : na ≤ 1000 := by omega
            have hm63 : nl ≤ 1000 := by rw [← hnl, List.length_append]; omega
            rw [hns, hna] at hge
            rw [hna, hnl] at hle
            rw [hns] at HR6
            rw [hnl] at HV7 HR7
            rw [hna, hns]
            have HNA := Lib.hid hna
            have HXL := Lib.hid hxl
            clear hxl hna hns hnl HNX hw5 hwb hl5 hkey hx hd5 ho5 hEnt hsz hout5 os5 om5 o6 hlA hfew hrun6 hv6 hg6 ho6 hrun7 hv7 hg7 ho7
            go_wp2_with (first
              | (at_builtin; refine wpList_builtin rfl _ _ _ rfl HR6.out ?_)
              | (at_builtin; refine wpList_builtin rfl _ _ _ rfl HR7.out ?_)
              | (go_at_call 36; refine (wnum_is _ _).mono ?_; rintro e w' ⟨rfl, rfl⟩)
              | fail)
            go_loopw [19] (fun vk wx => ∃ (k n : Nat), vk = .int .i64 (k : Int) ∧ k ≤ na ∧ wx = w7.drewN n) (fun vk _ => na - (intOf vk).toNat)
            case atStart => exact ⟨0, 0, rfl, Nat.zero_le _, rfl⟩
            case round =>
              obtain ⟨k, n, rfl, hk7, rfl⟩ := hrel
              by_cases hlt7 : k < na
              · obtain ⟨x, hx⟩ : ∃ x, xs[k]? = some x := ⟨_, List.getElem?_eq_getElem (by rw [HNA.out]; exact hlt7)⟩
                obtain ⟨g1, d1, hv1, p1, p2, p3⟩ := HE7.out.cell k x hx
                obtain rfl : Am = some ⟨g1, 0, none⟩ := by injection hv1
                obtain ⟨g2, hv2, p4⟩ := HV7.out.cells (hAk.out k x hx)
                obtain rfl : A7 = some ⟨g2, 0, none⟩ := by injection hv2
                have s1 := fun n => string_of (p3.drewN n)
                by_cases hk0 : k = 0
                · as_aux_lemma =>
                  subst hk0
                  simp only [Nat.zero_mul, Nat.zero_add] at p1 p2
                  clear hv1 hv2 p3 hx
                  go_wp2_with fail
                  go_quiet (fail)
                  all_goals
                    go_wp2_with fail
                    go_roundw
                    case rel => exact ⟨1, _, by go_num, by omega, rfl⟩
                    case measure => simp [intOf]; omega
                · as_aux_lemma =>
                  obtain ⟨j, rfl⟩ : ∃ j, k = j + 1 := ⟨k - 1, by omega⟩
                  obtain ⟨y, hy⟩ : ∃ y, xs[j]? = some y := ⟨_, List.getElem?_eq_getElem (by have := HNA.out; omega)⟩
                  obtain ⟨g3, d3, hv3, r1, r2, r3⟩ := HE7.out.cell j y hy
                  obtain rfl : g1 = g3 := by injection hv3 with e; injection e with e; injection e
                  have hlt8 := hri.out j y x hy hx
                  clear hv1 hv2 hv3 p3 hx hy r2 r3 hk0
                  go_wp2_with fail
                  go_quiet (fail)
                  all_goals
                    go_wp2_with fail
                    go_roundw
                    case rel => exact ⟨j + 1 + 1, _, by go_num, by omega, rfl⟩
                    case measure => simp [intOf]; omega
              · as_aux_lemma =>
                obtain rfl : k = na := by omega
                have hrow := HV7.out.row.drewN n
                have hlen := hrow.len
                rw [length_strs] at hlen
                have hsl := fun W => run_slice_h elem70 A7 nl c7 k (by omega) W
                have hc := hrow.cut3 (l := 0) (k := k) (m := c7) (by omega) (by omega) (by omega) (Nat.le_refl _)
                rw [List.drop_zero, ← strs_take] at hc
                have hAt : (S' ++ M').take k = A := by
                  have e2 : S' ++ M'.take q = (S' ++ M').take (S'.length + q) := (List.take_length_add_append q).symm
                  have hAl : A.length = k := by rw [← HXL.out]; exact HNA.out
                  have e3 : k = S'.length + q := by rw [← hAl, ← HA.out, List.length_append, List.length_take]; have := HQ.out; omega
                  rw [← HA.out, e2, e3]
                rw [hAt] at hc
                obtain ⟨S1, hS1⟩ : ∃ S1, cut3 A7 0 k c7 = S1 := ⟨_, rfl⟩
                rw [hS1] at hsl hc
                have hlA2 : A.length ≤ 1000 := by have := HXL.out; have := HNA.out; omega
                have o9 := (Out.refl Zone.no (w7.drewN n)).alloc (.cells #[] 9)
                obtain ⟨v9, w9, hrun9, hv9, _, ho9, _⟩ := sapp (snew (w7.drewN n) (w7.drewN n).heap.size (Nat.le_refl _)) o9 rfl (hc.out o9) (by simp; omega)
                simp only [List.nil_append] at hv9
                have ho57 := HO7.out.drewN n
                have FIN := Lib.hid (LastInv.anew (Z := Z.plus wb2) (d := d) (wb' := wb2) (i' := i + 1) (fun k hk => by
                  rcases hk with hk | hk
                  · exact HF.out.hT k hk
                  · rw [show k = wb2 from hk]; exact HD5.out.2.2) (HD5.out.1.any ho57) (HD5.out.2.1.out ho57 id) HNS.out (Or.inr rfl) HI4.out ho9 hv9 (HOUT5.out.trans ho57))
                have HR9 := Lib.hid hrun9
                clear hrow hlen hc hAt hS1 o9 hrun9 hv9 ho9 ho57
                go_wp2_with (at_builtin; refine wpList_builtin rfl _ _ _ rfl HR9.out ?_)
                go_roundw
                case rel => exact ⟨i + 1, wb2, A, [], by go_num, by omega, rfl, FIN.out⟩
                case measure => simp [intOf]; omega
    · have HO := Lib.hid hinv.out.out
      go_wp2_with fail
      all_goals
        go_ret
        exact ⟨rfl, HO.out⟩
end Go.Proofs.Ytddcojikbcbihaa
