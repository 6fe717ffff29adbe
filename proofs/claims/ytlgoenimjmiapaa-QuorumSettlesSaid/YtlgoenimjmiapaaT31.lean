import Derived.Test.YtlgoenimjmiapaaT30
set_option linter.unusedSimpArgs false
set_option linter.unusedVariables false
set_option linter.unusedSectionVars false
/-! works. -/
namespace Go.Proofs.Ytlgoenimjmiapaa
open Go.RowKit Go.Maps

theorem tmod_within (e : Int) (k : Int) (hk : 0 < k) : -k < e.tmod k ∧ e.tmod k < k := by
  have h1 := Int.tmod_lt_of_pos e hk
  refine ⟨?_, h1⟩
  by_cases he : 0 ≤ e
  · have := Int.tmod_nonneg k he
    omega
  · have h2 := Int.tmod_lt_of_pos (-e) hk
    rw [Int.neg_tmod] at h2
    omega
theorem encM_at {l : List (Msg × Value)} {i : Nat} {p : Msg × Value} (h : l[i]? = some p) (j : Nat) (hj : j < 8) : (encM l)[i * 8 + j]? = (mcells p)[j]? := by
  induction l generalizing i with
  | nil => cases h
  | cons y r ih =>
    have e : encM (y :: r) = mcells y ++ encM r := rfl
    have hl : (mcells y).length = 8 := rfl
    rw [e]
    cases i with
    | zero =>
      injection h with h
      subst h
      rw [Nat.zero_mul, Nat.zero_add, List.getElem?_append_left (by omega)]
    | succ i =>
      have := ih (i := i) h
      rw [List.getElem?_append_right (by omega), hl, show (i + 1) * 8 + j - 8 = i * 8 + j by omega]
      exact this
theorem encN_one (l : List Nt) : ∀ u ∈ encN l, u.oneCell' = true := by
  intro u hu
  obtain ⟨x, _, hx⟩ := List.mem_flatMap.1 hu
  simp only [List.mem_cons, List.not_mem_nil, or_false] at hx
  rcases hx with rfl | rfl | rfl | rfl | rfl <;> rfl
theorem encN_take (l : List Nt) (k : Nat) : encN (l.take k) = (encN l).take (k * 5) := by
  induction l generalizing k with
  | nil => simp [encN]
  | cons x r ih =>
    cases k with
    | zero => simp [encN]
    | succ k =>
      have e : encN (x :: r) = .int .i64 x.kind :: .int .i64 x.ep :: .int .i64 x.n :: .int .i64 x.ent.ep :: .string (str x.ent.data) :: encN r := rfl
      rw [e, show (k + 1) * 5 = k * 5 + 1 + 1 + 1 + 1 + 1 by omega, List.take_succ_cons, List.take_succ_cons, List.take_succ_cons, List.take_succ_cons, List.take_succ_cons, List.take_succ_cons, ← ih]
      rfl
theorem gr_reads {N : Nat → Prop} {w : World} {e : TypeId} {sz n : Nat} {v : Value} {xs : List Value} (h : GR w e sz v n xs) (hN : ∀ k, v.ownBlock = some k → ¬ N k) : RRow N w v n sz xs := by
  refine ⟨h.1, ?_⟩
  rcases h.2 with ⟨hv, h0⟩ | ⟨g, cap, cur, hv, hm, hh, h1, h2, h3, h4⟩
  · refine ⟨none, 0, by rw [hv, h0], by omega, Nat.zero_le _, fun j u hu => ?_⟩
    have := h.1
    rw [h0, Nat.zero_mul] at this
    rw [List.eq_nil_of_length_eq_zero this] at hu
    cases hu
  · refine ⟨some ⟨g, 0, none⟩, cap, hv, h1, h2, fun j u hu => ⟨g, 0, rfl, hN g (by rw [hv]; rfl), ?_⟩⟩
    obtain ⟨g', c', hv', hc⟩ := GRow.cell h hu
    rw [hv] at hv'
    injection hv' with e
    injection e with e
    injection e with e
    subst e
    rw [Nat.zero_add]
    exact hc
/-- The first k of a row that is read. -/
theorem RRow.firsts {N : Nat → Prop} {w : World} {sz n c k : Nat} {A : Option Addr} {xs : List Value} (h : RRow N w (.slice A n c) n sz xs) (hk : k ≤ n) : RRow N w (.slice A k c) k sz (xs.take (k * sz)) := by
  obtain ⟨h0, A', c', hv, h1, h2, hc⟩ := h
  have eA : A = A' := by injection hv
  have ec : c = c' := by injection hv
  subst eA ec
  refine ⟨by rw [List.length_take, h0, Nat.min_eq_left (Nat.mul_le_mul_right _ hk)], A, c, rfl, by omega, h2, fun j u hu => ?_⟩
  rw [List.getElem?_take] at hu
  split at hu
  · exact hc j u hu
  · cases hu

/-- What works makes of a town. -/
def Town.worked (t : Town) (i : Nat) (ns : List Nt) (ms : List Msg) (a : Deed) : Town :=
  if a.falls = true then Town.crash { t with notes := updN t.notes i (t.notes i ++ ns.take (modN a.cut (ns.length + 1))) } i
  else { t with notes := updN t.notes i (t.notes i ++ ns), net := t.net ++ ms.take (300 - t.net.length) }

section
variable {w w' : World} {w0 : Base} {tb : Nat} {t : Town} {L : Nat → Nat} {U : TV} {i : Nat} {xs : Nat → Nat}
set_option maxRecDepth 100000 in
set_option maxHeartbeats 4000000 in
/-- works, where the node falls. -/
theorem works_falls {v : Value} {ns : List Nt} {ms : List Msg} (h : TownW w0 tb t xs v ns ms w) (hi : i < t.n) (h7 : t.n ≤ 7) (hodd : t.n % 2 = 1) (a : Deed) (ha : a.falls = true) (hcut : -9223372036854775808 ≤ a.cut ∧ a.cut ≤ 9223372036854775807) (hl : (t.notes i).length + ns.length ≤ 1000000000) (hf : ∀ y ∈ t.notes i ++ ns, y.ent.data.length ≤ 9223372036854775807)
    {s : St} (hs : foldFrom s00 (t.notes i ++ ns.take (modN a.cut (ns.length + 1))) = some s) (hg : s.Good) :
    Calls Try.prog 43 #[.pointer (some ⟨tb, 0, none⟩), .int .i64 (i : Int), v, .agg #[.int .i64 a.kind, .int .i64 a.i, .int .i64 a.k, .int .i64 a.cut, .bool a.falls]] w fun e w' => e = .returned (.bool true) ∧ ∃ xs', TownX w0 tb (t.worked i ns ms a) xs' w' := by
  obtain ⟨K, hK⟩ : ∃ K, modN a.cut (ns.length + 1) = K := ⟨_, rfl⟩
  obtain ⟨l, hll⟩ : ∃ l, ns.length = l := ⟨_, rfl⟩
  obtain ⟨cu, hcu⟩ : ∃ cu, a.cut = cu := ⟨_, rfl⟩
  have hKl : K ≤ l := by have := modN_lt a.cut (n := ns.length + 1) (by omega); omega
  have bt := tmod_within cu ((l : Int) + 1) (by omega)
  have hKe : ((cu.tmod ((l : Int) + 1) + (l : Int)) + 1).tmod ((l : Int) + 1) = (K : Int) := by
    have h0 : 0 ≤ ((cu.tmod ((l : Int) + 1) + (l : Int)) + 1).tmod ((l : Int) + 1) := Int.tmod_nonneg _ (by omega)
    rw [← hK, hcu, hll]
    unfold modN
    rw [show (((l + 1 : Nat) : Int)) = (l : Int) + 1 by omega, ← Int.add_assoc]
    omega
  have w1e : IntKind.i64.wrap ((l : Int) + 1) = (l : Int) + 1 := IntWalk.i64_in _ (by omega)
  have w2e : IntKind.i64.wrap (cu.tmod ((l : Int) + 1) + (l : Int)) = cu.tmod ((l : Int) + 1) + (l : Int) := IntWalk.i64_in _ (by omega)
  have w3e : IntKind.i64.wrap (cu.tmod ((l : Int) + 1) + (l : Int) + 1) = cu.tmod ((l : Int) + 1) + (l : Int) + 1 := IntWalk.i64_in _ (by omega)
  have hT : t.worked i ns ms a = Town.crash { t with notes := updN t.notes i (t.notes i ++ ns.take K) } i := by unfold Town.worked; rw [if_pos ha, hK]
  obtain ⟨T, hTT⟩ : ∃ T, t.worked i ns ms a = T := ⟨_, rfl⟩
  rw [hTT] at hT ⊢
  obtain ⟨L, U, h1, h2, rfl, nv, sv, ss, rfl, hss, hwk⟩ := h
  obtain ⟨A1, c1, rfl⟩ := GRow.form hwk.notes
  obtain ⟨A2, c2, rfl⟩ := GRow.form hwk.send
  obtain ⟨gn, cn, hnv, -⟩ := h1.rown hi
  obtain ⟨Ai, ci, hni⟩ := GRow.form (h1.notes i hi)
  obtain ⟨n, hn⟩ : ∃ n, t.n = n := ⟨_, rfl⟩
  obtain ⟨li, hli⟩ : ∃ li, (t.notes i).length = li := ⟨_, rfl⟩
  obtain ⟨B, hB⟩ : ∃ B, w.heap.size = B := ⟨_, rfl⟩
  obtain ⟨M, hM⟩ : ∃ M, ss.length = M := ⟨_, rfl⟩
  obtain ⟨W0, hW0⟩ : ∃ W0, (w.alloc (.cells #[.slice A1 ns.length c1, .slice A2 ss.length c2] 32)).alloc (.cells #[.int .i64 a.kind, .int .i64 a.i, .int .i64 a.k, .int .i64 a.cut, .bool a.falls] 62) = W0 := ⟨_, rfl⟩
  have o0 : Out Zone.no w W0 := by rw [← hW0]; exact ((Out.refl _ _).alloc _).alloc _
  have BOX : Hid (∀ W, Out Zone.no W0 W → W.cell? ⟨B, 0, none⟩ = some (.slice A1 l c1) ∧ W.cell? ⟨B + 1, 3, none⟩ = some (.int .i64 cu) ∧ W.cell? ⟨B + 1, 4, none⟩ = some (.bool true)) := fun W ho => by
    have hb := heap_alloc_new w (.cells #[.slice A1 ns.length c1, .slice A2 ss.length c2] 32)
    have hb2 := ((Out.refl Zone.no (w.alloc (.cells #[.slice A1 ns.length c1, .slice A2 ss.length c2] 32))).alloc (.cells #[.int .i64 a.kind, .int .i64 a.i, .int .i64 a.k, .int .i64 a.cut, .bool a.falls] 62)).get hb id
    have hb3 := heap_alloc_new (w.alloc (.cells #[.slice A1 ns.length c1, .slice A2 ss.length c2] 32)) (.cells #[.int .i64 a.kind, .int .i64 a.i, .int .i64 a.k, .int .i64 a.cut, .bool a.falls] 62)
    have hsz : (w.alloc (.cells #[.slice A1 ns.length c1, .slice A2 ss.length c2] 32)).heap.size = B + 1 := by simp [hB]
    rw [hsz] at hb3
    rw [hW0, hB] at hb2
    rw [hW0] at hb3
    have k1 := ho.get hb2 id
    have k2 := ho.get hb3 id
    refine ⟨by rw [cells_all k1, ← hll]; rfl, by rw [cells_all k2, ← hcu]; rfl, by rw [cells_all k2, ← ha]; rfl⟩
  have KC : Hid (∀ W, Out Zone.no w W → W.cell? ⟨tb, 2, none⟩ = some (.slice (some ⟨gn, 0, none⟩) n cn) ∧ W.cell? ⟨gn, i, none⟩ = some (.slice Ai li ci)) := fun W ho => by
    have hW := h1.any ho
    obtain ⟨g', c', f1, f2, _, _⟩ := hW.rown hi
    rw [hnv] at f1
    obtain ⟨rfl, rfl⟩ : gn = g' ∧ cn = c' := by injection f1 with e1 _ e3; injection e1 with e1; injection e1 with e1; exact ⟨e1, e3⟩
    rw [← hn, ← hli]
    exact ⟨by rw [hW.c 2, ← hnv]; rfl, by rw [f2, hni]⟩
  have APP : Hid (∀ W, Out Zone.no w W → ∃ A9 n9 c9 w1, (Builtin.append_ #[29, 29] 29 #[.slice Ai li ci, .slice A1 K c1]).run Try.prog W = .ok (.slice A9 n9 c9) w1 ∧ Hid (TownX w0 tb { t with notes := updN t.notes i (t.notes i ++ ns.take K) } U.xs (w1.setCell ⟨gn, i, none⟩ (.slice A9 n9 c9))) ∧ w1.cell? ⟨tb, 2, none⟩ = some (.slice (some ⟨gn, 0, none⟩) n cn) ∧ w1.frozen? ⟨gn, i, none⟩ = false ∧ ∃ u, w1.cell? ⟨gn, i, none⟩ = some u) := fun W ho => by
    have hW := h1.any ho
    have hwW := hwk
    have hr : RRow (fun _ => False) W (.slice A1 ns.length c1) ns.length 5 (encN ns) := gr_reads (GRow.any hwk.notes ho) (fun _ _ h => h)
    have hr2 := hr.firsts (k := K) (by omega)
    rw [← encN_take] at hr2
    have hgi := hW.notes i hi
    rw [hni] at hgi
    obtain ⟨v1, w1, k1, k2, k3, k4⟩ := GR.appended elem29 hgi 29 (m := K) hr2 (encN_one _) (le_maxLen (by omega)) (by omega) (by omega)
    obtain ⟨A9, c9, rfl⟩ := GRow.form k2
    have htl : (ns.take K).length = K := by rw [List.length_take]; omega
    have := hW.pushNotes (h2.any ho) hi (l := ns.take K) (v1 := .slice A9 _ c9) (by rw [htl]; exact k2) (by rw [hni]; exact k3) (by rw [hni]; exact k4) hnv (v := .agg #[.slice A1 ns.length c1, .slice A2 ss.length c2]) (ns := ns) (ms := ms) ⟨_, _, ss, rfl, hss, ⟨GRow.any hwk.notes ho, GRow.any hwk.send ho, fun p hp => (hwk.rows p hp).any ho, hwk.bn, hwk.bs⟩⟩
    rw [hli] at k1 this
    refine ⟨A9, _, c9, w1, k1, this.1.x, ?_, this.2.2.1, this.2.2.2⟩
    rw [this.2.1 2]
    exact (KC.out W ho).1
  have CRA : Hid (∀ W, TownX w0 tb { t with notes := updN t.notes i (t.notes i ++ ns.take K) } U.xs W → Calls Try.prog 21 #[.pointer (some ⟨tb, 0, none⟩), .int .i64 (i : Int)] W fun e w' => e = .returned (.bool true) ∧ Hid (∃ xs', TownX w0 tb T xs' w')) := fun W hW => by
    have hni2 : (updN t.notes i (t.notes i ++ ns.take K)) i = t.notes i ++ ns.take K := if_pos rfl
    rw [hK] at hs
    have := crash_t (t := { t with notes := updN t.notes i (t.notes i ++ ns.take K) }) hW hi h7 hodd (s := s) (by show foldFrom s00 (updN t.notes i _ i) = _; rw [hni2]; exact hs) hg (by show (updN t.notes i _ i).length ≤ _; rw [hni2, List.length_append, List.length_take]; omega) (fun y hy => by
      have hy : y ∈ updN t.notes i (t.notes i ++ ns.take K) i := hy
      rw [hni2] at hy
      refine hf y ?_
      rcases List.mem_append.1 hy with e | e
      · exact List.mem_append.2 (Or.inl e)
      · exact List.mem_append.2 (Or.inr (List.mem_of_mem_take e)))
    rw [hT]
    exact this
  have SLI : Hid (∀ W, (Instr.slice 29 (.slice A1 l c1) none (some (.int .i64 (K : Int))) none).run Try.prog W = .ok (.slice A1 K c1) W) := fun W => by
    have hcc := GRow.caps hwk.notes
    obtain ⟨hu, ⟨ii, hi1, hz, hsz, hby⟩, hz1, hp⟩ := elem29
    have e0 : A1.map (·.add 0) = A1 := by cases A1 <;> simp [Addr.add]
    have hKc : K ≤ c1 := by omega
    simp [Instr.slice, run_underlying hu, Instr.sliceBounds, Instr.sliceBound, sizeOf, typeInfo, hi1, hsz, hKc, asIntOf]
    exact fun _ => e0
  have i1 : (0 : Int) ≤ (i : Int) := by omega
  have i2 : (i : Int) < (n : Int) := by omega
  have z1 : ((l : Int) + 1 == 0) = false := by rw [beq_eq_false_iff_ne]; omega
  have z2 : ¬ ((l : Int) + 1 = 0) := by omega
  have O0 := Lib.hid o0
  rw [hll, hcu] at hW0
  rw [hll, hcu, ha]
  rw [ha, hM] at hW0
  rw [hM]
  clear hwk hss h1 h2 hnv hni hli hs hg hl hf hi h7 hodd hT hTT hK hn bt hcut o0
  obtain ⟨b0, b3, b4⟩ := BOX.out W0 (Out.refl _ _)
  go_enter Try.func43, Try.ntmps43
  go_wp2_with fail
  clear hB hW0
  go_upto_region 2 with fail
  have HKE := Lib.hid hKe
  go_cut [9] (fun s9 wx => s9 = .int .i64 (K : Int) ∧ Hid (Out Zone.no W0 wx))
  case first =>
    clear APP CRA SLI KC O0 BOX
    go_quiet (fail)
    go_wp2_with fail
    go_meet
    exact ⟨by first | rfl | rw [HKE.out], (Out.refl _ _).drewN nq⟩
  case rest =>
  obtain ⟨rfl, hcut⟩ := hcut
  obtain ⟨W1, hW1⟩ : ∃ W1, wc = W1 := ⟨_, rfl⟩
  rw [hW1] at hcut ⊢
  have H1 := Lib.hid (hcut.out.drew)
  clear hcut hW1 b0 b3 b4 hKe w1e w2e w3e z1 z2 hM
  obtain ⟨A9, n9, c9, w1, hrun, hfin, e2, fz, uu, eu⟩ := APP.out _ (O0.out.trans H1.out)
  have HRUN := Lib.hid hrun
  obtain ⟨b0, b3, b4⟩ := BOX.out _ H1.out
  obtain ⟨k2, kn⟩ := KC.out _ (O0.out.trans H1.out)
  have sl := SLI.out
  clear hrun
  go_wp2_with fail
  go_region_law (refine step_builtin rfl _ _ _ rfl (by exact HRUN.out) ?_)
  go_goals
  all_goals
    go_wp2_with (go_at_call 21; refine (CRA.out _ hfin.out).mono ?_; rintro e w4 ⟨rfl, h4⟩)
    go_ret
    exact ⟨rfl, h4.out⟩
end
end Go.Proofs.Ytlgoenimjmiapaa
