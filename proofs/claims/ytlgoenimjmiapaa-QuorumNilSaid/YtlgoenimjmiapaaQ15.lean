import Derived.Test.YtlgoenimjmiapaaQ14
/-! ship. -/
set_option linter.unusedVariables false
namespace Go.Proofs.Ytlgoenimjmiapaa
open Go.RowKit Go.Maps

theorem GR.reads' {N : Nat → Prop} {w : World} {v : Value} {l : List Ent} (h : GR w 38 2 v l.length (encL l)) (hN : ∀ k, v.ownBlock = some k → ¬ N k) : RRow N w v l.length 2 (encL l) := by
  refine ⟨encL_length l, ?_⟩
  rcases h.2 with ⟨hv, h0⟩ | ⟨g, cap, cur, hv, hm, hh, h1, h2, h3, h4⟩
  · refine ⟨none, 0, by rw [hv, h0], by omega, Nat.zero_le _, fun j u hu => ?_⟩
    have := h.1
    rw [h0, Nat.zero_mul] at this
    rw [List.eq_nil_of_length_eq_zero this] at hu
    cases hu
  · refine ⟨some ⟨g, 0, none⟩, cap, hv, h1, h2, fun j u hu => ⟨g, 0, rfl, hN g (by rw [hv]; rfl), ?_⟩⟩
    obtain ⟨g', c', hv', hc⟩ := GRow.cell h hu
    rw [hv] at hv'
    injection hv' with e1 _ _
    injection e1 with e1
    injection e1 with e1
    rw [Nat.zero_add, e1]
    exact hc

/-- What 's[n:]' is. -/
def fromN (A : Option Addr) (n L c : Nat) : Value := .slice (if c = n then A else A.map (·.add (n * 2))) (L - n) (c - n)
theorem run_from {A : Option Addr} {n L c : Nat} (hn : n ≤ L) (W : World) : (Instr.slice 26 (.slice A L c) (some (.int .i64 (n : Int))) none none).run Try.prog W = .ok (fromN A n L c) W := by
  obtain ⟨hu, ⟨i, hi1, hz, hsz, hby⟩, hz1, hp⟩ := elem26
  simp [Instr.slice, run_underlying hu, Instr.sliceBounds, Instr.sliceBound, sizeOf, typeInfo, hi1, hsz, fromN, hn, asIntOf]
theorem row_from {w : World} {A : Option Addr} {c : Nat} {l : List Ent} (h : GR w 38 2 (.slice A l.length c) l.length (encL l)) {n : Nat} (hn : n ≤ l.length) : RRow (fun _ => False) w (fromN A n l.length c) (l.drop n).length 2 (encL (l.drop n)) := by
  refine ⟨encL_length _, ?_⟩
  have hlc := GRow.caps h
  have hcm : c ≤ maxLen := by
    rcases h.2 with ⟨hv, h0⟩ | ⟨g, cap, cur, hv, hm, hh, h1, h2, h3, h4⟩
    · injection hv with _ _ e; omega
    · injection hv with _ _ e; omega
  refine ⟨(if c = n then A else A.map (·.add (n * 2))), c - n, by unfold fromN; rw [List.length_drop], by rw [List.length_drop]; omega, by omega, fun j u hu => ?_⟩
  rw [encL_drop, List.getElem?_drop] at hu
  obtain ⟨g, c', hv, hc⟩ := GRow.cell h hu
  have hA : A = some ⟨g, 0, none⟩ := by injection hv
  have hj : n * 2 + j < (encL l).length := (List.getElem?_eq_some_iff.1 hu).1
  rw [encL_length] at hj
  refine ⟨g, n * 2, ?_, id, hc⟩
  rw [if_neg (by omega), hA]
  show some ((⟨g, 0, none⟩ : Addr).add (n * 2)) = _
  rw [addr0_add]

def shipMsg (q : ND) (id n : Nat) : Msg := ⟨3, (q.id : Int), (id : Int), q.st.ep, (n : Int), q.st.last n, (q.commit : Int), q.st.log.drop n⟩

section
variable {w w' : World} {x : Nat} {q : ND} {ns : List Nt} {ss : List (Msg × Value)} {V : NV}

set_option maxRecDepth 100000 in
set_option maxHeartbeats 2000000 in
theorem ship_is (h : NodeAt w x q ns ss V) (hss : ss.length ≤ 1000000) (id n : Nat) (hid : q.has[id]? = some (n : Int)) (hn : n ≤ q.st.log.length) (hl : q.st.log.length ≤ 1000000) (hh : q.has.length ≤ 1000) :
    Calls Try.prog 36 #[.pointer (some ⟨x, 0, none⟩), .int .i64 (id : Int)] w fun e w' => e = .returned (.tuple #[]) ∧ ∃ sv' v, NodeAt w' x q ns (ss ++ [(shipMsg q id n, v)]) { V with sv := sv' } ∧ Next (V.own x) w (NV.own x { V with sv := sv' }) w' := by
  obtain ⟨gh, ch, hhv, hcell⟩ := GRow.cell h.has (show (ints q.has)[id]? = some (.int .i64 (n : Int)) by unfold ints; rw [List.getElem?_map, hid]; rfl)
  have hidl : id < q.has.length := (List.getElem?_eq_some_iff.1 hid).1
  obtain ⟨AL, cL, hlv⟩ := GRow.form h.log
  have c8 := h.c8
  rw [hhv] at c8
  obtain ⟨Lh, hLh⟩ : ∃ Lh, q.has.length = Lh := ⟨_, rfl⟩
  rw [hLh] at c8 hidl hh
  have H := Lib.hid h
  have HLV := Lib.hid hlv
  clear h hhv hLh hlv hid
  go_enter Try.func36, Try.ntmps36
  go_wp2_with fail
  have c6 : w.drew.cell? ⟨x, 6, none⟩ = some (.int .i64 (q.commit : Int)) := H.out.c6
  have c2 : w.drew.cell? ⟨x, 2, none⟩ = some (.slice AL q.st.log.length cL) := by rw [← HLV.out]; exact H.out.blk.c2
  have CSD := (show w.drew.cell? ⟨x, 6, none⟩ = some (.int .i64 (q.commit : Int)) ∧ w.drew.cell? ⟨x, 2, none⟩ = some (.slice AL q.st.log.length cL) from ⟨c6, c2⟩)
  have hsl := fun W => run_from (A := AL) (c := cL) hn W
  obtain ⟨S1, hS1⟩ : ∃ S1, fromN AL n q.st.log.length cL = S1 := ⟨_, rfl⟩
  rw [hS1] at hsl
  have HLA : Hid (∀ W, Out Zone.no w W → Calls Try.prog 52 #[.pointer (some ⟨x, 0, none⟩), .int .i64 (n : Int)] W fun e w' => e = .returned (.int .i64 (q.st.last n)) ∧ W = w') := fun W ho => last_is W x 54 q.st V.lv _ (H.out.any ho).blk (H.out.any ho).log n hn hl
  have HCL : Hid (∀ W, Out Zone.no w W → Calls Try.prog 26 #[S1] W fun e w' => ∃ v', e = .returned v' ∧ GR w' 38 2 v' (q.st.log.drop n).length (encL (q.st.log.drop n)) ∧ Out Zone.no W w' ∧ ∀ k, v'.ownBlock = some k → W.heap.size ≤ k) := fun W ho => by
    refine clone_is W (fun _ => False) S1 (q.st.log.drop n) ?_ (by rw [List.length_drop]; omega)
    rw [← hS1]
    refine row_from ?_ hn
    rw [← HLV.out]
    exact (H.out.any ho).log
  have HSE : Hid (∀ W v, Out Zone.no w W → GR W 38 2 v (q.st.log.drop n).length (encL (q.st.log.drop n)) → (∀ k, v.ownBlock = some k → w.heap.size ≤ k) →
      Calls Try.prog 30 #[.pointer (some ⟨x, 0, none⟩), .agg #[.int .i64 3, .int .i64 0, .int .i64 (id : Int), .int .i64 0, .int .i64 (n : Int), .int .i64 (q.st.last n), .int .i64 (q.commit : Int), v]] W fun e w' => (e = .returned (.tuple #[]) ∧ ∃ sv' v, NodeAt w' x q ns (ss ++ [(shipMsg q id n, v)]) { V with sv := sv' } ∧ Next (V.own x) w (NV.own x { V with sv := sv' }) w') ∧ w'.cell? ⟨x, 6, none⟩ = some (.int .i64 (q.commit : Int)) ∧ w'.cell? ⟨x, 2, none⟩ = some (.slice AL q.st.log.length cL)) := fun W v ho hg hk => by
    have hr := GR.reads' (N := V.own x) hg (fun k hk' ho' => by have := hk k hk'; have := H.out.lt ho'; omega)
    refine (send_is (H.out.any ho) hss ⟨3, 0, (id : Int), 0, (n : Int), q.st.last n, (q.commit : Int), q.st.log.drop n⟩ v hr).mono ?_
    rintro e w' ⟨rfl, V', k1, k2⟩
    exact ⟨⟨rfl, V', v, k1, (Next.of_out ho).trans k2⟩, k1.c6, by rw [← HLV.out]; exact k1.blk.c2⟩
  obtain ⟨la, hla⟩ : ∃ la, q.st.last n = la := ⟨_, rfl⟩
  rw [hla] at HLA HSE
  obtain ⟨dl, hdl⟩ : ∃ dl, q.st.log.drop n = dl := ⟨_, rfl⟩
  rw [hdl] at HCL HSE
  have OW : Hid (Out Zone.no w w.drew) := (Out.refl Zone.no w).drew
  clear hS1 hla hdl H HLV c8 c6 c2 hcell
  go_region_held3 (fun W' => W'.cell? ⟨x, 6, none⟩ = some (.int .i64 (q.commit : Int)) ∧ W'.cell? ⟨x, 2, none⟩ = some (.slice AL q.st.log.length cL))
    (first | assumption)
    (first
      | (go_at_call 52; refine (HLA.out _ OW.out).mono ?_; rintro e w2 ⟨rfl, rfl⟩)
      | (go_at_call 26; refine (HCL.out _ OW.out).mono ?_; rintro e w3 ⟨v3, rfl, hg3, ho3, hk3⟩; have CS := (show w3.cell? ⟨x, 6, none⟩ = some (.int .i64 (q.commit : Int)) ∧ w3.cell? ⟨x, 2, none⟩ = some (.slice AL q.st.log.length cL) from ⟨ho3.cell CSD.1 (fun h => h), ho3.cell CSD.2 (fun h => h)⟩); have HG3 := Lib.hid hg3; have HK3 := Lib.hid hk3; have OW := Lib.hid (OW.out.trans ho3); obtain ⟨A3, c3, rfl⟩ := GRow.form hg3; clear hg3 ho3 hk3)
      | (go_at_call 30; refine (HSE.out _ _ OW.out HG3.out HK3.out).mono ?_; rintro e w4 ⟨⟨rfl, hfin⟩, s1, s2⟩; have CS4 := (show w4.cell? ⟨x, 6, none⟩ = some (.int .i64 (q.commit : Int)) ∧ w4.cell? ⟨x, 2, none⟩ = some (.slice AL q.st.log.length cL) from ⟨s1, s2⟩); have FIN := Lib.hid hfin; clear hfin))
  all_goals
    go_wp2_with fail
    go_end0
    exact ⟨rfl, FIN.out⟩
end
end Go.Proofs.Ytlgoenimjmiapaa
