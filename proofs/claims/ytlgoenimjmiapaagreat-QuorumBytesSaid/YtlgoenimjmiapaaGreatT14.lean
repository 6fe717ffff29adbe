import Derived.Test.YtlgoenimjmiapaaGreatT13
set_option linter.unusedSimpArgs false
set_option linter.unusedVariables false
set_option linter.unusedSectionVars false
/-! Append. -/
set_option linter.unusedVariables false
set_option linter.unusedSectionVars false
namespace Go.Proofs.YtlgoenimjmiapaaGreat
open Go.RowKit Go.Maps

/-- What may be asked of a node. -/
structure ND.Fit (q : ND) : Prop where
  n0 : 0 < q.n
  n7 : q.n ≤ 7
  ids : q.id < q.n
  log : q.st.log.length ≤ 2048
  ep : 0 ≤ q.st.ep
  role : q.role = 0 ∨ q.role = 1 ∨ q.role = 2
  run : q.role ≠ 0 → ∃ gs, q.granted = some gs ∧ gs.Nodup ∧ ∀ g ∈ gs, 0 ≤ g ∧ g < (q.n : Int)
  prim : q.role = 2 → q.has.length = q.n ∧ q.acked.length = q.n ∧ (∀ a ∈ q.has, 0 ≤ a ∧ a ≤ (q.st.log.length : Int)) ∧ (∀ a ∈ q.acked, 0 ≤ a ∧ a ≤ (q.st.log.length : Int))

def ND.append (q : ND) (d : List UInt8) : NS × Int × Int :=
  if d = [] ∨ 65536 < d.length then (⟨q, [], []⟩, 0, 1)
  else if q.role ≠ 2 then (⟨q, [], []⟩, 0, 52)
  else if 2048 ≤ q.st.log.length then (⟨q, [], []⟩, 0, 6)
  else (((NS.note ⟨q, [], []⟩ ⟨3, 0, 0, ⟨q.st.ep, d⟩⟩).ships).rise, ((((NS.note ⟨q, [], []⟩ ⟨3, 0, 0, ⟨q.st.ep, d⟩⟩).ships).rise).q.st.log.length : Int), 0)

theorem rise_st (q : ND) : q.risen.st = q.st := by unfold ND.risen; split <;> rfl

section
variable [Far] {w w' : World} {x : Nat} {c c' : NS} {V : NV}

def Answered3 (w : World) (x : Nat) (V : NV) (r : NS × Int × Int) (e : Ending) (w' : World) : Prop := ∃ v, e = .returned (.tuple #[.int .i64 r.2.1, v, .int .i64 r.2.2]) ∧ Handed w x V r.1 v w'

theorem has_nat {l : List Int} {i : Nat} {L : Nat} (hi : i < l.length) (h : ∀ a ∈ l, 0 ≤ a ∧ a ≤ (L : Int)) : ∃ n : Nat, l[i]? = some (n : Int) ∧ n ≤ L := by
  have h1 := h _ (List.getElem_mem hi)
  exact ⟨(l[i]).toNat, by rw [List.getElem?_eq_getElem hi]; congr 1; omega, by omega⟩

set_option maxRecDepth 100000 in
set_option maxHeartbeats 4000000 in
theorem append_is {q : ND} (h : NAt w x ⟨q, [], []⟩ V) (hf : q.Fit) (d : List UInt8) (hd : d.length ≤ 9223372036854775807) :
    Calls Tryz.prog 42 #[.pointer (some ⟨x, 0, none⟩), .string (str d)] w fun e w' => Answered3 w x V (q.append d) e w' := by
  have HS := Lib.hid (Held.start h)
  obtain ⟨R, hR⟩ : ∃ R, w.heap.size = R := ⟨_, rfl⟩
  rw [hR] at HS
  have HF := Lib.hid hf
  have HN : Hid (∀ W, Held w x V ⟨q, [], []⟩ R W → Calls Tryz.prog 61 #[.pointer (some ⟨x, 0, none⟩)] W fun e w' => e = .returned (.bool false) ∧ W = w') := fun W hW => by
    obtain ⟨V', k, _⟩ := hW
    exact none_g k hf.n0 hf.n7
  have KC : Hid (∀ W, Held w x V ⟨q, [], []⟩ R W → W.cell? ⟨x, 0, none⟩ = some (.int .i64 q.st.ep) ∧ W.cell? ⟨x, 5, none⟩ = some (.int .i64 q.role) ∧ (∃ A cc, W.cell? ⟨x, 2, none⟩ = some (.slice A q.st.log.length cc))) := fun W hW => by
    obtain ⟨V', ⟨ss, _, k⟩, _⟩ := hW
    obtain ⟨A, cc, hlv⟩ := GRow.form k.log
    exact ⟨k.blk.c0, k.c5, A, cc, by rw [k.blk.c2, hlv]⟩
  have hs1 : (str d).toList.isEmpty = decide (d = []) := by rw [str_toList]; cases d <;> simp
  have hs2 : (str d).size = d.length := by show (str d).data.size = _; simp [str]
  have HD := Lib.hid hd
  obtain ⟨S, hS⟩ : ∃ S, str d = S := ⟨_, rfl⟩
  have HSS := Lib.hid hS
  rw [hS] at hs1 hs2
  obtain ⟨L, hL⟩ : ∃ L, q.st.log.length = L := ⟨_, rfl⟩
  obtain ⟨ro, hro⟩ : ∃ ro, q.role = ro := ⟨_, rfl⟩
  obtain ⟨E, hE⟩ : ∃ E, q.st.ep = E := ⟨_, rfl⟩
  have hro3 : ro = 0 ∨ ro = 1 ∨ ro = 2 := by rw [← hro]; exact hf.role
  have hl : L ≤ 2048 := by rw [← hL]; exact hf.log
  rw [hL, hro, hE] at KC
  rw [hS]
  by_cases hb : d = [] ∨ 65536 < d.length
  · have HX : Hid (q.append d = (⟨q, [], []⟩, 0, 1)) := if_pos hb
    obtain ⟨X, hX⟩ : ∃ X, q.append d = X := ⟨_, rfl⟩
    rw [hX] at HX ⊢
    clear h hX hf hS hL hro hE
    by_cases h0 : d = []
    · have e1 : S.toList.isEmpty = true := by rw [hs1]; exact decide_eq_true h0
      clear hb hd hs1 hs2 h0
      go_enter Tryz.func42, Tryz.ntmps42
      go_wp2_with fail
      obtain ⟨W0, hW0⟩ : ∃ W0, w.alloc (.cells #[.slice none 0 0, .slice none 0 0] 86) = W0 := ⟨_, rfl⟩
      rw [hW0] at HS ⊢
      obtain ⟨r0, r1, f0, f1⟩ := HS.out.cells
      obtain ⟨c0, c5, A2, cc2, c2⟩ := KC.out _ HS.out
      clear hW0 hR
      go_wp2_with (go_at_call 61; refine (HN.out _ HS.out).mono ?_; rintro e w' ⟨rfl, rfl⟩)
      refine bodyPost_ret (v := .tuple #[.int .i64 0, .agg #[.slice none 0 0, .slice none 0 0], .int .i64 1]) (by simp [results, Tryz.results42, go_sem, *]) rfl ?_
      rw [HX.out]
      refine ⟨_, rfl, HS.out.idle ?_⟩
      first
      | exact Out.refl _ _
      | exact ((Out.refl _ _).setCell (p := ⟨R, 0, none⟩) (Or.inl (by show R = R; rfl)) _).setCell (p := ⟨R, 1, none⟩) (Or.inl (by show R = R; rfl)) _
    · have e1 : S.toList.isEmpty = false := by rw [hs1]; exact decide_eq_false h0
      have e2 : decide ((65536 : Int) < (S.size : Int)) = true := by rw [hs2, decide_eq_true_eq]; have := hb.resolve_left h0; omega
      clear hb hd hs1 hs2 h0
      go_enter Tryz.func42, Tryz.ntmps42
      go_wp2_with fail
      obtain ⟨W0, hW0⟩ : ∃ W0, w.alloc (.cells #[.slice none 0 0, .slice none 0 0] 86) = W0 := ⟨_, rfl⟩
      rw [hW0] at HS ⊢
      obtain ⟨r0, r1, f0, f1⟩ := HS.out.cells
      obtain ⟨c0, c5, A2, cc2, c2⟩ := KC.out _ HS.out
      clear hW0 hR
      go_wp2_with (go_at_call 61; refine (HN.out _ HS.out).mono ?_; rintro e w' ⟨rfl, rfl⟩)
      refine bodyPost_ret (v := .tuple #[.int .i64 0, .agg #[.slice none 0 0, .slice none 0 0], .int .i64 1]) (by simp [results, Tryz.results42, go_sem, *]) rfl ?_
      rw [HX.out]
      refine ⟨_, rfl, HS.out.idle ?_⟩
      first
      | exact Out.refl _ _
      | exact ((Out.refl _ _).setCell (p := ⟨R, 0, none⟩) (Or.inl (by show R = R; rfl)) _).setCell (p := ⟨R, 1, none⟩) (Or.inl (by show R = R; rfl)) _
  · have HX := Lib.hid (show q.append d = _ from if_neg hb)
    have e1 : S.toList.isEmpty = false := by rw [hs1]; exact decide_eq_false (fun e => hb (Or.inl e))
    have e2 : decide ((65536 : Int) < (S.size : Int)) = false := by rw [hs2, decide_eq_false_iff_not]; have : ¬ 65536 < d.length := (fun e => hb (Or.inr e)); omega
    clear hb hs1 hs2
    by_cases hr : ro = 2
    · subst hr
      by_cases hl2 : 2048 ≤ L
      · have HX2 : Hid (q.append d = (⟨q, [], []⟩, 0, 6)) := by rw [HX.out, hro, hL]; exact (if_neg (fun h => h rfl)).trans (if_pos hl2)
        have HX := HX2
        obtain ⟨X, hX⟩ : ∃ X, q.append d = X := ⟨_, rfl⟩
        rw [hX] at HX ⊢
        clear h hX hf hS hL hro hE hro3 HX2
        obtain rfl : L = 2048 := by omega
        clear hl hl2
        go_enter Tryz.func42, Tryz.ntmps42
        go_wp2_with fail
        obtain ⟨W0, hW0⟩ : ∃ W0, w.alloc (.cells #[.slice none 0 0, .slice none 0 0] 86) = W0 := ⟨_, rfl⟩
        rw [hW0] at HS ⊢
        obtain ⟨r0, r1, f0, f1⟩ := HS.out.cells
        obtain ⟨c0, c5, A2, cc2, c2⟩ := KC.out _ HS.out
        clear hW0 hR
        go_wp2_with (go_at_call 61; refine (HN.out _ HS.out).mono ?_; rintro e w' ⟨rfl, rfl⟩)
        refine bodyPost_ret (v := .tuple #[.int .i64 0, .agg #[.slice none 0 0, .slice none 0 0], .int .i64 6]) (by simp [results, Tryz.results42, go_sem, *]) rfl ?_
        rw [HX.out]
        refine ⟨_, rfl, HS.out.idle ?_⟩
        first
        | exact Out.refl _ _
        | exact ((Out.refl _ _).setCell (p := ⟨R, 0, none⟩) (Or.inl (by show R = R; rfl)) _).setCell (p := ⟨R, 1, none⟩) (Or.inl (by show R = R; rfl)) _
      · obtain ⟨c1, hc1⟩ : ∃ c1, NS.note ⟨q, [], []⟩ ⟨3, 0, 0, ⟨E, d⟩⟩ = c1 := ⟨_, rfl⟩
        have HX2 : Hid (q.append d = (c1.ships.rise, (c1.q.st.log.length : Int), 0)) := by
          rw [HX.out, hro, hL]
          refine (if_neg (fun h => h rfl)).trans ((if_neg hl2).trans ?_)
          rw [hE, hc1]
          show (_, ((c1.q.risen.st.log.length : Nat) : Int), _) = _
          rw [rise_st]
        have HX := HX2
        obtain ⟨X, hX⟩ : ∃ X, q.append d = X := ⟨_, rfl⟩
        rw [hX] at HX ⊢
        have hp := put_log q.st ⟨3, 0, 0, ⟨E, d⟩⟩ rfl
        obtain ⟨L1, hL1⟩ : ∃ L1, c1.q.st.log.length = L1 := ⟨_, rfl⟩
        have hp1 : L ≤ L1 ∧ L1 ≤ L + 1 := by rw [← hL1, ← hc1, ← hL]; exact hp
        have hq1 : c1.q.n = q.n ∧ c1.q.id = q.id ∧ c1.q.has = q.has ∧ c1.q.acked = q.acked ∧ c1.ns.length = 1 ∧ c1.ms.length = 0 := by rw [← hc1]; exact ⟨rfl, rfl, rfl, rfl, rfl, rfl⟩
        obtain ⟨p1, p2, p3, p4⟩ := hf.prim hro
        have f7 := hf.n7
        have fi := hf.ids
        rw [hL] at p3 p4
        have NOTE : Hid (∀ W, Held w x V ⟨q, [], []⟩ R W → Calls Tryz.prog 62 #[.pointer (some ⟨x, 0, none⟩), .agg #[.int .i64 3, .int .i64 0, .int .i64 0, .int .i64 E, .string S]] W fun e w' => e = .returned (.tuple #[]) ∧ Held w x V c1 R w') := fun W hW => by
          rw [← hc1, ← hS]
          exact hW.step (fun V' k => noted_g k (Nat.le_trans hf.log (by omega)) (by show (0 : Nat) ≤ _; omega) ⟨3, 0, 0, ⟨E, d⟩⟩ hd)
        have SHIPS : Hid (∀ W, Held w x V c1 R W → Calls Tryz.prog 71 #[.pointer (some ⟨x, 0, none⟩), .func (.func 70) #[.pointer (some ⟨x, 0, none⟩)] #[]] W fun e w' => e = .returned (.tuple #[]) ∧ Held w x V c1.ships R w') := fun W hW =>
          hW.step (fun V' k => ships_g k (by omega) (by omega) (by omega) (fun i hi _ => by
            rw [hq1.2.2.1]
            obtain ⟨n, h1, h2⟩ := has_nat (l := q.has) (i := i) (by omega) p3
            exact ⟨n, h1, by omega⟩) (by omega) (by rw [hq1.2.2.1]; omega))
        have RISE : Hid (∀ W, Held w x V c1.ships R W → Calls Tryz.prog 69 #[.pointer (some ⟨x, 0, none⟩)] W fun e w' => e = .returned (.tuple #[]) ∧ Held w x V c1.ships.rise R w') := fun W hW =>
          hW.step (fun V' k => rise_g k (by show c1.q.acked.length = c1.q.n; rw [hq1.2.2.2.1]; omega) (by show c1.q.id < c1.q.n; omega) (by show c1.q.n ≤ 7; omega) (by show c1.q.st.log.length ≤ _; omega) (fun a ha => by
            have ha' : a ∈ q.acked := by rw [← hq1.2.2.2.1]; exact ha
            have := p4 a ha'
            show 0 ≤ a ∧ a ≤ (c1.q.st.log.length : Int)
            omega))
        have KC2 : Hid (∀ W, Held w x V c1.ships.rise R W → ∃ A cc, W.cell? ⟨x, 2, none⟩ = some (.slice A L1 cc)) := fun W hW => by
          obtain ⟨V', ⟨ss, _, k⟩, _⟩ := hW
          obtain ⟨A, cc, hlv⟩ := GRow.form k.log
          refine ⟨A, cc, ?_⟩
          rw [k.blk.c2, hlv]
          show some (Value.slice A (c1.q.risen.st.log.length) cc) = _
          rw [rise_st, hL1]
        have KC3 : Hid (∀ W V', NAt W x ⟨c1.ships.rise.q, [], []⟩ V' → ∃ A cc, W.cell? ⟨x, 2, none⟩ = some (.slice A L1 cc)) := fun W V' hW => by
          obtain ⟨ss, _, k⟩ := hW
          obtain ⟨A, cc, hlv⟩ := GRow.form k.log
          refine ⟨A, cc, ?_⟩
          rw [k.blk.c2, hlv]
          show some (Value.slice A (c1.q.risen.st.log.length) cc) = _
          rw [rise_st, hL1]
        rw [hL1] at HX
        have hl3 : decide (2048 ≤ (L : Int)) = false := by rw [decide_eq_false_iff_not]; omega
        have hL1m : L1 ≤ 1000000 := by omega
        clear h hX hf hS hL hro hE hro3 HX2 hp hq1 p1 p2 p3 p4 f7 fi hL1 hp1 hc1 hd hl hl2
        go_enter Tryz.func42, Tryz.ntmps42
        go_wp2_with fail
        obtain ⟨W0, hW0⟩ : ∃ W0, w.alloc (.cells #[.slice none 0 0, .slice none 0 0] 86) = W0 := ⟨_, rfl⟩
        rw [hW0] at HS ⊢
        obtain ⟨c0, c5, A2, cc2, c2⟩ := KC.out _ HS.out
        clear hW0 hR
        go_wp2_with (first
          | (go_at_call 61; refine (HN.out _ HS.out).mono ?_; rintro e w' ⟨rfl, rfl⟩)
          | (go_at_call 62; refine (NOTE.out _ HS.out).mono ?_; rintro e w2 ⟨rfl, hh⟩; have HH := Lib.hid hh; clear hh)
          | (go_at_call 71; refine (SHIPS.out _ HH.out).mono ?_; rintro e w4 ⟨rfl, hh⟩; have HH2 := Lib.hid hh; clear hh)
          | (go_at_call 69; refine (RISE.out _ HH2.out).mono ?_; rintro e w5 ⟨rfl, hh⟩; have HH3 := Lib.hid hh; clear hh))
        have HD3 : Hid (Held w x V c1.ships.rise R w5.drew) := HH3.out.any ((Out.refl _ _).drew)
        obtain ⟨A3, cc3, c23⟩ := KC2.out _ HD3.out
        go_region_with (first
          | (go_at_call 65; refine (HD3.out.done).mono ?_; rintro e w6 ⟨A1, n1, k1, A2, n2, k2, rfl, hR, hfin⟩; have FIN := Lib.hid hfin; obtain ⟨V6, hn6, _⟩ := hfin w6 (Out.refl _ _); obtain ⟨A4, cc4, c24⟩ := KC3.out _ _ hn6; have r0 := cells_all hR 0; have r1 := cells_all hR 1; have f0 := frozen_all hR 0; have f1 := frozen_all hR 1; have BR := Lib.hid hR; clear hfin hR hn6)
          | fail)
        all_goals
          have BB := heap_set (heap_set BR.out 0 (.slice A1 n1 k1)) 1 (.slice A2 n2 k2)
          have q0 := cells_all BB 0
          have q1 := cells_all BB 1
          go_wp2_with fail
          refine bodyPost_ret (v := .tuple #[.int .i64 (L1 : Int), .agg #[.slice A1 n1 k1, .slice A2 n2 k2], .int .i64 0]) (by simp [results, Tryz.results42, go_sem, q0, q1]) rfl ?_
          rw [HX.out]
          exact ⟨_, rfl, FIN.out _ (((Out.refl _ _).setCell (p := ⟨R, 0, none⟩) (Or.inl (by show R = R; rfl)) _).setCell (p := ⟨R, 1, none⟩) (Or.inl (by show R = R; rfl)) _)⟩
    · have HX2 : Hid (q.append d = (⟨q, [], []⟩, 0, 52)) := by rw [HX.out, hro]; exact if_pos hr
      have HX := HX2
      obtain ⟨X, hX⟩ : ∃ X, q.append d = X := ⟨_, rfl⟩
      rw [hX] at HX ⊢
      have e5 : (ro == 2) = false := by rw [beq_eq_false_iff_ne]; exact hr
      clear h hX hf hS hL hro hE hro3 HX2 hr
      go_enter Tryz.func42, Tryz.ntmps42
      go_wp2_with fail
      obtain ⟨W0, hW0⟩ : ∃ W0, w.alloc (.cells #[.slice none 0 0, .slice none 0 0] 86) = W0 := ⟨_, rfl⟩
      rw [hW0] at HS ⊢
      obtain ⟨r0, r1, f0, f1⟩ := HS.out.cells
      obtain ⟨c0, c5, A2, cc2, c2⟩ := KC.out _ HS.out
      clear hW0 hR
      go_wp2_with (go_at_call 61; refine (HN.out _ HS.out).mono ?_; rintro e w' ⟨rfl, rfl⟩)
      refine bodyPost_ret (v := .tuple #[.int .i64 0, .agg #[.slice none 0 0, .slice none 0 0], .int .i64 52]) (by simp [results, Tryz.results42, go_sem, *]) rfl ?_
      rw [HX.out]
      refine ⟨_, rfl, HS.out.idle ?_⟩
      first
      | exact Out.refl _ _
      | exact ((Out.refl _ _).setCell (p := ⟨R, 0, none⟩) (Or.inl (by show R = R; rfl)) _).setCell (p := ⟨R, 1, none⟩) (Or.inl (by show R = R; rfl)) _
end
end Go.Proofs.YtlgoenimjmiapaaGreat

/-! New, of a state that may be. -/
set_option linter.unusedVariables false
set_option linter.unusedSectionVars false
namespace Go.Proofs.YtlgoenimjmiapaaGreat
open Go.RowKit Go.Maps

/-- A state that New takes. -/
structure St.Good (s : St) : Prop where
  ep : 0 ≤ s.ep ∧ s.ep ≤ 1099511627776
  voted : -1 ≤ s.voted ∧ s.voted ≤ 6
  len : s.log.length ≤ 2048
  ents : ∀ x ∈ s.log, x.right = true ∧ x.ep ≤ s.ep
  mono : ∀ (i : Nat) (x y : Ent), s.log[i]? = some x → s.log[i + 1]? = some y → x.ep ≤ y.ep

/-- The epoch ahead of entry i. -/
def St.was (s : St) (i : Nat) : Int := s.last i
theorem St.was_le {s : St} (h : s.Good) {i : Nat} {x : Ent} (hx : s.log[i]? = some x) : s.last i ≤ x.ep := by
  cases i with
  | zero =>
    rw [last_zero]
    have h1 := (h.ents x (List.mem_of_getElem? hx)).1
    simp [Ent.right, inB] at h1
    exact h1.1.1
  | succ i =>
    have hlt : i < s.log.length := by have := (List.getElem?_eq_some_iff.1 hx).1; omega
    rw [last_at (List.getElem?_eq_getElem hlt)]
    exact h.mono i _ x (List.getElem?_eq_getElem hlt) hx

def newND (s : St) (id n : Nat) : ND := ⟨s, id, n, 0, 0, none, [], []⟩

set_option maxRecDepth 100000 in
set_option maxHeartbeats 4000000 in
theorem new_is [Far] (w : World) (hfar : ∀ k, Far.F k → k < w.heap.size) (N : Nat → Prop) (s : St) (v : Value) (hr : RRow N w v s.log.length 2 (encL s.log)) (hg : s.Good) (n D : Nat) (hn7 : n ≤ 7) (hn2 : n % 2 = 1) (hid : D < n) :
    Calls Tryz.prog 38 #[.int .i64 (D : Int), .int .i64 (n : Int), .agg #[.int .i64 s.ep, .int .i64 s.voted, v]] w fun e w' => ∃ x V, e = .returned (.tuple #[.pointer (some ⟨x, 0, none⟩), .int .i64 0]) ∧ NAt w' x ⟨newND s D n, [], []⟩ V ∧ Out Zone.no w w' ∧ ∀ k, V.own x k → w.heap.size ≤ k := by
  obtain ⟨A, c, rfl, hc1, hc2⟩ := hr.form
  have HR := Lib.hid hr
  have HG := Lib.hid hg
  have HFAR := Lib.hid hfar
  clear hfar
  obtain ⟨L, hL⟩ : ∃ L, s.log.length = L := ⟨_, rfl⟩
  obtain ⟨E, hE⟩ : ∃ E, s.ep = E := ⟨_, rfl⟩
  obtain ⟨vo, hvo⟩ : ∃ vo, s.voted = vo := ⟨_, rfl⟩
  have HL := Lib.hid hL
  have HE := Lib.hid hE
  have HVO := Lib.hid hvo
  have e1 := hg.ep
  have e2 := hg.voted
  have e3 := hg.len
  rw [hE] at e1
  rw [hvo] at e2
  rw [hL] at e3
  rw [hL, hE, hvo]
  have d1 : ((n : Int) % 2 == 0) = false := by rw [beq_eq_false_iff_ne]; omega
  have d2 : decide ((n : Int) < 1) = false := by rw [decide_eq_false_iff_not]; omega
  have d3 : decide (7 < (n : Int)) = false := by rw [decide_eq_false_iff_not]; omega
  have d4 : decide ((D : Int) < 0) = false := by rw [decide_eq_false_iff_not]; omega
  have d5 : decide (n ≤ D) = false := by rw [decide_eq_false_iff_not]; omega
  have d6 : decide (vo < -1) = false := by rw [decide_eq_false_iff_not]; omega
  have d7 : decide (6 < vo) = false := by rw [decide_eq_false_iff_not]; omega
  have d8 : decide (2048 < (L : Int)) = false := by rw [decide_eq_false_iff_not]; omega
  have hin : inB E = true := by simp [inB]; omega
  have O1 : Hid (Out Zone.no w (w.alloc (.cells #[.int .i64 E, .int .i64 vo, .slice A L c] 82))) := (Out.refl _ _).alloc _
  have hB := heap_alloc_new w (.cells #[.int .i64 E, .int .i64 vo, .slice A L c] 82)
  have HB := Lib.hid hB
  obtain ⟨B, hBs⟩ : ∃ B, w.heap.size = B := ⟨_, rfl⟩
  have HBS := Lib.hid hBs
  have hsz : (w.alloc (.cells #[.int .i64 E, .int .i64 vo, .slice A L c] 82)).heap.size = B + 1 := by simp [hBs]
  have IN0 := in1_is (w.alloc (.cells #[.int .i64 E, .int .i64 vo, .slice A L c] 82)) E
  rw [hin, hsz] at IN0
  have IN := Lib.hid IN0
  clear hr hL hE hvo hg hB hin IN0 hsz
  go_enter Tryz.func38, Tryz.ntmps38
  go_wp2_with (go_at_call 44; refine IN.out.mono ?_; rintro e w2 ⟨rfl, rfl⟩)
  obtain ⟨Wb, hWb⟩ : ∃ Wb, w.alloc (.cells #[.int .i64 E, .int .i64 vo, .slice A L c] 82) = Wb := ⟨_, rfl⟩
  rw [hWb] at O1 HB ⊢
  have HRb : Hid (RRow N Wb (.slice A s.log.length c) s.log.length 2 (encL s.log)) := by rw [← hWb]; exact HR.out.any ((Out.refl _ _).alloc _)
  have hWb' := Lib.hid hWb
  clear hWb IN d1 d2 d3 d4 d5 d6 d7 d8
  go_loopw [57, 8] (fun vi vw wr => ∃ i : Nat, i ≤ L ∧ vi = .int .i64 (i : Int) ∧ vw = .int .i64 (s.last i) ∧ Hid (Out Zone.no Wb wr)) (fun vi _ _ => L - (intOf vi).toNat)
  case atStart => exact ⟨0, by omega, rfl, rfl, (Out.refl _ _).alloc _⟩
  case round =>
    obtain ⟨i, hi, rfl, rfl, how⟩ := hrel
    by_cases hlt : i < L
    · obtain ⟨x, hx⟩ : ∃ x, s.log[i]? = some x := ⟨_, List.getElem?_eq_getElem (by rw [HL.out]; exact hlt)⟩
      have hxr := HG.out.ents x (List.mem_of_getElem? hx)
      have hw := St.was_le HG.out hx
      have hnx : Hid (s.last (i + 1) = x.ep) := last_at hx
      obtain ⟨_, A', c', hv, _, _, hc⟩ := HRb.out
      obtain ⟨e1, e2⟩ := encL_at hx
      obtain ⟨b, o, hA, _, hc1⟩ := hc _ _ e1
      obtain ⟨b', o', hA', _, hc2⟩ := hc _ _ e2
      obtain rfl : A = A' := by injection hv
      rw [hA] at hA'
      obtain ⟨rfl, rfl⟩ : b = b' ∧ o = o' := by injection hA' with h; injection h with h1 h2; exact ⟨h1, h2⟩
      subst hA
      have p1 := how.out.cell hc1 id
      have p2 : wr.cell? ⟨b, o + i * 2 + 1, none⟩ = some (.string (str x.data)) := by rw [Nat.add_assoc]; exact how.out.cell hc2 id
      clear hv hc hc1 hc2 e1 e2 hA'
      have hdl : x.data.length ≤ 9223372036854775807 := by
        have := hxr.1
        simp [Ent.right] at this
        omega
      have HER : Hid (∀ W, Calls Tryz.prog 45 #[.agg #[.int .i64 x.ep, .string (str x.data)]] W fun e w' => e = .returned (.bool true) ∧ Out Zone.no W w') := fun W => by
        have := eright_is W x hdl
        rw [hxr.1] at this
        exact this
      have k1 : decide (x.ep < s.last i) = false := by rw [decide_eq_false_iff_not]; omega
      have k2 : decide (E < x.ep) = false := by rw [decide_eq_false_iff_not, ← HE.out]; have := hxr.2; omega
      have hXX : Hid (∀ W', Out Zone.no (wr.alloc (.cells #[.int .i64 x.ep, .string (str x.data)] 34)) W' → W'.cell? ⟨wr.heap.size, 0, none⟩ = some (.int .i64 x.ep) ∧ W'.cell? ⟨B, 0, none⟩ = some (.int .i64 E) ∧ Out Zone.no Wb W') := fun W' ho => by
        have h1 := ho.get (heap_alloc_new wr _) id
        have h2 := ho.get (((Out.refl Zone.no wr).alloc _).get (how.out.get HB.out id) id) id
        rw [HBS.out] at h2
        exact ⟨by rw [cells_all h1]; rfl, by rw [cells_all h2]; rfl, (how.out.trans ((Out.refl Zone.no wr).alloc _)).trans ho⟩
      obtain ⟨dt, hdt⟩ : ∃ dt, str x.data = dt := ⟨_, rfl⟩
      obtain ⟨ee, hee⟩ : ∃ ee, x.ep = ee := ⟨_, rfl⟩
      rw [hdt, hee] at HER hXX
      rw [hdt] at p2
      rw [hee] at p1 k1 k2 hnx
      clear hx hxr hw hdt hee hdl
      obtain ⟨la, hla⟩ : ∃ la, s.last i = la := ⟨_, rfl⟩
      rw [hla] at k1
      rw [hla]
      go_wp2_with (go_at_call 45; refine (HER.out _).mono ?_; rintro e w1 ⟨rfl, ho1⟩; have HO1 := Lib.hid ho1; obtain ⟨q1, q2, q3⟩ := hXX.out _ ho1; have HO2 := Lib.hid q3; clear ho1 q3)
      all_goals
        go_roundw
        case rel => exact ⟨i + 1, by omega, by go_num, by rw [hnx.out], HO2.out⟩
        case measure => simp [intOf]; omega
    · obtain rfl : i = L := by omega
      have hBw : wr.heap[B]? = some (.cells #[.int .i64 E, .int .i64 vo, .slice A i c] 82 (0, 0)) := by rw [← HBS.out]; exact how.out.get HB.out id
      have b2 := cells_all hBw 2
      have HCL : Hid (Calls Tryz.prog 60 #[.slice A i c] wr fun e w' => ∃ A' n' c', e = .returned (.slice A' n' c') ∧ GR w' 34 2 (.slice A' n' c') s.log.length (encL s.log) ∧ Out Zone.no wr w' ∧ (∀ k, (Value.slice A' n' c').ownBlock = some k → wr.heap.size ≤ k)) := by
        have h := HRb.out.any how.out
        rw [← HL.out]
        refine (clone_is wr N (.slice A s.log.length c) s.log h (by rw [HL.out]; omega)).mono ?_
        rintro e w' ⟨v', rfl, h1, h2, h3⟩
        obtain ⟨A', c', rfl⟩ := GRow.form h1
        exact ⟨A', _, c', rfl, h1, h2, h3⟩
      have HBW := Lib.hid hBw
      clear hBw
      go_wp2_with (go_at_call 60; refine HCL.out.mono ?_; rintro e w1 ⟨A', n', c', rfl, hg1, ho1, hk1⟩; have HG1 := Lib.hid hg1; have HO1 := Lib.hid ho1; have HK1 := Lib.hid hk1; have hb1 := ho1.get HBW.out id; have s0 := cells_all hb1 0; have s1 := cells_all hb1 1; have s2 := cells_all hb1 2; have f2 := frozen_all hb1 2; have HB1 := Lib.hid hb1; clear hg1 ho1 hk1 hb1)
      refine bodyPost_ret (v := .tuple #[.pointer (some ⟨w1.heap.size, 0, none⟩), .int .i64 0]) (by simp [results, Tryz.results38, go_sem]) rfl ?_
      have hob : Out Zone.no w Wb := O1.out
      have hwB : Wb.heap.size = B + 1 := by rw [← hWb'.out]; simp [HBS.out]
      have h1s := HO1.out.size
      have hws := how.out.size
      have hox : Out Zone.no w w1 := (hob.trans how.out).trans HO1.out
      have hoy : Out Zone.no w (w1.setCell ⟨B, 2, none⟩ (.slice A' n' c')) := hox.setCell (Or.inr (by rw [HBS.out]; exact Nat.le_refl _)) _
      have hgy : GR (w1.setCell ⟨B, 2, none⟩ (.slice A' n' c')) 34 2 (.slice A' n' c') s.log.length (encL s.log) := gr_set HG1.out (fun e => by have : wr.heap.size ≤ B := HK1.out _ e; omega) _
      have hblk := heap_alloc_new (w1.setCell ⟨B, 2, none⟩ (.slice A' n' c')) (.cells #[.int .i64 E, .int .i64 vo, .slice A' n' c', .int .i64 (D : Int), .int .i64 (n : Int), .int .i64 0, .int .i64 0, .map none, .slice none 0 0, .slice none 0 0, .slice none 0 0, .slice none 0 0] 111)
      have hsz : (w1.setCell ⟨B, 2, none⟩ (.slice A' n' c')).heap.size = w1.heap.size := by simp
      rw [hsz] at hblk
      have hfr : ∀ k, NV.own w1.heap.size ⟨.slice A' n' c', .map none, .slice none 0 0, .slice none 0 0, .slice none 0 0, .slice none 0 0⟩ k → w.heap.size ≤ k := by
        intro k hk
        simp only [NV.own, NV.blks, List.mem_cons, List.not_mem_nil, or_false] at hk
        have := hox.size
        rcases hk with e | e | e | e | e | e | e
        · injection e with e; omega
        · have := HK1.out k e.symm; have := (hob.trans how.out).size; omega
        all_goals cases e
      refine ⟨w1.heap.size, ⟨.slice A' n' c', .map none, .slice none 0 0, .slice none 0 0, .slice none 0 0, .slice none 0 0⟩, rfl, ⟨[], rfl, ⟨?_, GRow.any hgy ((Out.refl _ _).alloc _), rfl, grow_nil _ _ _ _, grow_nil _ _ _ _, grow_nil _ _ _ _, grow_nil _ _ _ _, fun p hp => (by cases hp), ?_, fun k hk => ⟨Nat.lt_of_lt_of_le (HFAR.out k hk) (hoy.alloc _).size, fun e => by have := hfr k e; have := HFAR.out k hk; omega⟩⟩⟩, hoy.alloc _, hfr⟩
      · show StAt _ _ 111 s.ep s.voted _ _
        rw [HE.out, HVO.out]
        exact hblk
      · have hlt : ∀ k, (Value.slice A' n' c').ownBlock = some k → k < w1.heap.size := fun k hk => (GRow.mem HG1.out hk).2.1
        have p0 : ([none, none, none, none, none, none, none] : List (Option Nat)).Pairwise (fun a b => ∀ k, a = some k → b ≠ some k) := by simp
        have p1 := pw_setF p0 0 (some w1.heap.size) (fun k hk => Or.inr (by simp))
        have p2 := pw_setF p1 1 (Value.slice A' n' c').ownBlock (fun k hk => Or.inr (fun hm => by
          have := hlt k hk
          simp at hm
          omega))
        exact p2
end Go.Proofs.YtlgoenimjmiapaaGreat
