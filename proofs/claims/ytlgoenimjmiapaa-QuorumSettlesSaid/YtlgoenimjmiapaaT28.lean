import Derived.Test.YtlgoenimjmiapaaT22
import Derived.Test.YtlgoenimjmiapaaT27
import Derived.Test.YtlgoenimjmiapaaT24
import Derived.Test.YtlgoenimjmiapaaT15
set_option linter.unusedSimpArgs false
set_option linter.unusedVariables false
set_option linter.unusedSectionVars false
/-! Fold. -/
namespace Go.Proofs.Ytlgoenimjmiapaa
open Go.RowKit Go.Maps

theorem encN_at {l : List Nt} {i : Nat} {t : Nt} (h : l[i]? = some t) : (encN l)[i * 5]? = some (.int .i64 t.kind) ∧ (encN l)[i * 5 + 1]? = some (.int .i64 t.ep) ∧ (encN l)[i * 5 + 2]? = some (.int .i64 t.n) ∧ (encN l)[i * 5 + 3]? = some (.int .i64 t.ent.ep) ∧ (encN l)[i * 5 + 4]? = some (.string (str t.ent.data)) := by
  induction l generalizing i with
  | nil => cases h
  | cons y r ih =>
    have e : encN (y :: r) = .int .i64 y.kind :: .int .i64 y.ep :: .int .i64 y.n :: .int .i64 y.ent.ep :: .string (str y.ent.data) :: encN r := rfl
    rw [e]
    cases i with
    | zero => injection h with h; subst h; exact ⟨rfl, rfl, rfl, rfl, rfl⟩
    | succ i =>
      have := ih (i := i) h
      rw [show (i + 1) * 5 = i * 5 + 5 by omega]
      exact this
theorem foldFrom_take {l : List Nt} {s sL : St} (h : foldFrom s l = some sL) : ∀ i, i < l.length → ∀ si, foldFrom s (l.take i) = some si → ∃ t s', l[i]? = some t ∧ si.note t = some s' ∧ foldFrom s (l.take (i + 1)) = some s' := by
  intro i hi si hsi
  obtain ⟨t, ht⟩ : ∃ t, l[i]? = some t := ⟨_, List.getElem?_eq_getElem hi⟩
  have hsplit : l = l.take i ++ t :: l.drop (i + 1) := by
    have h1 := List.take_append_drop i l
    rw [List.drop_eq_getElem_cons hi] at h1
    have h2 : l[i] = t := by rw [List.getElem?_eq_getElem hi] at ht; injection ht
    rw [h2] at h1
    exact h1.symm
  have h2 : foldFrom si (t :: l.drop (i + 1)) = some sL := by
    rw [← foldFrom_app hsi, ← hsplit]
    exact h
  have h3 : (match si.note t with | none => none | some s' => foldFrom s' (l.drop (i + 1))) = some sL := h2
  cases hn : si.note t with
  | none => rw [hn] at h3; cases h3
  | some s' =>
    refine ⟨t, s', ht, hn, ?_⟩
    have e : l.take (i + 1) = l.take i ++ [t] := by
      rw [List.take_succ_eq_append_getElem hi]
      rw [List.getElem?_eq_getElem hi] at ht
      injection ht with ht
      rw [ht]
    rw [e, foldFrom_app hsi]
    exact foldFrom_one hn
theorem note_grows {s s' : St} {t : Nt} (h : s.note t = some s') : s'.log.length ≤ s.log.length + 1 := by
  letI : Far := ⟨fun _ => False⟩
  have := note_len ⟨⟨s, 0, 0, 0, 0, none, [], []⟩, [], []⟩ t
  have e : ((s.note t).getD s).log.length ≤ s.log.length + 1 := this
  rw [h] at e
  exact e

/-- A state under way, in block R + 1, the answer's block R empty. -/
def FoldAt (w : World) (R : Nat) (s : St) (W : World) : Prop := ∃ lv, StAt W (R + 1) 28 s.ep s.voted lv [] ∧ GR W 38 2 lv s.log.length (encL s.log) ∧ Out Zone.no w W ∧ (∀ k, lv.ownBlock = some k → R + 2 ≤ k) ∧ W.heap[R]? = some (.cells #[.int .i64 0, .int .i64 0, .slice none 0 0] 28 (0, 0)) ∧ w.heap.size = R ∧ R + 2 ≤ W.heap.size
theorem FoldAt.any {w W W' : World} {R : Nat} {s : St} (h : FoldAt w R s W) (ho : Out Zone.no W W') : FoldAt w R s W' := by
  obtain ⟨lv, h1, h2, h3, h4, h5, h6, h7⟩ := h
  exact ⟨lv, h1.any ho, GRow.any h2 ho, h3.trans ho, h4, ho.get h5 id, h6, Nat.le_trans h7 ho.size⟩
theorem FoldAt.note {w W : World} {R : Nat} {s s' : St} (h : FoldAt w R s W) (hl : s.log.length ≤ 1000000000) {t : Nt} (hn : s.note t = some s') (hd : t.ent.data.length ≤ 9223372036854775807) :
    Calls Try.prog 51 #[.pointer (some ⟨R + 1, 0, none⟩), .agg #[.int .i64 t.kind, .int .i64 t.ep, .int .i64 t.n, .int .i64 t.ent.ep, .string (str t.ent.data)]] W fun e w' => e = .returned (.bool true) ∧ FoldAt w R s' w' := by
  obtain ⟨lv, h1, h2, h3, h4, h5, h6, h7⟩ := h
  have hb : lv.ownBlock ≠ some (R + 1) := fun e => by have := h4 _ e; omega
  refine (note_big h1 h2 hl hb t.kind t.ep t.n t.ent.ep t.ent.data hd).mono ?_
  intro e w' ⟨he, lv', k1, k2, k3, k4⟩
  have hn' : s.note ⟨t.kind, t.ep, t.n, ⟨t.ent.ep, t.ent.data⟩⟩ = some s' := hn
  rw [hn'] at he k1 k2
  have hRo : ¬ (stZ (R + 1) lv).S R := fun e => by
    rcases e with e | e
    · have e : R = R + 1 := e; omega
    · have := h4 _ e; omega
  have ho : Out Zone.no w w' := by
    refine h3.fresh k3 (fun k hk => ?_)
    rcases hk with e | e
    · rw [e]; omega
    · have := h4 _ e; omega
  refine ⟨he, lv', k1, k2, ho, fun k hk => ?_, (k3.block R (by omega) hRo).trans h5, h6, Nat.le_trans h7 k3.size⟩
  rcases k4 k hk with e | e
  · exact h4 k e
  · omega

set_option maxRecDepth 100000 in
set_option maxHeartbeats 2000000 in
theorem fold_is (w : World) (N : Nat → Prop) (l : List Nt) (v : Value) (hr : RRow N w v l.length 5 (encN l)) (hl : l.length ≤ 1000000000) (hf : ∀ t ∈ l, t.ent.data.length ≤ 9223372036854775807) {s : St} (hs : foldFrom ⟨0, -1, []⟩ l = some s) :
    Calls Try.prog 45 #[v] w fun e w' => ∃ lv, e = .returned (.tuple #[.agg #[.int .i64 s.ep, .int .i64 s.voted, lv], .bool true]) ∧ GR w' 38 2 lv s.log.length (encL s.log) ∧ Out Zone.no w w' ∧ ∀ k, lv.ownBlock = some k → w.heap.size ≤ k := by
  obtain ⟨A, c, rfl, hc1, hc2⟩ := hr.form
  have HR := Lib.hid hr
  obtain ⟨R, hR⟩ : ∃ R, w.heap.size = R := ⟨_, rfl⟩
  obtain ⟨L, hL⟩ : ∃ L, l.length = L := ⟨_, rfl⟩
  have STEP : Hid (∀ i, i < L → ∀ si, foldFrom ⟨0, -1, []⟩ (l.take i) = some si ∧ si.log.length ≤ i → ∃ (k ep n ee : Int) (d : ByteArray) (b o : Nat) (s' : St), A = some ⟨b, o, none⟩ ∧ (∀ W, Out Zone.no w W → W.cell? ⟨b, o + i * 5, none⟩ = some (.int .i64 k) ∧ W.cell? ⟨b, o + i * 5 + 1, none⟩ = some (.int .i64 ep) ∧ W.cell? ⟨b, o + i * 5 + 2, none⟩ = some (.int .i64 n) ∧ W.cell? ⟨b, o + i * 5 + 3, none⟩ = some (.int .i64 ee) ∧ W.cell? ⟨b, o + i * 5 + 4, none⟩ = some (.string d)) ∧ (foldFrom ⟨0, -1, []⟩ (l.take (i + 1)) = some s' ∧ s'.log.length ≤ i + 1) ∧
      ∀ W, FoldAt w R si W → Calls Try.prog 51 #[.pointer (some ⟨R + 1, 0, none⟩), .agg #[.int .i64 k, .int .i64 ep, .int .i64 n, .int .i64 ee, .string d]] W fun e w' => e = .returned (.bool true) ∧ FoldAt w R s' w') := fun i hi si hsi => by
    obtain ⟨t, s', ht, hn, hs'⟩ := foldFrom_take hs i (by omega) si hsi.1
    obtain ⟨e0, e1, e2, e3, e4⟩ := encN_at ht
    obtain ⟨_, A', c', hv, _, _, hc⟩ := hr
    obtain rfl : A = A' := by injection hv
    obtain ⟨b, o, hA, _, q0⟩ := hc _ _ e0
    have same : ∀ j u, (encN l)[j]? = some u → w.cell? ⟨b, o + j, none⟩ = some u := fun j u hu => by
      obtain ⟨b', o', hA', _, h1⟩ := hc _ _ hu
      rw [hA] at hA'
      injection hA' with hA'
      injection hA' with h2 h3
      subst h2 h3
      exact h1
    refine ⟨t.kind, t.ep, t.n, t.ent.ep, str t.ent.data, b, o, s', hA, fun W ho => ⟨ho.cell (same _ _ e0) id, ?_, ?_, ?_, ?_⟩, ⟨hs', by have := note_grows hn; omega⟩, fun W hW => hW.note (by omega) hn (hf t (List.mem_of_getElem? ht))⟩
    · rw [Nat.add_assoc]; exact ho.cell (same _ _ e1) id
    · rw [Nat.add_assoc]; exact ho.cell (same _ _ e2) id
    · rw [Nat.add_assoc]; exact ho.cell (same _ _ e3) id
    · rw [Nat.add_assoc]; exact ho.cell (same _ _ e4) id
  have START : Hid (FoldAt w R ⟨0, -1, []⟩ ((w.alloc (.cells #[.int .i64 0, .int .i64 0, .slice none 0 0] 28)).alloc (.cells #[.int .i64 0, .int .i64 (-1), .slice none 0 0] 28))) := by
    have o1 := (Out.refl Zone.no w).alloc (.cells #[.int .i64 0, .int .i64 0, .slice none 0 0] 28)
    have hs1 : (w.alloc (.cells #[.int .i64 0, .int .i64 0, .slice none 0 0] 28)).heap.size = R + 1 := by simp [hR]
    have hb := heap_alloc_new (w.alloc (.cells #[.int .i64 0, .int .i64 0, .slice none 0 0] 28)) (.cells #[.int .i64 0, .int .i64 (-1), .slice none 0 0] 28)
    rw [hs1] at hb
    have ha := heap_alloc_new w (.cells #[.int .i64 0, .int .i64 0, .slice none 0 0] 28)
    rw [hR] at ha
    exact ⟨.slice none 0 0, hb, grow_nil _ _ _ _, o1.alloc _, fun k hk => (by cases hk), ((Out.refl Zone.no _).alloc _).get ha id, hR, by simp [hR]⟩
  have FIN : Hid (∀ W si, FoldAt w R si W → foldFrom ⟨0, -1, []⟩ (l.take L) = some si → ∃ A' n' c', W.cell? ⟨R + 1, 0, none⟩ = some (.int .i64 s.ep) ∧ W.cell? ⟨R + 1, 1, none⟩ = some (.int .i64 s.voted) ∧ W.cell? ⟨R + 1, 2, none⟩ = some (.slice A' n' c') ∧ W.heap[R]? = some (.cells #[.int .i64 0, .int .i64 0, .slice none 0 0] 28 (0, 0)) ∧
      ∀ W', Out (Zone.m (fun k => k = R)) W W' → GR W' 38 2 (.slice A' n' c') s.log.length (encL s.log) ∧ Out Zone.no w W' ∧ ∀ k, (Value.slice A' n' c').ownBlock = some k → w.heap.size ≤ k) := fun W si h hsi => by
    rw [List.take_of_length_le (by omega), hs] at hsi
    injection hsi with hsi
    subst hsi
    obtain ⟨lv, h1, h2, h3, h4, h5, h6, h7⟩ := h
    obtain ⟨A', c', rfl⟩ := GRow.form h2
    refine ⟨A', _, c', h1.c0, h1.c1, h1.c2, h5, fun W' ho => ⟨GRow.keep h2 (fun k hk => ho.block k ?_ (fun e => ?_)) (fun _ _ => trivial), h3.fresh ho (fun k hk => ?_), fun k hk => ?_⟩⟩
    · exact (GRow.mem h2 hk).2.1
    · have := h4 k hk; have e : k = R := e; omega
    · have e : k = R := hk; omega
    · have := h4 k hk; omega
  have HLs := Lib.hid hL
  have OUTF : Hid (∀ W si, FoldAt w R si W → Out Zone.no w W) := fun W si h => by obtain ⟨_, _, _, h3, _⟩ := h; exact h3
  have ANY : Hid (∀ W W' si, FoldAt w R si W → Out Zone.no W W' → FoldAt w R si W') := fun W W' si h ho => h.any ho
  rw [hL]
  have hl2 : L ≤ 1000000000 := by omega
  clear hr hs hf hL hc1 hc2 hl
  go_enter Try.func45, Try.ntmps45
  go_wp2_with fail
  obtain ⟨W0, hW0⟩ : ∃ W0, (w.alloc (.cells #[.int .i64 0, .int .i64 0, .slice none 0 0] 28)).alloc (.cells #[.int .i64 0, .int .i64 (-1), .slice none 0 0] 28) = W0 := ⟨_, rfl⟩
  rw [hW0] at START ⊢
  clear hW0 hR
  go_loopw [10, 6] (fun v10 v6 wr => ∃ i : Nat, i ≤ L ∧ v10 = .int .i64 (i : Int) ∧ Exists fun si : St => Hid ((foldFrom ⟨0, -1, []⟩ (l.take i) = some si ∧ si.log.length ≤ i) ∧ FoldAt w R si wr)) (fun v10 _ _ => L - (intOf v10).toNat)
  case atStart => exact ⟨0, by omega, rfl, ⟨0, -1, []⟩, ⟨rfl, Nat.le_refl _⟩, START.out⟩
  case round =>
    obtain ⟨i, hi, rfl, si, hinv⟩ := hrel
    by_cases hlt : i < L
    · obtain ⟨k, ep, n, ee, d, b, o, s', q1, q2, q3, q4⟩ := STEP.out i hlt si hinv.out.1
      subst q1
      obtain ⟨a0, a1, a2, a3, a4⟩ := q2 _ (OUTF.out _ _ hinv.out.2)
      have nw0 := cell_new wr #[.int .i64 k, .int .i64 ep, .int .i64 n, .int .i64 ee, .string d] 75 0
      have nw1 := cell_new wr #[.int .i64 k, .int .i64 ep, .int .i64 n, .int .i64 ee, .string d] 75 1
      have nw2 := cell_new wr #[.int .i64 k, .int .i64 ep, .int .i64 n, .int .i64 ee, .string d] 75 2
      have nw3 := cell_new wr #[.int .i64 k, .int .i64 ep, .int .i64 n, .int .i64 ee, .string d] 75 3
      have nw4 := cell_new wr #[.int .i64 k, .int .i64 ep, .int .i64 n, .int .i64 ee, .string d] 75 4
      have NOTE := Lib.hid (q4 _ (ANY.out _ _ _ hinv.out.2 ((Out.refl Zone.no wr).alloc (.cells #[.int .i64 k, .int .i64 ep, .int .i64 n, .int .i64 ee, .string d] 75))))
      have Q3 := Lib.hid q3
      clear q2 q3 q4
      go_wp2_with (go_at_call 51; refine NOTE.out.mono ?_; rintro e w1 ⟨rfl, h1⟩; have H1 := Lib.hid h1; clear h1)
      go_roundw
      case rel => exact ⟨i + 1, by omega, by go_num, s', Q3.out, H1.out⟩
      case measure => simp [intOf]; omega
    · obtain rfl : i = L := by omega
      obtain ⟨A', n', c', a0, a1, a2, hb, hfin⟩ := FIN.out _ si hinv.out.2 hinv.out.1.1
      have FI := Lib.hid hfin
      have HB := Lib.hid hb
      have f0 := frozen_all hb 0
      have f1 := frozen_all hb 1
      have f2 := frozen_all hb 2
      have r0 := cells_all hb 0
      have r1 := cells_all hb 1
      have r2 := cells_all hb 2
      clear hfin hb
      go_wp2_with fail
      have BB := heap_set (heap_set (heap_set HB.out 0 (.int .i64 s.ep)) 1 (.int .i64 s.voted)) 2 (.slice A' n' c')
      have q0 := cells_all BB 0
      have q1 := cells_all BB 1
      have q2 := cells_all BB 2
      refine bodyPost_ret (v := .tuple #[.agg #[.int .i64 s.ep, .int .i64 s.voted, .slice A' n' c'], .bool true]) (by simp [results, Try.results45, go_sem, q0, q1, q2]) rfl ?_
      obtain ⟨g1, g2, g3⟩ := FI.out _ ((((Out.refl _ _).setCell (p := ⟨R, 0, none⟩) (Or.inl (by show R = R; rfl)) (.int .i64 s.ep)).setCell (p := ⟨R, 1, none⟩) (Or.inl (by show R = R; rfl)) (.int .i64 s.voted)).setCell (p := ⟨R, 2, none⟩) (Or.inl (by show R = R; rfl)) (.slice A' n' c'))
      exact ⟨_, rfl, g1, g2, g3⟩
end Go.Proofs.Ytlgoenimjmiapaa

/-! Tick. -/
namespace Go.Proofs.Ytlgoenimjmiapaa
open Go.RowKit Go.Maps

section
variable [Far] {w w' : World} {x : Nat} {c c' : NS} {V : NV}
set_option maxRecDepth 100000 in
set_option maxHeartbeats 2000000 in
theorem tick_is {q : ND} (h : NAt w x ⟨q, [], []⟩ V) (hf : q.Fit) : Calls Try.prog 14 #[.pointer (some ⟨x, 0, none⟩)] w fun e w' => Answered w x V (q.tick, 0) e w' := by
  have HS := Lib.hid (Held.start h)
  obtain ⟨R, hR⟩ : ∃ R, w.heap.size = R := ⟨_, rfl⟩
  rw [hR] at HS
  have HN : Hid (∀ W, Held w x V ⟨q, [], []⟩ R W → Calls Try.prog 27 #[.pointer (some ⟨x, 0, none⟩)] W fun e w' => e = .returned (.bool false) ∧ W = w') := fun W hW => by
    obtain ⟨V', k, _⟩ := hW
    exact none_g k hf.n0 hf.n7
  obtain ⟨ro, hro⟩ : ∃ ro, q.role = ro := ⟨_, rfl⟩
  have KC : Hid (∀ W, Held w x V ⟨q, [], []⟩ R W → W.cell? ⟨x, 5, none⟩ = some (.int .i64 ro)) := fun W hW => by
    obtain ⟨V', ⟨ss, _, k⟩, _⟩ := hW
    rw [← hro]
    exact k.c5
  have SHIPS : Hid (ro = 2 → ∀ W, Held w x V ⟨q, [], []⟩ R W → Calls Try.prog 38 #[.pointer (some ⟨x, 0, none⟩), .func (.func 36) #[.pointer (some ⟨x, 0, none⟩)] #[]] W fun e w' => e = .returned (.tuple #[]) ∧ Held w x V (NS.ships ⟨q, [], []⟩) R w') := fun e W hW => by
    obtain ⟨p1, p2, p3, p4⟩ := hf.prim (hro.trans e)
    have f7 := hf.n7
    have fi := hf.ids
    have fl := hf.log
    exact hW.step (fun V' k => ships_g k (by show (0 : Nat) ≤ _; omega) f7 (by show q.id ≤ 7; omega) (fun i hi _ => by
      have hi : i < q.n := hi
      exact has_nat (l := q.has) (i := i) (by omega) p3) (by show q.st.log.length ≤ _; omega) (by show q.has.length ≤ _; omega))
  have ASKS : Hid (ro = 1 → ∀ W, Held w x V ⟨q, [], []⟩ R W → Calls Try.prog 37 #[.pointer (some ⟨x, 0, none⟩)] W fun e w' => e = .returned (.tuple #[]) ∧ Held w x V (NS.asks ⟨q, [], []⟩) R w') := fun e W hW => by
    obtain ⟨gs, hgs, _⟩ := hf.run (by rw [hro, e]; decide)
    have f7 := hf.n7
    have fi := hf.ids
    have fl := hf.log
    exact hW.step (fun V' k => ask_g k hgs (by show (0 : Nat) ≤ _; omega) f7 (by show q.id ≤ 7; omega) (by show q.st.log.length ≤ _; omega))
  have HX2 : Hid (ro = 2 → q.tick = NS.ships ⟨q, [], []⟩) := fun e => by unfold ND.tick; rw [if_pos (hro.trans e)]
  have HX1 : Hid (ro = 1 → q.tick = NS.asks ⟨q, [], []⟩) := fun e => by unfold ND.tick; rw [hro, if_neg (by omega), if_pos e]
  have HX0 : Hid (ro ≠ 2 → ro ≠ 1 → q.tick = ⟨q, [], []⟩) := fun e e1 => by unfold ND.tick; rw [hro, if_neg e, if_neg e1]
  obtain ⟨X, hX⟩ : ∃ X, q.tick = X := ⟨_, rfl⟩
  rw [hX] at HX0 HX1 HX2 ⊢
  clear h hf hX hro
  by_cases e2 : ro = 2
  · have HX := Lib.hid (HX2.out e2)
    have SH := Lib.hid (SHIPS.out e2)
    clear HX0 HX1 HX2 SHIPS ASKS
    subst e2
    go_enter Try.func14, Try.ntmps14
    go_wp2_with fail
    obtain ⟨W0, hW0⟩ : ∃ W0, w.alloc (.cells #[.slice none 0 0, .slice none 0 0] 32) = W0 := ⟨_, rfl⟩
    rw [hW0] at HS ⊢
    have c5 := KC.out _ HS.out
    clear hW0 hR
    go_wp2_with (first
      | (go_at_call 27; refine (HN.out _ HS.out).mono ?_; rintro e w' ⟨rfl, rfl⟩)
      | (go_at_call 38; refine (SH.out _ HS.out).mono ?_; rintro e w4 ⟨rfl, hh⟩; have HH := Lib.hid hh; clear hh)
      | (go_at_call 31; refine (HH.out.done).mono ?_; rintro e w6 ⟨A1, n1, k1, A2, n2, k2, rfl, hR, hfin⟩; have FIN := Lib.hid hfin; have r0 := cells_all hR 0; have r1 := cells_all hR 1; have f0 := frozen_all hR 0; have f1 := frozen_all hR 1; have BR := Lib.hid hR; clear hfin hR))
    have BB := heap_set (heap_set BR.out 0 (.slice A1 n1 k1)) 1 (.slice A2 n2 k2)
    have q0 := cells_all BB 0
    have q1 := cells_all BB 1
    refine bodyPost_ret (v := .tuple #[.agg #[.slice A1 n1 k1, .slice A2 n2 k2], .int .i64 0]) (by simp [results, Try.results14, go_sem, q0, q1]) rfl ?_
    rw [HX.out]
    exact ⟨_, rfl, FIN.out _ (((Out.refl _ _).setCell (p := ⟨R, 0, none⟩) (Or.inl (by show R = R; rfl)) _).setCell (p := ⟨R, 1, none⟩) (Or.inl (by show R = R; rfl)) _)⟩
  · by_cases e1 : ro = 1
    · have HX := Lib.hid (HX1.out e1)
      have AS := Lib.hid (ASKS.out e1)
      clear HX0 HX1 HX2 SHIPS ASKS
      subst e1
      go_enter Try.func14, Try.ntmps14
      go_wp2_with fail
      obtain ⟨W0, hW0⟩ : ∃ W0, w.alloc (.cells #[.slice none 0 0, .slice none 0 0] 32) = W0 := ⟨_, rfl⟩
      rw [hW0] at HS ⊢
      have c5 := KC.out _ HS.out
      clear hW0 hR
      go_wp2_with (first
        | (go_at_call 27; refine (HN.out _ HS.out).mono ?_; rintro e w' ⟨rfl, rfl⟩)
        | (go_at_call 37; refine (AS.out _ HS.out).mono ?_; rintro e w4 ⟨rfl, hh⟩; have HH := Lib.hid hh; clear hh)
        | (go_at_call 31; refine (HH.out.done).mono ?_; rintro e w6 ⟨A1, n1, k1, A2, n2, k2, rfl, hR, hfin⟩; have FIN := Lib.hid hfin; have r0 := cells_all hR 0; have r1 := cells_all hR 1; have f0 := frozen_all hR 0; have f1 := frozen_all hR 1; have BR := Lib.hid hR; clear hfin hR))
      have BB := heap_set (heap_set BR.out 0 (.slice A1 n1 k1)) 1 (.slice A2 n2 k2)
      have q0 := cells_all BB 0
      have q1 := cells_all BB 1
      refine bodyPost_ret (v := .tuple #[.agg #[.slice A1 n1 k1, .slice A2 n2 k2], .int .i64 0]) (by simp [results, Try.results14, go_sem, q0, q1]) rfl ?_
      rw [HX.out]
      exact ⟨_, rfl, FIN.out _ (((Out.refl _ _).setCell (p := ⟨R, 0, none⟩) (Or.inl (by show R = R; rfl)) _).setCell (p := ⟨R, 1, none⟩) (Or.inl (by show R = R; rfl)) _)⟩
    · have HX := Lib.hid (HX0.out e2 e1)
      have g2 : (ro == 2) = false := by rw [beq_eq_false_iff_ne]; exact e2
      have g1 : (ro == 1) = false := by rw [beq_eq_false_iff_ne]; exact e1
      clear HX0 HX1 HX2 SHIPS ASKS e1 e2
      go_enter Try.func14, Try.ntmps14
      go_wp2_with fail
      obtain ⟨W0, hW0⟩ : ∃ W0, w.alloc (.cells #[.slice none 0 0, .slice none 0 0] 32) = W0 := ⟨_, rfl⟩
      rw [hW0] at HS ⊢
      have c5 := KC.out _ HS.out
      clear hW0 hR
      go_wp2_with (first
        | (go_at_call 27; refine (HN.out _ HS.out).mono ?_; rintro e w' ⟨rfl, rfl⟩)
        | (go_at_call 31; refine (HS.out.done).mono ?_; rintro e w6 ⟨A1, n1, k1, A2, n2, k2, rfl, hR, hfin⟩; have FIN := Lib.hid hfin; have r0 := cells_all hR 0; have r1 := cells_all hR 1; have f0 := frozen_all hR 0; have f1 := frozen_all hR 1; have BR := Lib.hid hR; clear hfin hR))
      have BB := heap_set (heap_set BR.out 0 (.slice A1 n1 k1)) 1 (.slice A2 n2 k2)
      have q0 := cells_all BB 0
      have q1 := cells_all BB 1
      refine bodyPost_ret (v := .tuple #[.agg #[.slice A1 n1 k1, .slice A2 n2 k2], .int .i64 0]) (by simp [results, Try.results14, go_sem, q0, q1]) rfl ?_
      rw [HX.out]
      exact ⟨_, rfl, FIN.out _ (((Out.refl _ _).setCell (p := ⟨R, 0, none⟩) (Or.inl (by show R = R; rfl)) _).setCell (p := ⟨R, 1, none⟩) (Or.inl (by show R = R; rfl)) _)⟩
end
end Go.Proofs.Ytlgoenimjmiapaa
