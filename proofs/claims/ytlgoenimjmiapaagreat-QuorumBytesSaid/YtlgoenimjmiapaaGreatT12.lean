import Derived.Test.YtlgoenimjmiapaaGreatT11
import Derived.Deep.DeepFit
set_option linter.unusedSimpArgs false
set_option linter.unusedVariables false
set_option linter.unusedSectionVars false
/-! count. -/
set_option linter.unusedVariables false
set_option linter.unusedSectionVars false
namespace Go.Proofs.YtlgoenimjmiapaaGreat
open Go.RowKit Go.Maps

theorem replicate_at {n i : Nat} (h : i < n) (L : Int) : (List.replicate n L)[i]? = some L := by rw [List.getElem?_replicate, if_pos h]

theorem cell_n1 (w : World) (u : Value) (e : TypeId) : (w.alloc (.cells #[u] e)).drew.cell? ⟨w.heap.size, 0, none⟩ = some u := cell_new w #[u] e 0
theorem cell_n2 (w : World) (o : Obj) (u : Value) (e : TypeId) : ((w.alloc o).alloc (.cells #[u] e)).drew.cell? ⟨w.heap.size + 1, 0, none⟩ = some u := by
  have := cell_new (w.alloc o) #[u] e 0
  rw [show (w.alloc o).heap.size = w.heap.size + 1 by simp] at this
  exact this
theorem cell_n3 (w : World) (u : Value) (e : TypeId) (o : Obj) : ((w.alloc (.cells #[u] e)).alloc o).drew.cell? ⟨w.heap.size, 0, none⟩ = some u := ((Out.refl Zone.no _).alloc o).cell (cell_new w #[u] e 0) id

section
variable [Far] {w w' : World} {x : Nat} {c : NS} {V : NV}

theorem NAt.role {c : NS} (h : NAt w x c V) (r : Int) : NAt (w.setCell ⟨x, 5, none⟩ (.int .i64 r)) x { c with q := { c.q with role := r } } V ∧ Next (V.own x) w (V.own x) (w.setCell ⟨x, 5, none⟩ (.int .i64 r)) := by
  obtain ⟨ss, h1, h2⟩ := h
  have := h2.setRole r
  exact ⟨⟨ss, h1, this.1⟩, this.2⟩

/-- Behind the new rows: the note, what is shipped, the rise. -/
theorem lead_rest {w0 : World} {V0 : NV} (h0 : Next (V0.own x) w0 (V.own x) w) (h : NAt w x c V) (hl : c.q.st.log.length ≤ 2048) (hn : c.ns.length ≤ 900000) (hm : c.ms.length ≤ 800000) (hid : c.q.id < c.q.n) (h7 : c.q.n ≤ 7)
    (hh : c.q.has = List.replicate c.q.n (c.q.st.log.length : Int)) (ha : c.q.acked = List.replicate c.q.n 0) :
    Calls Tryz.prog 62 #[.pointer (some ⟨x, 0, none⟩), .agg #[.int .i64 3, .int .i64 0, .int .i64 0, .int .i64 c.q.st.ep, .string ⟨#[]⟩]] w fun e w1 => e = .returned (.tuple #[]) ∧
      Hid (Calls Tryz.prog 71 #[.pointer (some ⟨x, 0, none⟩), .func (.func 70) #[.pointer (some ⟨x, 0, none⟩)] #[]] w1 fun e w2 => e = .returned (.tuple #[]) ∧
        Hid (Calls Tryz.prog 69 #[.pointer (some ⟨x, 0, none⟩)] w2 fun e w' => e = .returned (.tuple #[]) ∧ Gone w0 x V0 ((c.note ⟨3, 0, 0, ⟨c.q.st.ep, []⟩⟩).ships).rise w')) := by
  have hp := put_log c.q.st ⟨3, 0, 0, ⟨c.q.st.ep, []⟩⟩ rfl
  refine (noted_g h (by omega) (by omega) ⟨3, 0, 0, ⟨c.q.st.ep, []⟩⟩ (by simp)).mono ?_
  rintro e w1 ⟨rfl, V1, k1, n1⟩
  refine ⟨rfl, ?_⟩
  show Calls _ _ _ _ _
  refine (ships_g k1 (by show c.ms.length ≤ _; omega) h7 (by show c.q.id ≤ _; omega) (fun i hi _ => ⟨c.q.st.log.length, ?_, hp.1⟩) (by show List.length _ ≤ _; exact Nat.le_trans hp.2 (by omega)) (by show c.q.has.length ≤ _; rw [hh, List.length_replicate]; omega)).mono ?_
  · show c.q.has[i]? = _
    rw [hh]
    exact replicate_at hi _
  rintro e w2 ⟨rfl, V2, k2, n2⟩
  refine ⟨rfl, ?_⟩
  show Calls _ _ _ _ _
  refine (rise_g k2 (by show c.q.acked.length = c.q.n; rw [ha, List.length_replicate]) hid h7 (by show List.length _ ≤ _; exact Nat.le_trans hp.2 (by omega)) (fun a hk => ?_)).mono ?_
  · have hk' : a ∈ c.q.acked := hk
    rw [ha] at hk'
    rw [(List.mem_replicate.1 hk').2]
    exact ⟨Int.le_refl _, Int.natCast_nonneg _⟩
  rintro e w3 ⟨rfl, V3, k3, n3⟩
  exact ⟨rfl, V3, k3, h0.trans ((n1.trans n2).trans n3)⟩

set_option maxRecDepth 100000 in
set_option maxHeartbeats 4000000 in
theorem count_is (h : NAt w x c V) {gs : List Int} (hgs : c.q.granted = some gs) (hg7 : gs.length ≤ 7) (hl : c.q.st.log.length ≤ 2048) (hn : c.ns.length ≤ 900000) (hm : c.ms.length ≤ 800000) (hid : c.q.id < c.q.n) (h7 : c.q.n ≤ 7) :
    Calls Tryz.prog 64 #[.pointer (some ⟨x, 0, none⟩)] w fun e w' => e = .returned (.tuple #[]) ∧ Gone w x V c.count w' := by
  obtain ⟨ss, hss, hq⟩ := h
  have hv := hq.votes
  rw [hgs] at hv
  obtain ⟨b, hgv, hvt⟩ := hv
  obtain ⟨AL, cL, hlv⟩ := GRow.form hq.log
  have c2 : w.cell? ⟨x, 2, none⟩ = some (.slice AL c.q.st.log.length cL) := by rw [← hlv]; exact hq.blk.c2
  have c4 := hq.c4
  have c7 := hq.c7
  rw [hgv] at c7
  have hlen := fun (W : World) (ho : Out Zone.no w W) => (hvt.same (ho.block b hvt.lt id)).len 3
  have hlen0 := fun n => hlen (w.drewN n) ((Out.refl _ _).drewN n)
  have c5 := hq.c5
  have f5 : w.frozen? ⟨x, 5, none⟩ = false := frozen_all hq.blk 5
  have H : Hid (NAt w x c V) := ⟨ss, hss, hq⟩
  have HC0 : Hid (2 * gs.length ≤ c.q.n ∨ 2048 ≤ c.q.st.log.length → c.count = c) := fun hh => by unfold NS.count; rw [hgs]; exact if_pos hh
  have HC1 : Hid (¬ (2 * gs.length ≤ c.q.n ∨ 2048 ≤ c.q.st.log.length) → c.count = ((c.lead.note ⟨3, 0, 0, ⟨c.q.st.ep, []⟩⟩).ships).rise) := fun hh => by unfold NS.count; rw [hgs]; exact if_neg hh
  obtain ⟨L, hL⟩ : ∃ L, c.q.st.log.length = L := ⟨_, rfl⟩
  obtain ⟨N, hN⟩ : ∃ N, c.q.n = N := ⟨_, rfl⟩
  obtain ⟨G, hG⟩ : ∃ G, gs.length = G := ⟨_, rfl⟩
  obtain ⟨X, hX⟩ : ∃ X, c.count = X := ⟨_, rfl⟩
  rw [hX] at HC0 HC1 ⊢
  rw [hL] at c2 hl HC0 HC1
  rw [hN] at c4 hid h7 HC0 HC1
  rw [hG] at hg7 HC0 HC1
  simp only [hG] at hlen0
  have HL := Lib.hid hL
  have HLV := Lib.hid hlv
  have HN := Lib.hid hN
  have HM := Lib.hid hm
  have HNS := Lib.hid hn
  have w2 : IntKind.i64.wrap (2 * (G : Int)) = 2 * (G : Int) := IntWalk.i64_in _ (by omega)
  clear hq hvt hgv hlv hlen hgs hss hL hN hG hX hm hn
  by_cases h1 : 2 * G ≤ N
  · have := HC0.out (Or.inl h1)
    have d1 : decide (2 * (G : Int) ≤ (N : Int)) = true := by rw [decide_eq_true_eq]; omega
    go_enter Tryz.func64, Tryz.ntmps64
    go_wp2_with fail
    go_quiet (fail)
    go_wp2_with fail
    refine bodyPost_ret (v := .tuple #[]) (by simp [results, Tryz.results64, go_sem]) rfl ?_
    exact ⟨rfl, by rw [this]; exact (Gone.refl H.out).any ((Out.refl _ _).drewN _)⟩
  · have d1 : decide (2 * (G : Int) ≤ (N : Int)) = false := by rw [decide_eq_false_iff_not]; omega
    by_cases h2 : 2048 ≤ L
    · have := HC0.out (Or.inr h2)
      have d2 : decide (2048 ≤ (L : Int)) = true := by rw [decide_eq_true_eq]; omega
      go_enter Tryz.func64, Tryz.ntmps64
      go_wp2_with fail
      go_quiet (fail)
      go_wp2_with fail
      refine bodyPost_ret (v := .tuple #[]) (by simp [results, Tryz.results64, go_sem]) rfl ?_
      exact ⟨rfl, by rw [this]; exact (Gone.refl H.out).any ((Out.refl _ _).drewN _)⟩
    · have HX := Lib.hid (HC1.out (fun e => e.elim h1 h2))
      have d2 : decide (2048 ≤ (L : Int)) = false := by rw [decide_eq_false_iff_not]; omega
      go_enter Tryz.func64, Tryz.ntmps64
      go_wp2_with fail
      go_quiet (fail)
      go_wp2_with fail
      have HW : Hid (NAt ((w.drewN nq).setCell ⟨x, 5, none⟩ (.int .i64 2)) x { c with q := { c.q with role := 2 } } V ∧ Next (V.own x) w (V.own x) ((w.drewN nq).setCell ⟨x, 5, none⟩ (.int .i64 2))) := by
        have h1 := H.out.any ((Out.refl Zone.no w).drewN nq)
        have := h1.role 2
        exact ⟨this.1, (Next.of_out ((Out.refl Zone.no w).drewN nq)).trans this.2⟩
      obtain ⟨W1, hW1⟩ : ∃ W1, (w.drewN nq).setCell ⟨x, 5, none⟩ (.int .i64 2) = W1 := ⟨_, rfl⟩
      rw [hW1] at HW ⊢
      clear hW1 d1 d2 hlen0 H HC0 HC1 c2 c4 c7 c5 f5 h1 h2
      have hN1 : 1 ≤ N := by omega
      have KO : Hid (∀ W, Out Zone.no W1 W → (W.cell? ⟨x, 2, none⟩ = some (.slice AL L cL) ∧ W.cell? ⟨x, 4, none⟩ = some (.int .i64 (N : Int)))) := fun W ho => by
        obtain ⟨⟨ss, e1, e2⟩, _⟩ := HW.out
        have e2 := e2.any ho
        refine ⟨?_, by rw [← HN.out]; exact e2.c4⟩
        have := e2.blk.c2
        rw [HLV.out] at this
        rw [← HL.out]
        exact this
      obtain ⟨A8, n8, c8, hv8⟩ : ∃ A8 n8 c8, V.hv = .slice A8 n8 c8 := by obtain ⟨⟨ss, e1, e2⟩, _⟩ := HW.out; obtain ⟨A, c, h⟩ := GRow.form e2.has; exact ⟨A, _, c, h⟩
      obtain ⟨A9, n9, c9, hv9⟩ : ∃ A9 n9 c9, V.av = .slice A9 n9 c9 := by obtain ⟨⟨ss, e1, e2⟩, _⟩ := HW.out; obtain ⟨A, c, h⟩ := GRow.form e2.acked; exact ⟨A, _, c, h⟩
      have HV8 := Lib.hid hv8
      have HV9 := Lib.hid hv9
      clear hv8 hv9
      have KD : Hid (∀ W, Out Zone.no W1 W → (W.cell? ⟨x, 8, none⟩ = some (.slice A8 n8 c8) ∧ W.cell? ⟨x, 9, none⟩ = some (.slice A9 n9 c9)) ∧ (W.frozen? ⟨x, 8, none⟩ = false) ∧ (W.frozen? ⟨x, 9, none⟩ = false)) := fun W ho => by
        obtain ⟨⟨ss, e1, e2⟩, _⟩ := HW.out
        have e2 := e2.any ho
        exact ⟨⟨by rw [e2.c8, HV8.out], by rw [e2.c9, HV9.out]⟩, frozen_all e2.blk 8, frozen_all e2.blk 9⟩
      have KS : Hid (∀ W v, Out Zone.no W1 W → ((W.setCell ⟨x, 8, none⟩ v).cell? ⟨x, 2, none⟩ = some (.slice AL L cL) ∧ (W.setCell ⟨x, 8, none⟩ v).cell? ⟨x, 4, none⟩ = some (.int .i64 (N : Int)))) := fun W v ho => by
        obtain ⟨⟨ss, e1, e2⟩, _⟩ := HW.out
        have e2 := e2.any ho
        have b := blk_set e2.blk 5 v
        refine ⟨?_, by rw [← HN.out]; rw [cells_all b 4]; rfl⟩
        have := b.c2
        rw [HLV.out] at this
        rw [← HL.out]
        exact this
      have KSS : Hid (∀ W v v', Out Zone.no W1 W → (((W.setCell ⟨x, 8, none⟩ v).setCell ⟨x, 9, none⟩ v').cell? ⟨x, 2, none⟩ = some (.slice AL L cL) ∧ ((W.setCell ⟨x, 8, none⟩ v).setCell ⟨x, 9, none⟩ v').cell? ⟨x, 4, none⟩ = some (.int .i64 (N : Int)))) := fun W v v' ho => by
        obtain ⟨⟨ss, e1, e2⟩, _⟩ := HW.out
        have e2 := e2.any ho
        have b := blk_set (blk_set e2.blk 5 v) 6 v'
        refine ⟨?_, by rw [← HN.out]; rw [cells_all b 4]; rfl⟩
        have := b.c2
        rw [HLV.out] at this
        rw [← HL.out]
        exact this
      have LEAD : Hid (∀ Wf g k, Out (Zone.m (fun j => j = x)) W1 Wf → Wf.heap[x]? = some (.cells #[.int .i64 c.q.st.ep, .int .i64 c.q.st.voted, V.lv, .int .i64 (c.q.id : Int), .int .i64 (c.q.n : Int), .int .i64 2, .int .i64 (c.q.commit : Int), V.gv, .slice (some ⟨g, 0, none⟩) N N, .slice (some ⟨k, 0, none⟩) N N, V.nv, V.sv] 111 (0, 0)) → RepAt Wf g N N L → Wf.heap[k]? = some (.cells (Array.replicate N (.int .i64 0)) 3 (0, 0)) → W1.heap.size ≤ g → W1.heap.size ≤ k → g ≠ k →
          ∃ V', NAt Wf x c.lead V' ∧ Next (V.own x) w (V'.own x) Wf) := fun Wf g k ho hb hr hz hg hk hne => by
        obtain ⟨⟨ss, e1, e2⟩, n1⟩ := HW.out
        have i0 : ∀ a j : Nat, (Value.slice (some ⟨a, 0, none⟩) N N).ownBlock = some j → a = j := fun a j h => by
          have : some a = some j := h
          injection this
        obtain ⟨k1, k2⟩ := e2.lead ho hb (hr.gr h7) (zeros_gr hz h7) (fun j hj => by rw [← i0 _ _ hj]; exact hg) (fun j hj => by rw [← i0 _ _ hj]; exact hk) (fun j hj hj' => hne (by rw [i0 _ _ hj, i0 _ _ hj']))
        refine ⟨_, ⟨ss, e1, ?_⟩, n1.trans k2⟩
        unfold NS.lead
        rw [HL.out, HN.out]
        exact k1
      have XL : Hid (x < W1.heap.size) := by obtain ⟨⟨ss, e1, e2⟩, _⟩ := HW.out; exact heap_lt e2.blk
      have BL : Hid (∀ W, Out Zone.no W1 W → StAt W x 111 c.q.st.ep c.q.st.voted V.lv [.int .i64 (c.q.id : Int), .int .i64 (c.q.n : Int), .int .i64 2, .int .i64 (c.q.commit : Int), V.gv, V.hv, V.av, V.nv, V.sv]) := fun W ho => by obtain ⟨⟨ss, e1, e2⟩, _⟩ := HW.out; exact (e2.any ho).blk
      have SN : ∀ (W : World) (i k : Nat) (v : Value), k ≠ x → (W.setCell ⟨x, i, none⟩ v).heap[k]? = W.heap[k]? := fun W i k v h => Below.heap_setCell W ⟨x, i, none⟩ v k h
      have AN : ∀ (W : World) (o : Obj) (k : Nat), k < W.heap.size → (W.alloc o).heap[k]? = W.heap[k]? := fun W o k h => ((Out.refl Zone.no W).alloc o).block k h id
      have OX : ∀ W W' : World, Out Zone.no W W' → Out (Zone.m (fun j => j = x)) W W' := fun W W' h => ⟨h.os, h.tape, h.output, h.size, fun k hk _ => h.block k hk id⟩
      have FB : Hid (∀ W g k, Out Zone.no W1 W → RepAt W g N N L → W.heap[k]? = some (.cells (Array.replicate N (.int .i64 0)) 3 (0, 0)) → W1.heap.size ≤ g → W1.heap.size ≤ k → g ≠ k → (∃ V', NAt ((W.setCell ⟨x, 8, none⟩ (.slice (some ⟨g, 0, none⟩) N N)).setCell ⟨x, 9, none⟩ (.slice (some ⟨k, 0, none⟩) N N)) x c.lead V' ∧ Next (V.own x) w (V'.own x) ((W.setCell ⟨x, 8, none⟩ (.slice (some ⟨g, 0, none⟩) N N)).setCell ⟨x, 9, none⟩ (.slice (some ⟨k, 0, none⟩) N N)))) := fun W g k ho hr hz hg hk hne => by
        have hx := XL.out
        refine LEAD.out _ g k (((OX _ _ ho).setCell (Or.inl (by show x = x; rfl)) _).setCell (Or.inl (by show x = x; rfl)) _) (blk_set (blk_set (BL.out W ho) 5 _) 6 _) (hr.keep ?_) ?_ hg hk hne
        · rw [SN _ _ _ _ (by omega), SN _ _ _ _ (by omega)]
        · rw [SN _ _ _ _ (by omega), SN _ _ _ _ (by omega)]; exact hz
      have FA : Hid (∀ W g, Out Zone.no W1 W → RepAt W g N N L → W1.heap.size ≤ g → (∃ V', NAt (((W.alloc (.cells (Array.replicate N (.int .i64 0)) 3)).setCell ⟨x, 8, none⟩ (.slice (some ⟨g, 0, none⟩) N N)).setCell ⟨x, 9, none⟩ (.slice (some ⟨W.heap.size, 0, none⟩) N N)) x c.lead V' ∧ Next (V.own x) w (V'.own x) (((W.alloc (.cells (Array.replicate N (.int .i64 0)) 3)).setCell ⟨x, 8, none⟩ (.slice (some ⟨g, 0, none⟩) N N)).setCell ⟨x, 9, none⟩ (.slice (some ⟨W.heap.size, 0, none⟩) N N)))) := fun W g ho hr hg => by
        have hlt : g < W.heap.size := by obtain ⟨cur, h1, _⟩ := hr; exact heap_lt h1
        have := ho.size
        exact FB.out _ g W.heap.size (ho.alloc _) (hr.keep (AN _ _ _ hlt)) (heap_alloc_new W _) hg this (by omega)
      have FD : Hid (∀ W g, Out Zone.no W1 W → RepAt W g N N L → W1.heap.size ≤ g → (∃ V', NAt (((W.setCell ⟨x, 8, none⟩ (.slice (some ⟨g, 0, none⟩) N N)).alloc (.cells (Array.replicate N (.int .i64 0)) 3)).setCell ⟨x, 9, none⟩ (.slice (some ⟨W.heap.size, 0, none⟩) N N)) x c.lead V' ∧ Next (V.own x) w (V'.own x) (((W.setCell ⟨x, 8, none⟩ (.slice (some ⟨g, 0, none⟩) N N)).alloc (.cells (Array.replicate N (.int .i64 0)) 3)).setCell ⟨x, 9, none⟩ (.slice (some ⟨W.heap.size, 0, none⟩) N N)))) := fun W g ho hr hg => by
        have hlt : g < W.heap.size := by obtain ⟨cur, h1, _⟩ := hr; exact heap_lt h1
        have := ho.size
        have hx := XL.out
        have hsz : (W.setCell ⟨x, 8, none⟩ (.slice (some ⟨g, 0, none⟩) N N)).heap.size = W.heap.size := by simp
        refine LEAD.out _ g W.heap.size ((((OX _ _ ho).setCell (Or.inl (by show x = x; rfl)) _).alloc _).setCell (Or.inl (by show x = x; rfl)) _) (blk_set ((blk_set (BL.out W ho) 5 _).any ((Out.refl Zone.no _).alloc _)) 6 _) (hr.keep ?_) ?_ hg this (by omega)
        · rw [SN _ _ _ _ (by omega), AN _ _ _ (by omega), SN _ _ _ _ (by omega)]
        · rw [SN _ _ _ _ (by omega)]
          have := heap_alloc_new (W.setCell ⟨x, 8, none⟩ (.slice (some ⟨g, 0, none⟩) N N)) (.cells (Array.replicate N (.int .i64 0)) 3)
          rw [hsz] at this
          exact this
      have REST : Hid (∀ Wf, (∃ V', NAt Wf x c.lead V' ∧ Next (V.own x) w (V'.own x) Wf) → Calls Tryz.prog 62 #[.pointer (some ⟨x, 0, none⟩), .agg #[.int .i64 3, .int .i64 0, .int .i64 0, .int .i64 c.q.st.ep, .string ⟨#[]⟩]] Wf fun e w1 => e = .returned (.tuple #[]) ∧
          Hid (Calls Tryz.prog 71 #[.pointer (some ⟨x, 0, none⟩), .func (.func 70) #[.pointer (some ⟨x, 0, none⟩)] #[]] w1 fun e w2 => e = .returned (.tuple #[]) ∧
            Hid (Calls Tryz.prog 69 #[.pointer (some ⟨x, 0, none⟩)] w2 fun e w' => e = .returned (.tuple #[]) ∧ Gone w x V X w'))) := fun Wf hf => by
        obtain ⟨V', h1, h2⟩ := hf
        rw [HX.out]
        exact lead_rest h2 h1 (by show c.q.st.log.length ≤ _; rw [HL.out]; exact hl) HNS.out HM.out (by show c.q.id < c.q.n; rw [HN.out]; exact hid) (by show c.q.n ≤ 7; rw [HN.out]; exact h7) rfl rfl
      have REP0 : Hid (∀ Wf, (∃ V', NAt Wf x c.lead V' ∧ Next (V.own x) w (V'.own x) Wf) → Wf.cell? ⟨x, 0, none⟩ = some (.int .i64 c.q.st.ep)) := fun Wf hf => by
        obtain ⟨V', ⟨ss, h1, h2⟩, _⟩ := hf
        exact h2.blk.c0
      clear SN AN OX
      have KT : Hid (∀ W v o, Out Zone.no W1 W → (((W.setCell ⟨x, 8, none⟩ v).alloc o).cell? ⟨x, 2, none⟩ = some (.slice AL L cL) ∧ ((W.setCell ⟨x, 8, none⟩ v).alloc o).cell? ⟨x, 4, none⟩ = some (.int .i64 (N : Int)))) := fun W v o ho => by
        have h := KS.out W v ho
        exact ⟨((Out.refl Zone.no _).alloc o).cell h.1 id, ((Out.refl Zone.no _).alloc o).cell h.2 id⟩
      have KTT : Hid (∀ W v v' o, Out Zone.no W1 W → ((((W.setCell ⟨x, 8, none⟩ v).alloc o).setCell ⟨x, 9, none⟩ v').cell? ⟨x, 2, none⟩ = some (.slice AL L cL) ∧ (((W.setCell ⟨x, 8, none⟩ v).alloc o).setCell ⟨x, 9, none⟩ v').cell? ⟨x, 4, none⟩ = some (.int .i64 (N : Int)))) := fun W v v' o ho => by
        obtain ⟨⟨ss, e1, e2⟩, _⟩ := HW.out
        have e2 := e2.any ho
        have b1 := (blk_set e2.blk 5 v).any ((Out.refl Zone.no _).alloc o)
        have b := blk_set b1 6 v'
        refine ⟨?_, by rw [← HN.out]; rw [cells_all b 4]; rfl⟩
        have := b.c2
        rw [HLV.out] at this
        rw [← HL.out]
        exact this
      have KD2 : Hid (∀ W v o, Out Zone.no W1 W → (((W.setCell ⟨x, 8, none⟩ v).alloc o).cell? ⟨x, 9, none⟩ = some (.slice A9 n9 c9)) ∧ (((W.setCell ⟨x, 8, none⟩ v).alloc o).frozen? ⟨x, 9, none⟩ = false)) := fun W v o ho => by
        obtain ⟨⟨ss, e1, e2⟩, _⟩ := HW.out
        have e2 := e2.any ho
        have b := (blk_set e2.blk 5 v).any ((Out.refl Zone.no _).alloc o)
        exact ⟨by rw [cells_all b 9, ← HV9.out]; rfl, frozen_all b 9⟩
      have HRP : Hid (∀ W b, W.cell? ⟨b, 0, none⟩ = some (.int .i64 (L : Int)) → Calls Tryz.prog 79 #[.slice (some ⟨b, 0, none⟩) 1 1, .int .i64 (N : Int)] W fun e w' => ∃ g, e = .returned (.slice (some ⟨g, 0, none⟩) N N) ∧ RepAt w' g N N L ∧ Out Zone.no W w' ∧ W.heap.size ≤ g) := fun W b hb => repeat_is W b N L hb (by omega) h7
      have OW : Hid (Out Zone.no W1 W1.drew) := (Out.refl Zone.no W1).drew
      have hmk := fun W => make_ints N (by omega) W
      have CSD := (show (W1.drew.cell? ⟨x, 2, none⟩ = some (.slice AL L cL) ∧ W1.drew.cell? ⟨x, 4, none⟩ = some (.int .i64 (N : Int))) from KO.out _ OW.out)
      clear hg7 hid h7
      go_region_held3 (fun W => (W.cell? ⟨x, 2, none⟩ = some (.slice AL L cL) ∧ W.cell? ⟨x, 4, none⟩ = some (.int .i64 (N : Int))))
        (first | with_reducible assumption | with_reducible exact KO.out _ ((Out.refl Zone.no W1).alloc _).drew | with_reducible exact KO.out _ (((Out.refl Zone.no W1).alloc _).alloc _).drew | with_reducible exact KO.out _ (OC.out.alloc _) | with_reducible exact KO.out _ (OW.out.alloc _) | with_reducible exact KO.out _ ((OW.out.alloc _).alloc _) | with_reducible exact KS.out _ _ OC.out | with_reducible exact KS.out _ _ (OC.out.alloc _) | with_reducible exact KSS.out _ _ _ OC.out | with_reducible exact KSS.out _ _ _ (OC.out.alloc _) | with_reducible exact KT.out _ _ _ OC.out | with_reducible exact KTT.out _ _ _ _ OC.out)
        (first
          | (go_at_call 79; refine (HRP.out _ _ (by first | with_reducible exact cell_n1 _ _ _ | with_reducible exact cell_n2 _ _ _ _ | with_reducible exact cell_n3 _ _ _ _)).mono ?_; rintro e w2 ⟨g, rfl, hr, ho, hs⟩; have OC := Lib.hid (show Out Zone.no W1 w2 from (by first | with_reducible exact ((Out.refl Zone.no W1).alloc _).drew.trans ho | with_reducible exact (((Out.refl Zone.no W1).alloc _).alloc _).drew.trans ho | with_reducible exact OW.out.trans ho | with_reducible exact (OW.out.alloc _).trans ho | with_reducible exact ((OW.out.alloc _).alloc _).trans ho)); have CS2 := KO.out _ OC.out; obtain ⟨⟨d8, d9⟩, f8, f9⟩ := KD.out _ OC.out; obtain ⟨⟨d8a, d9a⟩, f8a, f9a⟩ := KD.out (w2.alloc (.cells (Array.replicate N (.int .i64 0)) 3)) (OC.out.alloc _); obtain ⟨d9b, f9b⟩ := KD2.out w2 (.slice (some ⟨g, 0, none⟩) N N) (.cells (Array.replicate N (.int .i64 0)) 3) OC.out; have HR := Lib.hid hr; have HO := Lib.hid ho; have HSS := Lib.hid hs; clear hr ho hs))
      · have hsz := HSS.out
        have hw : W1.heap.size ≤ g := by simp at hsz; omega
        have FF := Lib.hid (FA.out w2 g OC.out HR.out hw)
        clear hsz hw
        have E0 := REP0.out _ FF.out
        go_wp2_with (first
          | (go_at_call 62; refine (REST.out _ FF.out).mono ?_; rintro e w3 ⟨rfl, h38⟩)
          | (go_at_call 71; refine h38.out.mono ?_; rintro e w4 ⟨rfl, h35⟩)
          | (go_at_call 69; refine h35.out.mono ?_; rintro e w5 ⟨rfl, hfin⟩; have FIN := Lib.hid hfin; clear hfin))
        go_end0
        exact ⟨rfl, FIN.out⟩
      · have hsz := HSS.out
        have hw : W1.heap.size ≤ g := by simp at hsz; omega
        have FF := Lib.hid (FD.out w2 g OC.out HR.out hw)
        clear hsz hw
        have E0 := REP0.out _ FF.out
        go_wp2_with (first
          | (go_at_call 62; refine (REST.out _ FF.out).mono ?_; rintro e w3 ⟨rfl, h38⟩)
          | (go_at_call 71; refine h38.out.mono ?_; rintro e w4 ⟨rfl, h35⟩)
          | (go_at_call 69; refine h35.out.mono ?_; rintro e w5 ⟨rfl, hfin⟩; have FIN := Lib.hid hfin; clear hfin))
        go_end0
        exact ⟨rfl, FIN.out⟩
      · have hsz := HSS.out
        have hw : W1.heap.size ≤ g := by simp at hsz; omega
        have FF := Lib.hid (FB.out w2 g (W1.heap.size + 1) OC.out HR.out (HO.out.get (by have := heap_alloc_new (W1.alloc (.cells #[.int .i64 (L : Int)] 3)) (.cells (Array.replicate N (.int .i64 0)) 3); rw [show (W1.alloc (.cells #[.int .i64 (L : Int)] 3)).heap.size = W1.heap.size + 1 by simp] at this; exact this) id) hw (by omega) (by simp at hsz; omega))
        clear hsz hw
        have E0 := REP0.out _ FF.out
        go_wp2_with (first
          | (go_at_call 62; refine (REST.out _ FF.out).mono ?_; rintro e w3 ⟨rfl, h38⟩)
          | (go_at_call 71; refine h38.out.mono ?_; rintro e w4 ⟨rfl, h35⟩)
          | (go_at_call 69; refine h35.out.mono ?_; rintro e w5 ⟨rfl, hfin⟩; have FIN := Lib.hid hfin; clear hfin))
        go_end0
        exact ⟨rfl, FIN.out⟩
      · have hsz := HSS.out
        have hw : W1.heap.size ≤ g := by simp at hsz; omega
        have FF := Lib.hid (FB.out w2 g W1.heap.size OC.out HR.out (HO.out.get (by exact ((Out.refl Zone.no _).alloc (.cells #[.int .i64 (L : Int)] 3)).get (heap_alloc_new W1 (.cells (Array.replicate N (.int .i64 0)) 3)) id) id) hw (by omega) (by simp at hsz; omega))
        clear hsz hw
        have E0 := REP0.out _ FF.out
        go_wp2_with (first
          | (go_at_call 62; refine (REST.out _ FF.out).mono ?_; rintro e w3 ⟨rfl, h38⟩)
          | (go_at_call 71; refine h38.out.mono ?_; rintro e w4 ⟨rfl, h35⟩)
          | (go_at_call 69; refine h35.out.mono ?_; rintro e w5 ⟨rfl, hfin⟩; have FIN := Lib.hid hfin; clear hfin))
        go_end0
        exact ⟨rfl, FIN.out⟩
end
end Go.Proofs.YtlgoenimjmiapaaGreat
