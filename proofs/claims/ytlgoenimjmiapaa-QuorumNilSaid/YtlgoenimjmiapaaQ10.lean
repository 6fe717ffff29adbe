import Derived.Test.YtlgoenimjmiapaaQ9
/-! noted, send, done. -/
set_option linter.unusedVariables false
namespace Go.Proofs.Ytlgoenimjmiapaa
open Go.RowKit Go.Maps

section
variable {w w' : World} {x : Nat} {q : ND} {ns : List Nt} {ss : List (Msg × Value)} {V : NV}

set_option maxRecDepth 100000 in
set_option maxHeartbeats 2000000 in
theorem noted_is (h : NodeAt w x q ns ss V) (hl : q.st.log.length ≤ 1000000) (hn : ns.length ≤ 1000000) (k ep n ee : Int) (d : List UInt8) (hd : d.length ≤ 9223372036854775807) :
    Calls Try.prog 29 #[.pointer (some ⟨x, 0, none⟩), .agg #[.int .i64 k, .int .i64 ep, .int .i64 n, .int .i64 ee, .string (str d)]] w fun e w' => e = .returned (.tuple #[]) ∧
      ∃ V', NodeAt w' x { q with st := (q.st.note ⟨k, ep, n, ⟨ee, d⟩⟩).getD q.st } (ns ++ [⟨k, ep, n, ⟨ee, d⟩⟩]) ss V' ∧ Next (V.own x) w (V'.own x) w' := by
  have o1 := ((Out.refl Zone.no w).alloc (.cells #[.int .i64 k, .int .i64 ep, .int .i64 n, .int .i64 ee, .string (str d)] 75)).drew
  have h1 := h.any o1
  have hlx : V.lv.ownBlock ≠ some x := fun e => h.apart 0 1 (by omega) (by omega) x rfl (by show some _ = _; rw [e])
  have NI0 := note_is h1.blk h1.log hl hlx k ep n ee d hd
  obtain ⟨ox, hox⟩ : ∃ ox, q.st.note ⟨k, ep, n, ⟨ee, d⟩⟩ = ox := ⟨_, rfl⟩
  rw [hox] at NI0 ⊢
  obtain ⟨s', hs'⟩ : ∃ s', ox.getD q.st = s' := ⟨_, rfl⟩
  unfold NoteOk at NI0
  rw [hs'] at NI0 ⊢
  obtain ⟨bl, hbl⟩ : ∃ bl, ox.isSome = bl := ⟨_, rfl⟩
  rw [hbl] at NI0
  have NI := Lib.hid NI0
  have hpb : (w.alloc (.cells #[.int .i64 k, .int .i64 ep, .int .i64 n, .int .i64 ee, .string (str d)] 75)).drew.heap[w.heap.size]? = some (.cells #[.int .i64 k, .int .i64 ep, .int .i64 n, .int .i64 ee, .string (str d)] 75 (0, 0)) := heap_alloc_new w _
  have HPB := Lib.hid hpb
  have H := Lib.hid h
  have H1 := Lib.hid h1
  have HO1 := Lib.hid o1
  have hxl : x < w.heap.size := heap_lt h.blk
  have HXL := Lib.hid hxl
  have HLL : Hid (∀ k, V.lv.ownBlock = some k → k < w.heap.size) := fun k hk => (GRow.mem h.log hk).2.1
  clear o1 h1 hlx hpb h hxl NI0 hox hs' hbl
  go_enter Try.func29, Try.ntmps29
  go_wp2_with fail
  go_region_with (first
    | (go_at_call 51; refine NI.out.mono ?_; rintro e w2 ⟨rfl, lv', hst, hg, ho, hb⟩; have HN2 := Lib.hid (H1.out.noted hst hg ho hb); have q2 := ho.get HPB.out (fun e => by rcases e with e | e; exact absurd e.symm (Nat.ne_of_lt HXL.out); exact absurd (HLL.out _ e) (Nat.lt_irrefl _)); clear hst hg ho hb)
    | fail)
  obtain ⟨N2, X2⟩ := HN2.out
  have HN := Lib.hid N2
  have HX := Lib.hid X2
  clear HN2 H1 NI HPB HXL HLL
  obtain ⟨AN, cN, hnv⟩ := GRow.form HN.out.notes
  have hnv' : V.nv = .slice AN ns.length cN := hnv
  obtain ⟨g, hg⟩ : ∃ g, w.heap.size = g := ⟨_, rfl⟩
  rw [hg] at q2 ⊢
  have q0 := cells_all q2 0
  have q1 := cells_all q2 1
  have q3 := cells_all q2 2
  have q4 := cells_all q2 3
  have q5 := cells_all q2 4
  have HQ := Lib.hid (show w.heap.size = g from hg)
  have C10 : w2.cell? ⟨x, 10, none⟩ = some (.slice AN ns.length cN) := by rw [← hnv']; exact HN.out.c10
  have F10 : w2.frozen? ⟨x, 10, none⟩ = false := frozen_all HN.out.blk 10
  have HOW : Hid (Out Zone.no w2 (w2.drew.alloc (.cells #[.int .i64 k, .int .i64 ep, .int .i64 n, .int .i64 ee, .string (str d)] 75))) := ((Out.refl Zone.no w2).drew).alloc _
  have HGA : Hid (GR (w2.drew.alloc (.cells #[.int .i64 k, .int .i64 ep, .int .i64 n, .int .i64 ee, .string (str d)] 75)) 75 5 (.slice AN ns.length cN) ns.length (encN ns)) := by
    show GR _ _ _ _ _ _
    rw [← hnv']
    exact GRow.any HN.out.notes HOW.out
  have HNW : Hid (∀ (j : Nat) (u : Value), [Value.int .i64 k, .int .i64 ep, .int .i64 n, .int .i64 ee, Value.string (str d)][j]? = some u → (w2.drew.alloc (.cells #[.int .i64 k, .int .i64 ep, .int .i64 n, .int .i64 ee, .string (str d)] 75)).cell? ⟨w2.heap.size, j, none⟩ = some u) := fun j u hu => by
    have h := heap_alloc_new w2.drew (.cells #[.int .i64 k, .int .i64 ep, .int .i64 n, .int .i64 ee, .string (str d)] 75)
    rw [cell_of_row _ w2.heap.size j _ _ _ h]
    simpa using hu
  have D10 : w2.drew.cell? ⟨x, 10, none⟩ = some (.slice AN ns.length cN) := C10
  have D10a : (w2.drew.alloc (.cells #[.int .i64 k, .int .i64 ep, .int .i64 n, .int .i64 ee, .string (str d)] 75)).cell? ⟨x, 10, none⟩ = some (.slice AN ns.length cN) := HOW.out.cell C10 id
  have D10b : (w2.alloc (.cells #[.int .i64 k, .int .i64 ep, .int .i64 n, .int .i64 ee, .string (str d)] 75)).cell? ⟨x, 10, none⟩ = some (.slice AN ns.length cN) := HOW.out.cell C10 id
  have D10c : (w2.alloc (.cells #[.int .i64 k, .int .i64 ep, .int .i64 n, .int .i64 ee, .string (str d)] 75)).drew.cell? ⟨x, 10, none⟩ = some (.slice AN ns.length cN) := HOW.out.cell C10 id
  have E0 : w2.drew.cell? ⟨g, 0, none⟩ = some (.int .i64 k) := q0
  have E1 : w2.drew.cell? ⟨g, 1, none⟩ = some (.int .i64 ep) := q1
  have E2 : w2.drew.cell? ⟨g, 2, none⟩ = some (.int .i64 n) := q3
  have E3 : w2.drew.cell? ⟨g, 3, none⟩ = some (.int .i64 ee) := q4
  have E4 : w2.drew.cell? ⟨g, 4, none⟩ = some (.string (str d)) := q5
  have HNV := Lib.hid hnv'
  have hlm : ns.length + 1 ≤ maxLen := le_maxLen (by omega)
  have hlb : (ns.length + 1) * 48 ≤ 140737488355328 := by omega
  have PUSH : Hid (∀ v' w', GR w' 75 5 v' (ns.length + 1) (encN ns ++ [.int .i64 k, .int .i64 ep, .int .i64 n, .int .i64 ee, .string (str d)]) → (w2.drew.alloc (.cells #[.int .i64 k, .int .i64 ep, .int .i64 n, .int .i64 ee, .string (str d)] 75)).grownBy w' (Value.slice AN ns.length cN).ownBlock →
      (v'.ownBlock = (Value.slice AN ns.length cN).ownBlock ∨ v'.ownBlock = some (w2.drew.alloc (.cells #[.int .i64 k, .int .i64 ep, .int .i64 n, .int .i64 ee, .string (str d)] 75)).heap.size) →
      (Exists fun V' : NV => NodeAt (w'.setCell ⟨x, 10, none⟩ v') x { q with st := s' } (ns ++ [⟨k, ep, n, ⟨ee, d⟩⟩]) ss V' ∧ Next (V.own x) w (V'.own x) (w'.setCell ⟨x, 10, none⟩ v')) ∧ w'.cell? ⟨x, 10, none⟩ = some (.slice AN ns.length cN) ∧ w'.frozen? ⟨x, 10, none⟩ = false) := fun v' w' h1 h2 h3 => by
    rw [← HNV.out] at h2 h3
    obtain ⟨k1, k2, k3, k4⟩ := HN.out.pushNote HOW.out ⟨k, ep, n, ⟨ee, d⟩⟩ h1 h2 h3
    exact ⟨⟨_, k1, ((Next.of_out HO1.out).trans HX.out).trans k2⟩, by rw [← HNV.out]; exact k3, k4⟩
  clear hnv hnv' hg q2 q0 q1 q3 q4 q5 C10 HN HX H N2 X2
  go_wp2_with fail
  go_region_law (refine step_gappend rfl _ _ 29 rfl elem29 ns.length (encN ns) (by exact HGA.out) w2.heap.size 1 [.int .i64 k, .int .i64 ep, .int .i64 n, .int .i64 ee, .string (str d)] (by rfl) rfl (by exact HNW.out) (by simp [Value.oneCell']) hlm hlb ?_; intro v' w' hg1 hgr hat; obtain ⟨A2, x2, rfl⟩ := GRow.form hg1; obtain ⟨hfin, hc, hf⟩ := PUSH.out _ _ hg1 hgr hat; have FIN := Lib.hid hfin; clear hg1 hgr hat hfin)
  all_goals
    go_wp2_with fail
    go_end0
    obtain ⟨V', f1, f2⟩ := FIN.out
    first
    | exact ⟨rfl, V', f1, f2⟩
    | exact ⟨rfl, V', f1.any ((Out.refl _ _).drew), f2.trans (Next.of_out ((Out.refl _ _).drew))⟩
end
end Go.Proofs.Ytlgoenimjmiapaa
