import Derived.Test.YtlgoenimjmiapaaT23
import Derived.Test.YtlgoenimjmiapaaT24
set_option linter.unusedSimpArgs false
set_option linter.unusedVariables false
set_option linter.unusedSectionVars false
/-! shipped. -/
namespace Go.Proofs.Ytlgoenimjmiapaa
open Go.RowKit Go.Maps

section
variable [Far] {w w' : World} {x : Nat} {c c' : NS} {V : NV} {m : Msg} {v : Value} {B : Nat}
theorem ShipAt.commit {W : World} (h : ShipAt w x V c m v B W) (k : Nat) : ShipAt w x V { c with q := { c.q with commit := k } } m v B (W.setCell ⟨x, 6, none⟩ (.int .i64 (k : Int))) := by
  obtain ⟨V', ⟨⟨ss, e1, e2⟩, h2⟩, h5, h8⟩ := h
  have := e2.setCommit k
  exact ShipAt.gone ⟨ss, e1, e2⟩ h2 h5 h8 ⟨V', ⟨ss, e1, this.1⟩, this.2⟩
theorem slots_intro {A : Act} {F : (Nat → Value) → Array Value} {R : Prop} (h : A = { tmps := F (fun k => A.tmps.getD k undef), defers := [] }) (hr : R) : ∃ f, A = { tmps := F f, defers := [] } ∧ R := ⟨_, h, hr⟩
theorem ShipAt.out {W : World} (h : ShipAt w x V c m v B W) : Gone w x V c W := by
  obtain ⟨V', h1, _⟩ := h
  exact ⟨V', h1.1, h1.2⟩

theorem note_len (c : NS) (t : Nt) : (c.note t).q.st.log.length ≤ c.q.st.log.length + 1 := by
  show ((c.q.st.note t).getD c.q.st).log.length ≤ _
  unfold St.note
  split
  · exact Nat.le_succ _
  · split
    · split
      · exact Nat.le_succ _
      · exact Nat.le_succ _
    · split
      · split
        · exact Nat.le_succ _
        · simp; omega
      · split
        · exact Nat.le_succ _
        · simp
theorem note_commit (c : NS) (t : Nt) : (c.note t).q.commit = c.q.commit ∧ (c.note t).ms = c.ms ∧ (c.note t).ns.length = c.ns.length + 1 := ⟨rfl, rfl, by show (c.ns ++ [t]).length = _; simp⟩
theorem puts_len : ∀ (l : List Ent) (c : NS), (c.puts l).q.st.log.length ≤ c.q.st.log.length + l.length ∧ (c.puts l).ns.length = c.ns.length + l.length ∧ (c.puts l).ms = c.ms ∧ (c.puts l).q.commit = c.q.commit
  | [], c => ⟨Nat.le_refl _, rfl, rfl, rfl⟩
  | y :: l, c => by
    obtain ⟨h1, h2, h3, h4⟩ := puts_len l (c.note ⟨3, 0, 0, y⟩)
    have h5 := note_len c ⟨3, 0, 0, y⟩
    obtain ⟨h6, h7, h8⟩ := note_commit c ⟨3, 0, 0, y⟩
    refine ⟨?_, ?_, h3.trans h7, h4.trans h6⟩
    · show ((c.note ⟨3, 0, 0, y⟩).puts l).q.st.log.length ≤ _
      simp only [List.length_cons]
      omega
    · show ((c.note ⟨3, 0, 0, y⟩).puts l).ns.length = _
      simp only [List.length_cons]
      omega
theorem puts_snoc (c : NS) (l : List Ent) (y : Ent) : c.puts (l ++ [y]) = (c.puts l).note ⟨3, 0, 0, y⟩ := by
  unfold NS.puts
  rw [List.foldl_append]
  rfl

set_option maxRecDepth 100000 in
set_option maxHeartbeats 8000000 in
theorem shipped_is (h : NAt w x c V) (hf : c.q.Fit) (m : Msg) (v : Value) (hr : RRow (V.own x) w v m.log.length 2 (encL m.log)) (hml : m.log.length ≤ 2048) (hfit : Fits m.log) (hat : 0 ≤ m.at_ ∧ m.at_ ≤ 1099511627776) (hcm : 0 ≤ m.commit ∧ m.commit ≤ 1099511627776) (hns : c.ns.length ≤ 1000) (hms : c.ms.length ≤ 1000) :
    Calls Try.prog 34 #[.pointer (some ⟨x, 0, none⟩), .agg (m.cells v).toArray] w fun e w' => e = .returned (.tuple #[]) ∧ Gone w x V (c.shipped m) w' := by
  obtain ⟨Am, cm, rfl, hcm1, hcm2⟩ := hr.form
  obtain ⟨B, hB⟩ : ∃ B, w.heap.size = B := ⟨_, rfl⟩
  have HS := ShipAt.start (m := m) h hr
  rw [hB] at HS
  obtain ⟨s1, s2, s3, s4⟩ := stands_q c
  obtain ⟨a, ha⟩ : ∃ a : Nat, m.at_ = (a : Int) := ⟨m.at_.toNat, by omega⟩
  obtain ⟨n, hn⟩ : ∃ n, c.q.st.log.length = n := ⟨_, rfl⟩
  obtain ⟨L, hL⟩ : ∃ L, m.log.length = L := ⟨_, rfl⟩
  obtain ⟨c1, hc1⟩ : ∃ c1, c.stands = c1 := ⟨_, rfl⟩
  obtain ⟨ro, hro⟩ : ∃ ro, c.q.role = ro := ⟨_, rfl⟩
  obtain ⟨r2, hr2⟩ : ∃ r2, c1.q.role = r2 := ⟨_, rfl⟩
  obtain ⟨la, hla⟩ : ∃ la, c.q.st.last a = la := ⟨_, rfl⟩
  obtain ⟨X, hX⟩ : ∃ X, c.shipped m = X := ⟨_, rfl⟩
  obtain ⟨s0, hs0⟩ : ∃ s0, sameN (c.q.st.log.drop a) m.log = s0 := ⟨_, rfl⟩
  have hn2 : n ≤ 2048 := by rw [← hn]; exact hf.log
  have ha2 : a ≤ 1099511627776 := by omega
  rw [hc1] at s1 s2 s3 s4
  have hst : c1.q.st = c.q.st := s3
  have hrr : r2 = 0 ∨ r2 = 2 := by
    have h3 := hf.role
    rw [← hr2, ← hc1]
    unfold NS.stands
    split
    · exact Or.inl rfl
    · next h4 =>
      rcases h3 with h3 | h3 | h3
      · exact Or.inl h3
      · exact absurd h3 h4
      · exact Or.inr h3
  have hr22 : r2 = 2 ↔ ro = 2 := by
    rw [← hr2, ← hro, ← hc1]
    unfold NS.stands
    split
    · next h4 => exact ⟨fun h => (by cases h), fun h => (by omega)⟩
    · exact Iff.rfl
  have HXR : Hid (((n : Int) < (a : Int) ∨ la ≠ m.last) → X = c1.sent ⟨5, 0, m.frm, 0, max 0 (min (n : Int) ((a : Int) - 1)), 0, 0, []⟩) := fun e => by
    rw [← hX, ← hc1, ← hn]
    unfold NS.shipped
    rw [ha, if_pos (by rw [Int.toNat_natCast, hla, hn]; exact e)]
  have HXE : Hid (¬ ((n : Int) < (a : Int) ∨ la ≠ m.last) → (2048 < (a : Int) + (L : Int) ∨ r2 = 2) → X = c1) := fun e e2 => by
    rw [← hX, ← hc1]
    unfold NS.shipped
    rw [ha, if_neg (by rw [Int.toNat_natCast, hla, hn]; exact e), if_pos (by rw [hL, hro]; exact e2.imp id hr22.1)]
  have HXT : Hid (¬ ((n : Int) < (a : Int) ∨ la ≠ m.last) → ¬ (2048 < (a : Int) + (L : Int) ∨ r2 = 2) → X = (((if s0 < L ∧ (a : Int) + (s0 : Int) < (n : Int) then c1.note ⟨2, 0, (a : Int) + (s0 : Int), ⟨0, []⟩⟩ else c1).puts (m.log.drop s0)).rises (min m.commit ((a : Int) + (L : Int)))).sent ⟨4, 0, m.frm, 0, (a : Int) + (L : Int), 0, 0, []⟩) := fun e e2 => by
    rw [← hX]
    unfold NS.shipped
    rw [ha, if_neg (by rw [Int.toNat_natCast, hla, hn]; exact e), if_neg (by rw [hL, hro]; exact fun h => e2 (h.imp id hr22.2)), hc1]
    unfold NS.takes
    simp only
    rw [ha, hst, Int.toNat_natCast, hs0, hL, hn]
  have hsp := sameN_spec (c.q.st.log.drop a) m.log
  have hsl := sameN_le (c.q.st.log.drop a) m.log
  rw [hs0] at hsp hsl
  rw [List.length_drop, hn, hL] at hsl
  have ENT : Hid (∀ i, (¬ (n : Int) < (a : Int)) → i < L → a + i < n → ∃ y z, c.q.st.log[a + i]? = some y ∧ m.log[i]? = some z ∧ (i < s0 → y.ep = z.ep) ∧ (i = s0 → y.ep ≠ z.ep)) := fun i hge h1 h2 => by
    obtain ⟨y, hy⟩ := at_len (l := c.q.st.log) (k := a + i) (by omega)
    obtain ⟨z, hz⟩ := at_len (l := m.log) (k := i) (by omega)
    refine ⟨y, z, hy, hz, fun e => ?_, fun e => ?_⟩
    · obtain ⟨y', z', k1, k2, k3⟩ := hsp.1 i e
      rw [List.getElem?_drop, hy] at k1
      rw [hz] at k2
      injection k1 with k1
      injection k2 with k2
      rw [k1, k2]; exact k3
    · subst e
      exact hsp.2 y z (by rw [List.getElem?_drop]; exact hy) hz
  obtain ⟨P1, hP1⟩ : ∃ P1 : World → Prop, ShipAt w x V c m (.slice Am m.log.length cm) B = P1 := ⟨_, rfl⟩
  obtain ⟨P2, hP2⟩ : ∃ P2 : World → Prop, ShipAt w x V c1 m (.slice Am m.log.length cm) B = P2 := ⟨_, rfl⟩
  obtain ⟨kd, hkd⟩ : ∃ kd, m.kind = kd := ⟨_, rfl⟩
  obtain ⟨fr, hfr⟩ : ∃ fr, m.frm = fr := ⟨_, rfl⟩
  obtain ⟨tt, hto⟩ : ∃ tt, m.to = tt := ⟨_, rfl⟩
  obtain ⟨me, hme⟩ : ∃ me, m.ep = me := ⟨_, rfl⟩
  obtain ⟨ml, hml2⟩ : ∃ ml, m.last = ml := ⟨_, rfl⟩
  obtain ⟨mc, hmc⟩ : ∃ mc, m.commit = mc := ⟨_, rfl⟩
  have KCX : ∀ (c3 : NS) W, ShipAt w x V c3 m (.slice Am m.log.length cm) B W → (W.cell? ⟨B, 0, none⟩ = some (.int .i64 kd) ∧ W.cell? ⟨B, 1, none⟩ = some (.int .i64 fr) ∧ W.cell? ⟨B, 2, none⟩ = some (.int .i64 tt) ∧ W.cell? ⟨B, 3, none⟩ = some (.int .i64 me) ∧ W.cell? ⟨B, 4, none⟩ = some (.int .i64 (a : Int)) ∧ W.cell? ⟨B, 5, none⟩ = some (.int .i64 ml) ∧ W.cell? ⟨B, 6, none⟩ = some (.int .i64 mc) ∧ W.cell? ⟨B, 7, none⟩ = some (.slice Am L cm)) := fun c3 W hW => by
    rw [← hkd, ← hfr, ← hto, ← hme, ← ha, ← hml2, ← hmc, ← hL]
    exact ⟨hW.box 0, hW.box 1, hW.box 2, hW.box 3, hW.box 4, hW.box 5, hW.box 6, hW.box 7⟩
  have KC1 : Hid (∀ W, P1 W → (W.cell? ⟨B, 0, none⟩ = some (.int .i64 kd) ∧ W.cell? ⟨B, 1, none⟩ = some (.int .i64 fr) ∧ W.cell? ⟨B, 2, none⟩ = some (.int .i64 tt) ∧ W.cell? ⟨B, 3, none⟩ = some (.int .i64 me) ∧ W.cell? ⟨B, 4, none⟩ = some (.int .i64 (a : Int)) ∧ W.cell? ⟨B, 5, none⟩ = some (.int .i64 ml) ∧ W.cell? ⟨B, 6, none⟩ = some (.int .i64 mc) ∧ W.cell? ⟨B, 7, none⟩ = some (.slice Am L cm)) ∧ W.cell? ⟨x, 5, none⟩ = some (.int .i64 ro) ∧ W.frozen? ⟨x, 5, none⟩ = false ∧ ∃ A cc, W.cell? ⟨x, 2, none⟩ = some (.slice A n cc)) := fun W hW => by
    rw [← hP1] at hW
    obtain ⟨k1, k2, _, _, k5⟩ := hW.node
    rw [hro] at k1
    rw [hn] at k5
    exact ⟨KCX _ _ hW, k1, k2, k5⟩
  have KC2 : Hid (∀ W, P2 W → (W.cell? ⟨B, 0, none⟩ = some (.int .i64 kd) ∧ W.cell? ⟨B, 1, none⟩ = some (.int .i64 fr) ∧ W.cell? ⟨B, 2, none⟩ = some (.int .i64 tt) ∧ W.cell? ⟨B, 3, none⟩ = some (.int .i64 me) ∧ W.cell? ⟨B, 4, none⟩ = some (.int .i64 (a : Int)) ∧ W.cell? ⟨B, 5, none⟩ = some (.int .i64 ml) ∧ W.cell? ⟨B, 6, none⟩ = some (.int .i64 mc) ∧ W.cell? ⟨B, 7, none⟩ = some (.slice Am L cm)) ∧ W.cell? ⟨x, 5, none⟩ = some (.int .i64 r2)) := fun W hW => by
    rw [← hP2] at hW
    obtain ⟨k1, _⟩ := hW.node
    rw [hr2] at k1
    exact ⟨KCX _ _ hW, k1⟩
  have KO1 : Hid (∀ W W', P1 W → Out Zone.no W W' → P1 W') := fun W W' hW ho => by
    rw [← hP1] at hW ⊢
    exact hW.any ho
  have KO2 : Hid (∀ W W', P2 W → Out Zone.no W W' → P2 W') := fun W W' hW ho => by
    rw [← hP2] at hW ⊢
    exact hW.any ho
  have ROLE : Hid (ro = 1 → ∀ W, P1 W → P2 (W.setCell ⟨x, 5, none⟩ (.int .i64 0))) := fun e W hW => by
    rw [← hP1] at hW
    rw [← hP2, ← hc1]
    unfold NS.stands
    rw [if_pos (by rw [hro]; exact e)]
    exact hW.role 0
  have SAME : Hid (ro ≠ 1 → ∀ W, P1 W → P2 W) := fun e W hW => by
    rw [← hP1] at hW
    rw [← hP2, ← hc1]
    unfold NS.stands
    rw [if_neg (by rw [hro]; exact e)]
    exact hW
  have LAST : Hid ((a : Int) ≤ (n : Int) → ∀ W, P2 W → Calls Try.prog 52 #[.pointer (some ⟨x, 0, none⟩), .int .i64 (a : Int)] W fun e w' => e = .returned (.int .i64 la) ∧ W = w') := fun e W hW => by
    rw [← hP2] at hW
    obtain ⟨V', ⟨k, _⟩, _⟩ := hW
    have := k.last_g a (by rw [hst]; omega) (by rw [hst]; omega)
    rw [hst, hla] at this
    exact this
  have CMP : Hid (∀ i W, P2 W → (¬ (n : Int) < (a : Int)) → i < L → a + i < n → ∃ (g cc b o : Nat) (e1 e2 : Int), W.cell? ⟨x, 2, none⟩ = some (.slice (some ⟨g, 0, none⟩) n cc) ∧ W.cell? ⟨g, (a + i) * 2, none⟩ = some (.int .i64 e1) ∧ Am = some ⟨b, o, none⟩ ∧ W.cell? ⟨b, o + i * 2, none⟩ = some (.int .i64 e2) ∧ (i < s0 → e1 = e2) ∧ (i = s0 → e1 ≠ e2)) := fun i W hW hge h1 h2 => by
    rw [← hP2] at hW
    obtain ⟨y, z, hy, hz, hyz, hyz2⟩ := ENT.out i hge h1 h2
    rw [← hst] at hy
    obtain ⟨g, cc, k1, k2⟩ := hW.entry hy
    obtain ⟨b, o, k3, k4, _⟩ := hW.given hz
    rw [hst, hn] at k1
    exact ⟨g, cc, b, o, y.ep, z.ep, k1, k2, k3, k4, hyz, hyz2⟩
  have REFS : Hid (∀ W, P2 W → Calls Try.prog 30 #[.pointer (some ⟨x, 0, none⟩), .agg #[.int .i64 5, .int .i64 0, .int .i64 fr, .int .i64 0, .int .i64 (max 0 (min (n : Int) ((a : Int) - 1))), .int .i64 0, .int .i64 0, .slice none 0 0]] W fun e w' => e = .returned (.tuple #[]) ∧ Gone w x V (c1.sent ⟨5, 0, fr, 0, max 0 (min (n : Int) ((a : Int) - 1)), 0, 0, []⟩) w') := fun W hW => by
    rw [← hP2] at hW
    refine (hW.step (c' := c1.sent ⟨5, 0, fr, 0, max 0 (min (n : Int) ((a : Int) - 1)), 0, 0, []⟩) (fun V' k => send_g k (by rw [s2]; omega) ⟨5, 0, fr, 0, max 0 (min (n : Int) ((a : Int) - 1)), 0, 0, []⟩ (.slice none 0 0) (rrow_nil _ _ _))).mono ?_
    rintro e w' ⟨rfl, hs⟩
    exact ⟨rfl, hs.out⟩
  have OUT2 : Hid (∀ W, P2 W → Gone w x V c1 W) := fun W hW => by
    rw [← hP2] at hW
    exact hW.out
  obtain ⟨c2, hc2⟩ : ∃ c2, (if s0 < L ∧ (a : Int) + (s0 : Int) < (n : Int) then c1.note ⟨2, 0, (a : Int) + (s0 : Int), ⟨0, []⟩⟩ else c1) = c2 := ⟨_, rfl⟩
  obtain ⟨P3, hP3⟩ : ∃ P3 : World → Prop, ShipAt w x V c2 m (.slice Am m.log.length cm) B = P3 := ⟨_, rfl⟩
  obtain ⟨PJ, hPJ⟩ : ∃ PJ : Nat → World → Prop, (fun j => ShipAt w x V (c2.puts ((m.log.drop s0).take j)) m (.slice Am m.log.length cm) B) = PJ := ⟨_, rfl⟩
  obtain ⟨R, hR⟩ : ∃ R, L - s0 = R := ⟨_, rfl⟩
  have hdl : (m.log.drop s0).length = R := by rw [List.length_drop, hL, hR]
  have hc2n : c2.q.st.log.length ≤ n + 1 ∧ c2.ns.length ≤ c.ns.length + 1 ∧ c2.ms = c.ms ∧ c2.q.commit = c1.q.commit := by
    rw [← hc2]
    split
    · have h1 := note_len c1 ⟨2, 0, (a : Int) + (s0 : Int), ⟨0, []⟩⟩
      obtain ⟨h6, h7, h8⟩ := note_commit c1 ⟨2, 0, (a : Int) + (s0 : Int), ⟨0, []⟩⟩
      rw [hst, hn] at h1
      exact ⟨h1, by rw [h8, s1]; exact Nat.le_refl _, h7.trans s2, h6⟩
    · exact ⟨by rw [hst, hn]; omega, by rw [s1]; omega, s2, rfl⟩
  obtain ⟨K, hK⟩ : ∃ K : Nat, c1.q.commit = K := ⟨_, rfl⟩
  have CUT : Hid (s0 < L ∧ a + s0 < n → ∀ W, P2 W → Calls Try.prog 29 #[.pointer (some ⟨x, 0, none⟩), .agg #[.int .i64 2, .int .i64 0, .int .i64 ((a : Int) + (s0 : Int)), .int .i64 0, .string ⟨#[]⟩]] W fun e w' => e = .returned (.tuple #[]) ∧ P3 w') := fun e W hW => by
    rw [← hP2] at hW
    rw [← hP3, ← hc2, if_pos ⟨e.1, by omega⟩]
    exact hW.step (fun V' k => noted_g k (by rw [hst]; omega) (by rw [s1]; omega) ⟨2, 0, (a : Int) + (s0 : Int), ⟨0, []⟩⟩ (by show (0 : Nat) ≤ _; omega))
  have NOCUT : Hid (¬ (s0 < L ∧ a + s0 < n) → ∀ W, P2 W → P3 W) := fun e W hW => by
    rw [← hP2] at hW
    rw [← hP3, ← hc2, if_neg (fun h => e ⟨h.1, by have := h.2; omega⟩)]
    exact hW
  have PJ0 : Hid (∀ W, P3 W → PJ 0 W) := fun W hW => by
    rw [← hP3] at hW
    rw [← hPJ]
    exact hW
  have KC3 : Hid (∀ W, P3 W → (W.cell? ⟨B, 0, none⟩ = some (.int .i64 kd) ∧ W.cell? ⟨B, 1, none⟩ = some (.int .i64 fr) ∧ W.cell? ⟨B, 2, none⟩ = some (.int .i64 tt) ∧ W.cell? ⟨B, 3, none⟩ = some (.int .i64 me) ∧ W.cell? ⟨B, 4, none⟩ = some (.int .i64 (a : Int)) ∧ W.cell? ⟨B, 5, none⟩ = some (.int .i64 ml) ∧ W.cell? ⟨B, 6, none⟩ = some (.int .i64 mc) ∧ W.cell? ⟨B, 7, none⟩ = some (.slice Am L cm))) := fun W hW => by
    rw [← hP3] at hW
    exact KCX _ _ hW
  have KOJ : Hid (∀ j W W', PJ j W → Out Zone.no W W' → PJ j W') := fun j W W' hW ho => by
    rw [← hPJ] at hW ⊢
    exact ShipAt.any hW ho
  have KO3 : Hid (∀ W W', P3 W → Out Zone.no W W' → P3 W') := fun W W' hW ho => by
    rw [← hP3] at hW ⊢
    exact ShipAt.any hW ho
  have KCJ : Hid (∀ j W, PJ j W → (W.cell? ⟨B, 0, none⟩ = some (.int .i64 kd) ∧ W.cell? ⟨B, 1, none⟩ = some (.int .i64 fr) ∧ W.cell? ⟨B, 2, none⟩ = some (.int .i64 tt) ∧ W.cell? ⟨B, 3, none⟩ = some (.int .i64 me) ∧ W.cell? ⟨B, 4, none⟩ = some (.int .i64 (a : Int)) ∧ W.cell? ⟨B, 5, none⟩ = some (.int .i64 ml) ∧ W.cell? ⟨B, 6, none⟩ = some (.int .i64 mc) ∧ W.cell? ⟨B, 7, none⟩ = some (.slice Am L cm)) ∧ W.cell? ⟨x, 6, none⟩ = some (.int .i64 (K : Int)) ∧ W.frozen? ⟨x, 6, none⟩ = false) := fun j W hW => by
    rw [← hPJ] at hW
    obtain ⟨_, _, k3, k4, _⟩ := ShipAt.node hW
    have := (puts_len ((m.log.drop s0).take j) c2).2.2.2
    rw [this, hc2n.2.2.2, hK] at k3
    exact ⟨KCX _ _ hW, k3, k4⟩
  obtain ⟨A', cc', hfrom⟩ : ∃ A' cc', fromN Am s0 L cm = .slice A' R cc' := ⟨_, _, by unfold fromN; rw [hR]⟩
  have SLI : Hid (∀ W, (Instr.slice 26 (.slice Am L cm) (some (.int .i64 (s0 : Int))) none none).run Try.prog W = .ok (.slice A' R cc') W) := fun W => by
    rw [← hfrom]
    exact run_from (by omega) W
  have PUTJ : Hid (∀ j, j < R → ∃ (ye : Int) (yd : ByteArray) (b o : Nat), A' = some ⟨b, o, none⟩ ∧ (∀ W, PJ j W → W.cell? ⟨b, o + j * 2, none⟩ = some (.int .i64 ye) ∧ W.cell? ⟨b, o + j * 2 + 1, none⟩ = some (.string yd)) ∧ ∀ W, PJ j W → Calls Try.prog 29 #[.pointer (some ⟨x, 0, none⟩), .agg #[.int .i64 3, .int .i64 0, .int .i64 0, .int .i64 ye, .string yd]] W fun e w' => e = .returned (.tuple #[]) ∧ PJ (j + 1) w') := fun j hj => by
    obtain ⟨y, hy⟩ := at_len (l := m.log) (k := s0 + j) (by omega)
    have hy2 : (m.log.drop s0)[j]? = some y := by rw [List.getElem?_drop]; exact hy
    have hlt := lt_len hy2
    have hne : cm ≠ s0 := by omega
    have hA' : A' = Am.map (·.add (s0 * 2)) := by
      unfold fromN at hfrom
      rw [if_neg hne] at hfrom
      injection hfrom with h1
      exact h1.symm
    obtain ⟨b, o, hA, _, _⟩ := ShipAt.given (c := c) (B := B) (W := w.alloc (.cells (m.cells (.slice Am m.log.length cm)).toArray 36)) HS hy
    refine ⟨y.ep, str y.data, b, o + s0 * 2, ?_, fun W hW => ?_, fun W hW => ?_⟩
    · rw [hA', hA]
      show some ((⟨b, o, none⟩ : Addr).add (s0 * 2)) = _
      unfold Addr.add
      split
      · next e => rw [e]; rfl
      · rfl
    · rw [← hPJ] at hW
      obtain ⟨b', o', h1, h2, h3⟩ := ShipAt.given hW hy
      rw [hA] at h1
      injection h1 with h1
      injection h1 with h1 h4 _
      subst h1 h4
      rw [show o + s0 * 2 + j * 2 = o + (s0 + j) * 2 by omega]
      exact ⟨h2, h3⟩
    · rw [← hPJ] at hW ⊢
      have hp := puts_len ((m.log.drop s0).take j) c2
      rw [List.length_take] at hp
      have ht : (m.log.drop s0).take (j + 1) = (m.log.drop s0).take j ++ [y] := by
        rw [List.take_succ_eq_append_getElem hlt]
        rw [List.getElem?_eq_getElem hlt] at hy2
        injection hy2 with hy2
        rw [hy2]
      show Calls _ _ _ _ (fun e w' => e = _ ∧ ShipAt w x V (c2.puts ((m.log.drop s0).take (j + 1))) m _ B w')
      rw [ht, puts_snoc]
      exact ShipAt.step hW (fun V' k => noted_g k (by omega) (by omega) ⟨3, 0, 0, y⟩ (hfit y (List.mem_of_getElem? hy)))
  obtain ⟨PF, hPF⟩ : ∃ PF : World → Prop, ShipAt w x V ((c2.puts (m.log.drop s0)).rises (min m.commit ((a : Int) + (L : Int)))) m (.slice Am m.log.length cm) B = PF := ⟨_, rfl⟩
  have CMT : Hid (∀ W, PJ R W → PF (W.setCell ⟨x, 6, none⟩ (.int .i64 (max (K : Int) (min mc ((a : Int) + (L : Int))))))) := fun W hW => by
    rw [← hPJ] at hW
    rw [← hPF, ← hmc]
    have hW : ShipAt w x V (c2.puts ((m.log.drop s0).take R)) m (.slice Am m.log.length cm) B W := hW
    rw [List.take_of_length_le (by omega)] at hW
    have := hW.commit (max (K : Int) (min m.commit ((a : Int) + (L : Int)))).toNat
    have e : (((max (K : Int) (min m.commit ((a : Int) + (L : Int)))).toNat : Nat) : Int) = max (K : Int) (min m.commit ((a : Int) + (L : Int))) := by omega
    rw [e] at this
    unfold NS.rises
    rw [(puts_len (m.log.drop s0) c2).2.2.2, hc2n.2.2.2, hK]
    exact this
  have KCF : Hid (∀ W, PF W → (W.cell? ⟨B, 0, none⟩ = some (.int .i64 kd) ∧ W.cell? ⟨B, 1, none⟩ = some (.int .i64 fr) ∧ W.cell? ⟨B, 2, none⟩ = some (.int .i64 tt) ∧ W.cell? ⟨B, 3, none⟩ = some (.int .i64 me) ∧ W.cell? ⟨B, 4, none⟩ = some (.int .i64 (a : Int)) ∧ W.cell? ⟨B, 5, none⟩ = some (.int .i64 ml) ∧ W.cell? ⟨B, 6, none⟩ = some (.int .i64 mc) ∧ W.cell? ⟨B, 7, none⟩ = some (.slice Am L cm))) := fun W hW => by
    rw [← hPF] at hW
    exact KCX _ _ hW
  have SENDA : Hid (∀ W, PF W → Calls Try.prog 30 #[.pointer (some ⟨x, 0, none⟩), .agg #[.int .i64 4, .int .i64 0, .int .i64 fr, .int .i64 0, .int .i64 ((a : Int) + (L : Int)), .int .i64 0, .int .i64 0, .slice none 0 0]] W fun e w' => e = .returned (.tuple #[]) ∧ Gone w x V (((c2.puts (m.log.drop s0)).rises (min m.commit ((a : Int) + (L : Int)))).sent ⟨4, 0, fr, 0, (a : Int) + (L : Int), 0, 0, []⟩) w') := fun W hW => by
    rw [← hPF] at hW
    have hp := puts_len (m.log.drop s0) c2
    refine (hW.step (c' := ((c2.puts (m.log.drop s0)).rises (min m.commit ((a : Int) + (L : Int)))).sent ⟨4, 0, fr, 0, (a : Int) + (L : Int), 0, 0, []⟩) (fun V' k => send_g k (by show (c2.puts (m.log.drop s0)).ms.length ≤ _; rw [hp.2.2.1, hc2n.2.2.1]; omega) ⟨4, 0, fr, 0, (a : Int) + (L : Int), 0, 0, []⟩ (.slice none 0 0) (rrow_nil _ _ _))).mono ?_
    rintro e w' ⟨rfl, hs⟩
    exact ⟨rfl, hs.out⟩
  rw [hc2] at HXT
  rw [hmc] at SENDA
  rw [hfr, hml2] at HXR
  rw [hml2] at HXE HXT
  rw [hfr, hmc] at HXT
  have hRs : R = L - s0 := hR.symm
  clear hR
  have HSP := Lib.hid HS
  have hag : (m.cells (.slice Am m.log.length cm)).toArray = #[.int .i64 kd, .int .i64 fr, .int .i64 tt, .int .i64 me, .int .i64 (a : Int), .int .i64 ml, .int .i64 mc, .slice Am L cm] := by
    unfold Msg.cells; rw [hkd, hfr, hto, hme, ha, hml2, hmc, hL]
  rw [hP1, hag] at HSP
  rw [hag]
  rw [hX]
  have la1 : IntKind.i64.wrap ((a : Int) + (L : Int)) = (a : Int) + (L : Int) := IntWalk.i64_in _ (by omega)
  have la2 : IntKind.i64.wrap ((a : Int) - 1) = (a : Int) - 1 := IntWalk.i64_in _ (by omega)
  have hLb : L ≤ 2048 := by rw [← hL]; exact hml
  obtain ⟨REF, hREF⟩ : ∃ REF : Prop, ((n : Int) < (a : Int) ∨ la ≠ ml) = REF := ⟨_, rfl⟩
  have HREF := Lib.hid hREF
  obtain ⟨GO, hGO⟩ : ∃ GO : Prop, (¬ REF ∧ ¬ (2048 < (a : Int) + (L : Int) ∨ r2 = 2)) = GO := ⟨_, rfl⟩
  have HGOE := Lib.hid hGO
  clear hGO
  have HROS := Lib.hid (And.intro hrr hr22)
  have HSL := Lib.hid hsl
  rw [hREF] at HXR HXE HXT
  clear hP3 hPJ hPF hc2 hdl hc2n hK hfrom hcm1 hcm2 hP1 hP2 hc1 hro hr2 hla hX hs0 hst hsp hkd hfr hto hme hml2 hmc hn hL ha h hf hr hfit hml hat hcm hns hms s1 s2 s3 s4 KCX HS hag hREF hrr hr22 hsl
  have HRS := Lib.hid hRs
  clear hRs
  go_enter Try.func34, Try.ntmps34
  go_wp2_with fail
  obtain ⟨W1, hW1⟩ : ∃ W1, w.alloc (.cells #[.int .i64 kd, .int .i64 fr, .int .i64 tt, .int .i64 me, .int .i64 (a : Int), .int .i64 ml, .int .i64 mc, .slice Am L cm] 36) = W1 := ⟨_, rfl⟩
  rw [hW1] at HSP ⊢
  clear hB hW1
  refine wp_scope_two (fun a' w' => ∃ (f : Nat → Value), a' = { tmps := (.pointer (some ⟨x, 0, none⟩) :: .agg #[.int .i64 kd, .int .i64 fr, .int .i64 tt, .int .i64 me, .int .i64 (a : Int), .int .i64 ml, .int .i64 mc, .slice Am L cm] :: f 2 :: .pointer (some ⟨B, 0, none⟩) :: .int .i64 (n : Int) :: f 5 :: f 6 :: f 7 :: f 8 :: f 9 :: f 10 :: f 11 :: f 12 :: f 13 :: f 14 :: f 15 :: f 16 :: f 17 :: f 18 :: f 19 :: f 20 :: f 21 :: f 22 :: f 23 :: f 24 :: f 25 :: f 26 :: f 27 :: f 28 :: f 29 :: f 30 :: f 31 :: f 32 :: f 33 :: f 34 :: f 35 :: f 36 :: f 37 :: f 38 :: f 39 :: f 40 :: f 41 :: f 42 :: f 43 :: f 44 :: f 45 :: f 46 :: f 47 :: f 48 :: f 49 :: f 50 :: f 51 :: f 52 :: f 53 :: f 54 :: f 55 :: f 56 :: f 57 :: f 58 :: f 59 :: f 60 :: f 61 :: f 62 :: f 63 :: f 64 :: f 65 :: f 66 :: f 67 :: f 68 :: f 69 :: f 70 :: f 71 :: f 72 :: f 73 :: f 74 :: f 75 :: f 76 :: f 77 :: f 78 :: f 79 :: f 80 :: f 81 :: f 82 :: f 83 :: f 84 :: f 85 :: f 86 :: f 87 :: f 88 :: f 89 :: f 90 :: f 91 :: f 92 :: f 93 :: f 94 :: f 95 :: f 96 :: f 97 :: f 98 :: f 99 :: f 100 :: f 101 :: f 102 :: f 103 :: f 104 :: f 105 :: f 106 :: f 107 :: f 108 :: f 109 :: f 110 :: f 111 :: f 112 :: f 113 :: f 114 :: f 115 :: f 116 :: f 117 :: f 118 :: f 119 :: f 120 :: f 121 :: f 122 :: f 123 :: f 124 :: f 125 :: f 126 :: f 127 :: f 128 :: f 129 :: f 130 :: f 131 :: f 132 :: f 133 :: f 134 :: f 135 :: f 136 :: f 137 :: f 138 :: f 139 :: f 140 :: f 141 :: f 142 :: f 143 :: f 144 :: f 145 :: f 146 :: f 147 :: f 148 :: f 149 :: f 150 :: f 151 :: []).toArray, defers := [] } ∧ Hid (REF ∧ P2 w')) (fun a' w' => ∃ (i : Nat) (f : Nat → Value), a' = { tmps := (.pointer (some ⟨x, 0, none⟩) :: .agg #[.int .i64 kd, .int .i64 fr, .int .i64 tt, .int .i64 me, .int .i64 (a : Int), .int .i64 ml, .int .i64 mc, .slice Am L cm] :: f 2 :: .pointer (some ⟨B, 0, none⟩) :: .int .i64 (n : Int) :: .int .i64 (i : Int) :: .int .i64 ((a : Int) + (L : Int)) :: f 7 :: f 8 :: f 9 :: f 10 :: f 11 :: f 12 :: f 13 :: f 14 :: f 15 :: f 16 :: f 17 :: f 18 :: f 19 :: f 20 :: f 21 :: f 22 :: f 23 :: f 24 :: f 25 :: f 26 :: f 27 :: f 28 :: f 29 :: f 30 :: f 31 :: f 32 :: f 33 :: f 34 :: f 35 :: f 36 :: f 37 :: f 38 :: f 39 :: f 40 :: f 41 :: f 42 :: f 43 :: f 44 :: f 45 :: f 46 :: f 47 :: f 48 :: f 49 :: f 50 :: f 51 :: f 52 :: f 53 :: f 54 :: f 55 :: f 56 :: f 57 :: f 58 :: f 59 :: f 60 :: f 61 :: f 62 :: f 63 :: f 64 :: f 65 :: f 66 :: f 67 :: f 68 :: f 69 :: f 70 :: f 71 :: f 72 :: f 73 :: f 74 :: f 75 :: f 76 :: f 77 :: f 78 :: f 79 :: f 80 :: f 81 :: f 82 :: f 83 :: f 84 :: f 85 :: f 86 :: f 87 :: f 88 :: f 89 :: f 90 :: f 91 :: f 92 :: f 93 :: f 94 :: f 95 :: f 96 :: f 97 :: f 98 :: f 99 :: f 100 :: f 101 :: f 102 :: f 103 :: f 104 :: f 105 :: f 106 :: f 107 :: f 108 :: f 109 :: f 110 :: f 111 :: f 112 :: f 113 :: f 114 :: f 115 :: f 116 :: f 117 :: f 118 :: f 119 :: f 120 :: f 121 :: f 122 :: f 123 :: f 124 :: f 125 :: f 126 :: f 127 :: f 128 :: f 129 :: f 130 :: f 131 :: f 132 :: f 133 :: f 134 :: f 135 :: f 136 :: f 137 :: f 138 :: f 139 :: f 140 :: f 141 :: f 142 :: f 143 :: f 144 :: f 145 :: f 146 :: f 147 :: f 148 :: f 149 :: f 150 :: f 151 :: []).toArray, defers := [] } ∧ i ≤ s0 ∧ Hid (GO ∧ P2 w')) (fun a' _ => 4096 - (intOf (a'.tmps.getD 5 undef)).toNat) rfl rfl ?p0 ?p1 ?first
  case p0 =>
    rintro a' w0 ⟨f, rfl, h0⟩
    obtain ⟨hr0, h0⟩ := h0.out
    have H0 := Lib.hid h0
    have HX := Lib.hid (HXR.out hr0)
    obtain ⟨⟨b0, b1, b2, b3, b4, b5, b6, b7⟩, k5⟩ := KC2.out _ h0
    clear h0 hr0
    go_wp2_with (first
      | (go_at_call 30; refine (REFS.out _ H0.out).mono ?_; rintro e w4 ⟨rfl, hg⟩; have HG := Lib.hid hg; clear hg))
    simp only [ExitTwo]
    go_end0
    exact ⟨rfl, by rw [HX.out]; exact HG.out⟩
  case p1 =>
    rintro a' w0 ⟨i, f, rfl, hi, h0⟩
    obtain ⟨hgo, hp⟩ := h0.out
    have H0 := Lib.hid hp
    have HGO2 := Lib.hid hgo
    have hgo2 := hgo
    rw [← HGOE.out] at hgo2
    obtain ⟨hrf, hno⟩ := hgo2
    have hna : ¬ (n : Int) < (a : Int) := fun e => hrf (by rw [← HREF.out]; exact Or.inl e)
    have haL : a + L ≤ 2048 := by
      have : ¬ (2048 < (a : Int) + (L : Int)) := fun e => hno (Or.inl e)
      omega
    have HX := Lib.hid (HXT.out hrf hno)
    have hsl := HSL.out
    have hsn : a + s0 ≤ n := by omega
    have HNA := Lib.hid hna
    obtain ⟨G, hG⟩ : ∃ G, decide (i < s0) = G := ⟨_, rfl⟩
    have HG := Lib.hid hG
    have HI := Lib.hid hi
    clear hp hgo hrf hno h0 hG hi
    have HD : Hid (∀ k, P2 (w0.drewN k)) := fun k => KO2.out _ _ H0.out ((Out.refl Zone.no w0).drewN k)
    have la3 : IntKind.i64.wrap ((a : Int) + (i : Int)) = (a : Int) + (i : Int) := IntWalk.i64_in _ (by have := HI.out; omega)
    obtain ⟨⟨b0, b1, b2, b3, b4, b5, b6, b7⟩, k5⟩ := KC2.out _ H0.out
    go_upto_region 7 with fail
    go_cut [86] (fun s86 wx => s86 = .bool G ∧ Hid (P2 wx))
    case first =>
      by_cases h1 : i < L
      · have d1 : decide ((i : Int) < (L : Int)) = true := decide_eq_true (by omega)
        have d1n : decide (i < L) = true := decide_eq_true h1
        by_cases h2 : a + i < n
        · have d2 : decide ((a : Int) + (i : Int) < (n : Int)) = true := decide_eq_true (by omega)
          have d2n : decide (a + i < n) = true := decide_eq_true h2
          obtain ⟨g, cc, b, o', e1, e2, q1, q2, q3, q4, q5, q6⟩ := CMP.out i _ H0.out (by have := HNA.out; omega) h1 h2
          subst q3
          have i1 : (0 : Int) ≤ (a : Int) + (i : Int) := by omega
          have i2 : (a : Int) + (i : Int) < (n : Int) := by omega
          have i3 : ((a : Int) + (i : Int)).toNat = a + i := by omega
          have d3 : (e1 == e2) = G := by
            rw [← HG.out]
            by_cases h3 : i < s0
            · rw [q5 h3, decide_eq_true h3]; simp
            · rw [decide_eq_false h3, beq_eq_false_iff_ne]
              exact q6 (by have := HI.out; omega)
          have d3b : decide (e1 = e2) = G := by rw [← d3]; rfl
          clear q5 q6 HG
          go_quiet (fail)
          go_wp2_with fail
          go_meet
          exact ⟨rfl, HD.out _⟩
        · have d2 : decide ((a : Int) + (i : Int) < (n : Int)) = false := decide_eq_false (by omega)
          have d2n : decide (a + i < n) = false := decide_eq_false h2
          have hg : G = false := by rw [← HG.out]; exact decide_eq_false (by omega)
          subst hg
          clear HG h2
          go_quiet (fail)
          go_wp2_with fail
          go_meet
          exact ⟨rfl, HD.out _⟩
      · have d1 : decide ((i : Int) < (L : Int)) = false := decide_eq_false (by omega)
        have d1n : decide (i < L) = false := decide_eq_false h1
        have hg : G = false := by rw [← HG.out]; exact decide_eq_false (by omega)
        subst hg
        clear HG h1
        go_quiet (fail)
        go_wp2_with fail
        go_meet
        exact ⟨rfl, HD.out _⟩
    case rest =>
    obtain ⟨rfl, hq⟩ := hcut
    have HQ := Lib.hid hq.out
    clear hq
    obtain ⟨W5, hW5⟩ : ∃ W5, wc = W5 := ⟨_, rfl⟩
    rw [hW5] at HQ ⊢
    clear hW5 HD H0 b0 b1 b2 b3 b4 b5 b6 b7 k5
    cases G with
    | true =>
      have hlt : i < s0 := of_decide_eq_true HG.out
      go_wp2_with fail
      go_step3
      refine Or.inr ⟨rfl, ?_⟩
      have ec : (i : Int) + 1 = ((i + 1 : Nat) : Int) := by omega
      refine ⟨⟨i + 1, slots_intro ?_ ⟨by omega, HGO2.out, HQ.out⟩⟩, ?_⟩
      · rw [← ec]
        rfl
      · simp [intOf]; omega
    | false =>
      obtain rfl : i = s0 := by have := HI.out; have := of_decide_eq_false HG.out; omega
      obtain ⟨H, hH⟩ : ∃ H, decide (i < L ∧ a + i < n) = H := ⟨_, rfl⟩
      have HH := Lib.hid hH
      clear hH
      obtain ⟨⟨b0, b1, b2, b3, b4, b5, b6, b7⟩, k5⟩ := KC2.out _ HQ.out
      go_upto_region 9 with fail
      go_cut [101] (fun s101 wx => s101 = .bool H ∧ wx = W5)
      case first =>
        by_cases h1 : i < L
        · have d1 : decide ((i : Int) < (L : Int)) = true := decide_eq_true (by omega)
          have d1n : decide (i < L) = true := decide_eq_true h1
          by_cases h2 : a + i < n
          · have d2 : decide ((a : Int) + (i : Int) < (n : Int)) = true := decide_eq_true (by omega)
            have d2n : decide (a + i < n) = true := decide_eq_true h2
            have hg : H = true := by rw [← HH.out]; exact decide_eq_true ⟨h1, h2⟩
            subst hg
            go_wp2_with fail
            all_goals first | (go_meet; exact ⟨rfl, rfl⟩) | (exfalso; omega)
          · have d2 : decide ((a : Int) + (i : Int) < (n : Int)) = false := decide_eq_false (by omega)
            have d2n : decide (a + i < n) = false := decide_eq_false h2
            have hg : H = false := by rw [← HH.out]; exact decide_eq_false (fun h => h2 h.2)
            subst hg
            go_wp2_with fail
            all_goals first | (go_meet; exact ⟨rfl, rfl⟩) | (exfalso; omega)
        · have d1 : decide ((i : Int) < (L : Int)) = false := decide_eq_false (by omega)
          have d1n : decide (i < L) = false := decide_eq_false h1
          have hg : H = false := by rw [← HH.out]; exact decide_eq_false (fun h => h1 h.1)
          subst hg
          go_wp2_with fail
          all_goals first | (go_meet; exact ⟨rfl, rfl⟩) | (exfalso; omega)
      case rest =>
      obtain ⟨rfl, hq⟩ := hcut
      replace hq := hq.symm
      subst hq
      go_upto_if 101 with fail
      go_cut [] (fun wx => Hid (P3 wx))
      case first =>
        cases H with
        | true =>
          have CUT2 := Lib.hid (CUT.out (of_decide_eq_true HH.out) _ HQ.out)
          go_wp2_with (first
            | (go_at_call 29; refine CUT2.out.mono ?_; rintro e w6 ⟨rfl, h6⟩; have H6 := Lib.hid h6; clear h6))
          go_meet
          exact H6.out
        | false =>
          have H6 := Lib.hid (NOCUT.out (of_decide_eq_false HH.out) _ HQ.out)
          go_wp2_with fail
          go_meet
          exact H6.out
      case rest =>
      have HQ3 := Lib.hid hcut.out
      clear hcut b0 b1 b2 b3 b4 b5 b6 b7 k5 HQ la3
      obtain ⟨W6, hW6⟩ : ∃ W6, wc = W6 := ⟨_, rfl⟩
      rw [hW6] at HQ3 ⊢
      clear hW6
      obtain ⟨b0, b1, b2, b3, b4, b5, b6, b7⟩ := KC3.out _ HQ3.out
      have sl1 := SLI.out W6
      have i1 : (0 : Int) ≤ (i : Int) := by omega
      have i2 : (i : Int) ≤ (L : Int) := by omega
      have hRb : R ≤ 2048 := by have := HRS.out; omega
      go_wp2_with fail
      clear sl1 b0 b1 b2 b3 b4 b5 b6 b7
      go_loopw [114, 8] (fun v114 v8 wr => ∃ j : Nat, j ≤ R ∧ v114 = .int .i64 (j : Int) ∧ Hid (PJ j wr)) (fun v114 _ _ => R - (intOf v114).toNat)
      case atStart => exact ⟨0, by omega, rfl, PJ0.out _ HQ3.out⟩
      case round =>
        obtain ⟨j, hj, rfl, hinv⟩ := hrel
        by_cases hlt : j < R
        · obtain ⟨ye, yd, b, o', q1, q2, q3⟩ := PUTJ.out j hlt
          subst q1
          have hinv2 := Lib.hid (KOJ.out _ _ _ hinv.out ((Out.refl Zone.no wr).alloc (.cells #[.int .i64 ye, .string yd] 38)))
          obtain ⟨c0, c1'⟩ := q2 _ hinv.out
          have nw0 := cell_new wr #[.int .i64 ye, .string yd] 38 0
          have nw1 := cell_new wr #[.int .i64 ye, .string yd] 38 1
          have PUT := Lib.hid (q3 _ hinv2.out)
          clear q2 q3
          go_wp2_with (go_at_call 29; refine PUT.out.mono ?_; rintro e w7 ⟨rfl, h7⟩; have H7 := Lib.hid h7; clear h7)
          go_roundw
          case rel => exact ⟨j + 1, by omega, by go_num, H7.out⟩
          case measure => simp [intOf]; omega
        · obtain rfl : j = R := by omega
          have HID := Lib.hid (KOJ.out _ _ _ hinv.out ((Out.refl Zone.no wr).drew))
          obtain ⟨⟨b0, b1, b2, b3, b4, b5, b6, b7⟩, k6, f6⟩ := KCJ.out _ _ HID.out
          have HCM := Lib.hid (CMT.out _ HID.out)
          go_wp2_with fail
          obtain ⟨U, hU⟩ : ∃ U, max (K : Int) (min mc ((a : Int) + (L : Int))) = U := ⟨_, rfl⟩
          rw [hU] at HCM
          go_cut [] (fun wx => wx = wr.drew.setCell ⟨x, 6, none⟩ (.int .i64 U))
          case first =>
            clear HCM HID CMT KCJ KOJ PUTJ SENDA HX HSL HG HH HI HGO2 HNA
            go_region
            go_wp2_with fail
            go_meet
            exact rfl
          case rest =>
          obtain ⟨w8, hw8⟩ : ∃ w8, wr.drew.setCell ⟨x, 6, none⟩ (.int .i64 U) = w8 := ⟨_, rfl⟩
          have hcut1 := (hcut.trans hw8).symm
          rw [hw8] at HCM
          clear hcut hw8 b0 b1 b2 b3 b4 b5 b6 b7 k6 f6
          subst hcut1
          obtain ⟨b0, b1, b2, b3, b4, b5, b6, b7⟩ := KCF.out _ HCM.out
          go_wp2_with (first
            | (go_at_call 30; refine (SENDA.out _ HCM.out).mono ?_; rintro e w9 ⟨rfl, hg⟩; have HG9 := Lib.hid hg; clear hg))
          simp only [ExitTwo]
          refine bodyPost_ret (v := .tuple #[]) (by simp [results, Try.results34, go_sem]) rfl ?_
          exact ⟨rfl, by rw [HX.out]; exact HG9.out⟩
  case first =>
    intro hrest
    obtain ⟨⟨b0, b1, b2, b3, b4, b5, b6, b7⟩, k5, f5, A2, c2, k2⟩ := KC1.out _ HSP.out
    go_wp2_with fail
    go_quiet (fail)
    have HQ1 := Lib.hid (KO1.out _ _ HSP.out ((Out.refl Zone.no W1).drewN nq))
    obtain ⟨W2, hW2⟩ : ∃ W2, W1.drewN nq = W2 := ⟨_, rfl⟩
    rw [hW2] at HQ1 ⊢
    clear hW2 b0 b1 b2 b3 b4 b5 b6 b7 k5 f5 k2
    obtain ⟨⟨b0, b1, b2, b3, b4, b5, b6, b7⟩, k5, f5, A3, c3, k2⟩ := KC1.out _ HQ1.out
    have r1 : ro = 1 ∨ ¬ ro = 1 := Decidable.em _
    have HR1 := Lib.hid r1
    clear r1
    go_upto_if 25 with fail
    go_cut [] (fun wx => Hid (P2 wx))
    case first =>
      rcases HR1.out with e | e
      · have HRO := Lib.hid (ROLE.out e _ HQ1.out)
        subst e
        go_wp2_with fail
        go_meet
        exact HRO.out
      · have HSA := Lib.hid (SAME.out e _ HQ1.out)
        have e1 : (ro == 1) = false := by rw [beq_eq_false_iff_ne]; exact e
        have e2 : decide (ro = 1) = false := decide_eq_false e
        clear e
        go_wp2_with fail
        go_meet
        exact HSA.out
    case rest =>
    clear b0 b1 b2 b3 b4 b5 b6 b7 k5 f5 k2 HR1
    have HQ2 := Lib.hid hcut.out
    clear hcut
    obtain ⟨W3, hW3⟩ : ∃ W3, wc = W3 := ⟨_, rfl⟩
    rw [hW3] at HQ2 ⊢
    clear hW3
    obtain ⟨⟨b0, b1, b2, b3, b4, b5, b6, b7⟩, k5⟩ := KC2.out _ HQ2.out
    have HD : Hid (∀ k, P2 (W3.drewN k)) := fun k => KO2.out _ _ HQ2.out ((Out.refl Zone.no W3).drewN k)
    by_cases e1 : (n : Int) < (a : Int)
    · have d1 : decide ((n : Int) < (a : Int)) = true := decide_eq_true e1
      have d1n : decide (n < a) = true := decide_eq_true (by omega)
      have HRF : Hid REF := by rw [← HREF.out]; exact Or.inl e1
      clear e1
      go_wp2_with fail
      go_quiet (fail)
      go_wp2_with fail
      go_step3
      refine Or.inl ⟨rfl, ?_⟩
      dsimp only
      exact slots_intro rfl ⟨HRF.out, HD.out _⟩
    · have d1 : decide ((n : Int) < (a : Int)) = false := decide_eq_false e1
      have d1n : decide (n < a) = false := decide_eq_false (by omega)
      have LAQ : Hid (∀ k, Calls Try.prog 52 #[.pointer (some ⟨x, 0, none⟩), .int .i64 (a : Int)] (W3.drewN k) fun e w'' => e = .returned (.int .i64 la) ∧ ∃ m, w'' = W3.drewN m) := fun k => (LAST.out (by omega) _ (HD.out k)).mono (fun e w' ⟨h1, h2⟩ => ⟨h1, k, h2.symm⟩)
      have HE1 := Lib.hid e1
      clear e1
      by_cases e2 : la = ml
      · have d2 : (la != ml) = false := by rw [bne_eq_false_iff_eq]; exact e2
        have d2b : (la == ml) = true := by rw [beq_iff_eq]; exact e2
        have HRF : Hid (¬ REF) := by rw [← HREF.out]; exact fun h => h.elim HE1.out (fun h => h e2)
        clear e2
        go_wp2_with fail
        go_quiet (first | (go_at_call 52; exact LAQ.out _))
        have HQ4 := Lib.hid (HD.out nq)
        obtain ⟨W4, hW4⟩ : ∃ W4, W3.drewN nq = W4 := ⟨_, rfl⟩
        rw [hW4] at HQ4 ⊢
        clear hW4 b0 b1 b2 b3 b4 b5 b6 b7 k5 HD LAQ d2 d2b d1 d1n
        obtain ⟨⟨b0, b1, b2, b3, b4, b5, b6, b7⟩, k5⟩ := KC2.out _ HQ4.out
        by_cases e3 : 2048 < a + L
        · have d3 : decide ((2048 : Int) < (a : Int) + (L : Int)) = true := decide_eq_true (by omega)
          have d3n : decide (2048 < a + L) = true := decide_eq_true e3
          have HX := Lib.hid (HXE.out HRF.out (Or.inl (by omega)))
          clear e3
          go_wp2_with fail
          simp only [ExitTwo]
          refine bodyPost_ret (v := .tuple #[]) (by simp [results, Try.results34, go_sem]) rfl ?_
          exact ⟨rfl, by rw [HX.out]; exact OUT2.out _ HQ4.out⟩
        · have d3 : decide ((2048 : Int) < (a : Int) + (L : Int)) = false := decide_eq_false (by omega)
          have d3n : decide (2048 < a + L) = false := decide_eq_false e3
          by_cases e4 : r2 = 2
          · have HX := Lib.hid (HXE.out HRF.out (Or.inr e4))
            subst e4
            clear e3
            go_wp2_with fail
            simp only [ExitTwo]
            refine bodyPost_ret (v := .tuple #[]) (by simp [results, Try.results34, go_sem]) rfl ?_
            exact ⟨rfl, by rw [HX.out]; exact OUT2.out _ HQ4.out⟩
          · have d4 : (r2 == 2) = false := by rw [beq_eq_false_iff_ne]; exact e4
            have HGO : Hid (GO) := by rw [← HGOE.out]; exact ⟨HRF.out, fun h => h.elim (fun h => e3 (by omega)) e4⟩
            clear e3 e4
            go_wp2_with fail
            go_step3
            rename_i K hK
            refine hK _ _ (hrest _ _ ?_)
            exact ⟨0, slots_intro rfl ⟨Nat.zero_le _, HGO.out, HQ4.out⟩⟩
      · have d2 : (la != ml) = true := by rw [bne_iff_ne]; exact e2
        have d2b : (la == ml) = false := by rw [beq_eq_false_iff_ne]; exact e2
        have HRF : Hid REF := by rw [← HREF.out]; exact Or.inr e2
        clear e2
        go_wp2_with fail
        go_quiet (first | (go_at_call 52; exact LAQ.out _))
        go_wp2_with fail
        go_step3
        refine Or.inl ⟨rfl, ?_⟩
        dsimp only
        exact slots_intro rfl ⟨HRF.out, HD.out _⟩
end
end Go.Proofs.Ytlgoenimjmiapaa
