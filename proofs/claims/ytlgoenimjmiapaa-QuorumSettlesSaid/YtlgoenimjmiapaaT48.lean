import Derived.Test.YtlgoenimjmiapaaT43
import Derived.Test.YtlgoenimjmiapaaT47
set_option linter.unusedSimpArgs false
set_option linter.unusedVariables false
set_option linter.unusedSectionVars false
/-! Rush, walked. -/
namespace Go.Proofs.Ytlgoenimjmiapaa
open Go.RowKit Go.Maps

theorem TownX.netC {w0 : Base} {tb : Nat} {t : Town} {xs : Nat → Nat} {w : World} (h : TownX w0 tb t xs w) : ∃ A c, w.cell? ⟨tb, 3, none⟩ = some (.slice A t.net.length c) := by
  obtain ⟨L, U, h1, h2, h3⟩ := h
  have hc := h1.c 3
  obtain ⟨A, c, e⟩ := GRow.form h1.net
  have hl : U.ss.length = t.net.length := by rw [← h1.fst]; simp
  rw [hl] at e
  exact ⟨A, c, by rw [hc, ← e]; rfl⟩

/-- A town on its way to settle, in the memory. -/
def LiveW (W : World) (tb : Nat) (t : Town) (b C T D : Nat) (E0 : Int) (w : World) : Prop := (∃ xs, TownX ⟨W, []⟩ tb t xs w) ∧ Live t b C T D E0
section
variable {W w w' : World} {tb b C T D : Nat} {t : Town} {E0 : Int}
theorem LiveW.out (h : LiveW W tb t b C T D E0 w) : Out Zone.no W w := by
  obtain ⟨⟨xs, h1⟩, _⟩ := h
  exact TownX.out h1
theorem LiveW.any (h : LiveW W tb t b C T D E0 w) (ho : Out Zone.no w w') : LiveW W tb t b C T D E0 w' := by
  obtain ⟨⟨xs, h1⟩, h2⟩ := h
  exact ⟨⟨xs, h1.any ho⟩, h2⟩
theorem LiveW.do_ (h : LiveW W tb t b C T D E0 w) (hT : T < 400) (hD : D < 400000) (a : Deed) (ha : a.Ok) {C' T' : Nat} (hl : Live (t.act a) b C' T' (D + 1) E0) :
    Calls Try.prog 20 #[.pointer (some ⟨tb, 0, none⟩), .agg #[.int .i64 a.kind, .int .i64 a.i, .int .i64 a.k, .int .i64 a.cut, .bool a.falls]] w fun e w' => e = .returned (.bool true) ∧ Hid (LiveW W tb (t.act a) b C' T' (D + 1) E0 w') := by
  obtain ⟨⟨xs, h1⟩, h2⟩ := h
  have has := h2.asked
  refine (do_is h1 h2.t0.n0 h2.t0.n7 h2.t0.odd h2.t0.ti h2.tb hT hD (by omega) a ha).mono ?_
  rintro e w' ⟨rfl, xs', h5⟩
  exact ⟨rfl, ⟨xs', h5⟩, hl⟩
/-- So far has a rush come. -/
def Rushes (W : World) (tb : Nat) (t : Town) (b C T D : Nat) (E0 : Int) (k : Nat) (w : World) : Prop := ∃ tk : Town, tk.rush (400 - k) = t.rush 400 ∧ LiveW W tb tk b C T (D + k) E0 w
theorem Rushes.start (h : LiveW W tb t b C T D E0 w) : Rushes W tb t b C T D E0 0 w := ⟨t, rfl, h⟩
theorem Rushes.net {k : Nat} (hk4 : k ≤ 400) (h : Rushes W tb t b C T D E0 k w) : ∃ n A c, Hid (w.cell? ⟨tb, 3, none⟩ = some (.slice A n c)) ∧ Out Zone.no W w ∧
    (k = 400 ∨ n = 0 → LiveW W tb (t.rush 400) b C T (D + 400) E0 w) ∧
    (k < 400 → 0 < n → T < 400 → D + 400 < 400000 → Calls Try.prog 20 #[.pointer (some ⟨tb, 0, none⟩), .agg #[.int .i64 3, .int .i64 0, .int .i64 0, .int .i64 0, .bool false]] w fun e w' => e = .returned (.bool true) ∧ Hid (Rushes W tb t b C T D E0 (k + 1) w')) := by
  obtain ⟨tk, h1, h2⟩ := h
  obtain ⟨⟨xs, h3⟩, h4⟩ := h2
  obtain ⟨A, c, e⟩ := h3.netC
  refine ⟨tk.net.length, A, c, e, TownX.out h3, fun hk => ?_, fun hk hn hT hD => ?_⟩
  · have e2 : tk = t.rush 400 := by
      rcases hk with hk | hk
      · rw [hk] at h1; exact h1
      · have hn : tk.net = [] := List.eq_nil_of_length_eq_zero hk
        rw [← h1]
        cases 400 - k with
        | zero => rfl
        | succ j => unfold Town.rush; rw [if_pos hn]
    rw [← e2]
    exact ⟨⟨xs, h3⟩, h4.up (by omega)⟩
  · have hne : tk.net ≠ [] := fun e => by rw [e] at hn; exact absurd hn (Nat.lt_irrefl _)
    refine (LiveW.do_ (W := W) ⟨⟨xs, h3⟩, h4⟩ hT (by omega) d3 ⟨by decide, by decide⟩ (h4.deliver hne)).mono ?_
    rintro e w' ⟨rfl, h5⟩
    refine ⟨rfl, tk.act d3, ?_, h5⟩
    rw [← h1, show 400 - k = (400 - (k + 1)) + 1 by omega]
    show _ = Town.rush ((400 - (k + 1)) + 1) tk
    rw [Town.rush, if_neg hne]
end

set_option maxRecDepth 100000 in
set_option maxHeartbeats 2000000 in
theorem rush_is {W w : World} {tb b C T D : Nat} {t : Town} {E0 : Int} (h : LiveW W tb t b C T D E0 w) (hT : T < 400) (hD : D + 400 < 400000) :
    Calls Try.prog 22 #[.pointer (some ⟨tb, 0, none⟩)] w fun e w' => e = .returned (.bool true) ∧ Hid (LiveW W tb (t.rush 400) b C T (D + 400) E0 w') := by
  have NET : Hid (∀ k w, k ≤ 400 → Rushes W tb t b C T D E0 k w → ∃ n A c, Hid (w.cell? ⟨tb, 3, none⟩ = some (.slice A n c)) ∧ Out Zone.no W w ∧ (k = 400 ∨ n = 0 → LiveW W tb (t.rush 400) b C T (D + 400) E0 w) ∧
    (k < 400 → 0 < n → Calls Try.prog 20 #[.pointer (some ⟨tb, 0, none⟩), .agg #[.int .i64 3, .int .i64 0, .int .i64 0, .int .i64 0, .bool false]] w fun e w' => e = .returned (.bool true) ∧ Hid (Rushes W tb t b C T D E0 (k + 1) w'))) := fun k w hk h => by
    obtain ⟨n, A, c, h1, h2, h3, h4⟩ := h.net hk
    exact ⟨n, A, c, h1, h2, h3, fun k1 k2 => h4 k1 k2 hT hD⟩
  have H0 := Lib.hid (Rushes.start h)
  clear h
  go_enter Try.func22, Try.ntmps22
  go_wp2_with fail
  go_loopw [3, 2] (fun vi v4 wr => ∃ k : Nat, k ≤ 400 ∧ vi = .int .i64 (k : Int) ∧ v4 = .bool false ∧ Hid (Rushes W tb t b C T D E0 k wr)) (fun vi _ _ => 400 - (intOf vi).toNat)
  case atStart => exact ⟨0, by omega, rfl, rfl, H0⟩
  case round =>
    obtain ⟨k, hk, rfl, rfl, hinv⟩ := hrel
    obtain ⟨n, A, c, CE, HO, FIN, NXT⟩ := NET.out k wr hk hinv.out
    have FIN := Lib.hid FIN
    have NXT := Lib.hid NXT
    have CE := CE.out
    clear NET H0
    by_cases h250 : k < 400
    · have j2 : (k : Int) < 400 := by omega
      by_cases hn : 0 < n
      · have j3 : (0 : Int) < (n : Int) := by omega
        go_wp2_with (go_at_call 20; refine (NXT.out h250 hn).mono ?_; rintro e w5 ⟨rfl, h5⟩)
        go_roundw
        case rel => exact ⟨k + 1, by omega, by go_num, rfl, h5⟩
        case measure => simp [intOf]; omega
      · have j3 : ¬ (0 : Int) < (n : Int) := by omega
        have HF := Lib.hid (FIN.out (Or.inr (by omega)))
        go_wp2_with fail
        go_ret
        exact ⟨rfl, HF⟩
    · have j2 : ¬ (k : Int) < 400 := by omega
      have HF := Lib.hid (FIN.out (Or.inl (by omega)))
      go_wp2_with fail
      go_ret
      exact ⟨rfl, HF⟩
end Go.Proofs.Ytlgoenimjmiapaa

/-! Settles: the net is cleared; all fall; what is read of each. -/
namespace Go.Proofs.Ytlgoenimjmiapaa
open Go.RowKit Go.Maps

section
variable {w w' : World} {w0 : Base} {tb : Nat} {t : Town} {xs : Nat → Nat}
theorem TownX.cleared (h : TownX w0 tb t xs w) : w.frozen? ⟨tb, 3, none⟩ = false ∧ (∃ u, w.cell? ⟨tb, 3, none⟩ = some u) ∧ TownX w0 tb { t with net := [] } xs (w.setCell ⟨tb, 3, none⟩ (.slice none 0 0)) := by
  obtain ⟨L, U, h1, h2, h3⟩ := h
  have op := Op.set (w := w) (p := ⟨tb, 3, none⟩) (.slice none 0 0) h1.lab.tb h1.lt
  have b := h1.op op (by omega)
  have hb := heap_set h1.blk 3 (.slice none 0 0)
  refine ⟨h1.f 3, ⟨_, h1.c 3⟩, L, { U with netv := .slice none 0 0, ss := [] }, ⟨?_, b.x (by omega), b.nn (by omega), fun i hi => b.node i hi (by omega), fun i hi => b.notes i hi (by omega), grow_nil _ _ _ _, rfl, fun p hp => (by cases hp), b.done (by omega), b.lead (by omega), ⟨h1.lab.tb, h1.lab.x, h1.lab.nn, fun k hk => (by cases hk), h1.lab.done, h1.lab.lead, h1.lab.node, h1.lab.notes⟩, op.lt⟩, h2.op op (by omega), h3⟩
  rw [hb]
  simp

/-- A state that was read, in a box. -/
def StBox (W : World) (B : Nat) (v : Value) (s : St) : Prop := W.heap[B]? = some (.cells #[.int .i64 s.ep, .int .i64 s.voted, v] 28 (0, 0)) ∧ GR W 38 2 v s.log.length (encL s.log)
theorem StBox.any {B : Nat} {v : Value} {s : St} (h : StBox w B v s) (ho : Out Zone.no w w') : StBox w' B v s := ⟨ho.get h.1 id, GRow.any h.2 ho⟩
theorem StBox.cells {B : Nat} {v : Value} {s : St} (h : StBox w B v s) : w.cell? ⟨B, 0, none⟩ = some (.int .i64 s.ep) ∧ w.cell? ⟨B, 2, none⟩ = some v ∧ (∀ M, s.log.length = M + 1 → ∃ g c, v = .slice (some ⟨g, 0, none⟩) (M + 1) c ∧ w.cell? ⟨g, M * 2, none⟩ = some (.int .i64 (lastAt s.log (M + 1)))) := by
  refine ⟨by rw [cells_all h.1]; rfl, by rw [cells_all h.1]; rfl, fun M hM => ?_⟩
  obtain ⟨y, hy⟩ : ∃ y, s.log[M]? = some y := ⟨_, List.getElem?_eq_getElem (by omega)⟩
  obtain ⟨g, c, e1, e2, e3⟩ := gr_entry h.2 hy
  exact ⟨g, c, by rw [e1, hM], by rw [lastAt_succ hy]; exact e2⟩
theorem TownX.reads (h : TownX w0 tb t xs w) {i : Nat} (hi : i < t.n) (hf : (t.X i).Fit) : Calls Try.prog 10 #[.pointer (some ⟨xs i, 0, none⟩)] w fun e w' => ∃ A c, e = .returned (.agg #[.int .i64 (t.X i).st.ep, .int .i64 (t.X i).st.voted, .slice A (t.X i).st.log.length c]) ∧
    Out Zone.no w w' ∧ GR w' 38 2 (.slice A (t.X i).st.log.length c) (t.X i).st.log.length (encL (t.X i).st.log) ∧ StBox (w'.alloc (.cells #[.int .i64 (t.X i).st.ep, .int .i64 (t.X i).st.voted, .slice A (t.X i).st.log.length c] 28)) w'.heap.size (.slice A (t.X i).st.log.length c) (t.X i).st := by
  refine (state_t h hi hf).mono ?_
  rintro e w' ⟨A, c, rfl, k1, k2, k3⟩
  have oa : Out Zone.no w' (w'.alloc (.cells #[.int .i64 (t.X i).st.ep, .int .i64 (t.X i).st.voted, .slice A (t.X i).st.log.length c] 28)) := (Out.refl _ _).alloc _
  exact ⟨A, c, rfl, k3, k1, heap_alloc_new w' _, GRow.any k1 oa⟩
end

/-- What the walk wants of all that fall. -/
structure FallC (tb N : Nat) (P : Nat → World → Prop) (s : Nat → St) : Prop where
  nc : ∀ i w, P i w → w.cell? ⟨tb, 0, none⟩ = some (.int .i64 (N : Int))
  any : ∀ i w w', P i w → Out Zone.no w w' → P i w'
  fall : ∀ i w, P i w → i < N → Calls Try.prog 21 #[.pointer (some ⟨tb, 0, none⟩), .int .i64 (i : Int)] w fun e w' => e = .returned (.bool true) ∧ Hid (P (i + 1) w')
  row : ∀ i w j, P i w → j < N → ∃ g c x, w.cell? ⟨tb, 1, none⟩ = some (.slice (some ⟨g, 0, none⟩) N c) ∧ w.cell? ⟨g, j, none⟩ = some (.pointer (some ⟨x, 0, none⟩)) ∧
    Hid (Calls Try.prog 10 #[.pointer (some ⟨x, 0, none⟩)] w fun e w' => ∃ A c, e = .returned (.agg #[.int .i64 (s j).ep, .int .i64 (s j).voted, .slice A (s j).log.length c]) ∧
      Hid (Out Zone.no w w' ∧ StBox (w'.alloc (.cells #[.int .i64 (s j).ep, .int .i64 (s j).voted, .slice A (s j).log.length c] 28)) w'.heap.size (.slice A (s j).log.length c) (s j)))
  len : ∀ j, j < N → (s j).log.length ≤ 2048
theorem falls_c {W : World} {tb T D : Nat} {t : Town} (h0 : 0 < t.n) (hN : t.n % 2 = 1) (h7 : t.n ≤ 7) (ht : TI t T) (hb : TB t T D) (hT : T ≤ 400) (hD : D ≤ 400000) :
    FallC tb t.n (fun i w => i ≤ t.n ∧ ∃ xs, TownX ⟨W, []⟩ tb (Town.falls { t with net := [] } i) xs w) (fun j => (t.X j).st) := by
  have hs : ∀ i, (Town.falls { t with net := [] } i).n = t.n := fun i => (falls_same _ i).1
  have hti : ∀ i, i ≤ t.n → TI (Town.falls { t with net := [] } i) T ∧ ∀ j, j < t.n → ((Town.falls { t with net := [] } i).X j).st = (t.X j).st := fun i hi => by
    obtain ⟨c1, c2, c3⟩ := ht.clear.falls i hi
    refine ⟨c1, fun j hj => ?_⟩
    by_cases hji : j < i
    · rw [c3 j hji]; rfl
    · rw [c2 j (by omega)]
  refine ⟨fun i w h => ?_, fun i w w' h ho => ?_, fun i w h hi => ?_, fun i w j h hj => ?_, fun j hj => ?_⟩
  · obtain ⟨hi, xs, h⟩ := h
    have := h.ncell
    rw [hs] at this
    exact this
  · obtain ⟨hi, xs, h⟩ := h
    exact ⟨hi, xs, h.any ho⟩
  · obtain ⟨hi', xs, h⟩ := h
    refine (crash_ok h (i := i) (by rw [hs]; exact hi) (by rw [hs]; exact h7) (by rw [hs]; exact hN) (hti i hi').1 (hb.clear.falls i) hT hD).mono ?_
    rintro e w' ⟨rfl, xs', h'⟩
    exact ⟨rfl, by omega, xs', h'⟩
  · obtain ⟨hi', xs, h⟩ := h
    obtain ⟨g, c, _, e1, e2⟩ := h.xcells (i := j) (by rw [hs]; exact hj)
    rw [hs] at e1
    refine ⟨g, c, xs j, e1, e2, ?_⟩
    have hf := ((hti i hi').1.fine (by rw [hs]; exact h7) (by omega)).fit j (by rw [hs]; exact hj)
    have := h.reads (i := j) (by rw [hs]; exact hj) hf.1
    rw [(hti i hi').2 j hj] at this
    show Calls _ _ _ _ _
    refine this.mono ?_
    rintro e w' ⟨A, c, rfl, k1, k2, k3⟩
    exact ⟨A, c, rfl, k1, k3⟩
  · have := ((ht.fine h7 (by omega)).fit j hj).1.log
    exact this
end Go.Proofs.Ytlgoenimjmiapaa

/-! Settles: what its walk wants of its loops. -/
namespace Go.Proofs.Ytlgoenimjmiapaa
open Go.RowKit Go.Maps

/-- Where loop two ends. -/
def FellW (W : World) (tb N T D B : Nat) (E : Int) (w : World) : Prop := ∃ t : Town, t.n = N ∧ LiveW W tb t B T (T + 1) D E w ∧ Set0 t.n B E t.X t.net ∧ (t.X B).st.ep ≤ E ∧ 0 ≤ E ∧ E ≤ (T : Int)
/-- What the walk wants of loop two. -/
theorem TownK.fell {W w : World} {tb N k : Nat} (h : TownK W tb N k w) (h0 : 0 < N) (h7 : N ≤ 7) (hodd : N % 2 = 1) (hk : k ≤ 100) : ∃ (P : Nat → World → Prop) (s : Nat → St), FallC tb N P s ∧ w.frozen? ⟨tb, 3, none⟩ = false ∧ (∃ u, w.cell? ⟨tb, 3, none⟩ = some u) ∧
    P 0 (w.setCell ⟨tb, 3, none⟩ (.slice none 0 0)) ∧ (∀ i w, P i w → Out Zone.no W w) ∧ ∀ w, P N w → FellW W tb N k k (bestOf (fun j => (s j).log) N) (epOf (fun j => (s j).ep) N) w := by
  obtain ⟨t, xs, h1, rfl, h2, h3, h4⟩ := h
  obtain ⟨c1, c2, c3⟩ := h1.cleared
  refine ⟨_, _, falls_c (W := W) h0 hodd h7 h2 h3 (by omega) (by omega), c1, c2, ⟨by omega, xs, c3⟩, fun i w hP => ?_, fun w hP => ?_⟩
  · obtain ⟨_, xs, hP⟩ := hP
    exact TownX.out hP
  · obtain ⟨_, xs', hP⟩ := hP
    obtain ⟨s1, s2, s3⟩ := h2.start h3 h4 h0 hodd h7 (by omega)
    have hn : (Town.falls { t with net := [] } t.n).n = t.n := (falls_same _ _).1
    have hnet : (Town.falls { t with net := [] } t.n).net = [] := (falls_same _ _).2.2.1
    have hF := h2.facts h7 (by omega)
    obtain ⟨e1, e2⟩ := epOf_le (fun j => (t.X j).st.ep) (T := (k : Int)) (by omega) t.n (fun j hj => hF.ep j hj)
    exact ⟨_, hn, ⟨⟨xs', hP⟩, s1⟩, by rw [hn, hnet]; exact s2, s3, e1, e2⟩

section
variable {W w w' : World} {tb N T B : Nat} {E : Int}
/-- Elections: behind k of them. -/
def ElectW (W : World) (tb N T B : Nat) (E : Int) (k : Nat) (w : World) : Prop := ∃ (t : Town) (C T' D : Nat), t.n = N ∧ LiveW W tb t B C T' D E w ∧ T' = T + 1 + k ∧ D ≤ 100 + 401 * k ∧ k ≤ 101 ∧ E ≤ (T : Int) ∧ T ≤ 100 ∧
  ((Set0 t.n B E t.X t.net ∧ (t.X B).st.ep ≤ E ∧ (k : Int) ≤ (t.X B).st.ep) ∨ Set2 t.n B (E + 1) t.X t.net)
/-- Ticks: behind k of them. -/
def TickW (W : World) (tb N B : Nat) (E : Int) (k : Nat) (w : World) : Prop := ∃ (t : Town) (C T' D : Nat), t.n = N ∧ LiveW W tb t B C T' D E w ∧ T' ≤ 202 ∧ D ≤ 40601 + 401 * k ∧ k ≤ 60 ∧ Set2 t.n B (E + 1) t.X t.net ∧ Lev B (E + 1) (Town.rounds B (60 - k) t) 3
/-- All is settled. -/
def FinW (W : World) (tb N L : Nat) (l : List Ent) (w : World) : Prop := ∃ (t : Town) (xs : Nat → Nat), TownX ⟨W, []⟩ tb t xs w ∧ t.n = N ∧ (∀ i, i < N → (t.X i).Fit ∧ (t.X i).commit = L ∧ (t.X i).st.log = l) ∧ l.length = L
theorem ElectW.start (h : FellW W tb N T T B E w) (hT : T ≤ 100) : ElectW W tb N T B E 0 w := by
  obtain ⟨t, hn, hl, hs, he, h0, h1⟩ := h
  have hF := hl.2.t0.facts
  have := (hF.fit B hl.2.t0.hb).ep
  exact ⟨t, T, T + 1, T, hn, hl, rfl, by omega, by omega, h1, hT, Or.inl ⟨hs, he, by omega⟩⟩
theorem LiveW.row {t : Town} {C T' D : Nat} (h : LiveW W tb t B C T' D E w) {j : Nat} (hj : j < t.n) : ∃ g c x ep vo L, w.cell? ⟨tb, 1, none⟩ = some (.slice (some ⟨g, 0, none⟩) t.n c) ∧ w.cell? ⟨g, j, none⟩ = some (.pointer (some ⟨x, 0, none⟩)) ∧ ep = (t.X j).st.ep ∧
    Hid (Calls Try.prog 10 #[.pointer (some ⟨x, 0, none⟩)] w fun e w' => ∃ A c, e = .returned (.agg #[.int .i64 ep, .int .i64 vo, .slice A L c]) ∧ Hid (Out Zone.no w w')) ∧ Hid (Calls Try.prog 16 #[.pointer (some ⟨x, 0, none⟩)] w fun e w' => e = .returned (.int .i64 (t.X j).role) ∧ w = w') := by
  obtain ⟨⟨xs, h1⟩, h2⟩ := h
  obtain ⟨g, c, _, e1, e2⟩ := h1.xcells hj
  have hf := h2.t0.facts.fit j hj
  refine ⟨g, c, xs j, _, (t.X j).st.voted, (t.X j).st.log.length, e1, e2, rfl, ?_, role_t h1 hj hf⟩
  show Calls _ _ _ _ _
  refine (h1.reads hj hf).mono ?_
  rintro e w' ⟨A, c, rfl, k1, _⟩
  exact ⟨A, c, rfl, k1⟩
theorem ElectW.any {k : Nat} (h : ElectW W tb N T B E k w) (ho : Out Zone.no w w') : ElectW W tb N T B E k w' := by
  obtain ⟨t, C, T', D, hn, hl, h⟩ := h
  exact ⟨t, C, T', D, hn, hl.any ho, h⟩
theorem TickW.any {k : Nat} (h : TickW W tb N B E k w) (ho : Out Zone.no w w') : TickW W tb N B E k w' := by
  obtain ⟨t, C, T', D, hn, hl, h⟩ := h
  exact ⟨t, C, T', D, hn, hl.any ho, h⟩
/-- Is there one more to come? -/
theorem ElectW.row {k : Nat} (h : ElectW W tb N T B E k w) : k ≤ 101 ∧ ∃ g c x ep vo L, B < N ∧ w.cell? ⟨tb, 1, none⟩ = some (.slice (some ⟨g, 0, none⟩) N c) ∧ w.cell? ⟨g, B, none⟩ = some (.pointer (some ⟨x, 0, none⟩)) ∧
    Hid (Calls Try.prog 10 #[.pointer (some ⟨x, 0, none⟩)] w fun e w' => ∃ A c, e = .returned (.agg #[.int .i64 ep, .int .i64 vo, .slice A L c]) ∧ Hid (Out Zone.no w w')) ∧
    (ep ≤ E → k < 101 ∧ ∀ w', Out Zone.no w w' → Calls Try.prog 20 #[.pointer (some ⟨tb, 0, none⟩), .agg #[.int .i64 0, .int .i64 (B : Int), .int .i64 0, .int .i64 0, .bool false]] w' fun e w'' => e = .returned (.bool true) ∧
      Hid (Calls Try.prog 22 #[.pointer (some ⟨tb, 0, none⟩)] w'' fun e w' => e = .returned (.bool true) ∧ Hid (ElectW W tb N T B E (k + 1) w'))) ∧
    (¬ ep ≤ E → ∀ w', Out Zone.no w w' → TickW W tb N B E 0 w') := by
  obtain ⟨t, C, T', D, rfl, hl, rfl, hD, hk, hE, hT, hs⟩ := h
  obtain ⟨g, c, x, ep, vo, L, e1, e2, e3, e4, _⟩ := hl.row (j := B) hl.2.t0.hb
  refine ⟨hk, g, c, x, ep, vo, L, hl.2.t0.hb, e1, e2, e4, fun he => ?_, fun he w' ho => ?_⟩
  · rcases hs with ⟨s1, s2, s3⟩ | hs
    · refine ⟨by omega, fun w' ho => ?_⟩
      refine ((hl.any ho).do_ (by omega) (by omega) (dP B) ⟨by show (-9223372036854775808 : Int) ≤ 0; omega, by show (0 : Int) ≤ 9223372036854775807; omega⟩ (hl.2.promote (by omega) s1 s2)).mono ?_
      rintro e w'' ⟨rfl, h1⟩
      refine ⟨rfl, ?_⟩
      show Calls _ _ _ _ _
      refine (rush_is h1.out (by omega) (by omega)).mono ?_
      rintro e w3 ⟨rfl, h2⟩
      obtain ⟨k1, k2, k3, k4⟩ := hl.2.elect (by omega) s1 s2
      refine ⟨rfl, t.elect1 B, C + 1, T + 1 + k + 1, D + 1 + 400, k2, h2.out, by omega, by omega, by omega, hE, hT, ?_⟩
      rcases k4 with ⟨q1, q2⟩ | q
      · exact Or.inl ⟨q1, q2, by omega⟩
      · exact Or.inr q
    · have := hs.top
      omega
  · rcases hs with ⟨s1, s2, s3⟩ | hs
    · omega
    · exact ⟨t, C, _, D, rfl, hl.any ho, by omega, by omega, by omega, hs, hl.2.settled (by omega) hs⟩
/-- One tick more. -/
theorem TickW.next {k : Nat} (h : TickW W tb N B E k w) (hk : k < 60) : Calls Try.prog 20 #[.pointer (some ⟨tb, 0, none⟩), .agg #[.int .i64 2, .int .i64 (B : Int), .int .i64 0, .int .i64 0, .bool false]] w fun e w'' => e = .returned (.bool true) ∧
    Hid (Calls Try.prog 22 #[.pointer (some ⟨tb, 0, none⟩)] w'' fun e w' => e = .returned (.bool true) ∧ Hid (TickW W tb N B E (k + 1) w')) := by
  obtain ⟨t, C, T', D, rfl, hl, hT, hD, _, hs, hlev⟩ := h
  obtain ⟨k1, k2, k3⟩ := hl.2.tick hs
  refine (hl.do_ (by omega) (by omega) (dT B) ⟨by show (-9223372036854775808 : Int) ≤ 0; omega, by show (0 : Int) ≤ 9223372036854775807; omega⟩ k1).mono ?_
  rintro e w'' ⟨rfl, h1⟩
  refine ⟨rfl, ?_⟩
  show Calls _ _ _ _ _
  refine (rush_is h1.out (by omega) (by omega)).mono ?_
  rintro e w3 ⟨rfl, h2⟩
  obtain ⟨r1, r2, r3⟩ := hl.2.round hs
  refine ⟨rfl, t.round B, C, T', D + 1 + 400, r3, h2.out, hT, by omega, by omega, r2, ?_⟩
  rw [show 60 - k = (60 - (k + 1)) + 1 by omega] at hlev
  exact hlev
/-- The last entry. -/
theorem TickW.last (h : TickW W tb N B E 60 w) : ∃ g c x, B < N ∧ w.cell? ⟨tb, 1, none⟩ = some (.slice (some ⟨g, 0, none⟩) N c) ∧ w.cell? ⟨g, B, none⟩ = some (.pointer (some ⟨x, 0, none⟩)) ∧
    Hid (Calls Try.prog 16 #[.pointer (some ⟨x, 0, none⟩)] w fun e w' => e = .returned (.int .i64 2) ∧ w = w') ∧
    Hid (Calls Try.prog 20 #[.pointer (some ⟨tb, 0, none⟩), .agg #[.int .i64 1, .int .i64 (B : Int), .int .i64 0, .int .i64 0, .bool false]] w fun e w1 => e = .returned (.bool true) ∧
    Hid (Calls Try.prog 22 #[.pointer (some ⟨tb, 0, none⟩)] w1 fun e w2 => e = .returned (.bool true) ∧
    Hid (Calls Try.prog 20 #[.pointer (some ⟨tb, 0, none⟩), .agg #[.int .i64 2, .int .i64 (B : Int), .int .i64 0, .int .i64 0, .bool false]] w2 fun e w3 => e = .returned (.bool true) ∧
    Hid (Calls Try.prog 22 #[.pointer (some ⟨tb, 0, none⟩)] w3 fun e w4 => e = .returned (.bool true) ∧ Hid (∃ L l, FinW W tb N L l w4))))) := by
  obtain ⟨t, C, T', D, rfl, hl, hT, hD, _, hs, hlev⟩ := h
  have hlev : Lev B (E + 1) t 3 := hlev
  obtain ⟨g, c, x, ep, vo, L, e1, e2, e3, _, e5⟩ := hl.row (j := B) hl.2.t0.hb
  rw [hlev.1] at e5
  refine ⟨g, c, x, hl.2.t0.hb, e1, e2, e5, ?_⟩
  have ok1 : (dA B).Ok := ⟨by show (-9223372036854775808 : Int) ≤ 0; omega, by show (0 : Int) ≤ 9223372036854775807; omega⟩
  have ok2 : (dT B).Ok := ⟨by show (-9223372036854775808 : Int) ≤ 0; omega, by show (0 : Int) ≤ 9223372036854775807; omega⟩
  obtain ⟨n1, n2, n3⟩ := hl.2.t0.entry2 (by omega) hs hlev
  show Calls _ _ _ _ _
  refine (hl.do_ (by omega) (by omega) (dA B) ok1 (hl.2.append (by omega) hs hlev)).mono ?_
  rintro e w1 ⟨rfl, h1⟩
  refine ⟨rfl, ?_⟩
  show Calls _ _ _ _ _
  refine (rush_is h1.out (by omega) (by omega)).mono ?_
  rintro e w2 ⟨rfl, h2⟩
  refine ⟨rfl, ?_⟩
  have h2 : LiveW W tb (t.entry B) B (C + 1) (T' + 1) (D + 1 + 400) E w2 := h2.out
  obtain ⟨lev2, nn⟩ := n3
  obtain ⟨k1, k2, k3⟩ := h2.2.tick n2
  show Calls _ _ _ _ _
  refine (h2.do_ (by omega) (by omega) (dT B) ok2 k1).mono ?_
  rintro e w3 ⟨rfl, h3⟩
  refine ⟨rfl, ?_⟩
  show Calls _ _ _ _ _
  refine (rush_is h3.out (by omega) (by omega)).mono ?_
  rintro e w4 ⟨rfl, h4⟩
  refine ⟨rfl, ?_⟩
  have h4 : LiveW W tb ((t.entry B).round B) B (C + 1) (T' + 1) (D + 1 + 400 + 1 + 400) E w4 := h4.out
  obtain ⟨f1, f2, f3, f4⟩ := h2.2.t0.final n2 lev2
  obtain ⟨⟨xs, h5⟩, h6⟩ := h4
  have hn : ((t.entry B).round B).n = t.n := f1.trans nn
  refine ⟨_, (((t.entry B).round B).X B).st.log, (t.entry B).round B, xs, h5, hn, fun i hi => ?_, rfl⟩
  obtain ⟨a1, a2⟩ := f4 i (by omega)
  exact ⟨h6.t0.facts.fit i (by omega), a1, a2⟩
/-- What is told in the end. -/
theorem FinW.n {L : Nat} {l : List Ent} (h : FinW W tb N L l w) : w.cell? ⟨tb, 0, none⟩ = some (.int .i64 (N : Int)) := by
  obtain ⟨t, xs, h1, rfl, h2, h3⟩ := h
  exact h1.ncell
theorem FinW.any {L : Nat} {l : List Ent} (h : FinW W tb N L l w) (ho : Out Zone.no w w') : FinW W tb N L l w' := by
  obtain ⟨t, xs, h1, h2⟩ := h
  exact ⟨t, xs, h1.any ho, h2⟩
theorem FinW.out {L : Nat} {l : List Ent} (h : FinW W tb N L l w) : Out Zone.no W w := by
  obtain ⟨t, xs, h1, h2⟩ := h
  exact TownX.out h1
theorem FinW.row {L : Nat} {l : List Ent} (h : FinW W tb N L l w) {j : Nat} (hj : j < N) : ∃ g c x ep vo, w.cell? ⟨tb, 1, none⟩ = some (.slice (some ⟨g, 0, none⟩) N c) ∧ w.cell? ⟨g, j, none⟩ = some (.pointer (some ⟨x, 0, none⟩)) ∧
    Hid (Calls Try.prog 17 #[.pointer (some ⟨x, 0, none⟩)] w fun e w' => e = .returned (.int .i64 (L : Int)) ∧ w = w') ∧
    Hid (∀ w2, Out Zone.no w w2 → Calls Try.prog 10 #[.pointer (some ⟨x, 0, none⟩)] w2 fun e w' => ∃ A c, e = .returned (.agg #[.int .i64 ep, .int .i64 vo, .slice A L c]) ∧ Hid (Out Zone.no w2 w' ∧ GR w' 38 2 (.slice A L c) L (encL l))) := by
  obtain ⟨t, xs, h1, rfl, h2, h3⟩ := h
  obtain ⟨g, c, _, e1, e2⟩ := h1.xcells hj
  obtain ⟨f1, f2, f3⟩ := h2 j hj
  refine ⟨g, c, xs j, (t.X j).st.ep, (t.X j).st.voted, e1, e2, ?_, fun w2 ho => ?_⟩
  · rw [← f2]; exact commit_t h1 hj f1
  · refine ((h1.any ho).reads hj f1).mono ?_
    rintro e w' ⟨A, c, rfl, k1, k2, k3⟩
    rw [f3, h3] at k2
    rw [f3, h3]
    exact ⟨A, c, rfl, k1, k2⟩
end
end Go.Proofs.Ytlgoenimjmiapaa
