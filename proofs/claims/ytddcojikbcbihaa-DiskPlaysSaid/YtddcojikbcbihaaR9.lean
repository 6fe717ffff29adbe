import Derived.Test.YtddcojikbcbihaaR8
/-! Two disks in one world, with rows that are remembered. -/
set_option linter.unusedVariables false
namespace Go.Proofs.Ytddcojikbcbihaa
open Go.RowKit

/-- The blocks of both, and what both bar. -/
def tb (A B : Zone) : Zone := ⟨fun k => A.S k ∨ B.S k, fun k => A.T k ∨ B.T k, fun k h => h.elim (fun h => Or.inl (A.sub k h)) (fun h => Or.inr (B.sub k h))⟩

/-- A pair, and rows that are known of. -/
structure PairR (A B : Zone) (w0 : World) (d r g : Nat) (x : Obj) (RS : List (Value × List UInt8)) (D E : DS) (w : World) : Prop where
  p : Pair A B w0 d r g x D E w
  rs : ∀ q ∈ RS, Row (tb A B) w q.1 (bytes q.2)

section
variable {A B : Zone} {w0 w w' : World} {d r g : Nat} {x : Obj} {RS : List (Value × List UInt8)} {D E D' E' : DS}

theorem PairR.go (h : PairR A B w0 d r g x RS D E w) (hp : Pair A B w0 d r g x D' E' w') (ho : Out (both A B) w w') : PairR A B w0 d r g x RS D' E' w' :=
  ⟨hp, fun q hq => (h.rs q hq).far ho (fun k hk => (tb A B).sub k hk)⟩
theorem PairR.any (h : PairR A B w0 d r g x RS D E w) (ho : Out Zone.no w w') : PairR A B w0 d r g x RS D E w' := h.go (h.p.any ho) ho.mono0
theorem PairR.drewN (h : PairR A B w0 d r g x RS D E w) (n : Nat) : PairR A B w0 d r g x RS D E (w.drewN n) := h.any ((Out.refl Zone.no w).drewN n)
theorem PairR.add (h : PairR A B w0 d r g x RS D E w) {v : Value} {L : List UInt8} (hr : Row (tb A B) w v (bytes L)) : PairR A B w0 d r g x ((v, L) :: RS) D E w :=
  ⟨h.p, fun q hq => by
    rcases List.mem_cons.1 hq with rfl | hq
    · exact hr
    · exact h.rs q hq⟩
theorem PairR.rowA (h : PairR A B w0 d r g x RS D E w) {v : Value} {L : List UInt8} (hm : (v, L) ∈ RS) : Row A w v (bytes L) := (h.rs _ hm).narrow (fun k hk => Or.inl hk)
theorem PairR.rowB (h : PairR A B w0 d r g x RS D E w) {v : Value} {L : List UInt8} (hm : (v, L) ∈ RS) : Row B w v (bytes L) := (h.rs _ hm).narrow (fun k hk => Or.inr hk)
theorem PairR.top (h : PairR A B w0 d r g x RS D E w) : (tb A B).Top w := fun k hk => hk.elim (fun hk => h.p.da.top k hk) (fun hk => h.p.rb.top k hk)

/-- What a call comes to that answers a value. -/
def PDR (A B : Zone) (w0 : World) (d r g : Nat) (x : Obj) (RS : List (Value × List UInt8)) (v : Value) (D E : DS) (e : Ending) (w' : World) : Prop := e = .returned v ∧ PairR A B w0 d r g x RS D E w'

theorem outD (ho : Out A w w') : Out (both A B) w w' := ho.mono (fun k hk => Or.inl hk)
theorem outR (ho : Out B w w') : Out (both A B) w w' := ho.mono (fun k hk => Or.inr hk)

theorem qd_cut (h : PairR A B w0 d r g x RS D E w) (q : Int) : Calls Try.prog 16 #[.pointer (some ⟨d, 0, none⟩), .int .i64 q] w (PDR A B w0 d r g x RS (.int .i64 (D.cut q).1) (D.cut q).2 E) :=
  (cut_is h.p.da q).mono fun e w' ⟨he, hd, ho⟩ => ⟨he, h.go (h.p.stepD hd ho) (outD ho)⟩
theorem qr_cut (h : PairR A B w0 d r g x RS D E w) (q : Int) : Calls Try.prog 57 #[.pointer (some ⟨r, 0, none⟩), .int .i64 q] w (PDR A B w0 d r g x RS (.int .i64 (E.cut q).1) D (E.cut q).2) :=
  (rcut_is h.p.rb q).mono fun e w' ⟨he, hd, ho⟩ => ⟨he, h.go (h.p.stepR hd ho) (outR ho)⟩
theorem qd_retire (h : PairR A B w0 d r g x RS D E w) (q : Int) : Calls Try.prog 15 #[.pointer (some ⟨d, 0, none⟩), .int .i64 q] w (PDR A B w0 d r g x RS (.int .i64 (D.retire q).1) (D.retire q).2 E) :=
  (retire_is h.p.da q).mono fun e w' ⟨he, hd, ho⟩ => ⟨he, h.go (h.p.stepD hd ho) (outD ho)⟩
theorem qr_retire (h : PairR A B w0 d r g x RS D E w) (q : Int) : Calls Try.prog 58 #[.pointer (some ⟨r, 0, none⟩), .int .i64 q] w (PDR A B w0 d r g x RS (.int .i64 (E.retire q).1) D (E.retire q).2) :=
  (rretire_is h.p.rb q).mono fun e w' ⟨he, hd, ho⟩ => ⟨he, h.go (h.p.stepR hd ho) (outR ho)⟩
theorem qd_sync (h : PairR A B w0 d r g x RS D E w) : Calls Try.prog 14 #[.pointer (some ⟨d, 0, none⟩)] w (PDR A B w0 d r g x RS (.int .i64 D.sync.1) D.sync.2 E) :=
  (sync_is h.p.da).mono fun e w' ⟨he, hd, ho⟩ => ⟨he, h.go (h.p.stepD hd ho) (outD ho)⟩
theorem qr_sync (h : PairR A B w0 d r g x RS D E w) : Calls Try.prog 56 #[.pointer (some ⟨r, 0, none⟩)] w (PDR A B w0 d r g x RS (.int .i64 E.sync.1) D E.sync.2) :=
  (rsync_is h.p.rb).mono fun e w' ⟨he, hd, ho⟩ => ⟨he, h.go (h.p.stepR hd ho) (outR ho)⟩
theorem qd_write (h : PairR A B w0 d r g x RS D E w) (q : Int) (s : Value) (b : List UInt8) (hm : (s, b) ∈ RS) : Calls Try.prog 22 #[.pointer (some ⟨d, 0, none⟩), .int .i64 q, s] w (PDR A B w0 d r g x RS (.int .i64 (D.write q b).1) (D.write q b).2 E) :=
  (write_is h.p.da q s b (h.rowA hm)).mono fun e w' ⟨he, hd, ho⟩ => ⟨he, h.go (h.p.stepD hd ho) (outD ho)⟩
theorem qr_write (h : PairR A B w0 d r g x RS D E w) (q : Int) (s : Value) (b : List UInt8) (hm : (s, b) ∈ RS) : Calls Try.prog 59 #[.pointer (some ⟨r, 0, none⟩), .int .i64 q, s] w (PDR A B w0 d r g x RS (.int .i64 (E.write q b).1) D (E.write q b).2) :=
  (rwrite_is h.p.rb q s b (h.rowB hm)).mono fun e w' ⟨he, hd, ho⟩ => ⟨he, h.go (h.p.stepR hd ho) (outR ho)⟩
theorem qd_fuse (h : PairR A B w0 d r g x RS D E w) (q : Int) (hq : q ≤ 9223372036854775807) : Calls Try.prog 23 #[.pointer (some ⟨d, 0, none⟩), .int .i64 q] w (PDR A B w0 d r g x RS (.tuple #[]) (D.fuse q) E) :=
  (fuse_is h.p.da q hq).mono fun e w' ⟨he, hd, ho⟩ => ⟨he, h.go (h.p.stepD hd ho) (outD ho)⟩
theorem qr_fuse (h : PairR A B w0 d r g x RS D E w) (q : Int) (hq : q ≤ 9223372036854775807) : PairR A B w0 d r g x RS D (E.fuse q) (w.setCell ⟨r, 2, none⟩ (.int .i64 (max (-1) q))) := by
  have hr : B.S r := by obtain ⟨o, f, lv, hr⟩ := h.p.rb; exact hr.br
  exact h.go (pr_fuse h.p q hq) (outR ((Out.refl B w).setCell (p := ⟨r, 2, none⟩) (Or.inl hr) _))
theorem qd_crash (h : PairR A B w0 d r g x RS D E w) (q : Int) (hq : -9223372036854775808 ≤ q ∧ q ≤ 9223372036854775807) (t : Bool) (fv : Value) (F : List Int) (hf : Row (tb A B) w fv (F.map (Value.int .i64))) (hF : ∀ x ∈ F, -9223372036854775808 ≤ x ∧ x ≤ 9223372036854775807) :
    Calls Try.prog 17 #[.pointer (some ⟨d, 0, none⟩), .int .i64 q, .bool t, fv] w fun e w' => PDR A B w0 d r g x RS (.tuple #[]) (D.crash q t F) E e w' ∧ Out (both A B) w w' :=
  (crash_is h.p.da q hq t fv F (hf.narrow (fun k hk => Or.inl hk)) hF).mono fun e w' ⟨he, hd, ho⟩ => ⟨⟨he, h.go (h.p.stepD hd ho) (outD ho)⟩, outD ho⟩
theorem qr_crash (h : PairR A B w0 d r g x RS D E w) (q : Int) (hq : -9223372036854775808 ≤ q ∧ q ≤ 9223372036854775807) (t : Bool) (fv : Value) (F : List Int) (hf : Row (tb A B) w fv (F.map (Value.int .i64))) (hF : ∀ x ∈ F, -9223372036854775808 ≤ x ∧ x ≤ 9223372036854775807) :
    Calls Try.prog 60 #[.pointer (some ⟨r, 0, none⟩), .int .i64 q, .bool t, fv] w (PDR A B w0 d r g x RS (.tuple #[]) D (E.crash q t F)) :=
  (rcrash_is h.p.rb q hq t fv F (hf.narrow (fun k hk => Or.inr hk)) hF).mono fun e w' ⟨he, hd, ho⟩ => ⟨he, h.go (h.p.stepR hd ho) (outR ho)⟩
theorem q_block (h : PairR A B w0 d r g x RS D E w) (k n v : Value) (b : List UInt8) (hm : (v, b) ∈ RS) (t : Bool) (f : Value) :
    Calls Try.prog 21 #[.agg #[k, n, v, .bool t, f]] w fun e w' => ∃ v', PDR A B w0 d r g x ((v', blockOf t b) :: RS) v' D E e w' :=
  (block_is (Z := tb A B) k n v b (h.rs _ hm) h.top t f).mono fun e w' ⟨v', he, hr, ho⟩ => ⟨v', he, (h.any ho).add hr⟩

/-- What a call comes to that answers bytes. -/
def PRR (A B : Zone) (w0 : World) (d r g : Nat) (x : Obj) (RS : List (Value × List UInt8)) (y : List UInt8 × Int) (D E : DS) (e : Ending) (w' : World) : Prop :=
  ∃ v, e = .returned (.tuple #[v, .int .i64 y.2]) ∧ PairR A B w0 d r g x ((v, y.1) :: RS) D E w'

theorem PairR.ofA (h : PairR A B w0 d r g x RS D E w) {v : Value} {xs : List Value} (hr : Row A w' v xs) : Row (tb A B) w' v xs := hr.narrow (fun k hk => hk.elim id (fun hk => (h.p.ap.tt k).2 hk))
theorem PairR.ofB (h : PairR A B w0 d r g x RS D E w) {v : Value} {xs : List Value} (hr : Row B w' v xs) : Row (tb A B) w' v xs := hr.narrow (fun k hk => hk.elim (fun hk => (h.p.ap.tt k).1 hk) id)

theorem qd_read (h : PairR A B w0 d r g x RS D E w) (q : Int) : Calls Try.prog 18 #[.pointer (some ⟨d, 0, none⟩), .int .i64 q] w (PRR A B w0 d r g x RS (D.read q) D E) := by
  obtain ⟨p, o, f, lv, hd⟩ := h.p.da
  exact (read_is hd q).mono fun e w' ⟨v, he, hr, hd', ho⟩ => ⟨v, he, (h.any ho).add (h.ofA hr)⟩
theorem qr_read (h : PairR A B w0 d r g x RS D E w) (q : Int) : Calls Try.prog 61 #[.pointer (some ⟨r, 0, none⟩), .int .i64 q] w (PRR A B w0 d r g x RS (E.read q) D E) := by
  obtain ⟨o, f, lv, hd⟩ := h.p.rb
  exact (rread_is hd q).mono fun e w' ⟨v, he, hr, hd', ho⟩ => ⟨v, he, (h.any ho).add (h.ofB hr)⟩
theorem qd_load (h : PairR A B w0 d r g x RS D E w) (q : Int) : Calls Try.prog 24 #[.pointer (some ⟨d, 0, none⟩), .int .i64 q] w (PRR A B w0 d r g x RS (D.load q) D E) :=
  (load_is h.p.da q).mono fun e w' ⟨v, he, hr, hd', ho⟩ => ⟨v, he, (h.go (h.p.stepD hd' ho) (outD ho)).add (h.ofA hr)⟩
theorem qr_load (h : PairR A B w0 d r g x RS D E w) (q : Int) : Calls Try.prog 62 #[.pointer (some ⟨r, 0, none⟩), .int .i64 q] w (PRR A B w0 d r g x RS (E.load q) D E) :=
  (rload_is h.p.rb q).mono fun e w' ⟨v, he, hr, hd', ho⟩ => ⟨v, he, (h.any ho).add (h.ofB hr)⟩

/-- Strings of the remembered rows. -/
theorem PairR.str (h : PairR A B w0 d r g x RS D E w) {v : Value} {L : List UInt8} (hm : (v, L) ∈ RS) : ∀ n, (convert 22 9 v).run Try.prog (w.drewN n) = .ok (.string (str L)) (w.drewN n) :=
  fun n => run_string Try.underlying22 Try.underlying5 Try.underlying9 ((h.rs _ hm).drewN n)

theorem qd_append (h : PairR A B w0 d r g x RS D E w) (s : Value) (b : List UInt8) (hs : Row (both A B) w s (bytes b)) (hb : b.length ≤ 140737488355328) :
    Calls Try.prog 13 #[.pointer (some ⟨d, 0, none⟩), s] w fun e w' => PDR A B w0 d r g x RS (.tuple #[.int .i64 (D.append b).1, .int .i64 (D.append b).2.1]) (D.append b).2.2 E e w' ∧ Out (both A B) w w' :=
  (append_is2 h.p.da (Z2 := both A B) (fun k hk => Or.inl hk) s b hs hb).mono fun e w' ⟨he, hd, ho⟩ => ⟨⟨he, h.go (h.p.stepD hd ho) (outD ho)⟩, outD ho⟩
theorem qr_append (h : PairR A B w0 d r g x RS D E w) (s : Value) (b : List UInt8) (hm : (s, b) ∈ RS) :
    Calls Try.prog 55 #[.pointer (some ⟨r, 0, none⟩), s] w fun e w' => PDR A B w0 d r g x RS (.tuple #[.int .i64 (E.append b).1, .int .i64 (E.append b).2.1]) D (E.append b).2.2 e w' ∧ Out (both A B) w w' :=
  (rappend_is h.p.rb s b (h.rowB hm)).mono fun e w' ⟨he, hd, ho⟩ => ⟨⟨he, h.go (h.p.stepR hd ho) (outR ho)⟩, outR ho⟩

/-- A zone that bars more. -/
def widen (A : Zone) (G : Nat → Prop) : Zone := ⟨A.S, fun k => A.T k ∨ G k, fun k h => Or.inl (A.sub k h)⟩

theorem PairR.widen (h : PairR A B w0 d r g x RS D E w) (ho : Out Zone.no w w') (G : Nat → Prop) (hG : ∀ k, G k → w.heap.size ≤ k ∧ k < w'.heap.size) :
    PairR (widen A G) (widen B G) w0 d r g x RS D E w' := by
  have hold : ∀ k, (A.T k ∨ G k) → k < w.heap.size → A.T k := fun k hk hl => hk.elim id (fun hk => by have := hG k hk; omega)
  have holdB : ∀ k, (B.T k ∨ G k) → k < w.heap.size → B.T k := fun k hk hl => hk.elim id (fun hk => by have := hG k hk; omega)
  have topA : (Ytddcojikbcbihaa.widen A G).Top w' := fun k hk => hk.elim (fun hk => Nat.lt_of_lt_of_le (h.p.da.top k hk) ho.size) (fun hk => (hG k hk).2)
  have topB : (Ytddcojikbcbihaa.widen B G).Top w' := fun k hk => hk.elim (fun hk => Nat.lt_of_lt_of_le (h.p.rb.top k hk) ho.size) (fun hk => (hG k hk).2)
  refine ⟨⟨h.p.da.wide ho (fun k hk => hk) hold topA, h.p.rb.wide ho (fun k hk => hk) holdB topB, ho.get h.p.bx id, ⟨h.p.ap.ab, fun k => ?_⟩, h.p.ga, h.p.gb, h.p.out.trans ho.mono0⟩, fun q hq => ?_⟩
  · have := h.p.ap.tt k
    exact ⟨fun e => e.elim (fun e => Or.inl (this.1 e)) Or.inr, fun e => e.elim (fun e => Or.inl (this.2 e)) Or.inr⟩
  · exact ((h.rs q hq).wide (fun k hk hl => by
      rcases hk with hk | hk
      · exact Or.inl (hold k hk hl)
      · exact Or.inr (holdB k hk hl))).far ho (fun _ h => h.elim)

theorem PairR.unwiden {G : Nat → Prop} (h : PairR (Ytddcojikbcbihaa.widen A G) (Ytddcojikbcbihaa.widen B G) w0 d r g x RS D E w) (hap : Apart A B) : PairR A B w0 d r g x RS D E w :=
  ⟨⟨h.p.da.narrow (fun k hk => hk) (fun k hk => Or.inl hk), h.p.rb.narrow (fun k hk => hk) (fun k hk => Or.inl hk), h.p.bx, hap, h.p.ga, h.p.gb, h.p.out⟩,
   fun q hq => (h.rs q hq).narrow (fun k hk => hk.elim (fun hk => Or.inl (Or.inl hk)) (fun hk => Or.inr (Or.inl hk)))⟩

/-- A change of barred blocks that are nobody's. -/
theorem PairR.turn {G : Nat → Prop} (h : PairR A B w0 d r g x RS D E w) (ho : Out ⟨G, G, fun _ h => h⟩ w w') (hT : ∀ k, G k → A.T k) (hA : ∀ k, A.S k → ¬ G k) (hB : ∀ k, B.S k → ¬ G k) (hg : ¬ G g) (h0 : ∀ k, G k → w0.heap.size ≤ k) :
    PairR A B w0 d r g x RS D E w' :=
  ⟨⟨h.p.da.out ho hA hT, h.p.rb.out ho hB (fun k hk => (h.p.ap.tt k).1 (hT k hk)), ho.get h.p.bx hg, h.p.ap, h.p.ga, h.p.gb,
    ⟨ho.os.trans h.p.out.os, ho.tape.trans h.p.out.tape, ho.output.trans h.p.out.output, Nat.le_trans h.p.out.size ho.size, fun i hi hn => (ho.block i (Nat.lt_of_lt_of_le hi h.p.out.size) (fun e => by have := h0 i e; omega)).trans (h.p.out.block i hi hn)⟩⟩,
   fun q hq => (h.rs q hq).far ho (fun k hk => Or.inl (hT k hk))⟩

/-- append([]byte{}, v..), of the call's own. -/
theorem copy_own (w : World) (Z : Zone) (v : Value) (L : List UInt8) (hv : Row Z w v (bytes L)) (hl : L.length ≤ 140737488355328) :
    ∃ A c w1, (Builtin.append_ #[22, 22] 22 #[.slice (some ⟨w.heap.size, 0, none⟩) 0 0, v]).run Try.prog (w.alloc (.cells #[] 5)) = .ok (.slice A L.length c) w1 ∧ Out Zone.no w w1 ∧ Owns w.heap.size w1 (.slice A L.length c) L ∧ L.length ≤ c ∧ c ≤ maxLen := by
  have o0 := (Out.refl Zone.no w).alloc (.cells #[] 5)
  have hown : Owns w.heap.size (w.alloc (.cells #[] 5)) (.slice (some ⟨w.heap.size, 0, none⟩) 0 0) [] :=
    World.ownsRow_lit (base := w.heap.size) (e := 5) (size := 1) w #[] 0 (Nat.le_refl _) (Nat.zero_le _) (by simp)
  obtain ⟨v1, w1, hrun1, h1, hg1, hf1⟩ := hown.append (Z := Z) (by simp) (hv.far o0 (fun _ h => h.elim)) (by simp only [List.length_nil]; omega) 22
  rw [List.nil_append] at h1
  have o1 : Out Zone.no w w1 := o0.grown hg1 (fun k hk => Or.inr (by simp only [Value.ownBlock] at hk; injection hk with hk; omega))
  obtain ⟨A, c, rfl, h2, h3⟩ := h1.form
  exact ⟨A, c, w1, hrun1, o1, h1, h2, h3⟩
end
end Go.Proofs.Ytddcojikbcbihaa
