import Derived.Test.YtddcojikbcbihaaR7
import Derived.Test.YtddcojikbcbihaaD18
import Derived.Test.YtddcojikbcbihaaD19
import Derived.Test.YtddcojikbcbihaaD22
/-! Two disks in one world, and calls on each. -/
set_option linter.unusedVariables false
namespace Go.Proofs.Ytddcojikbcbihaa
open Go.RowKit

section
variable {Z Z' : Zone} {w w' : World} {r : Nat} {D : DS}

theorem RefAt.out (h : RefAt Z w r D) (ho : Out Z' w w') (hd : ∀ k, Z.S k → ¬ Z'.S k) (hs : ∀ k, Z'.S k → Z.T k) : RefAt Z w' r D := by
  obtain ⟨o, f, lv, h⟩ := h
  have hb : ∀ k, Z.S k → w'.heap[k]? = w.heap[k]? := fun k hk => ho.block k (h.top.lt hk) (hd k hk)
  exact ⟨o, f, lv, (hb r h.br).trans h.sr, h.log.far ho hs, h.old.same (hb o h.bo), h.fresh.same (hb f h.bf), h.br, h.bo, h.bf, h.top.mono ho.size, h.ne, h.ok⟩
theorem RefAt.any (h : RefAt Z w r D) (ho : Out Zone.no w w') : RefAt Z w' r D := h.out ho (fun _ _ e => e) (fun _ e => e.elim)
theorem RefAt.top (h : RefAt Z w r D) : Z.Top w := by obtain ⟨o, f, lv, h⟩ := h; exact h.top
/-- A wider bar, of new blocks alone. -/
theorem RefAt.wide (h : RefAt Z w r D) (ho : Out Zone.no w w') (hS : ∀ k, Z.S k → Z'.S k) (hT : ∀ k, Z'.T k → k < w.heap.size → Z.T k) (ht : Z'.Top w') : RefAt Z' w' r D := by
  obtain ⟨o, f, lv, h⟩ := h
  have h' := h.any ho
  exact ⟨o, f, lv, h'.sr, (h.log.wide hT).far ho (fun _ h => h.elim), h'.old, h'.fresh, hS _ h.br, hS _ h.bo, hS _ h.bf, ht, h.ne, h.ok⟩
theorem Row.narrow {v : Value} {xs : List Value} (h : Row Z w v xs) (hT : ∀ k, Z'.T k → Z.T k) : Row Z' w v xs := by
  obtain ⟨A, c, hv, h1, h2, hc⟩ := h
  refine ⟨A, c, hv, h1, h2, fun j u hu => ?_⟩
  obtain ⟨a, ha, hb, hx⟩ := hc j u hu
  exact ⟨a, ha, fun e => hb (hT _ e), hx⟩
theorem RefAt.narrow (h : RefAt Z w r D) (hS : ∀ k, Z.S k → Z'.S k) (hT : ∀ k, Z'.T k → Z.T k) : RefAt Z' w r D := by
  obtain ⟨o, f, lv, h⟩ := h
  exact ⟨o, f, lv, h.sr, h.log.narrow hT, h.old, h.fresh, hS _ h.br, hS _ h.bo, hS _ h.bf, fun k hk => h.top k (hT k hk), h.ne, h.ok⟩
theorem MapRows.narrow {b : Nat} {F : Int → Option (List UInt8)} (h : MapRows Z w b F) (hT : ∀ k, Z'.T k → Z.T k) : MapRows Z' w b F := by
  obtain ⟨V, h1, h2⟩ := h
  refine ⟨V, h1, fun x => ?_⟩
  have h3 := h2 x
  cases hV : V x with
  | none => rw [hV] at h3; exact h3
  | some v =>
    rw [hV] at h3
    obtain ⟨L, hL, hr⟩ := h3
    exact ⟨L, hL, hr.narrow hT⟩
theorem DiskAt.narrow {d : Nat} (h : DiskAt Z w d D) (hS : ∀ k, Z.S k → Z'.S k) (hT : ∀ k, Z'.T k → Z.T k) : DiskAt Z' w d D := by
  obtain ⟨p, o, f, lv, h⟩ := h
  exact ⟨p, o, f, lv, h.sd, h.sp, h.log.narrow hT, h.old.narrow hT, h.fresh.narrow hT, hS _ h.bd, hS _ h.bp, hS _ h.bo, hS _ h.bf, fun k hk => h.top k (hT k hk), h.ne, h.ok⟩
end

/-- Zones of two disks: apart, each barred to the other's rows. -/
structure Apart (A B : Zone) : Prop where
  ab : ∀ k, A.S k → ¬ B.S k
  tt : ∀ k, A.T k ↔ B.T k
theorem Apart.at_ {A B : Zone} (h : Apart A B) : ∀ k, A.S k → B.T k := fun k hk => (h.tt k).1 (A.sub k hk)
theorem Apart.bt {A B : Zone} (h : Apart A B) : ∀ k, B.S k → A.T k := fun k hk => (h.tt k).2 (B.sub k hk)
theorem Apart.ba {A B : Zone} (h : Apart A B) : ∀ k, B.S k → ¬ A.S k := fun k hk e => h.ab k e hk

/-- The blocks of both. -/
def both (A B : Zone) : Zone := ⟨fun k => A.S k ∨ B.S k, fun k => A.S k ∨ B.S k, fun _ h => h⟩

/-- A disk, the document's disk, a block that is read again; what has turned since w0. -/
structure Pair (A B : Zone) (w0 : World) (d r g : Nat) (x : Obj) (D E : DS) (w : World) : Prop where
  da : DiskAt A w d D
  rb : RefAt B w r E
  bx : w.heap[g]? = some x
  ap : Apart A B
  ga : ¬ A.S g
  gb : ¬ B.S g
  out : Out (both A B) w0 w

section
variable {A B : Zone} {w0 w w' : World} {d r g : Nat} {x : Obj} {D E D' E' : DS}

theorem Pair.stepD (h : Pair A B w0 d r g x D E w) (hd : DiskAt A w' d D') (ho : Out A w w') : Pair A B w0 d r g x D' E w' :=
  ⟨hd, h.rb.out ho (fun k hk => h.ap.ba k hk) h.ap.at_, ho.get h.bx h.ga, h.ap, h.ga, h.gb, h.out.trans (ho.mono (fun k hk => Or.inl hk))⟩
theorem Pair.stepR (h : Pair A B w0 d r g x D E w) (hr : RefAt B w' r E') (ho : Out B w w') : Pair A B w0 d r g x D E' w' :=
  ⟨h.da.out ho (fun k hk => h.ap.ab k hk) h.ap.bt, hr, ho.get h.bx h.gb, h.ap, h.ga, h.gb, h.out.trans (ho.mono (fun k hk => Or.inr hk))⟩
theorem Pair.any (h : Pair A B w0 d r g x D E w) (ho : Out Zone.no w w') : Pair A B w0 d r g x D E w' :=
  ⟨h.da.any ho, h.rb.any ho, ho.get h.bx id, h.ap, h.ga, h.gb, h.out.trans ho.mono0⟩
theorem Pair.drewN (h : Pair A B w0 d r g x D E w) (n : Nat) : Pair A B w0 d r g x D E (w.drewN n) := h.any ((Out.refl Zone.no w).drewN n)

/-- What a call on one of them comes to. -/
def PD (A B : Zone) (w0 : World) (d r g : Nat) (x : Obj) (v : Value) (D E : DS) (e : Ending) (w' : World) : Prop := e = .returned v ∧ Pair A B w0 d r g x D E w'

theorem pd_cut (h : Pair A B w0 d r g x D E w) (q : Int) : Calls Try.prog 16 #[.pointer (some ⟨d, 0, none⟩), .int .i64 q] w (PD A B w0 d r g x (.int .i64 (D.cut q).1) (D.cut q).2 E) :=
  (cut_is h.da q).mono fun e w' ⟨he, hd, ho⟩ => ⟨he, h.stepD hd ho⟩
theorem pr_cut (h : Pair A B w0 d r g x D E w) (q : Int) : Calls Try.prog 57 #[.pointer (some ⟨r, 0, none⟩), .int .i64 q] w (PD A B w0 d r g x (.int .i64 (E.cut q).1) D (E.cut q).2) :=
  (rcut_is h.rb q).mono fun e w' ⟨he, hd, ho⟩ => ⟨he, h.stepR hd ho⟩
theorem pd_retire (h : Pair A B w0 d r g x D E w) (q : Int) : Calls Try.prog 15 #[.pointer (some ⟨d, 0, none⟩), .int .i64 q] w (PD A B w0 d r g x (.int .i64 (D.retire q).1) (D.retire q).2 E) :=
  (retire_is h.da q).mono fun e w' ⟨he, hd, ho⟩ => ⟨he, h.stepD hd ho⟩
theorem pr_retire (h : Pair A B w0 d r g x D E w) (q : Int) : Calls Try.prog 58 #[.pointer (some ⟨r, 0, none⟩), .int .i64 q] w (PD A B w0 d r g x (.int .i64 (E.retire q).1) D (E.retire q).2) :=
  (rretire_is h.rb q).mono fun e w' ⟨he, hd, ho⟩ => ⟨he, h.stepR hd ho⟩
theorem pd_sync (h : Pair A B w0 d r g x D E w) : Calls Try.prog 14 #[.pointer (some ⟨d, 0, none⟩)] w (PD A B w0 d r g x (.int .i64 D.sync.1) D.sync.2 E) :=
  (sync_is h.da).mono fun e w' ⟨he, hd, ho⟩ => ⟨he, h.stepD hd ho⟩
theorem pr_sync (h : Pair A B w0 d r g x D E w) : Calls Try.prog 56 #[.pointer (some ⟨r, 0, none⟩)] w (PD A B w0 d r g x (.int .i64 E.sync.1) D E.sync.2) :=
  (rsync_is h.rb).mono fun e w' ⟨he, hd, ho⟩ => ⟨he, h.stepR hd ho⟩
theorem pd_write (h : Pair A B w0 d r g x D E w) (q : Int) (s : Value) (b : List UInt8) (hs : Row A w s (bytes b)) : Calls Try.prog 22 #[.pointer (some ⟨d, 0, none⟩), .int .i64 q, s] w (PD A B w0 d r g x (.int .i64 (D.write q b).1) (D.write q b).2 E) :=
  (write_is h.da q s b hs).mono fun e w' ⟨he, hd, ho⟩ => ⟨he, h.stepD hd ho⟩
theorem pr_write (h : Pair A B w0 d r g x D E w) (q : Int) (s : Value) (b : List UInt8) (hs : Row B w s (bytes b)) : Calls Try.prog 59 #[.pointer (some ⟨r, 0, none⟩), .int .i64 q, s] w (PD A B w0 d r g x (.int .i64 (E.write q b).1) D (E.write q b).2) :=
  (rwrite_is h.rb q s b hs).mono fun e w' ⟨he, hd, ho⟩ => ⟨he, h.stepR hd ho⟩
theorem pd_fuse (h : Pair A B w0 d r g x D E w) (q : Int) (hq : q ≤ 9223372036854775807) : Calls Try.prog 23 #[.pointer (some ⟨d, 0, none⟩), .int .i64 q] w (PD A B w0 d r g x (.tuple #[]) (D.fuse q) E) :=
  (fuse_is h.da q hq).mono fun e w' ⟨he, hd, ho⟩ => ⟨he, h.stepD hd ho⟩
theorem pr_fuse (h : Pair A B w0 d r g x D E w) (q : Int) (hq : q ≤ 9223372036854775807) : Pair A B w0 d r g x D (E.fuse q) (w.setCell ⟨r, 2, none⟩ (.int .i64 (max (-1) q))) := by
  obtain ⟨o, f, lv, hr⟩ := h.rb
  obtain ⟨h1, o1⟩ := hr.store (E.fuse q) lv (w' := w.setCell ⟨r, 2, none⟩ (.int .i64 (max (-1) q))) (by simpa [DS.fuse] using heap_set hr.sr 2 (.int .i64 (max (-1) q))) (only_setCell _ _ _) rfl rfl hr.log (by
    obtain ⟨k1, k2, k3, k4, k5, k6, k7, k8, k9, k10⟩ := hr.ok
    exact ⟨k1, k2, k3, k4, k5, k6, by simp only [DS.fuse]; omega, by simp only [DS.fuse]; omega, k9, k10⟩)
  exact h.stepR h1.at_ o1
theorem pd_crash (h : Pair A B w0 d r g x D E w) (q : Int) (hq : -9223372036854775808 ≤ q ∧ q ≤ 9223372036854775807) (t : Bool) (fv : Value) (F : List Int) (hf : Row A w fv (F.map (Value.int .i64))) (hF : ∀ x ∈ F, -9223372036854775808 ≤ x ∧ x ≤ 9223372036854775807) :
    Calls Try.prog 17 #[.pointer (some ⟨d, 0, none⟩), .int .i64 q, .bool t, fv] w (PD A B w0 d r g x (.tuple #[]) (D.crash q t F) E) :=
  (crash_is h.da q hq t fv F hf hF).mono fun e w' ⟨he, hd, ho⟩ => ⟨he, h.stepD hd ho⟩
theorem pr_crash (h : Pair A B w0 d r g x D E w) (q : Int) (hq : -9223372036854775808 ≤ q ∧ q ≤ 9223372036854775807) (t : Bool) (fv : Value) (F : List Int) (hf : Row B w fv (F.map (Value.int .i64))) (hF : ∀ x ∈ F, -9223372036854775808 ≤ x ∧ x ≤ 9223372036854775807) :
    Calls Try.prog 60 #[.pointer (some ⟨r, 0, none⟩), .int .i64 q, .bool t, fv] w (PD A B w0 d r g x (.tuple #[]) D (E.crash q t F)) :=
  (rcrash_is h.rb q hq t fv F hf hF).mono fun e w' ⟨he, hd, ho⟩ => ⟨he, h.stepR hd ho⟩

theorem pd_append (h : Pair A B w0 d r g x D E w) (s : Value) (b : List UInt8) (hs : Row (both A B) w s (bytes b)) (hb : b.length ≤ 140737488355328) :
    Calls Try.prog 13 #[.pointer (some ⟨d, 0, none⟩), s] w (PD A B w0 d r g x (.tuple #[.int .i64 (D.append b).1, .int .i64 (D.append b).2.1]) (D.append b).2.2 E) :=
  (append_is2 h.da (Z2 := both A B) (fun k hk => Or.inl hk) s b hs hb).mono fun e w' ⟨he, hd, ho⟩ => ⟨he, h.stepD hd ho⟩
theorem pr_append (h : Pair A B w0 d r g x D E w) (s : Value) (b : List UInt8) (hs : Row B w s (bytes b)) :
    Calls Try.prog 55 #[.pointer (some ⟨r, 0, none⟩), s] w (PD A B w0 d r g x (.tuple #[.int .i64 (E.append b).1, .int .i64 (E.append b).2.1]) D (E.append b).2.2) :=
  (rappend_is h.rb s b hs).mono fun e w' ⟨he, hd, ho⟩ => ⟨he, h.stepR hd ho⟩
end
end Go.Proofs.Ytddcojikbcbihaa
