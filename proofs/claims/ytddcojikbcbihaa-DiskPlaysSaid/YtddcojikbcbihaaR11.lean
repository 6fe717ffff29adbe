import Derived.Test.YtddcojikbcbihaaR10
/-! The law DiskPlays: the state of four disks. -/
set_option linter.unusedVariables false
namespace Go.Proofs.Ytddcojikbcbihaa
open Go.RowKit

/-- An operation that came in. -/
structure OpF where
  kind : Int
  n : Int
  b : List UInt8
  vb : Value
  torn : Bool
  f : List Int
  vf : Value

structure OpFOk (w : World) (o : OpF) : Prop where
  kind : -9223372036854775808 ≤ o.kind ∧ o.kind ≤ 9223372036854775807
  n : -9223372036854775808 ≤ o.n ∧ o.n ≤ 9223372036854775807
  row : Row Zone.no w o.vb (bytes o.b)
  len : o.b.length ≤ 140737488351232
  rof : Row Zone.no w o.vf (o.f.map (Value.int .i64))
  lef : o.f.length * 8 ≤ 140737488351232
  fb : ∀ x ∈ o.f, -9223372036854775808 ≤ x ∧ x ≤ 9223372036854775807

/-- Operations that came in, as a slice. -/
def OpsF (w : World) (v : Value) (ls : List OpF) : Prop :=
  ∃ A c, v = .slice A ls.length c ∧ ls.length ≤ c ∧ c ≤ maxLen ∧ ∀ i o, ls[i]? = some o → OpFOk w o ∧
    ∃ a, A = some a ∧ w.cell? (a.add (i * 5)) = some (.int .i64 o.kind) ∧ w.cell? (a.add (i * 5 + 1)) = some (.int .i64 o.n) ∧ w.cell? (a.add (i * 5 + 2)) = some o.vb ∧
      w.cell? (a.add (i * 5 + 3)) = some (.bool o.torn) ∧ w.cell? (a.add (i * 5 + 4)) = some o.vf

/-- A new disk is a disk whatever is barred. -/
theorem DiskAt.empty {Z Z' : Zone} {w : World} {d : Nat} {D : DS} (h : DiskAt Z w d D) (h1 : D.log = []) (h2 : ∀ x, D.old x = none) (h3 : ∀ x, D.fresh x = none) (hS : ∀ k, Z.S k → Z'.S k) (ht : Z'.Top w) : DiskAt Z' w d D := by
  obtain ⟨p, o, f, lv, h⟩ := h
  have hm : ∀ b F, (∀ x, F x = none) → MapRows Z w b F → MapRows Z' w b F := by
    intro b F hF hm
    obtain ⟨V, g1, g2⟩ := hm
    refine ⟨V, g1, fun x => ?_⟩
    have g3 := g2 x
    cases hV : V x with
    | none => rw [hV] at g3; exact g3
    | some v => rw [hV] at g3; obtain ⟨L, hL, _⟩ := g3; rw [hF x] at hL; cases hL
  refine ⟨p, o, f, lv, h.sd, h.sp, ?_, hm _ _ h2 h.old, hm _ _ h3 h.fresh, hS _ h.bd, hS _ h.bp, hS _ h.bo, hS _ h.bf, ht, h.ne, h.ok⟩
  obtain ⟨A, c, hv, g1, g2, g3⟩ := h.log
  rw [h1] at hv g1 g3 ⊢
  exact ⟨A, c, hv, g1, g2, fun j u hu => by simp [bytes] at hu⟩
theorem RefAt.empty {Z Z' : Zone} {w : World} {r : Nat} {D : DS} (h : RefAt Z w r D) (h1 : D.log = []) (hS : ∀ k, Z.S k → Z'.S k) (ht : Z'.Top w) : RefAt Z' w r D := by
  obtain ⟨o, f, lv, h⟩ := h
  refine ⟨o, f, lv, h.sr, ?_, h.old, h.fresh, hS _ h.br, hS _ h.bo, hS _ h.bf, ht, h.ne, h.ok⟩
  obtain ⟨A, c, hv, g1, g2, g3⟩ := h.log
  rw [h1] at hv g1 g3 ⊢
  exact ⟨A, c, hv, g1, g2, fun j u hu => by simp [bytes] at hu⟩

/-- Four zones, apart. -/
structure Four (n0 : Nat) (A1 B1 A2 B2 : Zone) : Prop where
  ap1 : Apart A1 B1
  ap2 : Apart A2 B2
  tt : ∀ k, A1.T k ↔ A2.T k
  d12 : ∀ k, (A1.S k ∨ B1.S k) → ¬ (A2.S k ∨ B2.S k)
  past : ∀ k, A1.T k → n0 ≤ k

/-- Two pairs (or the second alone). -/
def St (good : Bool) (A1 B1 A2 B2 : Zone) (w : World) (d r c q : Nat) (wr : World) : Prop :=
  (good = true → ∃ D, DiskAt A1 wr d D ∧ RefAt B1 wr r D) ∧ (∃ D, DiskAt A2 wr c D ∧ RefAt B2 wr q D) ∧ Out Zone.no w wr

section
variable {good : Bool} {A1 B1 A2 B2 : Zone} {w wr : World} {d r c q : Nat}

theorem opf_row {Z : Zone} {v : Value} {xs : List Value} (h : Row Zone.no w v xs) (ho : Out Zone.no w wr) (hT : ∀ k, Z.T k → w.heap.size ≤ k) : Row Z wr v xs := h.ahead ho hT

theorem St.step1 (hF : Four w.heap.size A1 B1 A2 B2) (h : St true A1 B1 A2 B2 w d r c q wr) (o : OpF) (ho : OpFOk w o) :
    Calls Try.prog 26 #[.pointer (some ⟨d, 0, none⟩), .pointer (some ⟨r, 0, none⟩), .agg #[.int .i64 o.kind, .int .i64 o.n, o.vb, .bool o.torn, o.vf]] wr fun e w' => e = .returned (.bool true) ∧ St true A1 B1 A2 B2 w d r c q w' := by
  obtain ⟨h1, ⟨D2, h2a, h2b⟩, h3⟩ := h
  obtain ⟨D1, h1a, h1b⟩ := h1 rfl
  have hT : ∀ k, (tb A1 B1).T k → w.heap.size ≤ k := fun k hk => hF.past k (hk.elim id (fun hk => (hF.ap1.tt k).2 hk))
  refine (step_is h1a h1b hF.ap1 o.kind o.n ho.n o.vb o.b (ho.row.ahead h3 hT) ho.len o.torn o.vf o.f (ho.rof.ahead h3 hT) ho.lef ho.fb).mono ?_
  rintro e w' ⟨rfl, D', g1, g2, g3⟩
  refine ⟨rfl, fun _ => ⟨D', g1, g2⟩, ⟨D2, h2a.out g3 (fun k hk e => hF.d12 k e (Or.inl hk)) (fun k hk => (hF.tt k).1 (hk.elim (A1.sub k) (fun hk => (hF.ap1.tt k).2 (B1.sub k hk)))),
    h2b.out g3 (fun k hk e => hF.d12 k e (Or.inr hk)) (fun k hk => (hF.ap2.tt k).1 ((hF.tt k).1 (hk.elim (A1.sub k) (fun hk => (hF.ap1.tt k).2 (B1.sub k hk)))))⟩, ?_⟩
  exact h3.fresh g3 (fun k hk => hF.past k (hk.elim (A1.sub k) (fun hk => (hF.ap1.tt k).2 (B1.sub k hk))))

theorem St.step2 (hF : Four w.heap.size A1 B1 A2 B2) (h : St good A1 B1 A2 B2 w d r c q wr) (o : OpF) (ho : OpFOk w o) :
    Calls Try.prog 26 #[.pointer (some ⟨c, 0, none⟩), .pointer (some ⟨q, 0, none⟩), .agg #[.int .i64 o.kind, .int .i64 o.n, o.vb, .bool o.torn, o.vf]] wr fun e w' => e = .returned (.bool true) ∧ St good A1 B1 A2 B2 w d r c q w' := by
  obtain ⟨h1, ⟨D2, h2a, h2b⟩, h3⟩ := h
  have hT : ∀ k, (tb A2 B2).T k → w.heap.size ≤ k := fun k hk => hF.past k ((hF.tt k).2 (hk.elim id (fun hk => (hF.ap2.tt k).2 hk)))
  refine (step_is h2a h2b hF.ap2 o.kind o.n ho.n o.vb o.b (ho.row.ahead h3 hT) ho.len o.torn o.vf o.f (ho.rof.ahead h3 hT) ho.lef ho.fb).mono ?_
  rintro e w' ⟨rfl, D', g1, g2, g3⟩
  have hsT : ∀ k, (both A2 B2).S k → A2.T k := fun k hk => hk.elim (A2.sub k) (fun hk => (hF.ap2.tt k).2 (B2.sub k hk))
  refine ⟨rfl, fun hg => ?_, ⟨D', g1, g2⟩, ?_⟩
  · obtain ⟨D1, h1a, h1b⟩ := h1 hg
    exact ⟨D1, h1a.out g3 (fun k hk e => hF.d12 k (Or.inl hk) e) (fun k hk => (hF.tt k).2 (hsT k hk)), h1b.out g3 (fun k hk e => hF.d12 k (Or.inr hk) e) (fun k hk => (hF.ap1.tt k).1 ((hF.tt k).2 (hsT k hk)))⟩
  · exact h3.fresh g3 (fun k hk => hF.past k ((hF.tt k).2 (hsT k hk)))
theorem St.ahead (h : St good A1 B1 A2 B2 w d r c q wr) : Out Zone.no w wr := h.2.2

/-- An operation's cells in a later world. -/
theorem opf_cells {ls : List OpF} {A : Option Addr} {i : Nat} {o : OpF} (h3 : ∀ i o, ls[i]? = some o → OpFOk w o ∧
    ∃ a, A = some a ∧ w.cell? (a.add (i * 5)) = some (.int .i64 o.kind) ∧ w.cell? (a.add (i * 5 + 1)) = some (.int .i64 o.n) ∧ w.cell? (a.add (i * 5 + 2)) = some o.vb ∧
      w.cell? (a.add (i * 5 + 3)) = some (.bool o.torn) ∧ w.cell? (a.add (i * 5 + 4)) = some o.vf) (ho : ls[i]? = some o) (hout : Out Zone.no w wr) :
    OpFOk w o ∧ ∃ a, A = some a ∧ Exists fun X : Addr => a.add (i * 5) = X ∧ wr.cell? X = some (.int .i64 o.kind) ∧ wr.cell? ⟨X.block, X.off + 1, none⟩ = some (.int .i64 o.n) ∧ wr.cell? ⟨X.block, X.off + 2, none⟩ = some o.vb ∧
      wr.cell? ⟨X.block, X.off + 3, none⟩ = some (.bool o.torn) ∧ wr.cell? ⟨X.block, X.off + 4, none⟩ = some o.vf := by
  obtain ⟨h, a, rfl, q0, q1, q2, q3, q4⟩ := h3 i o ho
  refine ⟨h, a, rfl, a.add (i * 5), rfl, hout.cell q0 id, ?_, ?_, ?_, ?_⟩
  · rw [← addr_add_add] at q1; have := hout.cell q1 id; rwa [Addr.add, if_neg (by omega)] at this
  · rw [← addr_add_add] at q2; have := hout.cell q2 id; rwa [Addr.add, if_neg (by omega)] at this
  · rw [← addr_add_add] at q3; have := hout.cell q3 id; rwa [Addr.add, if_neg (by omega)] at this
  · rw [← addr_add_add] at q4; have := hout.cell q4 id; rwa [Addr.add, if_neg (by omega)] at this
end
end Go.Proofs.Ytddcojikbcbihaa
