import Derived.Test.YtlgoenimjmiapaaT21
import Derived.ScopeJumps
import Derived.WalkMore
set_option linter.unusedSimpArgs false
set_option linter.unusedVariables false
set_option linter.unusedSectionVars false
/-! A scope with two labels; within shipped. -/
namespace Go.Proofs.Ytlgoenimjmiapaa
open Go.RowKit Go.Maps

/-- As Q; by a goto to label 0: J0; to label 1: J1; by any other: no way out. -/
def ExitTwo (J0 J1 : Act → World → Prop) (Q : Exit → Act → World → Prop) : Exit → Act → World → Prop
  | .goto l, a, w => (l = 0 ∧ J0 a w) ∨ (l = 1 ∧ J1 a w)
  | e, a, w => Q e a w
section
variable {P : Program} {a : Act} {w : World} {Q : Exit → Act → World → Prop} {J0 J1 : Act → World → Prop}
theorem ExitTwo.mono {J0' J1' : Act → World → Prop} (h0 : ∀ a w, J0 a w → J0' a w) (h1 : ∀ a w, J1 a w → J1' a w) (e : Exit) (a : Act) (w : World) (h : ExitTwo J0 J1 Q e a w) : ExitTwo J0' J1' Q e a w := by
  cases e with
  | goto l => exact h.elim (fun h => Or.inl ⟨h.1, h0 _ _ h.2⟩) (fun h => Or.inr ⟨h.1, h1 _ _ h.2⟩)
  | normal => exact h
  | exit id => exact h
  | ret => exact h
  | panic ch => exact h
  | outgrown => exact h
/-- A scope whose run jumps to two labels: 1 is a loop's head, behind 0 there is no jump any more. -/
theorem wp_scope_two {c r0 r1 : Code} (J0 J1 : Act → World → Prop) (μ : Act → World → Nat) (h0 : findLabel c 0 = some r0) (h1 : findLabel c 1 = some (Code.seq .skip r1))
    (pass0 : ∀ a w, J0 a w → r0.wp P (ExitTwo (fun _ _ => False) (fun _ _ => False) Q) a w)
    (passr : ∀ a w, J1 a w → r1.wp P (ExitTwo J0 (fun a' w' => J1 a' w' ∧ μ a' w' < μ a w) Q) a w)
    (first : (∀ a w, J1 a w → r1.wp P (ExitTwo J0 J1 Q) a w) → c.wp P (ExitTwo J0 J1 Q) a w) : (Code.scope c).wp P Q a w := by
  have pass1 : ∀ a w, J1 a w → (Code.seq .skip r1).wp P (ExitTwo J0 (fun a' w' => J1 a' w' ∧ μ a' w' < μ a w) Q) a w := fun a w h => wp_seq (wp_skip (passr a w h))
  intro b k cs
  have g0 : gotoIn 0 (.inScope c :: k) = some (.code r0 :: .inScope c :: k) := by simp [gotoIn, h0]
  have g1 : gotoIn 1 (.inScope c :: k) = some (.code (Code.seq .skip r1) :: .inScope c :: k) := by simp [gotoIn, h1]
  have key0 : ∀ a w, J0 a w → ∃ e a' w', Q e a' w' ∧ Arrives P (lone (b.at a (.code r0 :: .inScope c :: k)) cs w) b k cs e a' w' := by
    intro a w hJ
    obtain ⟨e, a₁, w₁, hq, harr⟩ := pass0 a w hJ b (.inScope c :: k) cs
    cases e with
    | normal => exact ⟨.normal, a₁, w₁, hq, Steps.trans harr (.one step_inScope)⟩
    | exit id => exact ⟨.exit id, a₁, w₁, hq, fun k' hk => harr k' (by simp [exitTo, hk])⟩
    | goto l' => exact hq.elim (fun h => h.2.elim) (fun h => h.2.elim)
    | ret => exact ⟨_, a₁, w₁, hq, harr⟩
    | panic ch => exact ⟨_, a₁, w₁, hq, harr⟩
    | outgrown => exact ⟨_, a₁, w₁, hq, harr⟩
  have key : ∀ n a w, μ a w = n → J1 a w → ∃ e a' w', Q e a' w' ∧ Arrives P (lone (b.at a (.code (Code.seq .skip r1) :: .inScope c :: k)) cs w) b k cs e a' w' := by
    intro n
    induction n using Nat.strongRecOn with
    | _ n ih =>
      intro a w hn hJ
      obtain ⟨e, a₁, w₁, hq, harr⟩ := pass1 a w hJ b (.inScope c :: k) cs
      cases e with
      | normal => exact ⟨.normal, a₁, w₁, hq, Steps.trans harr (.one step_inScope)⟩
      | exit id => exact ⟨.exit id, a₁, w₁, hq, fun k' hk => harr k' (by simp [exitTo, hk])⟩
      | goto l' =>
        rcases hq with ⟨rfl, hJ'⟩ | ⟨rfl, hJ', hlt⟩
        · obtain ⟨e₂, a₂, w₂, hq₂, harr₂⟩ := key0 a₁ w₁ hJ'
          exact ⟨e₂, a₂, w₂, hq₂, .of_steps (harr _ g0) harr₂⟩
        · obtain ⟨e₂, a₂, w₂, hq₂, harr₂⟩ := ih _ (by omega) a₁ w₁ rfl hJ'
          exact ⟨e₂, a₂, w₂, hq₂, .of_steps (harr _ g1) harr₂⟩
      | ret => exact ⟨_, a₁, w₁, hq, harr⟩
      | panic ch => exact ⟨_, a₁, w₁, hq, harr⟩
      | outgrown => exact ⟨_, a₁, w₁, hq, harr⟩
  obtain ⟨e, a₁, w₁, hq, harr⟩ := first (fun a w hJ => wp_mono (passr a w hJ) (ExitTwo.mono (fun _ _ h => h) (fun _ _ h => h.1))) b (.inScope c :: k) cs
  cases e with
  | normal => exact ⟨.normal, a₁, w₁, hq, .head step_scope (Steps.trans harr (.one step_inScope))⟩
  | exit id => exact ⟨.exit id, a₁, w₁, hq, fun k' hk => .head step_scope (harr k' (by simp [exitTo, hk]))⟩
  | goto l' =>
    rcases hq with ⟨rfl, hJ'⟩ | ⟨rfl, hJ'⟩
    · obtain ⟨e₂, a₂, w₂, hq₂, harr₂⟩ := key0 a₁ w₁ hJ'
      exact ⟨e₂, a₂, w₂, hq₂, .of_steps (.head step_scope (harr _ g0)) harr₂⟩
    · obtain ⟨e₂, a₂, w₂, hq₂, harr₂⟩ := key _ a₁ w₁ rfl hJ'
      exact ⟨e₂, a₂, w₂, hq₂, .of_steps (.head step_scope (harr _ g1)) harr₂⟩
  | ret => exact ⟨_, a₁, w₁, hq, .of_steps (.one step_scope) harr⟩
  | panic ch => exact ⟨_, a₁, w₁, hq, .of_steps (.one step_scope) harr⟩
  | outgrown => exact ⟨_, a₁, w₁, hq, .of_steps (.one step_scope) harr⟩
end

section
variable [Far] {w w' : World} {x : Nat} {c c' : NS} {V : NV} {m : Msg} {v : Value} {B : Nat}
/-- Within shipped. -/
def ShipAt (w : World) (x : Nat) (V : NV) (c : NS) (m : Msg) (v : Value) (B : Nat) (W : World) : Prop :=
  ∃ V', (NAt W x c V' ∧ Next (V.own x) w (V'.own x) W) ∧ (W.heap[B]? = some (.cells (m.cells v).toArray 36 (0, 0)) ∧ ¬ V'.own x B ∧ w.heap.size ≤ B) ∧ RRow (V'.own x) W v m.log.length 2 (encL m.log)
theorem ShipAt.any {W W' : World} (h : ShipAt w x V c m v B W) (ho : Out Zone.no W W') : ShipAt w x V c m v B W' := by
  obtain ⟨V', ⟨h1, h2⟩, ⟨h5, h6, h7⟩, h8⟩ := h
  exact ⟨V', ⟨h1.any ho, h2.trans (Next.of_out ho)⟩, ⟨ho.get h5 id, h6, h7⟩, h8.any ho⟩
theorem ShipAt.gone {W W' : World} {V' : NV} (h1 : NAt W x c V') (h2 : Next (V.own x) w (V'.own x) W) (h5 : W.heap[B]? = some (.cells (m.cells v).toArray 36 (0, 0)) ∧ ¬ V'.own x B ∧ w.heap.size ≤ B)
    (h8 : RRow (V'.own x) W v m.log.length 2 (encL m.log)) (hg : Gone W x V' c' W') : ShipAt w x V c' m v B W' := by
  obtain ⟨V2, k1, k2⟩ := hg
  refine ⟨V2, ⟨k1, h2.trans k2⟩, ⟨(k2.out.block B (heap_lt h5.1) h5.2.1).trans h5.1, fun e => ?_, h5.2.2⟩, ?_⟩
  · rcases k2.sub B e with e | e
    · exact h5.2.1 e
    · have := heap_lt h5.1; omega
  · exact h8.next k2.out (fun k hk _ => hk) (fun k hk hlt => by
      rcases k2.sub k hk with e | e
      · exact e
      · omega)
theorem ShipAt.step {W : World} (h : ShipAt w x V c m v B W) {f : FuncId} {args : Array Value} {u : Value} (hc : ∀ V', NAt W x c V' → Calls Try.prog f args W fun e w' => e = .returned u ∧ Gone W x V' c' w') :
    Calls Try.prog f args W fun e w' => e = .returned u ∧ ShipAt w x V c' m v B w' := by
  obtain ⟨V', ⟨h1, h2⟩, h5, h8⟩ := h
  refine (hc V' h1).mono ?_
  rintro e w' ⟨rfl, hg⟩
  exact ⟨rfl, ShipAt.gone h1 h2 h5 h8 hg⟩
theorem ShipAt.start (h : NAt w x c V) (hr : RRow (V.own x) w v m.log.length 2 (encL m.log)) : ShipAt w x V c m v w.heap.size (w.alloc (.cells (m.cells v).toArray 36)) := by
  have o1 := (Out.refl Zone.no w).alloc (.cells (m.cells v).toArray 36)
  exact ⟨V, ⟨h.any o1, Next.of_out o1⟩, ⟨heap_alloc_new w _, fun e => Nat.lt_irrefl _ (own_lt h e), Nat.le_refl _⟩, hr.any o1⟩
theorem ShipAt.box {W : World} (h : ShipAt w x V c m v B W) (i : Nat) : W.cell? ⟨B, i, none⟩ = (m.cells v)[i]? := by
  obtain ⟨V', _, ⟨h5, _⟩, _⟩ := h
  rw [cells_all h5]
  simp
theorem ShipAt.node {W : World} (h : ShipAt w x V c m v B W) : W.cell? ⟨x, 5, none⟩ = some (.int .i64 c.q.role) ∧ W.frozen? ⟨x, 5, none⟩ = false ∧ W.cell? ⟨x, 6, none⟩ = some (.int .i64 (c.q.commit : Int)) ∧ W.frozen? ⟨x, 6, none⟩ = false ∧ ∃ A cc, W.cell? ⟨x, 2, none⟩ = some (.slice A c.q.st.log.length cc) := by
  obtain ⟨V', ⟨⟨ss, _, k⟩, _⟩, _⟩ := h
  obtain ⟨A, cc, hlv⟩ := GRow.form k.log
  exact ⟨k.c5, frozen_all k.blk 5, k.c6, frozen_all k.blk 6, A, cc, by rw [k.blk.c2, hlv]⟩
/-- An entry of the node's own log. -/
theorem ShipAt.entry {W : World} (h : ShipAt w x V c m v B W) {k : Nat} {y : Ent} (hy : c.q.st.log[k]? = some y) : ∃ g cc, W.cell? ⟨x, 2, none⟩ = some (.slice (some ⟨g, 0, none⟩) c.q.st.log.length cc) ∧ W.cell? ⟨g, k * 2, none⟩ = some (.int .i64 y.ep) := by
  obtain ⟨V', ⟨⟨ss, _, e2⟩, _⟩, _⟩ := h
  obtain ⟨g, cc, hv, hc⟩ := GRow.cell e2.log (encL_at hy).1
  exact ⟨g, cc, by rw [e2.blk.c2, hv], hc⟩
/-- An entry of the message. -/
theorem ShipAt.given {W : World} {A : Option Addr} {n cc : Nat} (h : ShipAt w x V c m (.slice A n cc) B W) {k : Nat} {y : Ent} (hy : m.log[k]? = some y) : ∃ b o, A = some ⟨b, o, none⟩ ∧ W.cell? ⟨b, o + k * 2, none⟩ = some (.int .i64 y.ep) ∧ W.cell? ⟨b, o + k * 2 + 1, none⟩ = some (.string (str y.data)) := by
  obtain ⟨V', _, _, _, A', cc', hv, _, _, hc⟩ := h
  injection hv with hv _ _
  subst hv
  obtain ⟨e1, e2⟩ := encL_at hy
  obtain ⟨b, o, hA, _, h1⟩ := hc _ _ e1
  obtain ⟨b', o', hA', _, h2⟩ := hc _ _ e2
  rw [hA] at hA'
  obtain ⟨rfl, rfl⟩ : b = b' ∧ o = o' := by injection hA' with h; injection h with h1 h2; exact ⟨h1, h2⟩
  exact ⟨b, o, hA, h1, by rw [Nat.add_assoc]; exact h2⟩
theorem ShipAt.role {W : World} (h : ShipAt w x V c m v B W) (r : Int) : ShipAt w x V { c with q := { c.q with role := r } } m v B (W.setCell ⟨x, 5, none⟩ (.int .i64 r)) := by
  obtain ⟨V', ⟨h1, h2⟩, h5, h8⟩ := h
  have := h1.role r
  exact ShipAt.gone h1 h2 h5 h8 ⟨V', this.1, this.2⟩
end
end Go.Proofs.Ytlgoenimjmiapaa
