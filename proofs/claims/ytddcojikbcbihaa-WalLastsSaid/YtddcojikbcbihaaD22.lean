import Derived.Test.YtddcojikbcbihaaD15
import Derived.Test.YtddcojikbcbihaaD21
/-! What the loop of the law DiskSure keeps. -/
set_option linter.unusedVariables false
namespace Go.Proofs.Ytddcojikbcbihaa
open Go.RowKit

/-- A row that was there ahead of all, in whatever zone behind. -/
theorem Row.ahead {Z : Zone} {w w1 : World} {v : Value} {xs : List Value} (h : Row Zone.no w v xs) (ho : Out Zone.no w w1) (hT : ∀ k, Z.T k → w.heap.size ≤ k) : Row Z w1 v xs :=
  (h.wide (fun k hk hl => by have := hT k hk; omega)).far ho (fun _ h => h.elim)

theorem MapRows.turn {Z Z' Z2 : Zone} {w w' : World} {b : Nat} {F : Int → Option (List UInt8)} (h : MapRows Z w b F) (ho : Out Z2 w w') (hb : b < w.heap.size) (hd : ¬ Z2.S b) (hs : ∀ k, Z2.S k → Z'.T k) (hT : ∀ k, Z'.T k → k < w.heap.size → Z.T k) : MapRows Z' w' b F :=
  (h.wide hT).out ho hs (ho.block b hb hd)

/-- A disk behind a change elsewhere, in a wider zone. -/
theorem DiskAt.turn {Z Z' Z2 : Zone} {d : Nat} {w w' : World} {D : DS} (h : DiskAt Z w d D) (ho : Out Z2 w w') (hd : ∀ k, Z.S k → ¬ Z2.S k) (hs : ∀ k, Z2.S k → Z'.T k) (hS : ∀ k, Z.S k → Z'.S k)
    (hT : ∀ k, Z'.T k → k < w.heap.size → Z.T k) (ht : Z'.Top w') : DiskAt Z' w' d D := by
  obtain ⟨p, o, f, lv, h⟩ := h
  exact ⟨p, o, f, lv, (ho.block d (h.top.lt h.bd) (hd d h.bd)).trans h.sd, (ho.block p (h.top.lt h.bp) (hd p h.bp)).trans h.sp, (h.log.wide hT).far ho hs,
    h.old.turn ho (h.top.lt h.bo) (hd o h.bo) hs hT, h.fresh.turn ho (h.top.lt h.bf) (hd f h.bf) hs hT, hS _ h.bd, hS _ h.bp, hS _ h.bo, hS _ h.bf, ht, h.ne, h.ok⟩

/-- What the loop keeps: the disk, the block, the slice 'more'. -/
def SureInv (w : World) (d : Nat) (vb : Value) (a B : List UInt8) (S0 : Nat → Prop) (Md Mo : List UInt8) (vm : Value) (X : Option (Nat × Obj)) (wr : World) : Prop :=
  ∃ (Z : Zone) (D : DS), Z.S = S0 ∧ (∀ k, Z.T k → w.heap.size ≤ k) ∧ DiskAt Z wr d D ∧ SureAt a B Md D ∧ Row Z wr vb (bytes B) ∧ Owns w.heap.size wr vm Mo ∧ (∀ g, vm.ownBlock = some g → Z.T g ∧ ¬ Z.S g) ∧ Out Zone.no w wr ∧ ∀ g x, X = some (g, x) → wr.heap[g]? = some x ∧ ¬ Z.T g

section
variable {w wr : World} {d : Nat} {vb vm : Value} {a B Md Mo : List UInt8} {S0 : Nat → Prop} {X : Option (Nat × Obj)}

theorem SureInv.out (h : SureInv w d vb a B S0 Md Mo vm X wr) {w' : World} (ho : Out Zone.no wr w') : SureInv w d vb a B S0 Md Mo vm X w' := by
  obtain ⟨Z, D, h1, h2, h3, h4, h5, h6, h7, h8, h9⟩ := h
  exact ⟨Z, D, h1, h2, h3.any ho, h4, h5.far ho (fun _ h => h.elim), h6.out ho (fun g _ h => h), h7, h8.trans ho, fun g x hx => ⟨ho.get (h9 g x hx).1 id, (h9 g x hx).2⟩⟩

theorem SureInv.ahead (h : SureInv w d vb a B S0 Md Mo vm X wr) : Out Zone.no w wr := by
  obtain ⟨Z, D, h1, h2, h3, h4, h5, h6, h7, h8, h9⟩ := h
  exact h8

/-- Append. -/
theorem SureInv.append (h : SureInv w d vb a B S0 Md Mo vm X wr) (s : Value) (b : List UInt8) (hs : Row Zone.no w s (bytes b)) (hb : b.length ≤ 140737488355328) :
    Calls Try.prog 13 #[.pointer (some ⟨d, 0, none⟩), s] wr fun e w' => ∃ x g : Int, e = .returned (.tuple #[.int .i64 x, .int .i64 g]) ∧
      ((g = 0 ∧ SureInv w d vb a B S0 (Md ++ b) Mo vm X w') ∨ (g ≠ 0 ∧ SureInv w d vb a B S0 Md Mo vm X w')) := by
  obtain ⟨Z, D, h1, h2, h3, h4, h5, h6, h7, h8, h9⟩ := h
  refine (append_is h3 s b (hs.ahead h8 h2) hb).mono ?_
  rintro e w' ⟨rfl, hd, ho⟩
  refine ⟨_, _, rfl, ?_⟩
  have hr := h5.out ho
  have how := h6.out ho (fun g hg => (h7 g hg).2)
  have hall := h8.fresh ho (fun k hk => h2 k (Z.sub k hk))
  have hx := fun g x hx => (show w'.heap[g]? = some x ∧ ¬ Z.T g from ⟨ho.get (h9 g x hx).1 (fun e => (h9 g x hx).2 (Z.sub g e)), (h9 g x hx).2⟩)
  rcases h4.append b with ⟨e1, e2⟩ | ⟨e1, e2⟩
  · exact Or.inl ⟨e1, Z, _, h1, h2, hd, e2, hr, how, h7, hall, hx⟩
  · exact Or.inr ⟨e1, Z, _, h1, h2, hd, e2, hr, how, h7, hall, hx⟩

/-- Write, but for page 7. -/
theorem SureInv.write (h : SureInv w d vb a B S0 Md Mo vm X wr) (q : Int) (hq : q ≠ 7) (s : Value) (b : List UInt8) (hs : ∀ Z : Zone, (∀ k, Z.T k → w.heap.size ≤ k) → Z.Top wr → Row Z wr s (bytes b)) :
    Calls Try.prog 22 #[.pointer (some ⟨d, 0, none⟩), .int .i64 q, s] wr fun e w' => ∃ g : Int, e = .returned (.int .i64 g) ∧ SureInv w d vb a B S0 Md Mo vm X w' := by
  obtain ⟨Z, D, h1, h2, h3, h4, h5, h6, h7, h8, h9⟩ := h
  refine (write_is h3 q s b (hs Z h2 h3.top)).mono ?_
  rintro e w' ⟨rfl, hd, ho⟩
  exact ⟨_, rfl, Z, _, h1, h2, hd, h4.write q hq b, h5.out ho, h6.out ho (fun g hg => (h7 g hg).2), h7, h8.fresh ho (fun k hk => h2 k (Z.sub k hk)), fun g x hx => ⟨ho.get (h9 g x hx).1 (fun e => (h9 g x hx).2 (Z.sub g e)), (h9 g x hx).2⟩⟩

/-- Fuse. -/
theorem SureInv.fuse (h : SureInv w d vb a B S0 Md Mo vm X wr) (k : Int) (hk : k ≤ 9223372036854775807) :
    Calls Try.prog 23 #[.pointer (some ⟨d, 0, none⟩), .int .i64 k] wr fun e w' => e = .returned (.tuple #[]) ∧ SureInv w d vb a B S0 Md Mo vm X w' := by
  obtain ⟨Z, D, h1, h2, h3, h4, h5, h6, h7, h8, h9⟩ := h
  refine (fuse_is h3 k hk).mono ?_
  rintro e w' ⟨rfl, hd, ho⟩
  exact ⟨rfl, Z, _, h1, h2, hd, h4.fuse k, h5.out ho, h6.out ho (fun g hg => (h7 g hg).2), h7, h8.fresh ho (fun k hk => h2 k (Z.sub k hk)), fun g x hx => ⟨ho.get (h9 g x hx).1 (fun e => (h9 g x hx).2 (Z.sub g e)), (h9 g x hx).2⟩⟩

/-- more grows. -/
theorem SureInv.more (h : SureInv w d vb a B S0 Md Mo vm X wr) (s : Value) (b : List UInt8) (hs : Row Zone.no w s (bytes b)) (hl : Mo.length + b.length ≤ 10000000) (ty : TypeId) :
    ∃ v' w', (Builtin.append_ #[22, 22] ty #[vm, s]).run Try.prog wr = .ok v' w' ∧ SureInv w d vb a B S0 Md (Mo ++ b) v' X w' := by
  obtain ⟨Z, D, h1, h2, h3, h4, h5, h6, h7, h8, h9⟩ := h
  obtain ⟨v', w', hrun, ho, hg, hf⟩ := h6.append h8.size (hs.ahead (Z := Zone.no) h8 (fun _ h => h.elim)) (by omega) ty
  have hZ2 : ∃ Z2 : Zone, Z2 = ⟨fun k => vm.ownBlock = some k, fun k => vm.ownBlock = some k, fun _ h => h⟩ := ⟨_, rfl⟩
  obtain ⟨Z2, hZ2⟩ := hZ2
  have o2 : Out Z2 wr w' := (Out.refl Z2 wr).grown hg (fun k hk => Or.inl (by rw [hZ2]; exact hk))
  have s2 : ∀ k, Z2.S k → vm.ownBlock = some k := by rw [hZ2]; exact fun k hk => hk
  have top := h3.top
  have hT : ∀ k, (Z.T k ∨ v'.ownBlock = some k) → k < wr.heap.size → Z.T k := by
    rintro k (hk | hk) hlt
    · exact hk
    · rcases hf k hk with hk | hk
      · exact (h7 k hk).1
      · omega
  have ht : ∀ k, (Z.T k ∨ v'.ownBlock = some k) → k < w'.heap.size := by
    rintro k (hk | hk)
    · exact Nat.lt_of_lt_of_le (top k hk) o2.size
    · exact (ho.lt k hk).2
  refine ⟨v', w', hrun, ⟨Z.S, fun k => Z.T k ∨ v'.ownBlock = some k, fun k hk => Or.inl (Z.sub k hk)⟩, D, h1, ?_, ?_, h4, ?_, ho, ?_, ?_, ?_⟩
  · rintro k (hk | hk)
    · exact h2 k hk
    · exact (ho.lt k hk).1
  · exact h3.turn o2 (fun k hk e => (h7 k (s2 k e)).2 hk) (fun k hk => Or.inl (h7 k (s2 k hk)).1) (fun k hk => hk) hT ht
  · exact (h5.wide hT).far o2 (fun k hk => Or.inl (h7 k (s2 k hk)).1)
  · intro g hg'
    refine ⟨Or.inr hg', fun e => ?_⟩
    rcases hf g hg' with hk | hk
    · exact (h7 g hk).2 e
    · have := top.lt e; omega
  · exact h8.fresh o2 (fun k hk => h2 k (h7 k (s2 k hk)).1)
  · intro g x hx
    obtain ⟨k1, k2⟩ := h9 g x hx
    refine ⟨o2.get k1 (fun e => k2 (h7 g (s2 g e)).1), ?_⟩
    rintro (e | e)
    · exact k2 e
    · rcases hf g e with e | e
      · exact k2 (h7 g e).1
      · have := heap_lt k1; omega

theorem SureInv.forget (h : SureInv w d vb a B S0 Md Mo vm X wr) : SureInv w d vb a B S0 Md Mo vm none wr := by
  obtain ⟨Z, D, h1, h2, h3, h4, h5, h6, h7, h8, h9⟩ := h
  exact ⟨Z, D, h1, h2, h3, h4, h5, h6, h7, h8, fun g x hx => by cases hx⟩

/-- A new block that the law will read again. -/
theorem SureInv.made (h : SureInv w d vb a B S0 Md Mo vm X wr) (x : Obj) : SureInv w d vb a B S0 Md Mo vm (some (wr.heap.size, x)) (wr.alloc x) := by
  obtain ⟨Z, D, h1, h2, h3, h4, h5, h6, h7, h8, h9⟩ := h.out ((Out.refl Zone.no wr).alloc x)
  obtain ⟨Z', D', g1, g2, g3, g4, g5, g6, g7, g8, g9⟩ := h
  have o1 := (Out.refl Zone.no wr).alloc x
  refine ⟨Z', D', g1, g2, g3.any o1, g4, g5.far o1 (fun _ h => h.elim), g6.out o1 (fun g _ h => h), g7, g8.trans o1, fun g y hy => ?_⟩
  injection hy with hy
  injection hy with hy1 hy2
  subst hy1
  subst hy2
  refine ⟨?_, g3.top.fresh (Nat.le_refl _)⟩
  exact heap_alloc_new wr x

theorem SureInv.held {g : Nat} {x : Obj} (h : SureInv w d vb a B S0 Md Mo vm (some (g, x)) wr) : wr.heap[g]? = some x := by
  obtain ⟨Z, D, h1, h2, h3, h4, h5, h6, h7, h8, h9⟩ := h
  exact (h9 g x rfl).1

/-- A block, and its write (but to page 7). -/
theorem SureInv.blockWrite (h : SureInv w d vb a B S0 Md Mo vm X wr) (k n v : Value) (b : List UInt8) (hv : Row Zone.no w v (bytes b)) (torn : Bool) (f : Value) (q : Int) (hq : q ≠ 7) (m : Nat) :
    Calls Try.prog 21 #[.agg #[k, n, v, .bool torn, f]] (wr.drewN m) fun e w' => ∃ v', e = .returned v' ∧ Out Zone.no wr w' ∧
      ∀ n, Calls Try.prog 22 #[.pointer (some ⟨d, 0, none⟩), .int .i64 q, v'] (w'.drewN n) fun e w'' => ∃ g : Int, e = .returned (.int .i64 g) ∧ SureInv w d vb a B S0 Md Mo vm X w'' := by
  have h' := h.out ((Out.refl Zone.no wr).drewN m)
  obtain ⟨Z, D, h1, h2, h3, h4, h5, h6, h7, h8, h9⟩ := id h'
  refine (block_is (Z := Z) k n v b (hv.ahead h8 h2) h3.top torn f).mono ?_
  rintro e w' ⟨v', rfl, hr, ho⟩
  refine ⟨v', rfl, ho.undrewN, fun n => ?_⟩
  have o1 : Out Zone.no (wr.drewN m) (w'.drewN n) := ho.drewN n
  refine (write_is (h3.any o1) q v' _ (hr.drewN n)).mono ?_
  rintro e w'' ⟨rfl, hd, ho2⟩
  have h5' := h5.far o1 (fun _ h => h.elim)
  have h6' := h6.out o1 (fun g _ h => h)
  have h9' := fun g x hx => (show (w'.drewN n).heap[g]? = some x ∧ ¬ Z.T g from ⟨o1.get (h9 g x hx).1 id, (h9 g x hx).2⟩)
  exact ⟨_, rfl, Z, _, h1, h2, hd, h4.write q hq _, h5'.out ho2, h6'.out ho2 (fun g hg => (h7 g hg).2), h7, (h8.trans o1).fresh ho2 (fun k hk => h2 k (Z.sub k hk)),
    fun g x hx => ⟨ho2.get (h9' g x hx).1 (fun e => (h9' g x hx).2 (Z.sub g e)), (h9' g x hx).2⟩⟩
end
end Go.Proofs.Ytddcojikbcbihaa
