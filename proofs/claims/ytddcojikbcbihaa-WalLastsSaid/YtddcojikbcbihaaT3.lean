import Derived.Test.YtddcojikbcbihaaT2
import Derived.Test.YtddcojikbcbihaaD14
import Derived.Test.YtddcojikbcbihaaD22
/-! What the law's loop keeps. -/
set_option linter.unusedVariables false
namespace Go.Proofs.Ytddcojikbcbihaa
open Go.RowKit

/-- The disk and its wal, the slices 'sure' and 'maybe' (they read as Sv and Mv), a block that is held. -/
structure LastIn (w : World) (d wb : Nat) (vs vm : Value) (S M Sv Mv : List (List UInt8)) (i : Nat) (X : Option (Nat × Obj)) (Z : Zone) (D : DS) (s : Int) (wr : World) : Prop where
  hT : ∀ k, Z.T k → w.heap.size ≤ k
  disk : DiskAt Z wr d D
  wal : WalAt wr wb d s
  wS : ¬ Z.S wb
  wT : Z.T wb
  inv : WalInv D S M i
  os : VOwns 9 w.heap.size wr vs (strs Sv)
  om : VOwns 9 w.heap.size wr vm (strs Mv)
  bs : ∀ g, vs.ownBlock = some g → Z.T g ∧ ¬ Z.S g ∧ g ≠ wb
  bm : ∀ g, vm.ownBlock = some g → Z.T g ∧ ¬ Z.S g ∧ g ≠ wb
  ne : ∀ g, vs.ownBlock = some g → vm.ownBlock ≠ some g
  out : Out Zone.no w wr
  held : ∀ g x, X = some (g, x) → wr.heap[g]? = some x ∧ ¬ Z.T g
def LastInv (w : World) (d wb : Nat) (vs vm : Value) (S M Sv Mv : List (List UInt8)) (i : Nat) (X : Option (Nat × Obj)) (wr : World) : Prop := ∃ Z D s, LastIn w d wb vs vm S M Sv Mv i X Z D s wr

section
variable {w wr : World} {d wb : Nat} {vs vm : Value} {S M Sv Mv : List (List UInt8)} {i : Nat} {X : Option (Nat × Obj)} {Z : Zone} {D : DS} {s : Int}

theorem LastIn.any (h : LastIn w d wb vs vm S M Sv Mv i X Z D s wr) {w' : World} (ho : Out Zone.no wr w') : LastIn w d wb vs vm S M Sv Mv i X Z D s w' :=
  ⟨h.hT, h.disk.any ho, h.wal.out ho id, h.wS, h.wT, h.inv, h.os.out ho, h.om.out ho, h.bs, h.bm, h.ne, h.out.trans ho, fun g x hx => ⟨ho.get (h.held g x hx).1 id, (h.held g x hx).2⟩⟩
theorem LastInv.any (h : LastInv w d wb vs vm S M Sv Mv i X wr) {w' : World} (ho : Out Zone.no wr w') : LastInv w d wb vs vm S M Sv Mv i X w' := by
  obtain ⟨Z, D, s, h⟩ := h
  exact ⟨Z, D, s, h.any ho⟩
theorem LastInv.out (h : LastInv w d wb vs vm S M Sv Mv i X wr) : Out Zone.no w wr := by
  obtain ⟨Z, D, s, h⟩ := h
  exact h.out
theorem LastInv.forget (h : LastInv w d wb vs vm S M Sv Mv i X wr) : LastInv w d wb vs vm S M Sv Mv i none wr := by
  obtain ⟨Z, D, s, h⟩ := h
  exact ⟨Z, D, s, h.hT, h.disk, h.wal, h.wS, h.wT, h.inv, h.os, h.om, h.bs, h.bm, h.ne, h.out, fun g x hx => by cases hx⟩
theorem LastInv.more (h : LastInv w d wb vs vm S M Sv Mv i X wr) : LastInv w d wb vs vm S M Sv Mv (i + 1) X wr := by
  obtain ⟨Z, D, s, h⟩ := h
  exact ⟨Z, D, s, h.hT, h.disk, h.wal, h.wS, h.wT, h.inv.more, h.os, h.om, h.bs, h.bm, h.ne, h.out, h.held⟩
theorem LastInv.got {g : Nat} {x : Obj} (h : LastInv w d wb vs vm S M Sv Mv i (some (g, x)) wr) : wr.heap[g]? = some x := by
  obtain ⟨Z, D, s, h⟩ := h
  exact (h.held _ _ rfl).1
theorem LastInv.made (h : LastInv w d wb vs vm S M Sv Mv i X wr) (x : Obj) : LastInv w d wb vs vm S M Sv Mv i (some (wr.heap.size, x)) (wr.alloc x) := by
  obtain ⟨Z, D, s, h⟩ := h
  have h' := h.any ((Out.refl Zone.no wr).alloc x)
  refine ⟨Z, D, s, h'.hT, h'.disk, h'.wal, h'.wS, h'.wT, h'.inv, h'.os, h'.om, h'.bs, h'.bm, h'.ne, h'.out, fun g y hy => ?_⟩
  injection hy with hy
  injection hy with hy1 hy2
  subst hy1 hy2
  exact ⟨heap_alloc_new wr x, h.disk.top.fresh (Nat.le_refl _)⟩

/-- A call on the wal or its disk. -/
theorem LastIn.step (h : LastIn w d wb vs vm S M Sv Mv i X Z D s wr) {w' : World} {D' : DS} {s' : Int} {S' M' : List (List UInt8)} {i' : Nat} (hd : DiskAt Z w' d D') (hw : WalAt w' wb d s') (ho : Out (Z.with_ wb) wr w') (hi : WalInv D' S' M' i') :
    LastIn w d wb vs vm S' M' Sv Mv i' X Z D' s' w' := by
  refine ⟨h.hT, hd, hw, h.wS, h.wT, hi, h.os.outZ ho ?_, h.om.outZ ho ?_, h.bs, h.bm, h.ne, h.out.fresh ho ?_, fun g x hx => ⟨ho.get (h.held g x hx).1 ?_, (h.held g x hx).2⟩⟩
  · rintro g hg (e | e)
    · exact (h.bs g hg).2.1 e
    · exact (h.bs g hg).2.2 e
  · rintro g hg (e | e)
    · exact (h.bm g hg).2.1 e
    · exact (h.bm g hg).2.2 e
  · rintro k (e | e)
    · exact h.hT k (Z.sub k e)
    · exact h.hT k (by rw [show k = wb from e]; exact h.wT)
  · rintro (e | e)
    · exact (h.held g x hx).2 (Z.sub g e)
    · exact (h.held g x hx).2 (by rw [show g = wb from e]; exact h.wT)

theorem LastInv.append (h : LastInv w d wb vs vm S M Sv Mv i X wr) (hi : i < 120) (sv : Value) (b : List UInt8) (hr : Row Zone.no w sv (bytes b)) (hb : b.length ≤ 1000) :
    Calls Try.prog 37 #[.pointer (some ⟨wb, 0, none⟩), sv] wr fun e w' => ∃ a g : Int, e = .returned (.tuple #[.int .i64 a, .int .i64 g]) ∧ 0 ≤ a ∧
      (g = 0 ∧ LastInv w d wb vs vm S (M ++ [b]) Sv Mv (i + 1) X w' ∨ g = 9 ∧ LastInv w d wb vs vm S M Sv Mv (i + 1) X w') := by
  obtain ⟨Z, D, s, h⟩ := h
  obtain ⟨h0, hor⟩ := h.inv.append hi b hb
  refine (wappend_is h.wal h.disk h.wS sv b (hr.out h.out) (by omega)).mono ?_
  rintro e w' ⟨rfl, hd, ho⟩
  have ho' : Out (Z.with_ wb) wr w' := ho.mono (fun k hk => Or.inl hk)
  refine ⟨_, _, rfl, h0, ?_⟩
  rcases hor with ⟨e0, hi'⟩ | ⟨e9, hi'⟩
  · exact Or.inl ⟨e0, Z, _, s, h.step hd (h.wal.out ho h.wS) ho' hi'⟩
  · exact Or.inr ⟨e9, Z, _, s, h.step hd (h.wal.out ho h.wS) ho' hi'⟩

theorem LastInv.sync (h : LastInv w d wb vs vm S M Sv Mv i X wr) :
    Calls Try.prog 38 #[.pointer (some ⟨wb, 0, none⟩)] wr fun e w' => ∃ g : Int, e = .returned (.int .i64 g) ∧
      (g = 0 ∧ LastInv w d wb vs vm (S ++ M) [] Sv Mv (i + 1) X w' ∨ g = 9 ∧ LastInv w d wb vs vm S M Sv Mv (i + 1) X w') := by
  obtain ⟨Z, D, s, h⟩ := h
  refine (wsync_is h.wal h.disk h.wS h.wT).mono ?_
  rintro e w' ⟨rfl, hd, hw, ho⟩
  refine ⟨_, rfl, ?_⟩
  rcases h.inv.sync with ⟨e0, hi'⟩ | ⟨e9, hi'⟩
  · exact Or.inl ⟨e0, Z, _, _, h.step hd hw ho hi'⟩
  · exact Or.inr ⟨e9, Z, _, _, h.step hd hw ho hi'⟩

theorem LastInv.fuse (h : LastInv w d wb vs vm S M Sv Mv i X wr) (k : Int) (hk : k ≤ 9223372036854775807) :
    Calls Try.prog 23 #[.pointer (some ⟨d, 0, none⟩), .int .i64 k] wr fun e w' => e = .returned (.tuple #[]) ∧ LastInv w d wb vs vm S M Sv Mv (i + 1) X w' := by
  obtain ⟨Z, D, s, h⟩ := h
  refine (fuse_is h.disk k hk).mono ?_
  rintro e w' ⟨rfl, hd, ho⟩
  exact ⟨rfl, Z, _, s, h.step hd (h.wal.out ho h.wS) (ho.mono (fun k hk => Or.inl hk)) (h.inv.fuse k)⟩

/-- The zone of one block, where there is one. -/
def Zone.opt (o : Option Nat) : Zone := ⟨fun k => o = some k, fun k => o = some k, fun _ h => h⟩

/-- 'maybe' grows. -/
theorem LastInv.push (h : LastInv w d wb vs vm S M Sv Mv i X wr) (sv : Value) (T : List (List UInt8)) (hr : Row Zone.no wr sv (strs T)) (hl : Mv.length + T.length ≤ 1000000) :
    ∃ v' w', (Builtin.append_ #[70, 70] 70 #[vm, sv]).run Try.prog wr = .ok v' w' ∧ LastInv w d wb vs v' S M Sv (Mv ++ T) i X w' := by
  obtain ⟨Z, D, s, h⟩ := h
  obtain ⟨v', w', hrun, hown, hg, hout, hat⟩ := sapp h.om h.out rfl hr hl
  have o2 : Out (Zone.opt vm.ownBlock) wr w' := (Out.refl _ wr).grown hg (fun k hk => Or.inl hk)
  have top := h.disk.top
  have hf : ∀ g, v'.ownBlock = some g → vm.ownBlock = some g ∨ g = wr.heap.size := fun g hg => by
    rcases hat with e | e
    · exact Or.inl (by rw [← e]; exact hg)
    · rw [hg] at e; injection e with e; exact Or.inr e
  have lts : ∀ g, vs.ownBlock = some g → g < wr.heap.size := fun g hg => (World.ownsRow.lt h.os g hg).2
  have hT : ∀ k, (Z.T k ∨ v'.ownBlock = some k) → k < wr.heap.size → Z.T k := by
    rintro k (hk | hk) hlt
    · exact hk
    · rcases hf k hk with hk | hk
      · exact (h.bm k hk).1
      · omega
  refine ⟨v', w', hrun, ⟨Z.S, fun k => Z.T k ∨ v'.ownBlock = some k, fun k hk => Or.inl (Z.sub k hk)⟩, D, s, ?_, ?_, ?_, h.wS, Or.inl h.wT, h.inv, ?_, hown, ?_, ?_, ?_, hout, ?_⟩
  · rintro k (hk | hk)
    · exact h.hT k hk
    · exact (World.ownsRow.lt hown k hk).1
  · exact h.disk.turn o2 (fun k hk e => (h.bm k e).2.1 hk) (fun k hk => Or.inl (h.bm k hk).1) (fun k hk => hk) hT (by
      rintro k (hk | hk)
      · exact Nat.lt_of_lt_of_le (top k hk) o2.size
      · exact (World.ownsRow.lt hown k hk).2)
  · exact h.wal.out o2 (fun e => (h.bm _ e).2.2 rfl)
  · exact h.os.outZ o2 (fun g hg => h.ne g hg)
  · intro g hg'
    exact ⟨Or.inl (h.bs g hg').1, (h.bs g hg').2⟩
  · intro g hg'
    refine ⟨Or.inr hg', ?_⟩
    rcases hf g hg' with e | e
    · exact (h.bm g e).2
    · refine ⟨fun hs => by have := top.lt hs; omega, fun e' => ?_⟩
      have := top wb h.wT
      omega
  · intro g hg' e
    rcases hf g e with e | e
    · exact h.ne g hg' e
    · have := lts g hg'; omega
  · intro g x hx
    obtain ⟨k1, k2⟩ := h.held g x hx
    refine ⟨o2.get k1 (fun e => k2 (h.bm g e).1), ?_⟩
    rintro (e | e)
    · exact k2 e
    · rcases hf g e with e | e
      · exact k2 (h.bm g e).1
      · have := heap_lt k1; omega

/-- 'sure' takes all of 'maybe'; 'maybe' is nil then. -/
theorem LastInv.merge (h : LastInv w d wb vs vm S M Sv Mv i X wr) (hl : Sv.length + Mv.length ≤ 1000000) :
    ∃ v' w', (Builtin.append_ #[70, 70] 70 #[vs, vm]).run Try.prog wr = .ok v' w' ∧ LastInv w d wb v' (.slice none 0 0) S M (Sv ++ Mv) [] i X w' := by
  obtain ⟨Z, D, s, h⟩ := h
  obtain ⟨v', w', hrun, hown, hg, hout, hat⟩ := sapp h.os h.out rfl h.om.row hl
  have o2 : Out (Zone.opt vs.ownBlock) wr w' := (Out.refl _ wr).grown hg (fun k hk => Or.inl hk)
  have top := h.disk.top
  have hf : ∀ g, v'.ownBlock = some g → vs.ownBlock = some g ∨ g = wr.heap.size := fun g hg => by
    rcases hat with e | e
    · exact Or.inl (by rw [← e]; exact hg)
    · rw [hg] at e; injection e with e; exact Or.inr e
  have hT : ∀ k, (Z.T k ∨ v'.ownBlock = some k) → k < wr.heap.size → Z.T k := by
    rintro k (hk | hk) hlt
    · exact hk
    · rcases hf k hk with hk | hk
      · exact (h.bs k hk).1
      · omega
  refine ⟨v', w', hrun, ⟨Z.S, fun k => Z.T k ∨ v'.ownBlock = some k, fun k hk => Or.inl (Z.sub k hk)⟩, D, s, ?_, ?_, ?_, h.wS, Or.inl h.wT, h.inv, hown, vowns_nil _ _ _, ?_, fun g hg => (by cases hg), fun g _ hg => (by cases hg), hout, ?_⟩
  · rintro k (hk | hk)
    · exact h.hT k hk
    · exact (World.ownsRow.lt hown k hk).1
  · exact h.disk.turn o2 (fun k hk e => (h.bs k e).2.1 hk) (fun k hk => Or.inl (h.bs k hk).1) (fun k hk => hk) hT (by
      rintro k (hk | hk)
      · exact Nat.lt_of_lt_of_le (top k hk) o2.size
      · exact (World.ownsRow.lt hown k hk).2)
  · exact h.wal.out o2 (fun e => (h.bs _ e).2.2 rfl)
  · intro g hg'
    refine ⟨Or.inr hg', ?_⟩
    rcases hf g hg' with e | e
    · exact (h.bs g e).2
    · refine ⟨fun hs => by have := top.lt hs; omega, fun e' => ?_⟩
      have := top wb h.wT
      omega
  · intro g x hx
    obtain ⟨k1, k2⟩ := h.held g x hx
    refine ⟨o2.get k1 (fun e => k2 (h.bs g e).1), ?_⟩
    rintro (e | e)
    · exact k2 e
    · rcases hf g e with e | e
      · exact k2 (h.bs g e).1
      · have := heap_lt k1; omega

/-- The power went; what is there then. -/
structure Fallen (w : World) (d : Nat) (vs vm : Value) (Sv Mv : List (List UInt8)) (Z : Zone) (E : DS) (wr : World) : Prop where
  hT : ∀ k, Z.T k → w.heap.size ≤ k
  disk : DiskAt Z wr d E
  os : VOwns 9 w.heap.size wr vs (strs Sv)
  om : VOwns 9 w.heap.size wr vm (strs Mv)
  bs : ∀ g, vs.ownBlock = some g → ¬ Z.S g
  bm : ∀ g, vm.ownBlock = some g → ¬ Z.S g
  out : Out Zone.no w wr

theorem LastInv.crash (h : LastInv w d wb vs vm S M Sv Mv i X wr) (keep : Int) (hk : -9223372036854775808 ≤ keep ∧ keep ≤ 9223372036854775807) (torn : Bool) :
    ∃ q, q ≤ M.length ∧ Calls Try.prog 17 #[.pointer (some ⟨d, 0, none⟩), .int .i64 keep, .bool torn, .slice none 0 0] wr fun e w' => e = .returned (.tuple #[]) ∧ ∃ Z E, Fallen w d vs vm Sv Mv Z E w' ∧ E.off = false ∧ E.left = -1 ∧ E.base = 0 ∧
      recs 0 E.log 0 = entsR 0 (S ++ M.take q) ∧ WalInv (E.opened (recEnd E.log).toNat) (S ++ M.take q) [] i := by
  obtain ⟨Z, D, s, h⟩ := h
  obtain ⟨q, hq, hr, hi⟩ := h.inv.life keep torn
  refine ⟨q, hq, (crash_is h.disk keep hk torn (.slice none 0 0) [] ⟨none, 0, rfl, Nat.zero_le _, Nat.zero_le _, by simp⟩ (by simp)).mono ?_⟩
  rintro e w' ⟨rfl, hd, ho⟩
  exact ⟨rfl, Z, _, ⟨h.hT, hd, h.os.outZ ho (fun g hg => (h.bs g hg).2.1), h.om.outZ ho (fun g hg => (h.bm g hg).2.1), fun g hg => (h.bs g hg).2.1, fun g hg => (h.bm g hg).2.1, h.out.fresh ho (fun k hk => h.hT k (Z.sub k hk))⟩, rfl, rfl, h.inv.base, hr, hi⟩

/-- A new life: the wal that was opened, 'sure' made anew. -/
theorem LastInv.anew {Z : Zone} {d wb' : Nat} {D' : DS} {s' : Int} {w w2 w3 : World} {A : List (List UInt8)} {i' : Nat} {v' : Value} (hT : ∀ k, Z.T k → w.heap.size ≤ k) (hd : DiskAt Z w2 d D') (hw : WalAt w2 wb' d s') (hS : ¬ Z.S wb') (hwT : Z.T wb')
    (hi : WalInv D' A [] i') (ho : Out Zone.no w2 w3) (hv : VOwns 9 w2.heap.size w3 v' (strs A)) (how : Out Zone.no w w2) : LastInv w d wb' v' (.slice none 0 0) A [] A [] i' none w3 := by
  have lt := World.ownsRow.lt hv
  have top := hd.top
  refine ⟨⟨Z.S, fun k => Z.T k ∨ v'.ownBlock = some k, fun k hk => Or.inl (Z.sub k hk)⟩, D', s', ?_, ?_, hw.out ho id, hS, Or.inl hwT, hi, ?_, vowns_nil _ _ _, ?_, fun g hg => (by cases hg), fun g _ hg => (by cases hg), how.trans ho, fun g x hx => (by cases hx)⟩
  · rintro k (hk | hk)
    · exact hT k hk
    · have := (lt k hk).1; have := how.size; omega
  · exact hd.wide ho (fun k hk => hk) (by
      rintro k (hk | hk) hlt
      · exact hk
      · have := (lt k hk).1; omega) (by
      rintro k (hk | hk)
      · exact Nat.lt_of_lt_of_le (top k hk) ho.size
      · exact (lt k hk).2)
  · obtain ⟨h1, h2⟩ := hv
    refine ⟨h1, ?_⟩
    rcases h2 with h2 | ⟨g, cap, cur, e, hg, hh, hr⟩
    · exact Or.inl h2
    · exact Or.inr ⟨g, cap, cur, e, Nat.le_trans how.size hg, hh, hr⟩
  · intro g hg
    have := (lt g hg).1
    exact ⟨Or.inr hg, fun e => by have := top.lt e; omega, fun e => by have := top wb' hwT; omega⟩
end
end Go.Proofs.Ytddcojikbcbihaa
