import Derived.Test.YtddcojikbcbihaaS4
import Derived.Test.YtddcojikbcbihaaI2
/-! The document's Scan. -/
set_option linter.unusedVariables false
namespace Go.Proofs.Ytddcojikbcbihaa
open Go.RowKit

theorem info107 : (Try.prog.info? 107).map (fun i => (i.zero, i.size, i.bytes)) = some (some (.agg #[.int .i64 0, .slice none 0 0]), 2, 32) := by kernel_rfl
def OwnsF (b : Nat) (w : World) (v : Value) (xs : List Ent) : Prop := w.ownsRow b 107 2 v xs.length (cellsE xs)
theorem ownsF_push {b : Nat} {W : World} {v : Value} {xs : List Ent} (h : OwnsF b W v xs) (hb : b ≤ W.heap.size) (x : Ent) (hl : xs.length ≤ 1000000000) :
    ∃ v' w1, (Builtin.append_ #[59, 59] 59 #[v, .slice (some ⟨W.heap.size, 0, none⟩) 1 1]).run Try.prog (W.alloc (.cells #[.int .i64 x.at_, .slice x.A x.m x.c] 107)) = .ok v' w1 ∧
      OwnsF b w1 v' (xs ++ [x]) ∧ (W.alloc (.cells #[.int .i64 x.at_, .slice x.A x.m x.c] 107)).grownBy w1 v.ownBlock := by
  obtain ⟨i0, hi, hz0, hz1, hz2⟩ := info_parts info107
  have hc : ∀ j u, x.cells[j]? = some u → (W.alloc (.cells #[.int .i64 x.at_, .slice x.A x.m x.c] 107)).cell? ((⟨W.heap.size, 0, none⟩ : Addr).add j) = some u := by
    intro j u hu
    rw [addr0_add, cells_all (heap_alloc_new W _) j]
    rw [← hu]
    simp [Ent.cells]
  obtain ⟨v', w1, hrun, h1, hg, _⟩ := run_append_own (P := Try.prog) (W.alloc (.cells #[.int .i64 x.at_, .slice x.A x.m x.c] 107)) b 59 59 107 i0 (.agg #[.int .i64 0, .slice none 0 0]) 2 32 Try.underlying59 hi hz0 hz1 hz2 rfl (by decide)
    v xs.length (cellsE xs) (World.ownsRow.alloc h _) ⟨W.heap.size, 0, none⟩ 1 1 x.cells rfl hc (by simp [Ent.cells, Value.oneCell']) (le_maxLen (by omega)) (by omega) (by simp; omega)
  refine ⟨v', w1, hrun, ?_, hg⟩
  unfold OwnsF
  rw [cellsE_snoc, List.length_append]
  exact h1
theorem OwnsF.kept {b : Nat} {w w' : World} {v : Value} {xs : List Ent} (h : OwnsF b w v xs) (ho : Out Zone.no w w') : OwnsF b w' v xs := by
  obtain ⟨h1, h2⟩ := h
  refine ⟨h1, ?_⟩
  rcases h2 with h2 | ⟨g, cap, cur, hv, hg, hh, hr⟩
  · exact Or.inl h2
  · exact Or.inr ⟨g, cap, cur, hv, hg, ho.get hh id, hr⟩

/-- What the loop knows of what it has found. -/
structure Found (w wr : World) (base : Int) (L : List UInt8) (k : Nat) (vo : Value) (xs : List Ent) : Prop where
  own : OwnsF w.heap.size wr vo xs
  key : xs.map Ent.key ++ recs base L k = recs base L 0
  end_ : base + k = endOf base xs
  each : ∀ x ∈ xs, Owns w.heap.size wr x.v x.X
  size : w.heap.size ≤ wr.heap.size
  below : Below w.heap.size w wr
  few : xs.length ≤ k

theorem Below.out {w w' : World} (h : Below w.heap.size w w') : Out Zone.no w w' := ⟨h.os, h.tape, h.output, h.size, fun k hk _ => h.block k hk⟩
theorem below_of_out {w w' : World} (ho : Out Zone.no w w') : Below w.heap.size w w' := ⟨ho.os, ho.tape, ho.output, ho.size, fun k hk => ho.block k hk id⟩

theorem owns_ent {b : Nat} {w : World} {v : Value} {X : List UInt8} (h : Owns b w v X) (a t : Int) : ∃ x : Ent, x.v = v ∧ x.at_ = a ∧ x.X = X ∧ x.to_ = t := by
  obtain ⟨A, m, c, rfl⟩ := owns_form h
  exact ⟨⟨a, A, m, c, X, t⟩, rfl, rfl, rfl, rfl⟩

theorem Found.next {w wr w1 w2 : World} {base : Int} {L : List UInt8} {k n : Nat} {vo : Value} {xs : List Ent} {x : Ent} {v' : Value} (h : Found w wr base L k vo xs) (hk : k < L.length) (hu : unrec (L.drop k) = (x.X, n, 0)) (hn : 0 < n)
    (ha : x.at_ = base + k) (ht : x.to_ = base + k + n) (ho : Out Zone.no wr w1) (hx : Owns wr.heap.size w1 x.v x.X)
    (h1 : OwnsF w.heap.size w2 v' (xs ++ [x])) (hg : (w1.alloc (.cells #[.int .i64 x.at_, .slice x.A x.m x.c] 107)).grownBy w2 vo.ownBlock) : Found w w2 base L (k + n) v' (xs ++ [x]) := by
  have hb1 : w.heap.size ≤ w1.heap.size := Nat.le_trans h.size ho.size
  have hob : ∀ r, vo.ownBlock = some r → w.heap.size ≤ r ∧ r < wr.heap.size ∧ ∃ cs, wr.heap[r]? = some (.cells cs 107 (0, 0)) := fun r hr => by
    rcases h.own.2 with ⟨e, _⟩ | ⟨g, cap, cur, e, hge, hgb, _⟩
    · rw [e] at hr; cases hr
    · rw [e] at hr; cases hr
      exact ⟨hge, heap_lt hgb, _, hgb⟩
  have keep : ∀ {B : Nat} {v : Value} {X : List UInt8}, Owns B w1 v X → Owns B w2 v X := fun {B v X} hv => by
    obtain ⟨q1, q2⟩ := hv
    refine ⟨q1, ?_⟩
    rcases q2 with q2 | ⟨g, cap, cur, e, hge, hgb, hr⟩
    · exact Or.inl q2
    · refine Or.inr ⟨g, cap, cur, e, hge, ?_, hr⟩
      have hgl := heap_lt hgb
      rw [hg.block g (by simp; omega) (fun e' => by
        obtain ⟨_, hlt, cs, hcs⟩ := hob g e'.symm
        rw [ho.get hcs id] at hgb
        cases hgb)]
      exact heap_alloc' hgb _
  refine ⟨h1, ?_, ?_, ?_, ?_, ?_, ?_⟩
  · rw [← h.key, recs_go base hk hu hn, List.map_append, List.append_assoc]
    simp [Ent.key, ha, ht]
  · rw [endOf_snoc, ht]; push_cast; omega
  · intro y hy
    rcases List.mem_append.1 hy with hy | hy
    · exact keep ((h.each y hy).out ho (fun _ _ h => h))
    · obtain rfl : y = x := by simpa using hy
      exact keep (hx.base_le h.size)
  · have := hg.size; simp at this; omega
  · exact ((h.below.trans ((below_of_out ho).mono h.size)).alloc hb1 _).grown hg (by simp; omega) (fun k hk => (hob k hk).1)
  · rw [List.length_append]; simp only [List.length_cons, List.length_nil]; have := h.few; omega

set_option maxRecDepth 100000 in
set_option maxHeartbeats 2000000 in
theorem rscan_is (w : World) (base : Int) (v : Value) (L : List UInt8) (hr : Row Zone.no w v (bytes L)) (hl : L.length ≤ 100000000) (hba : -1000000000000 ≤ base ∧ base ≤ 1000000000000) :
    Calls Try.prog 31 #[.int .i64 base, v] w fun e w' => ∃ lv xs, e = .returned (.tuple #[lv, .int .i64 (endOf base xs)]) ∧ OwnsF w.heap.size w' lv xs ∧ xs.map Ent.key = recs base L 0 ∧ (∀ x ∈ xs, Owns w.heap.size w' x.v x.X) ∧ Out Zone.no w w' := by
  obtain ⟨A, c, rfl, hc1, hc2⟩ := hr.form
  unfold maxLen at hc2
  have HR := Lib.hid hr
  clear hr
  go_enter Try.func31, Try.ntmps31
  go_wp2_with fail
  go_loopw [6, 7] (fun vo va wr => ∃ (k : Nat) (xs : List Ent), va = .int .i64 (k : Int) ∧ k ≤ L.length ∧ Hid (Found w wr base L k vo xs)) (fun _ va _ => L.length - (intOf va).toNat)
  case atStart => exact ⟨0, [], rfl, by omega, ⟨World.ownsRow_nil _ _ _ _, rfl, by simp [endOf], by simp, Nat.le_refl _, Below.refl _ _, by simp⟩⟩
  case round =>
    obtain ⟨k, xs, rfl, hk, hf⟩ := hrel
    by_cases hlt : k < L.length
    · have hs1 := fun W => run_slice_l elem22 A L.length c k hk W
      obtain ⟨S1, hS1⟩ : ∃ S1, cut3 A k L.length c = S1 := ⟨_, rfl⟩
      rw [hS1] at hs1
      have HC := Lib.hid (((HR.out.out (Below.out hf.out.below)).cut3 (l := k) (k := L.length) (m := c) (by omega) (Nat.le_refl _) hc1 (Nat.le_refl _)))
      rw [hS1, List.take_of_length_le (by simp), ← bytes_drop] at HC
      have HU := Lib.hid (runrecord_is wr S1 (L.drop k) HC.out (by rw [List.length_drop]; omega))
      by_cases he : (unrec (L.drop k)).2.2 = 0
      · have hsz := unrec_size _ he
        rw [List.length_drop] at hsz
        obtain ⟨X, n, hun⟩ : ∃ X n, unrec (L.drop k) = (X, n, 0) := ⟨(unrec (L.drop k)).1, (unrec (L.drop k)).2.1, by rw [← he]⟩
        rw [hun] at HU hsz
        have HU1 := HU.out
        simp only at HU1
        have HU := Lib.hid HU1
        clear HU1
        have HUN := Lib.hid hun
        have HF := hf
        clear he hun hf
        go_wp2_with (first
          | (go_at_call 65; (refine HU.out.mono ?_; rintro e w1 ⟨v1, rfl, h1, ho1⟩; obtain ⟨A1, m1, c1, rfl⟩ := owns_form h1; obtain ⟨v', w2, hrun, h2, hg2⟩ := ownsF_push (HF.out.own.kept ho1) (Nat.le_trans HF.out.size ho1.size) ⟨base + k, A1, m1, c1, X, base + k + n⟩ (by have := HF.out.few; omega); have HRUN := Lib.hid hrun; have HN := Lib.hid (HF.out.next (k := k) (n := n) (x := ⟨base + k, A1, m1, c1, X, base + k + n⟩) hlt HUN.out hsz.1 rfl rfl ho1 h1 h2 hg2); clear hrun h2 hg2 h1 ho1))
          | (at_builtin; refine wpList_builtin rfl _ _ _ rfl HRUN.out ?_)
          | fail)
        go_roundw
        case rel => exact ⟨k + n, _, by go_num, by omega, HN.out⟩
        case measure => simp [intOf]; omega
      · have hse : ((unrec (L.drop k)).2.2 == 0) = false := by rw [beq_eq_false_iff_ne]; exact he
        have HE : Hid (recs base L k = []) := recs_err base he
        obtain ⟨er, her⟩ : ∃ er, (unrec (L.drop k)).2.2 = er := ⟨_, rfl⟩
        rw [her] at HU hse
        have HF := hf
        clear he her hf
        go_wp2_with (go_at_call 65; refine HU.out.mono ?_; rintro e w1 ⟨v1, rfl, h1, ho1⟩; have HO := Lib.hid ho1; clear h1 ho1)
        refine bodyPost_ret (v := .tuple #[u6, .int .i64 (base + k)]) (by simp [results, Try.results31, go_sem]) rfl ?_
        refine ⟨u6, xs, by rw [← HF.out.end_], HF.out.own.kept HO.out, by have := HF.out.key; rwa [HE.out, List.append_nil] at this, fun x hx => (HF.out.each x hx).out HO.out (fun _ _ h => h), (Below.out HF.out.below).trans HO.out⟩
    · obtain rfl : k = L.length := by omega
      have HE : Hid (recs base L L.length = []) := recs_end base (by omega)
      go_wp2_with fail
      refine bodyPost_ret (v := .tuple #[u6, .int .i64 (base + L.length)]) (by simp [results, Try.results31, go_sem]) rfl ?_
      exact ⟨u6, xs, by rw [← hf.out.end_], hf.out.own, by have := hf.out.key; rwa [HE.out, List.append_nil] at this, hf.out.each, Below.out hf.out.below⟩
end Go.Proofs.Ytddcojikbcbihaa
