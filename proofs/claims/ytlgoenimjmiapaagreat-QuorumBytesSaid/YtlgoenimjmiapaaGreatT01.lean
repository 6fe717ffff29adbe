import Derived.Test.YtlgoenimjmiapaaGreatT00
import Derived.Maps.AppendAt
import Derived.Test.YtlgoenimjmiapaaGreatProg
set_option linter.unusedSimpArgs false
set_option linter.unusedVariables false
set_option linter.unusedSectionVars false
/-! Rows that grow, in blocks of a set; elements of several cells. -/
set_option linter.unusedVariables false
namespace Go.Proofs.YtlgoenimjmiapaaGreat
open Go.RowKit

theorem addr0_add (g j : Nat) : (⟨g, 0, none⟩ : Addr).add j = ⟨g, j, none⟩ := by unfold Addr.add; split <;> simp_all
/-- Blocks as a zone. -/
def Zone.m (M : Nat → Prop) : Zone := ⟨M, M, fun _ h => h⟩
/-- What a call does: it turns blocks of M alone; its own blocks then are of M, or new. -/
structure Next (M : Nat → Prop) (w : World) (M' : Nat → Prop) (w' : World) : Prop where
  out : Out (Zone.m M) w w'
  sub : ∀ k, M' k → M k ∨ w.heap.size ≤ k
theorem Next.refl (M : Nat → Prop) (w : World) : Next M w M w := ⟨Out.refl _ _, fun _ h => Or.inl h⟩
theorem Next.trans {M M' M'' : Nat → Prop} {w w' w'' : World} (h : Next M w M' w') (k : Next M' w' M'' w'') : Next M w M'' w'' := by
  refine ⟨⟨k.out.os.trans h.out.os, k.out.tape.trans h.out.tape, k.out.output.trans h.out.output, Nat.le_trans h.out.size k.out.size, fun i hi ho => ?_⟩, fun i hi => ?_⟩
  · refine (k.out.block i (Nat.lt_of_lt_of_le hi h.out.size) (fun e => ?_)).trans (h.out.block i hi ho)
    rcases h.sub i e with e | e
    · exact ho e
    · omega
  · rcases k.sub i hi with e | e
    · exact h.sub i e
    · exact Or.inr (Nat.le_trans h.out.size e)
theorem Next.of_out {M : Nat → Prop} {w w' : World} (h : Out Zone.no w w') : Next M w M w' := ⟨h.mono0, fun _ h => Or.inl h⟩
theorem Next.drewN {M M' : Nat → Prop} {w w' : World} (h : Next M w M' w') (n : Nat) : Next M w M' (w'.drewN n) := ⟨h.out.drewN n, h.sub⟩
theorem Next.less {M M' M'' : Nat → Prop} {w w' : World} (h : Next M w M' w') (hs : ∀ k, M'' k → M' k) : Next M w M'' w' := ⟨h.out, fun k hk => h.sub k (hs k hk)⟩

/-- What append asks of the element type. -/
structure ElemN (P : Program) (t e : TypeId) (z : Value) (size by_ : Nat) : Prop where
  under : P.underlying t = some (.slice e)
  info : ∃ i, P.info? e = some i ∧ i.zero = some z ∧ i.size = size ∧ i.bytes = by_
  cells : z.cells.size = size
  pos : 0 < size
theorem ElemN.mk' {P : Program} {t e : TypeId} {z : Value} {size by_ : Nat} (h1 : P.underlying t = some (.slice e)) (h2 : (P.info? e).map (fun i => (i.zero, i.size, i.bytes)) = some (some z, size, by_)) (h3 : z.cells.size = size) (h4 : 0 < size) : ElemN P t e z size by_ := by
  refine ⟨h1, ?_, h3, h4⟩
  cases hi : P.info? e with
  | none => rw [hi] at h2; cases h2
  | some i =>
    rw [hi] at h2
    simp only [Option.map_some, Option.some.injEq, Prod.mk.injEq] at h2
    exact ⟨i, rfl, h2.1, h2.2.1, h2.2.2⟩

/-- v has n elements, the cells xs, at the head of a block of M; what lies behind it in its capacity is nobody else's. -/
def GRow (M : Nat → Prop) (w : World) (e : TypeId) (sz : Nat) (v : Value) (n : Nat) (xs : List Value) : Prop :=
  xs.length = n * sz ∧ ((v = .slice none 0 0 ∧ n = 0) ∨ ∃ g cap cur, v = .slice (some ⟨g, 0, none⟩) n cap ∧ M g ∧ w.heap[g]? = some (.cells cur e (0, 0)) ∧ n ≤ cap ∧ cap ≤ maxLen ∧ cap * sz ≤ cur.size ∧ cur.toList.take (n * sz) = xs)

section
variable {M : Nat → Prop} {w w' : World} {e : TypeId} {sz : Nat} {v : Value} {n : Nat} {xs : List Value}
theorem grow_nil (M : Nat → Prop) (w : World) (e : TypeId) (sz : Nat) : GRow M w e sz (.slice none 0 0) 0 [] := ⟨by simp, Or.inl ⟨rfl, rfl⟩⟩
theorem GRow.form (h : GRow M w e sz v n xs) : ∃ A c, v = .slice A n c := by
  rcases h.2 with ⟨h, h0⟩ | ⟨g, cap, cur, h, _⟩
  · exact ⟨none, 0, by rw [h, h0]⟩
  · exact ⟨_, _, h⟩
theorem GRow.pos (h : GRow M w e sz v n xs) (hn : 0 < n) : ∃ g cap, v = .slice (some ⟨g, 0, none⟩) n cap ∧ M g ∧ n ≤ cap ∧ cap ≤ maxLen ∧ g < w.heap.size := by
  rcases h.2 with ⟨_, h0⟩ | ⟨g, cap, cur, h, hm, hh, h1, h2, _⟩
  · omega
  · exact ⟨g, cap, h, hm, h1, h2, heap_lt hh⟩
theorem GRow.mem (h : GRow M w e sz v n xs) {g : Nat} (hg : v.ownBlock = some g) : M g ∧ g < w.heap.size ∧ ∃ cur, w.heap[g]? = some (.cells cur e (0, 0)) := by
  rcases h.2 with ⟨h, h0⟩ | ⟨g', cap, cur, h, hm, hh, h1, h2, _⟩
  · rw [h] at hg; cases hg
  · rw [h] at hg; cases hg; exact ⟨hm, heap_lt hh, cur, hh⟩
theorem GRow.keep (h : GRow M w e sz v n xs) (hb : ∀ g, v.ownBlock = some g → w'.heap[g]? = w.heap[g]?) {M' : Nat → Prop} (hm : ∀ g, v.ownBlock = some g → M' g) : GRow M' w' e sz v n xs := by
  refine ⟨h.1, ?_⟩
  rcases h.2 with h | ⟨g, cap, cur, h, hm', hh, hr⟩
  · exact Or.inl h
  · exact Or.inr ⟨g, cap, cur, h, hm g (by rw [h]; rfl), (hb g (by rw [h]; rfl)).trans hh, hr⟩
theorem GRow.any (h : GRow M w e sz v n xs) (ho : Out Zone.no w w') : GRow M w' e sz v n xs :=
  h.keep (fun g hg => ho.block g (h.mem hg).2.1 id) (fun g hg => (h.mem hg).1)
theorem GRow.wide {M' : Nat → Prop} (h : GRow M w e sz v n xs) (hm : ∀ k, M k → M' k) : GRow M' w e sz v n xs :=
  h.keep (fun _ _ => rfl) (fun g hg => hm g (h.mem hg).1)
/-- The cell j of it. -/
theorem GRow.cell (h : GRow M w e sz v n xs) {j : Nat} {u : Value} (hu : xs[j]? = some u) : ∃ g cap, v = .slice (some ⟨g, 0, none⟩) n cap ∧ w.cell? ⟨g, j, none⟩ = some u := by
  rcases h.2 with ⟨_, h0⟩ | ⟨g, cap, cur, hv, hm, hh, h1, h2, h3, h4⟩
  · have := h.1
    rw [h0, Nat.zero_mul] at this
    rw [List.eq_nil_of_length_eq_zero this] at hu
    cases hu
  · refine ⟨g, cap, hv, ?_⟩
    rw [cell_of_row w g j _ _ _ hh]
    rw [← h4, List.getElem?_take] at hu
    split at hu
    · simpa using hu
    · cases hu
/-- Cut off, tightly. -/
theorem GRow.cut (h : GRow M w e sz v n xs) {k : Nat} (hk : k ≤ n) (h0 : 0 < n) : ∃ g, v.ownBlock = some g ∧ GRow M w e sz (.slice (some ⟨g, 0, none⟩) k k) k (xs.take (k * sz)) := by
  rcases h.2 with ⟨_, h0'⟩ | ⟨g, cap, cur, rfl, hm, hh, h1, h2, h3, h4⟩
  · omega
  · have hks : k * sz ≤ n * sz := Nat.mul_le_mul_right _ hk
    refine ⟨g, rfl, by rw [List.length_take, h.1]; omega, Or.inr ⟨g, k, cur, rfl, hm, hh, Nat.le_refl _, Nat.le_trans hk (Nat.le_trans h1 h2), Nat.le_trans (Nat.mul_le_mul_right _ (Nat.le_trans hk h1)) h3, ?_⟩⟩
    rw [← h4, List.take_take, Nat.min_eq_left hks]

/-- append: in its own block, or in a new one. -/
theorem GRow.append {P : Program} {t : TypeId} {z : Value} {by_ : Nat} (E : ElemN P t e z sz by_) (h : GRow M w e sz v n xs) (ty : TypeId) (a : Addr) (m c : Nat) (news : List Value) (hl : news.length = m * sz)
    (hnews : ∀ j u, news[j]? = some u → w.cell? (a.add j) = some u) (h1 : ∀ u ∈ news, u.oneCell' = true) (h63 : n + m ≤ maxLen) (hbytes : (n + m) * by_ ≤ 140737488355328) :
    ∃ v' w', (Builtin.append_ #[t, t] ty #[v, .slice (some a) m c]).run P w = .ok v' w' ∧ GRow (fun k => M k ∨ k = w.heap.size) w' e sz v' (n + m) (xs ++ news) ∧ w.grownBy w' v.ownBlock ∧ (v'.ownBlock = v.ownBlock ∨ v'.ownBlock = some w.heap.size) := by
  obtain ⟨ht, ⟨i, hi, hz, hsize, hby⟩, hzs, hsz⟩ := E
  subst hsize
  subst hby
  have hsmall : n + m ≤ 9223372036854775807 := by simp only [maxLen] at h63; omega
  have hlen : (xs ++ news).length = (n + m) * i.size := by rw [List.length_append, h.1, hl, Nat.add_mul]
  have grown : ∀ (old : Nat), old < n + m → ∀ (row : Option Nat),
      GRow (fun k => M k ∨ k = w.heap.size) (w.drew.alloc (.cells (xs.toArray ++ news.toArray ++ Builtin.zeroCells z.cells (grownCap w (n + m) old e - (n + m))) e)) e i.size
        (.slice (some ⟨w.heap.size, 0, none⟩) (n + m) (grownCap w (n + m) old e)) (n + m) (xs ++ news) ∧
      w.grownBy (w.drew.alloc (.cells (xs.toArray ++ news.toArray ++ Builtin.zeroCells z.cells (grownCap w (n + m) old e - (n + m))) e)) row := by
    intro old ho row
    have hge := grownCap_ge w (n + m) old e
    have hcm : grownCap w (n + m) old e ≤ maxLen := grownCap_le_maxLen w (n + m) old e h63
    refine ⟨⟨hlen, .inr ⟨w.heap.size, _, _, rfl, Or.inr rfl, heap_alloc_new w.drew _, hge, hcm, ?_, ?_⟩⟩, ⟨rfl, rfl, rfl, by simp, fun k hk _ => Below.heap_alloc w.drew _ k hk⟩⟩
    · simp only [Array.size_append, List.size_toArray, size_zeroCells, hzs, h.1, hl, ← Nat.add_mul]
      apply Nat.le_of_eq
      congr 1
      omega
    · simp only [Array.toList_append, List.append_assoc]
      rw [← List.append_assoc, ← hlen]
      exact List.take_left
  rcases h.2 with ⟨rfl, rfl⟩ | ⟨g, cap, cur, rfl, hbg, hg, hnc, hcm, hcs, htake⟩
  · have hx : xs = [] := List.eq_nil_of_length_eq_zero (by simpa using h.1)
    subst hx
    by_cases hm : m = 0
    · subst hm
      have hn : news = [] := List.eq_nil_of_length_eq_zero (by simpa using hl)
      subst hn
      refine ⟨.slice none 0 0, w, ?_, grow_nil _ _ _ _, ⟨rfl, rfl, rfl, Nat.le_refl _, fun _ _ _ => rfl⟩, Or.inl rfl⟩
      simp [Builtin.append_, run_underlying ht, sizeOf, typeInfo, hi, Builtin.lenOf, Builtin.firstCells, loadCells, loadCellsFrom]
    · have hr := run_append_nil (P := P) w t ty e i z ht hi hz a m c news hl hnews (by omega) (by omega) (by have hb := hbytes; simp only [Nat.zero_add] at hb; omega)
      have hgr := grown 0 (by omega) (Value.ownBlock (.slice none 0 0))
      simp only [Nat.zero_add, List.nil_append, Array.empty_append] at hgr ⊢
      exact ⟨_, _, hr, hgr.1, hgr.2, Or.inr rfl⟩
  · have hbig : ∀ k, k ≤ cap → k * i.size ≤ cur.size := fun k hk => Nat.le_trans (Nat.mul_le_mul_right _ hk) hcs
    by_cases hroom : n + m ≤ cap
    · have hfit : n * i.size + news.length ≤ cur.size := by rw [hl, ← Nat.add_mul]; exact hbig _ hroom
      have hr := run_append_room (P := P) w t ty e i ht hi g n cap cur hg a m c news hl hnews h1 hroom hfit
      refine ⟨_, _, hr, ⟨hlen, .inr ⟨g, cap, _, rfl, Or.inl hbg, setRow_heap w g cur _ e _ hg, hroom, hcm, ?_, ?_⟩⟩, ⟨rfl, rfl, rfl, by simp, fun k _ hk => setRow_other w g k _ (fun e => hk (by simp [Value.ownBlock, e]))⟩, Or.inl rfl⟩
      · simp only [List.size_toArray, List.length_append, List.length_take, List.length_drop, Array.length_toList]
        omega
      · rw [htake, ← hlen]
        exact List.take_left
    · have holds : ∀ j u, xs[j]? = some u → w.cell? ((⟨g, 0, none⟩ : Addr).add j) = some u := fun j u hu => by
        obtain ⟨g', cap', hv, hc⟩ := h.cell hu
        injection hv with hv
        injection hv with hv
        injection hv with hv
        subst hv
        rw [addr0_add]
        exact hc
      have hr := run_append_grow (P := P) w t ty e i z ht hi hz ⟨g, 0, none⟩ n cap xs h.1 holds a m c news hl hnews (by omega) (by omega) (growslice_fits (by omega) hbytes)
      have hgr := grown cap (by omega) (Value.ownBlock (.slice (some ⟨g, 0, none⟩) n cap))
      exact ⟨_, _, hr, hgr.1, hgr.2, Or.inr rfl⟩
end

/-- A row that is read alone: n elements, the cells xs, none of them in a block of N. -/
def RRow (N : Nat → Prop) (w : World) (v : Value) (n : Nat) (sz : Nat) (xs : List Value) : Prop :=
  xs.length = n * sz ∧ ∃ A c, v = .slice A n c ∧ n ≤ c ∧ c ≤ maxLen ∧ ∀ j u, xs[j]? = some u → ∃ b o, A = some ⟨b, o, none⟩ ∧ ¬ N b ∧ w.cell? ⟨b, o + j, none⟩ = some u
section
variable {N : Nat → Prop} {w w' : World} {sz : Nat} {v : Value} {n : Nat} {xs : List Value}
theorem rrow_nil (N : Nat → Prop) (w : World) (sz : Nat) : RRow N w (.slice none 0 0) 0 sz [] := ⟨by simp, none, 0, rfl, Nat.le_refl _, Nat.zero_le _, fun j u hu => by cases hu⟩
theorem RRow.keep (h : RRow N w v n sz xs) {M : Nat → Prop} (ho : Out (Zone.m M) w w') (hm : ∀ k, M k → k < w.heap.size → N k) : RRow N w' v n sz xs := by
  obtain ⟨h0, A, c, hv, h1, h2, hc⟩ := h
  refine ⟨h0, A, c, hv, h1, h2, fun j u hu => ?_⟩
  obtain ⟨b, o, hA, hb, hx⟩ := hc j u hu
  have hlt : b < w.heap.size := by
    rcases Nat.lt_or_ge b w.heap.size with hlt | hge
    · exact hlt
    · simp [World.cell?, Array.getElem?_eq_none hge] at hx
  exact ⟨b, o, hA, hb, ho.cell hx (fun e => hb (hm b e hlt))⟩
theorem RRow.any (h : RRow N w v n sz xs) (ho : Out Zone.no w w') : RRow N w' v n sz xs := h.keep (M := fun _ => False) ⟨ho.os, ho.tape, ho.output, ho.size, fun k hk _ => ho.block k hk id⟩ (fun _ h => h.elim)
theorem RRow.less {N' : Nat → Prop} (h : RRow N w v n sz xs) (hn : ∀ k, N' k → k < w.heap.size → N k) : RRow N' w v n sz xs := by
  obtain ⟨h0, A, c, hv, h1, h2, hc⟩ := h
  refine ⟨h0, A, c, hv, h1, h2, fun j u hu => ?_⟩
  obtain ⟨b, o, hA, hb, hx⟩ := hc j u hu
  have hlt : b < w.heap.size := by
    rcases Nat.lt_or_ge b w.heap.size with hlt | hge
    · exact hlt
    · simp [World.cell?, Array.getElem?_eq_none hge] at hx
  exact ⟨b, o, hA, fun e => hb (hn b e hlt), hx⟩
theorem RRow.form (h : RRow N w v n sz xs) : ∃ A c, v = .slice A n c ∧ n ≤ c ∧ c ≤ maxLen := by
  obtain ⟨h0, A, c, hv, h1, h2, hc⟩ := h
  exact ⟨A, c, hv, h1, h2⟩
end
end Go.Proofs.YtlgoenimjmiapaaGreat

/-! What may be: numbers, entries, notes, messages. -/
set_option linter.unusedVariables false
namespace Go.Proofs.YtlgoenimjmiapaaGreat
open Go.RowKit

/-- Entries, states, notes, messages. -/
structure Ent where
  ep : Int
  data : List UInt8
deriving DecidableEq
structure Nt where
  kind : Int
  ep : Int
  n : Int
  ent : Ent
deriving DecidableEq
structure Msg where
  kind : Int
  frm : Int
  to : Int
  ep : Int
  at_ : Int
  last : Int
  commit : Int
  log : List Ent
deriving DecidableEq
structure St where
  ep : Int
  voted : Int
  log : List Ent
deriving DecidableEq

def Ent.cells (x : Ent) : List Value := [.int .i64 x.ep, .string (str x.data)]
def encL (l : List Ent) : List Value := l.flatMap Ent.cells
def ints (l : List Int) : List Value := l.map (Value.int .i64)
theorem encL_length (l : List Ent) : (encL l).length = l.length * 2 := by
  induction l with
  | nil => rfl
  | cons x r ih => show (x.cells ++ encL r).length = _; rw [List.length_append, ih]; simp [Ent.cells]; omega
theorem encL_append (l m : List Ent) : encL (l ++ m) = encL l ++ encL m := by simp [encL]
theorem encL_at {l : List Ent} {i : Nat} {x : Ent} (h : l[i]? = some x) : (encL l)[i * 2]? = some (.int .i64 x.ep) ∧ (encL l)[i * 2 + 1]? = some (.string (str x.data)) := by
  induction l generalizing i with
  | nil => cases h
  | cons y r ih =>
    have e : encL (y :: r) = .int .i64 y.ep :: .string (str y.data) :: encL r := rfl
    rw [e]
    cases i with
    | zero => injection h with h; subst h; exact ⟨rfl, rfl⟩
    | succ i =>
      have := ih (i := i) h
      rw [show (i + 1) * 2 = i * 2 + 1 + 1 by omega]
      exact this
theorem encL_take (l : List Ent) (k : Nat) : encL (l.take k) = (encL l).take (k * 2) := by
  induction l generalizing k with
  | nil => simp [encL]
  | cons x r ih =>
    cases k with
    | zero => simp [encL]
    | succ k =>
      have e : encL (x :: r) = .int .i64 x.ep :: .string (str x.data) :: encL r := rfl
      rw [e, show (k + 1) * 2 = k * 2 + 1 + 1 by omega, List.take_succ_cons, List.take_succ_cons, List.take_succ_cons, ← ih]
      rfl
theorem encL_drop (l : List Ent) (k : Nat) : encL (l.drop k) = (encL l).drop (k * 2) := by
  induction l generalizing k with
  | nil => simp [encL]
  | cons x r ih =>
    cases k with
    | zero => simp
    | succ k =>
      have e : encL (x :: r) = .int .i64 x.ep :: .string (str x.data) :: encL r := rfl
      rw [e, show (k + 1) * 2 = k * 2 + 1 + 1 by omega, List.drop_succ_cons, List.drop_succ_cons, List.drop_succ_cons, ← ih]
theorem encL_one (l : List Ent) : ∀ u ∈ encL l, u.oneCell' = true := by
  intro u hu
  obtain ⟨x, _, hx⟩ := List.mem_flatMap.1 hu
  simp only [Ent.cells, List.mem_cons, List.not_mem_nil, or_false] at hx
  rcases hx with rfl | rfl <;> rfl

def inB (n : Int) : Bool := decide (0 ≤ n) && decide (n ≤ 1099511627776)
def Ent.right (x : Ent) : Bool := inB x.ep && decide (x.data.length ≤ 65536)

set_option maxRecDepth 100000 in
theorem inbad_is (w : World) (n : Int) : Calls Tryz.prog 73 #[.int .i64 n] w fun e w' => e = .returned (.bool (!inB n)) ∧ w = w' := by
  by_cases h1 : n < 0
  · have hb : inB n = false := by simp [inB]; omega
    rw [hb]
    go_enter Tryz.func73, Tryz.ntmps73
    go_wp2_with fail
    go_ret
    exact ⟨rfl, rfl⟩
  · by_cases h2 : 1099511627776 < n
    · have hb : inB n = false := by simp [inB]; omega
      rw [hb]
      go_enter Tryz.func73, Tryz.ntmps73
      go_wp2_with fail
      go_ret
      exact ⟨rfl, rfl⟩
    · have hb : inB n = true := by simp [inB]; omega
      rw [hb]
      go_enter Tryz.func73, Tryz.ntmps73
      go_wp2_with fail
      go_ret
      exact ⟨rfl, rfl⟩

set_option maxRecDepth 100000 in
theorem idx_is (w : World) (N : Nat → Prop) (v : Value) (L : List Int) (hr : RRow N w v L.length 1 (ints L)) (hl : L.length ≤ 1000000) :
    Calls Tryz.prog 82 #[v, .func (.func 73) #[] #[]] w fun e w' => (∃ r : Int, e = .returned (.int .i64 r) ∧ decide (0 ≤ r) = !(L.all inB)) ∧ w = w' := by
  obtain ⟨A, c, rfl, _, _⟩ := hr.form
  have HR := Lib.hid hr
  clear hr
  go_enter Tryz.func82, Tryz.ntmps82
  go_wp2_with fail
  go_loop [8] (fun vi => ∃ i : Nat, i ≤ L.length ∧ vi = .int .i64 (i : Int) ∧ Hid ((L.take i).all inB = true)) (fun vi => L.length - (intOf vi).toNat)
  case atStart => exact ⟨0, by omega, rfl, rfl⟩
  case round =>
    obtain ⟨i, hi, rfl, hall⟩ := hrel
    by_cases hlt : i < L.length
    · obtain ⟨x, hx⟩ : ∃ x, L[i]? = some x := ⟨_, List.getElem?_eq_getElem hlt⟩
      obtain ⟨_, A', c', hv, _, _, hc⟩ := HR.out
      obtain ⟨b, o, hA, _, hcell⟩ := hc i (.int .i64 x) (by simp [ints, hx])
      obtain rfl : A = A' := by injection hv
      subst hA
      clear hv hc
      have hta : Hid (inB x = true → (L.take (i + 1)).all inB = true) := fun e => by
        obtain ⟨hi', rfl⟩ := List.getElem?_eq_some_iff.1 hx
        rw [List.take_succ_eq_append_getElem hi', List.all_append, hall.out]
        simp [e]
      have hfa : Hid (inB x = false → L.all inB = false) := fun e => by
        rw [List.all_eq_false]
        exact ⟨x, List.mem_of_getElem? hx, by simp [e]⟩
      clear hx
      obtain ⟨g, hg⟩ : ∃ g, inB x = g := ⟨_, rfl⟩
      have IB := inbad_is w x
      rw [hg] at IB hta hfa
      have HIB := Lib.hid IB
      clear IB hg
      cases g with
      | true =>
        go_wp2_with (go_at_call 73; refine HIB.out.mono ?_; rintro e w' ⟨rfl, rfl⟩)
        go_round
        case rel => exact ⟨i + 1, by omega, by go_num, hta.out (by simp)⟩
        case measure => simp [intOf]; omega
      | false =>
        go_wp2_with (go_at_call 73; refine HIB.out.mono ?_; rintro e w' ⟨rfl, rfl⟩)
        go_ret
        refine ⟨⟨_, rfl, ?_⟩, rfl⟩
        have h0 := hfa.out (by simp)
        rw [h0]
        simp
    · obtain rfl : i = L.length := by omega
      have hta : Hid (L.all inB = true) := by have := hall.out; rwa [List.take_length] at this
      go_wp2_with fail
      go_ret
      refine ⟨⟨_, rfl, ?_⟩, rfl⟩
      have h0 := hta.out
      rw [h0]
      rfl

theorem in_is (w : World) (N : Nat → Prop) (v : Value) (L : List Int) (hr : RRow N w v L.length 1 (ints L)) (hl : L.length ≤ 1000000) :
    Calls Tryz.prog 44 #[v] w fun e w' => e = .returned (.bool (L.all inB)) ∧ w = w' := by
  obtain ⟨A, c, rfl, _, _⟩ := hr.form
  have HI := Lib.hid (idx_is w N _ L hr hl)
  have C : Calls Tryz.prog 72 #[.slice A L.length c, .func (.func 73) #[] #[]] w fun e w' => e = .returned (.bool (!L.all inB)) ∧ w = w' := by
    clear hr
    go_enter Tryz.func72, Tryz.ntmps72
    go_wp2_with (go_at_call 82; refine HI.out.mono ?_; rintro e w' ⟨⟨r, rfl, hr⟩, rfl⟩; have HRR := Lib.hid hr; clear hr)
    go_ret
    exact ⟨by rw [← HRR.out]; rfl, rfl⟩
  have HC := Lib.hid C
  clear C hr HI
  go_enter Tryz.func44, Tryz.ntmps44
  go_wp2_with (go_at_call 72; refine HC.out.mono ?_; rintro e w' ⟨rfl, rfl⟩)
  go_ret
  exact ⟨by simp [go_sem], rfl⟩
end Go.Proofs.YtlgoenimjmiapaaGreat

/-! Entries, messages and notes that may be. -/
set_option linter.unusedVariables false
namespace Go.Proofs.YtlgoenimjmiapaaGreat
open Go.RowKit

theorem rrow_new {N : Nat → Prop} {w : World} {e : TypeId} {cs : List Value} {n sz : Nat} (hN : ¬ N w.heap.size) (hl : cs.length = n * sz) (hn : n ≤ 1000000) : RRow N (w.alloc (.cells cs.toArray e)) (.slice (some ⟨w.heap.size, 0, none⟩) n n) n sz cs := by
  refine ⟨hl, some ⟨w.heap.size, 0, none⟩, n, rfl, Nat.le_refl _, le_maxLen (by omega), fun j u hu => ⟨w.heap.size, 0, rfl, hN, ?_⟩⟩
  rw [Nat.zero_add, cell_of_row _ w.heap.size j _ _ _ (heap_alloc_new w _)]
  simpa using hu

/-- in(n). -/
theorem in1_is (w : World) (n : Int) : Calls Tryz.prog 44 #[.slice (some ⟨w.heap.size, 0, none⟩) 1 1] (w.alloc (.cells #[.int .i64 n] 3)) fun e w' => e = .returned (.bool (inB n)) ∧ w.alloc (.cells #[.int .i64 n] 3) = w' := by
  have h := in_is _ (fun _ => False) _ [n] (rrow_new (w := w) (e := 3) (cs := [.int .i64 n]) (n := 1) (sz := 1) (fun h => h) (by simp) (by omega)) (by simp)
  have hI : [n].all inB = inB n := by simp
  rw [hI] at h
  exact h
theorem str_size (L : List UInt8) : (str L).size = L.length := rfl
def Ent.val (x : Ent) : Value := .agg #[.int .i64 x.ep, .string (str x.data)]

set_option maxRecDepth 100000 in
theorem eright_is (w : World) (x : Ent) (hl : x.data.length ≤ 9223372036854775807) : Calls Tryz.prog 45 #[.agg #[.int .i64 x.ep, .string (str x.data)]] w fun e w' => e = .returned (.bool x.right) ∧ Out Zone.no w w' := by
  have o1 := ((Out.refl Zone.no w).alloc (.cells #[.int .i64 x.ep, .string (str x.data)] 34)).alloc (.cells #[.int .i64 x.ep] 3)
  have I := in1_is (w.alloc (.cells #[.int .i64 x.ep, .string (str x.data)] 34)) x.ep
  simp only [World.size_alloc] at I
  have HI := Lib.hid I
  have HO := Lib.hid o1
  have hsz := str_size x.data
  clear I o1
  obtain ⟨g, hg⟩ : ∃ g, inB x.ep = g := ⟨_, rfl⟩
  rw [hg] at HI
  have HR : Hid (x.right = (g && decide (x.data.length ≤ 65536))) := by show _ = _; rw [← hg]; rfl
  clear hg
  by_cases h6 : x.data.length ≤ 65536
  · cases g with
    | true =>
      go_enter Tryz.func45, Tryz.ntmps45
      go_wp2_with (go_at_call 44; refine HI.out.mono ?_; rintro e w' ⟨rfl, rfl⟩)
      go_ret
      exact ⟨by rw [HR.out]; simp [h6, go_sem] <;> omega, HO.out⟩
    | false =>
      go_enter Tryz.func45, Tryz.ntmps45
      go_wp2_with (go_at_call 44; refine HI.out.mono ?_; rintro e w' ⟨rfl, rfl⟩)
      go_ret
      exact ⟨by rw [HR.out]; simp [go_sem], HO.out⟩
  · cases g with
    | true =>
      go_enter Tryz.func45, Tryz.ntmps45
      go_wp2_with (go_at_call 44; refine HI.out.mono ?_; rintro e w' ⟨rfl, rfl⟩)
      go_ret
      exact ⟨by rw [HR.out]; simp [h6, go_sem] <;> omega, HO.out⟩
    | false =>
      go_enter Tryz.func45, Tryz.ntmps45
      go_wp2_with (go_at_call 44; refine HI.out.mono ?_; rintro e w' ⟨rfl, rfl⟩)
      go_ret
      exact ⟨by rw [HR.out]; simp [go_sem], HO.out⟩

set_option maxRecDepth 100000 in
theorem ebad_is (w : World) (x : Ent) (hl : x.data.length ≤ 9223372036854775807) : Calls Tryz.prog 58 #[.agg #[.int .i64 x.ep, .string (str x.data)]] w fun e w' => e = .returned (.bool (!x.right)) ∧ Out Zone.no w w' := by
  have HE := Lib.hid (eright_is (w.alloc (.cells #[.int .i64 x.ep, .string (str x.data)] 34)) x hl)
  go_enter Tryz.func58, Tryz.ntmps58
  go_wp2_with (go_at_call 45; refine HE.out.mono ?_; rintro e w1 ⟨rfl, ho⟩; have HO := Lib.hid ho; clear ho)
  go_ret
  exact ⟨by simp [go_sem], ((Out.refl Zone.no w).alloc _).trans HO.out⟩

/-- Entries whose texts are no longer than any machine's. -/
def Fits (l : List Ent) : Prop := ∀ x ∈ l, x.data.length ≤ 9223372036854775807

set_option maxRecDepth 100000 in
theorem eidx_is (w : World) (N : Nat → Prop) (v : Value) (l : List Ent) (hr : RRow N w v l.length 2 (encL l)) (hl : l.length ≤ 9223372036854775807) (hf : Fits l) :
    Calls Tryz.prog 75 #[v, .func (.func 58) #[] #[]] w fun e w' => (∃ r : Int, e = .returned (.int .i64 r) ∧ decide (0 ≤ r) = !(l.all Ent.right)) ∧ Out Zone.no w w' := by
  obtain ⟨A, c, rfl, _, _⟩ := hr.form
  have HR := Lib.hid hr
  have HF := Lib.hid hf
  clear hr hf
  go_enter Tryz.func75, Tryz.ntmps75
  go_wp2_with fail
  go_loopw [8] (fun vi wr => ∃ i : Nat, i ≤ l.length ∧ vi = .int .i64 (i : Int) ∧ Hid ((l.take i).all Ent.right = true) ∧ Hid (Out Zone.no w wr)) (fun vi _ => l.length - (intOf vi).toNat)
  case atStart => exact ⟨0, by omega, rfl, rfl, Out.refl _ _⟩
  case round =>
    obtain ⟨i, hi, rfl, hall, how⟩ := hrel
    by_cases hlt : i < l.length
    · obtain ⟨x, hx⟩ : ∃ x, l[i]? = some x := ⟨_, List.getElem?_eq_getElem hlt⟩
      obtain ⟨_, A', c', hv, _, _, hc⟩ := HR.out
      obtain ⟨e1, e2⟩ := encL_at hx
      obtain ⟨b, o, hA, _, hc1⟩ := hc _ _ e1
      obtain ⟨b', o', hA', _, hc2⟩ := hc _ _ e2
      obtain rfl : A = A' := by injection hv
      rw [hA] at hA'
      obtain ⟨rfl, rfl⟩ : b = b' ∧ o = o' := by injection hA' with h; injection h with h1 h2; exact ⟨h1, h2⟩
      subst hA
      have p1 := how.out.cell hc1 id
      have p2 : wr.cell? ⟨b, o + i * 2 + 1, none⟩ = some (.string (str x.data)) := by rw [Nat.add_assoc]; exact how.out.cell hc2 id
      clear hv hc hc1 hc2 e1 e2 hA'
      have hta : Hid (x.right = true → (l.take (i + 1)).all Ent.right = true) := fun e => by
        obtain ⟨hi', rfl⟩ := List.getElem?_eq_some_iff.1 hx
        rw [List.take_succ_eq_append_getElem hi', List.all_append, hall.out]
        simp [e]
      have hfa : Hid (x.right = false → l.all Ent.right = false) := fun e => by
        rw [List.all_eq_false]
        exact ⟨x, List.mem_of_getElem? hx, by simp [e]⟩
      have IB := ebad_is wr x (HF.out x (List.mem_of_getElem? hx))
      clear hx
      obtain ⟨g, hg⟩ : ∃ g, x.right = g := ⟨_, rfl⟩
      rw [hg] at IB hta hfa
      have HIB := Lib.hid IB
      clear IB hg
      cases g with
      | true =>
        go_wp2_with (go_at_call 58; refine HIB.out.mono ?_; rintro e w1 ⟨rfl, ho1⟩; have HO1 := Lib.hid (how.out.trans ho1); clear ho1)
        go_roundw
        case rel => exact ⟨i + 1, by omega, by go_num, hta.out (by simp), HO1.out⟩
        case measure => simp [intOf]; omega
      | false =>
        go_wp2_with (go_at_call 58; refine HIB.out.mono ?_; rintro e w1 ⟨rfl, ho1⟩; have HO1 := Lib.hid (how.out.trans ho1); clear ho1)
        go_ret
        refine ⟨⟨_, rfl, ?_⟩, HO1.out⟩
        have h0 := hfa.out (by simp)
        rw [h0]
        simp
    · obtain rfl : i = l.length := by omega
      have hta : Hid (l.all Ent.right = true) := by have := hall.out; rwa [List.take_length] at this
      go_wp2_with fail
      go_ret
      refine ⟨⟨_, rfl, ?_⟩, how.out⟩
      have h0 := hta.out
      rw [h0]
      rfl

theorem ebads_is (w : World) (N : Nat → Prop) (v : Value) (l : List Ent) (hr : RRow N w v l.length 2 (encL l)) (hl : l.length ≤ 9223372036854775807) (hf : Fits l) :
    Calls Tryz.prog 57 #[v, .func (.func 58) #[] #[]] w fun e w' => e = .returned (.bool (!l.all Ent.right)) ∧ Out Zone.no w w' := by
  obtain ⟨A, c, rfl, _, _⟩ := hr.form
  have HI := Lib.hid (eidx_is w N _ l hr hl hf)
  clear hr
  go_enter Tryz.func57, Tryz.ntmps57
  go_wp2_with (go_at_call 75; refine HI.out.mono ?_; rintro e w1 ⟨⟨r, rfl, hr⟩, ho⟩; have HRR := Lib.hid hr; have HO := Lib.hid ho; clear hr ho)
  go_ret
  exact ⟨by rw [← HRR.out]; rfl, HO.out⟩
end Go.Proofs.YtlgoenimjmiapaaGreat
