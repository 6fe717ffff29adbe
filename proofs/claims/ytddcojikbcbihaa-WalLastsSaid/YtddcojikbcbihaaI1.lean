import Derived.Test.YtddcojikbcbihaaI0
import Derived.Test.YtddcojikbcbihaaK7
/-! wal.records: the iterator. -/
set_option linter.unusedVariables false
namespace Go.Proofs.Ytddcojikbcbihaa
open Go.RowKit Go.Shelf
attribute [local go_sem] Oper.semAt_some

theorem unrec_size (L : List UInt8) (h : (unrec L).2.2 = 0) : 0 < (unrec L).2.1 ∧ (unrec L).2.1 ≤ L.length := by
  unfold unrec at h ⊢
  split at h
  · rename_i h1; exact (h1 h).elim
  · split at h
    · simp at h
    · split at h
      · simp at h
      · rename_i h1 h2 h3
        rw [if_neg h1, if_neg h2, if_neg h3]
        split at h
        · rename_i h4
          rw [if_pos h4]
          simp only
          omega
        · simp at h

/-- The records from a place on: each with its place, its bytes and its end. -/
def recs (base : Int) (L : List UInt8) (k : Nat) : List (Int × List UInt8 × Int) :=
  if h : k < L.length ∧ (unrec (L.drop k)).2.2 = 0 ∧ 0 < (unrec (L.drop k)).2.1 then
    (base + k, (unrec (L.drop k)).1, base + k + (unrec (L.drop k)).2.1) :: recs base L (k + (unrec (L.drop k)).2.1)
  else []
termination_by L.length - k
decreasing_by omega

theorem recs_end (base : Int) {L : List UInt8} {k : Nat} (h : ¬ k < L.length) : recs base L k = [] := by
  rw [recs, dif_neg (fun e => h e.1)]
theorem recs_err (base : Int) {L : List UInt8} {k : Nat} (h : (unrec (L.drop k)).2.2 ≠ 0) : recs base L k = [] := by
  rw [recs, dif_neg (fun e => h e.2.1)]
theorem recs_go (base : Int) {L : List UInt8} {k : Nat} {X : List UInt8} {n : Nat} (hk : k < L.length) (h : unrec (L.drop k) = (X, n, 0)) (hn : 0 < n) :
    recs base L k = (base + k, X, base + k + n) :: recs base L (k + n) := by
  rw [recs, dif_pos ⟨hk, by rw [h], by rw [h]; exact hn⟩, h]

/-- What is handed out. -/
structure Ent where
  at_ : Int
  A : Option Addr
  m : Nat
  c : Nat
  X : List UInt8
  to_ : Int
def Ent.v (x : Ent) : Value := .slice x.A x.m x.c
def Ent.key (x : Ent) : Int × List UInt8 × Int := (x.at_, x.X, x.to_)
def encE (x : Ent) : Array Value := #[.agg #[.int .i64 x.at_, .slice x.A x.m x.c], .int .i64 x.to_]

/-- What a round keeps: the blocks of Pr, and bytes. -/
structure Keeps (Pr : Nat → Prop) (W W' : World) : Prop where
  size : W.heap.size ≤ W'.heap.size
  block : ∀ k o, W.heap[k]? = some o → (Pr k ∨ ∃ cs, o = .cells cs 5 (0, 0)) → W'.heap[k]? = some o
theorem Keeps.refl (Pr : Nat → Prop) (W : World) : Keeps Pr W W := ⟨Nat.le_refl _, fun _ _ h _ => h⟩
theorem Keeps.trans {Pr : Nat → Prop} {A B C : World} (h : Keeps Pr A B) (k : Keeps Pr B C) : Keeps Pr A C :=
  ⟨Nat.le_trans h.size k.size, fun i o hi ho => k.block i o (h.block i o hi ho) ho⟩
theorem Keeps.of_out {Pr : Nat → Prop} {W W' : World} (h : Out Zone.no W W') : Keeps Pr W W' := ⟨h.size, fun k o hk _ => h.get hk id⟩
theorem Keeps.owns {Pr : Nat → Prop} {b : Nat} {W W' : World} (h : Keeps Pr W W') {v : Value} {L : List UInt8} (ho : Owns b W v L) : Owns b W' v L := by
  obtain ⟨h1, h2⟩ := ho
  refine ⟨h1, ?_⟩
  rcases h2 with h2 | ⟨g, cap, cur, hv, hg, hh, hr⟩
  · exact Or.inl h2
  · exact Or.inr ⟨g, cap, cur, hv, hg, h.block g _ hh (Or.inr ⟨_, rfl⟩), hr⟩
theorem grown_out {w w' : World} (h : Out Zone.no w w') : w.grownBy w' none :=
  ⟨h.os, h.tape, h.output, h.size, fun k hk _ => h.block k hk id⟩

theorem owns_form {b : Nat} {w : World} {v : Value} {L : List UInt8} (h : Owns b w v L) : ∃ A m c, v = .slice A m c := by
  obtain ⟨h1, h2 | ⟨g, cap, cur, hv, _⟩⟩ := h
  · exact ⟨_, _, _, h2.1⟩
  · exact ⟨_, _, _, hv⟩

/-- Where nothing has turned. -/
def Same (Pr : Nat → Prop) (w W : World) : Prop := ∀ k o, w.heap[k]? = some o → Pr k → W.heap[k]? = some o
/-- Rows that lie in the blocks of Pr. -/
def Zone.inn (Pr : Nat → Prop) : Zone := ⟨fun _ => False, fun k => ¬ Pr k, fun _ h => h.elim⟩
theorem Same.cell {Pr : Nat → Prop} {w W : World} (h : Same Pr w W) {a : Addr} (ha : Pr a.block) {v : Value} (hx : w.cell? a = some v) : W.cell? a = some v := by
  have hlt : a.block < w.heap.size := by
    rcases Nat.lt_or_ge a.block w.heap.size with hlt | hge
    · exact hlt
    · simp [World.cell?, Array.getElem?_eq_none hge] at hx
  obtain ⟨o, ho⟩ : ∃ o, w.heap[a.block]? = some o := ⟨_, Array.getElem?_eq_getElem hlt⟩
  rw [← hx]
  exact World.cell?_of_block (w := w) ((h _ o ho ha).trans ho.symm)
theorem Same.row {Pr : Nat → Prop} {w W : World} (h : Same Pr w W) {v : Value} {xs : List Value} (hr : Row (Zone.inn Pr) w v xs) : Row Zone.no W v xs := by
  obtain ⟨A, c, hv, h1, h2, hc⟩ := hr
  refine ⟨A, c, hv, h1, h2, fun j u hu => ?_⟩
  obtain ⟨a, ha, hb, hx⟩ := hc j u hu
  exact ⟨a, ha, id, h.cell (by rw [addr_add_block]; exact Classical.byContradiction hb) hx⟩
theorem Same.keeps {Pr : Nat → Prop} {w W W' : World} (h : Same Pr w W) (k : Keeps Pr W W') : Same Pr w W' := fun i o hi hp => k.block i o (h i o hi hp) (Or.inl hp)

theorem recs_length (base : Int) (L : List UInt8) (k : Nat) : (recs base L k).length ≤ L.length - k := by
  induction hn : L.length - k using Nat.strongRecOn generalizing k with
  | _ n ih =>
    rw [recs]
    split
    · rename_i h
      have := ih (L.length - (k + (unrec (L.drop k)).2.1)) (by omega) _ rfl
      rw [List.length_cons]
      omega
    · simp

set_option maxRecDepth 100000 in
set_option maxHeartbeats 2000000 in
theorem records1_tells (n : Nat) (hn : 1 ≤ n) (Pr : Nat → Prop) (Bs Bb : Nat) (base : Int) (v : Value) (L : List UInt8) (w : World) (hPr : ∀ k, Pr k → k < w.heap.size) (hBs : Pr Bs) (hBb : Pr Bb)
    (hs : w.cell? ⟨Bs, 0, none⟩ = some v) (hb : w.cell? ⟨Bb, 0, none⟩ = some (.int .i64 base)) (hr : Row (Zone.inn Pr) w v (bytes L)) (hl : L.length ≤ 100000000) (hba : -1000000000000 ≤ base ∧ base ≤ 1000000000000) :
    SeqTells Fence.wide n Try.prog 76 #[.pointer (some ⟨Bs, 0, none⟩), .pointer (some ⟨Bb, 0, none⟩)] encE (Keeps Pr)
      (fun xs W => xs.map Ent.key = recs base L 0 ∧ ∀ x ∈ xs, Owns w.heap.size W x.v x.X) (recs base L 0).length w := by
  intro l J W hW hJ hY h0
  obtain ⟨A, c, rfl, hc1, hc2⟩ := hr.form
  unfold maxLen at hc2
  have SW : Hid (Same Pr w W) := fun k o hk hp => (hW.block k (hPr k hp)).trans hk
  have HR := Lib.hid hr
  have HJ := Lib.hid hJ
  have HY := Lib.hid hY
  have HS := Lib.hid hs
  have HB := Lib.hid hb
  have hsz : w.heap.size ≤ W.heap.size := hW.size
  clear hJ hY hr hs hb hW hPr
  refine callsIn_of_wp Try.func76 rfl trivial ?_ rfl
  simp only [Try.ntmps76, List.size_toArray, List.length_cons, List.length_nil, Nat.reduceAdd, Nat.reduceSub, Array.replicate_succ, Array.replicate_zero, List.push_toArray, List.append_toArray, List.nil_append, List.cons_append]
  gi_wp2
  gi_loopw [4] (fun vk wr => ∃ (k : Nat) (xs : List Ent), k ≤ L.length ∧ vk = .int .i64 (k : Int) ∧ Hid (xs.map Ent.key ++ recs base L k = recs base L 0) ∧ Hid (∀ x ∈ xs, Owns w.heap.size wr x.v x.X) ∧ Hid (J xs wr) ∧ Hid (Same Pr w wr) ∧ w.heap.size ≤ wr.heap.size)
    (fun vk _ => L.length - (intOf vk).toNat)
  case atStart => exact ⟨0, [], Nat.zero_le _, rfl, by simp [Hid], fun x hx => by simp at hx, h0, SW.out, hsz⟩
  case round =>
    obtain ⟨k, xs, hk, rfl, hx, hown, hj, hsame, hszr⟩ := hrel
    have cs := hsame.out.cell (a := ⟨Bs, 0, none⟩) hBs HS.out
    have cb := hsame.out.cell (a := ⟨Bb, 0, none⟩) hBb HB.out
    by_cases hlt : k < L.length
    · have R := Lib.hid (unrecord_is wr _ (L.drop k) ((hsame.out.row HR.out).drop_ne (by omega) (by omega)))
      unfold UnrecOk at R
      by_cases her : (unrec (L.drop k)).2.2 = 0
      · obtain ⟨hz1, hz2⟩ := unrec_size _ her
        obtain ⟨X, sz, er, hre⟩ : ∃ X sz er, unrec (L.drop k) = (X, sz, er) := ⟨_, _, _, rfl⟩
        rw [hre] at her hz1 hz2 R
        obtain rfl : er = 0 := her
        rw [recs_go base hlt hre hz1] at hx
        rw [List.length_drop] at hz2
        simp only at hz1 hz2
        clear hre
        gi_wp2_with (first
          | (refine ⟨trivial, ?_⟩; gi_at_call 77; refine (callsIn_wide.2 R.out).mono ?_; rintro e w1 ⟨v1, rfl, h1, ho1⟩; obtain ⟨A1, m1, c1, rfl⟩ := owns_form h1; have H1 := Lib.hid h1; have HO1 := Lib.hid ho1; clear h1 ho1
             have cb1 := (hsame.out.keeps (Keeps.of_out HO1.out)).cell (a := ⟨Bb, 0, none⟩) hBb HB.out
             obtain ⟨fn, tmps, assign, body, hy, hR⟩ := HY.out xs ⟨base + k, A1, m1, c1, X, base + k + sz⟩ w1 (HJ.out _ _ _ none hj.out (grown_out HO1.out) (fun r e => by cases e)) (by have h := congrArg List.length hx.out; rw [List.length_append, List.length_cons, List.length_map] at h; omega)
             simp only [encE] at hy)
          | fail)
        refine hR.mono ?_
        rintro e W3 ⟨rfl, hJ3, hK3⟩
        have HJ3 := Lib.hid hJ3
        have HK3 := Lib.hid ((Keeps.of_out HO1.out).trans hK3)
        have HK13 := Lib.hid hK3
        clear hJ3 hK3
        gi_wp2
        go_roundw
        case rel =>
          refine ⟨k + sz, xs ++ [(⟨base + k, A1, m1, c1, X, base + k + sz⟩ : Ent)], by omega, by go_num, ?_, ?_, HJ3.out, hsame.out.keeps HK3.out, Nat.le_trans hszr HK3.out.size⟩
          · show _ = _
            rw [← hx.out, List.map_append, List.append_assoc]
            rfl
          · intro x hx
            rcases List.mem_append.1 hx with hx | hx
            · exact HK3.out.owns (hown.out x hx)
            · rw [List.mem_singleton] at hx
              subst hx
              exact HK13.out.owns (H1.out.base_le hszr)
        case measure => simp [intOf]; omega
      · have HX := Lib.hid (recs_err base her)
        obtain ⟨er, hee⟩ : ∃ er, (unrec (L.drop k)).2.2 = er := ⟨_, rfl⟩
        rw [hee] at her R
        have hne : (er != 0) = true := by simpa using her
        clear hee her
        gi_wp2_with (first
          | (refine ⟨trivial, ?_⟩; gi_at_call 77; refine (callsIn_wide.2 R.out).mono ?_; rintro e w1 ⟨v1, rfl, h1, ho1⟩; have HO1 := Lib.hid ho1; clear h1 ho1)
          | fail)
        refine ⟨fun _ h => (by cases h), ?_⟩
        gi_wp2
        refine bodyPost_ret (results_none rfl _ _ _) rfl ?_
        rw [HX.out, List.append_nil] at hx
        exact ⟨⟨_, rfl⟩, xs, ⟨hx.out, fun x hx => (hown.out x hx).out HO1.out (fun _ _ h => h)⟩, HJ.out _ _ _ none hj.out (grown_out HO1.out) (fun r e => by cases e)⟩
    · obtain rfl : k = L.length := by omega
      rw [recs_end base hlt, List.append_nil] at hx
      gi_wp2
      go_end0
      exact ⟨⟨_, rfl⟩, xs, ⟨hx.out, hown.out⟩, hj.out⟩
end Go.Proofs.Ytddcojikbcbihaa
