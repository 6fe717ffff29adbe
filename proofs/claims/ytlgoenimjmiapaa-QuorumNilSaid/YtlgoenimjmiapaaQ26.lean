import Derived.Test.YtlgoenimjmiapaaQ25
import Derived.Test.YtlgoenimjmiapaaQ12
/-! Promote. -/
set_option linter.unusedVariables false
namespace Go.Proofs.Ytlgoenimjmiapaa
open Go.RowKit Go.Maps

theorem own_tight {P : Program} {k : TypeId} {w : World} {R : Value → Option (DataW Value × List MemPlace)} {b n : Nat} {D : DataW Value} (h : w.ownsMap P k R b n D) : w.ownsMap P k R b (Maps.size D) D := by
  obtain ⟨es, clock, hb, F, _, rfl⟩ := h
  have e1 : Maps.size (DataW.map ((es.toList.map (Go.WideElems.rg P k R)).foldr DataW.insert [])) = es.size := by simp [Maps.size, length_sorted]
  exact ⟨es, clock, hb, F, by rw [e1]; exact Nat.le_refl _, rfl⟩

theorem VotesAt.made (w : World) : VotesAt (w.alloc (.map #[] 0)) w.heap.size [] := by
  refine ⟨.map [], World.ownsMap_made w Try.prog 3 heldR, rfl, List.nodup_nil, fun key => ?_⟩
  rw [if_neg (by simp)]
  intro z
  rfl
def addV (gs : List Int) (i : Int) : List Int := if i ∈ gs then gs else gs ++ [i]
theorem VotesAt.add {w : World} {b : Nat} {gs : List Int} (h : VotesAt w b gs) {i : Nat} (hi : i ≤ 7) (hl : gs.length ≤ 100) :
    ∃ w', (Instr.mapUpdate 51 (.map (some b)) (.int .i64 (i : Int)) (.bool true)).run Try.prog w = .ok () w' ∧ VotesAt w' b (addV gs (i : Int)) ∧ w.grownBy w' (some b) := by
  obtain ⟨D, hown, hsz, hnd, h5⟩ := h
  have hk := Try.underlying3
  have hkey := keyOf_int_mk (P := Try.prog) hk (WalkArith.wf_i64 (n := (i : Int)) (by omega))
  obtain ⟨w', hrun, hown', hg⟩ := hown.update (int_keyed hk) Try.underlying51 (Nat.lt_of_le_of_lt hl (by decide)) hkey (heldR_mk (.bool true))
  have hhas : has D (.int .i64 (i : Int)) = decide ((i : Int) ∈ gs) := by
    have h6 := h5 (i : Int)
    by_cases hm : (i : Int) ∈ gs
    · rw [if_pos hm] at h6
      rw [decide_eq_true hm]
      exact has_true_of_atKey h6
    · rw [if_neg hm] at h6
      rw [decide_eq_false hm]
      exact has_false_of_atKey h6
  have hs2 : Maps.size (D.put (.int .i64 (i : Int)) (.held (.bool true))) = (addV gs (i : Int)).length := by
    rw [size_put (hown.tidy (int_keyed hk)), hhas, hsz]
    unfold addV
    by_cases hm : (i : Int) ∈ gs
    · simp [hm]
    · simp [hm]
  have hown2 := own_tight hown'
  rw [hs2] at hown2
  refine ⟨w', hrun, ⟨_, hown2, hs2, ?_, fun key => ?_⟩, hg⟩
  · unfold addV
    by_cases hm : (i : Int) ∈ gs
    · rw [if_pos hm]; exact hnd
    · rw [if_neg hm, List.nodup_append]
      refine ⟨hnd, by simp, fun a ha c hc => ?_⟩
      rw [List.mem_singleton.1 hc]
      exact fun e => hm (e ▸ ha)
  · have hin : key ∈ addV gs (i : Int) ↔ key ∈ gs ∨ key = (i : Int) := by
      unfold addV
      by_cases hm : (i : Int) ∈ gs
      · rw [if_pos hm]
        exact ⟨Or.inl, fun e => e.elim id (fun e => by rw [e]; exact hm)⟩
      · rw [if_neg hm, List.mem_append, List.mem_singleton]
    by_cases hx : key = (i : Int)
    · subst hx
      rw [if_pos (hin.2 (Or.inr rfl))]
      intro z
      exact atKey_put_same hown.isMap ((int_keyed hk).key hkey) _ _
    · have h6 := h5 key
      have hne : (Lit.int .i64 key) ≠ Lit.int .i64 (i : Int) := fun e => hx (by injection e)
      by_cases hm : key ∈ gs
      · rw [if_pos (hin.2 (Or.inl hm))]
        rw [if_pos hm] at h6
        intro z; rw [atKey_put_other hne]; exact h6 z
      · rw [if_neg (fun e => (hin.1 e).elim hm hx)]
        rw [if_neg hm] at h6
        intro z; rw [atKey_put_other hne]; exact h6 z

/-- Work, handed out. -/
def WorkOut (N : Nat → Prop) (w : World) (v : Value) (ns : List Nt) (ms : List Msg) : Prop := ∃ nv sv ss, v = .agg #[nv, sv] ∧ ss.map Prod.fst = ms ∧ WorkAt N w nv sv ns ss
/-- The node has become c' without its work, which is v. -/
def Handed (w : World) (x : Nat) (V : NV) (c' : NS) (v : Value) (w' : World) : Prop :=
  ∃ V', NAt w' x ⟨c'.q, [], []⟩ V' ∧ Next (V.own x) w (V'.own x) w' ∧ WorkOut (V'.own x) w' v c'.ns c'.ms
/-- An answer: the work and an error number. -/
def Answered (w : World) (x : Nat) (V : NV) (r : NS × Int) (e : Ending) (w' : World) : Prop := ∃ v, e = .returned (.tuple #[v, .int .i64 r.2]) ∧ Handed w x V r.1 v w'

def NS.cand (c : NS) : NS := { c with q := { c.q with role := 1, granted := some [(c.q.id : Int)] } }
def ND.promote (q : ND) : NS × Int :=
  if 1099511627776 ≤ q.st.ep then (⟨q, [], []⟩, 6)
  else (((NS.note ⟨q, [], []⟩ ⟨1, q.st.ep + 1, (q.id : Int), ⟨0, []⟩⟩).cand.asks).count, 0)
end Go.Proofs.Ytlgoenimjmiapaa
