import Derived.Test.YtlgoenimjmiapaaGreatT00
import Derived.Maps.OwnSet
import Derived.Maps.Views
set_option linter.unusedSimpArgs false
set_option linter.unusedVariables false
set_option linter.unusedSectionVars false
/-! Maps with int keys, as partial functions to values: laws over any program. -/
set_option linter.unusedVariables false
namespace Go.Proofs.YtlgoenimjmiapaaGreat
open Go.RowKit Go.Maps

/-- An element reads as itself. -/
def heldR (v : Value) : Option (DataW Value × List MemPlace) := some (.held v, [])

/-- Block b is a map of at most n entries that holds V. -/
def MapV (P : Program) (k : TypeId) (w : World) (b n : Nat) (V : Int → Option Value) : Prop :=
  ∃ D : DataW Value, w.ownsMap P k heldR b n D ∧ ∀ key : Int, match V key with
    | none => ∀ z, D.atKey (.int .i64 key) z = z
    | some v => ∀ z, D.atKey (.int .i64 key) z = .held v

theorem pigeon : ∀ (n : Nat) (l : List Nat), l.Nodup → (∀ x ∈ l, x < n) → l.length ≤ n
  | 0, l, _, h => by
    cases l with
    | nil => simp
    | cons x r => have := h x (by simp); omega
  | n + 1, l, hn, h => by
    by_cases hm : n ∈ l
    · have h1 := pigeon n (l.erase n) (hn.erase n) (fun x hx => by
        have hx1 := h x (List.mem_of_mem_erase hx)
        have hx2 : x ≠ n := fun e => by subst e; exact (List.Nodup.not_mem_erase hn) hx
        omega)
      rw [List.length_erase_of_mem hm] at h1
      omega
    · have h1 := pigeon n l hn (fun x hx => by
        have hx1 := h x hx
        have hx2 : x ≠ n := fun e => by subst e; exact hm hx
        omega)
      omega

section
variable {P : Program} {k : TypeId} {w w' : World} {b n : Nat} {V : Int → Option Value}

theorem MapV.lt (h : MapV P k w b n V) : b < w.heap.size := by obtain ⟨D, h, _⟩ := h; exact h.lt
theorem MapV.mono (h : MapV P k w b n V) {m : Nat} (hm : n ≤ m) : MapV P k w b m V := by obtain ⟨D, h, h2⟩ := h; exact ⟨D, h.mono hm, h2⟩
theorem MapV.same (h : MapV P k w b n V) (hb : w'.heap[b]? = w.heap[b]?) : MapV P k w' b n V := by
  obtain ⟨D, ⟨es, c, h1, h2, h3, h4⟩, h5⟩ := h
  exact ⟨D, ⟨es, c, hb.trans h1, h2, h3, h4⟩, h5⟩
theorem MapV.kept (h : MapV P k w b n V) {row : Option Nat} (hg : w.grownBy w' row) (hne : some b ≠ row) : MapV P k w' b n V := h.same (hg.block b h.lt hne)
theorem MapV.out (h : MapV P k w b n V) {Z : Zone} (hg : Out Z w w') (hb : ¬ Z.S b) : MapV P k w' b n V := h.same (hg.block b h.lt hb)
theorem MapV.made (P : Program) (k : TypeId) (w : World) : MapV P k (w.alloc (.map #[] 0)) w.heap.size 0 (fun _ => none) :=
  ⟨.map [], World.ownsMap_made w P k heldR, fun key z => rfl⟩
theorem MapV.congr (h : MapV P k w b n V) {V' : Int → Option Value} (hv : ∀ x, V' x = V x) : MapV P k w b n V' := by
  have : V' = V := funext hv
  subst this; exact h

theorem heldR_mk (v : Value) : heldR v = some (.held v, []) := rfl

/-- 'v, ok := m[key]'. -/
theorem MapV.look2 (hk : P.underlying k = some (.int .i64)) {t e : TypeId} (ht : P.underlying t = some (.map k e)) {z : Value} (hz : ∀ W, (zeroValue e).run P W = .ok z W) (h : MapV P k w b n V) {key : Int} (hw : (Lit.int .i64 key).wf = true) :
    (Instr.lookup t (.map (some b)) (.int .i64 key) true).run P w = .ok (.tuple #[(V key).getD z, .bool (V key).isSome]) w := by
  obtain ⟨D, ⟨es, c, hb, F, hs, rfl⟩, h5⟩ := h
  have h5 := h5 key
  rcases Maps.fit_look true (int_keyed hk) ht (hz w) hb F (keyOf_int_mk hk hw) with ⟨hrun, _, hat⟩ | ⟨e0, y, _, _, hrun, hy, hat, _⟩
  · rw [hrun]
    cases hV : V key with
    | none => rfl
    | some v =>
      rw [hV] at h5
      have := (h5 .nil).symm.trans (hat .nil)
      cases this
  · rw [hrun]
    cases hV : V key with
    | none =>
      rw [hV] at h5
      rw [heldR_mk] at hy
      cases hy
      have := (h5 .nil).symm.trans (hat .nil)
      cases this
    | some v =>
      rw [hV] at h5
      rw [heldR_mk] at hy
      cases hy
      have := (h5 .nil).symm.trans (hat .nil)
      cases this
      rfl

/-- 'm[key]'. -/
theorem MapV.look1 (hk : P.underlying k = some (.int .i64)) {t e : TypeId} (ht : P.underlying t = some (.map k e)) {z : Value} (hz : ∀ W, (zeroValue e).run P W = .ok z W) (h : MapV P k w b n V) {key : Int} (hw : (Lit.int .i64 key).wf = true) :
    (Instr.lookup t (.map (some b)) (.int .i64 key) false).run P w = .ok ((V key).getD z) w := by
  obtain ⟨D, ⟨es, c, hb, F, hs, rfl⟩, h5⟩ := h
  have h5 := h5 key
  rcases Maps.fit_look false (int_keyed hk) ht (hz w) hb F (keyOf_int_mk hk hw) with ⟨hrun, _, hat⟩ | ⟨e0, y, _, _, hrun, hy, hat, _⟩
  · rw [hrun]
    cases hV : V key with
    | none => rfl
    | some v =>
      rw [hV] at h5
      have := (h5 .nil).symm.trans (hat .nil)
      cases this
  · rw [hrun]
    cases hV : V key with
    | none =>
      rw [hV] at h5
      rw [heldR_mk] at hy
      cases hy
      have := (h5 .nil).symm.trans (hat .nil)
      cases this
    | some v =>
      rw [hV] at h5
      rw [heldR_mk] at hy
      cases hy
      have := (h5 .nil).symm.trans (hat .nil)
      cases this
      rfl

/-- V with v at key. -/
def putV (V : Int → Option Value) (key : Int) (v : Value) : Int → Option Value := fun x => if x = key then some v else V x
def delV (V : Int → Option Value) (key : Int) : Int → Option Value := fun x => if x = key then none else V x

/-- 'm[key] = v'. -/
theorem MapV.update (hk : P.underlying k = some (.int .i64)) {t e : TypeId} (ht : P.underlying t = some (.map k e)) (h : MapV P k w b n V) (hn : n < maxLen) {key : Int} (hw : (Lit.int .i64 key).wf = true) (v : Value) :
    ∃ w', (Instr.mapUpdate t (.map (some b)) (.int .i64 key) v).run P w = .ok () w' ∧ MapV P k w' b (n + 1) (putV V key v) ∧ w.grownBy w' (some b) := by
  obtain ⟨D, hown, h5⟩ := h
  obtain ⟨w', hrun, hown', hg⟩ := hown.update (int_keyed hk) ht hn (keyOf_int_mk hk hw) (heldR_mk v)
  refine ⟨w', hrun, ⟨_, hown', fun x => ?_⟩, hg⟩
  unfold putV
  by_cases hx : x = key
  · subst hx
    rw [if_pos rfl]
    intro z
    exact atKey_put_same hown.isMap ((int_keyed hk).key (keyOf_int_mk hk hw)) _ _
  · rw [if_neg hx]
    have h6 := h5 x
    have hne : (Lit.int .i64 x) ≠ Lit.int .i64 key := fun e => hx (by injection e)
    cases hV : V x with
    | none => rw [hV] at h6; intro z; rw [atKey_put_other hne]; exact h6 z
    | some u => rw [hV] at h6; intro z; rw [atKey_put_other hne]; exact h6 z

/-- 'delete(m, key)'. -/
theorem MapV.delete (hk : P.underlying k = some (.int .i64)) {t e ty : TypeId} (ht : P.underlying t = some (.map k e)) (h : MapV P k w b n V) {key : Int} (hw : (Lit.int .i64 key).wf = true) :
    ∃ w', (Builtin.delete_ #[t, k] ty #[.map (some b), .int .i64 key]).run P w = .ok (.tuple #[]) w' ∧ MapV P k w' b n (delV V key) ∧ w.grownBy w' (some b) := by
  obtain ⟨D, ⟨es, c, hb, F, hs, rfl⟩, h5⟩ := h
  obtain ⟨es', hrun, F', hsz, hdel, _⟩ := Maps.fit_drop (ty := ty) (int_keyed hk) ht hb F (keyOf_int_mk hk hw)
  refine ⟨_, hrun, ⟨_, ⟨es', c, ChangeMaps.heap_setBlock_same hb _, F', Nat.le_trans hsz hs, rfl⟩, fun x => ?_⟩, ⟨rfl, rfl, rfl, by simp [ChangeMaps.setBlock], fun i _ hi => ChangeMaps.heap_setBlock_other hb _ (fun e => hi (by rw [e]))⟩⟩
  rw [hdel]
  have hd : ∀ l : List (Lit × DataW Value), DataW.map (ChangeMaps.delKey (Lit.int .i64 key) l) = (DataW.map l).del (Lit.int .i64 key) := fun l => by rw [DataW.del_eq]
  rw [hd]
  unfold delV
  by_cases hx : x = key
  · subst hx
    rw [if_pos rfl]
    intro z
    exact atKey_del_same z
  · rw [if_neg hx]
    have h6 := h5 x
    have hne : (Lit.int .i64 x) ≠ Lit.int .i64 key := fun e => hx (by injection e)
    cases hV : V x with
    | none => rw [hV] at h6; intro z; rw [atKey_del_other hne]; exact h6 z
    | some u => rw [hV] at h6; intro z; rw [atKey_del_other hne]; exact h6 z

/-- 'clear(m)'. -/
theorem MapV.clear {t e ty : TypeId} (ht : P.underlying t = some (.map k e)) (h : MapV P k w b n V) :
    ∃ w', (Builtin.clear_ #[t] ty #[.map (some b)]).run P w = .ok (.tuple #[]) w' ∧ MapV P k w' b 0 (fun _ => none) ∧ w.grownBy w' (some b) := by
  obtain ⟨D, ⟨es, c, hb, F, hs, rfl⟩, h5⟩ := h
  refine ⟨ChangeMaps.setBlock w b (.map #[] c), ?_, ⟨.map [], ⟨#[], c, ChangeMaps.heap_setBlock_same hb _, ⟨by simp, ?_, by simp⟩, Nat.le_refl _, rfl⟩, fun x z => rfl⟩, ⟨rfl, rfl, rfl, by simp [ChangeMaps.setBlock], fun i _ hi => ChangeMaps.heap_setBlock_other hb _ (fun e => hi (by rw [e]))⟩⟩
  · simp [Builtin.clear_, run_underlying ht, MapKept.run_getObj_map hb, MapKept.run_setObj_map _ hb, Result.andThen, ChangeMaps.setBlock]
  · exact MapKept.stamped_empty c

theorem MapV.small (hk : P.underlying k = some (.int .i64)) (h : MapV P k w b n V) (N : Nat) (hN : ∀ x v, V x = some v → 0 ≤ x ∧ x < N) : MapV P k w b N V := by
  obtain ⟨D, hown, h5⟩ := id h
  obtain ⟨es, c, hb, F, hs, rfl⟩ := id hown
  refine ⟨_, ⟨es, c, hb, F, ?_, rfl⟩, h5⟩
  have K : Keyed P k := int_keyed hk
  have hkeys := Maps.fit_keys F
  have hap := Maps.fit_apart K F
  have hint : ∀ p ∈ es.toList.map (Go.WideElems.rg P k heldR), ∃ x : Int, p.1 = .int .i64 x := fun p hp => by
    obtain ⟨v, hv⟩ := hkeys p hp
    cases v <;> simp [keyOf, hk, mapKey] at hv
    obtain ⟨⟨rfl, _⟩, h3⟩ := hv
    exact ⟨_, h3.symm⟩
  let f : Lit × DataW Value → Nat := fun p => match p.1 with | .int _ x => x.toNat | _ => 0
  have hin : ∀ p ∈ es.toList.map (Go.WideElems.rg P k heldR), ∃ x : Int, p.1 = .int .i64 x ∧ 0 ≤ x ∧ x < N := fun p hp => by
    obtain ⟨x, hx⟩ := hint p hp
    refine ⟨x, hx, ?_⟩
    have h6 := h5 x
    cases hV : V x with
    | some v => exact hN x v hV
    | none =>
      exfalso
      rw [hV] at h6
      have h7 := has_false_of_atKey (D := DataW.map ((es.toList.map (Go.WideElems.rg P k heldR)).foldr DataW.insert [])) h6
      have h8 : has (DataW.map ((es.toList.map (Go.WideElems.rg P k heldR)).foldr DataW.insert [])) (.int .i64 x) = true := by
        rw [has_eq, List.any_eq_true]
        refine ⟨p, (WideShapes.sorted_perm _).mem_iff.2 hp, ?_⟩
        rw [← hx]
        exact WideAt.sameKey_self (by
          obtain ⟨v, hv⟩ := hkeys p hp
          exact K.key hv)
      rw [h7] at h8; cases h8
  have hlen : ((es.toList.map (Go.WideElems.rg P k heldR)).map f).length ≤ N := by
    refine pigeon N _ ?_ (fun y hy => ?_)
    · rw [List.nodup_iff_pairwise_ne, List.pairwise_map]
      refine hap.imp_of_mem (fun {p q} hp hq hne => ?_)
      obtain ⟨x, hx, hx0, _⟩ := hin p hp
      obtain ⟨y, hy, hy0, _⟩ := hin q hq
      simp only [f, hx, hy]
      intro e
      apply hne
      rw [hx, hy]
      congr 1
      omega
    · obtain ⟨p, hp, rfl⟩ := List.mem_map.1 hy
      obtain ⟨x, hx, hx0, hx1⟩ := hin p hp
      simp only [f, hx]
      omega
  simpa using hlen
end
end Go.Proofs.YtlgoenimjmiapaaGreat
