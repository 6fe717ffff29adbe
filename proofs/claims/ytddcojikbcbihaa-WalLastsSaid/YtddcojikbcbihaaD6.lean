import Derived.Test.YtddcojikbcbihaaL0
import Derived.Test.YtddcojikbcbihaaD5
/-! The library's maps.Copy, maps.Keys and slices.Sorted at the disk's maps. -/
set_option linter.unusedVariables false
namespace Go.Proofs.Ytddcojikbcbihaa
open Go.RowKit Go.Maps Go.Sort Go.Shelf

theorem key3 : Keyed Try.prog 3 := int_keyed Try.underlying3

def mergeV (V U : Int → Option Value) : Int → Option Value := fun x => match U x with | some v => some v | none => V x

/-- maps.Copy(dst, src). -/
theorem copy_is (w : World) (bd bs n m : Nat) (V U : Int → Option Value) (hd : MapV Try.prog 3 w bd n V) (hs : MapV Try.prog 3 w bs m U) (hne : bd ≠ bs) (hroom : n + m ≤ maxLen) :
    Calls Try.prog 45 #[.map (some bd), .map (some bs)] w fun e w' => e = .returned (.tuple #[]) ∧ MapV Try.prog 3 w' bd (n + m) (mergeV V U) ∧ w.grownBy w' (some bd) := by
  obtain ⟨Dd, hd1, hd2⟩ := hd
  obtain ⟨Ds, hs1, hs2⟩ := hs
  have hsz : Maps.size Ds ≤ m := by
    obtain ⟨es, c, _, _, h3, rfl⟩ := hs1
    show (List.foldr DataW.insert [] _).length ≤ m
    rw [length_sorted]
    simpa using h3
  have hc := AnyX.maps_Copy Try.copyM key3 heldR bd bs n m Dd Ds w hd1 hs1 hne (by omega)
  change Calls Try.prog 45 _ _ _ at hc
  refine hc.mono ?_
  rintro e w' ⟨rfl, h1, h2, h3⟩
  refine ⟨rfl, ⟨_, h1.mono (by omega), fun x => ?_⟩, h3⟩
  have hat : ∀ z, (Lib.mergeD Dd Ds).atKey (.int .i64 x) z = match U x with | some v => .held v | none => Dd.atKey (.int .i64 x) z := by
    intro z
    have hU := hs2 x
    obtain ⟨es, c, hb, F, h4, rfl⟩ := id hs1
    have ht : Tidy (DataW.map (List.foldr DataW.insert [] (List.map (WideElems.rg Try.prog 3 heldR) es.toList))) := hs1.tidy key3
    obtain ⟨l, hl, hp⟩ := ht
    have hk : ∀ p ∈ l, WideAt.IsKeyLit p.1 := by
      cases hl
      intro p hp2
      have hp3 := (WideShapes.sorted_perm _).mem_iff.1 hp2
      obtain ⟨v, hv⟩ := Maps.fit_keys F p hp3
      exact key3.key hv
    rw [hl] at hU
    unfold Lib.mergeD
    rw [hl]
    simp only
    rw [atKey_foldPut _ _ l Dd hd1.isMap hk hp]
    have hdef : ∀ z, (DataW.map l).atKey (.int .i64 x) z = match l.find? (fun p => p.1.sameKey (.int .i64 x)) with | some p => p.2 | none => z := fun z => by
      cases hh : l.find? (fun p => p.1.sameKey (.int .i64 x)) <;> simp [DataW.atKey, hh]
    cases hf : l.find? (fun p => p.1.sameKey (.int .i64 x)) with
    | none =>
      cases hUx : U x with
      | none => rfl
      | some v =>
        rw [hUx] at hU
        have := (hU .nil).symm.trans (hdef .nil)
        rw [hf] at this; cases this
    | some q =>
      cases hUx : U x with
      | none =>
        rw [hUx] at hU
        have h5 := (hU .nil).symm.trans (hdef .nil)
        have h6 := (hU (.lit (.bool true))).symm.trans (hdef (.lit (.bool true)))
        rw [hf] at h5 h6
        simp only at h5 h6
        rw [← h5] at h6; cases h6
      | some v =>
        rw [hUx] at hU
        have := (hU .nil).symm.trans (hdef .nil)
        rw [hf] at this
        exact this.symm
  unfold mergeV
  have hV := hd2 x
  cases hU : U x with
  | some v =>
    intro z
    rw [hat z, hU]
  | none =>
    cases hVx : V x with
    | none => rw [hVx] at hV; intro z; rw [hat z, hU]; exact hV z
    | some v => rw [hVx] at hV; intro z; rw [hat z, hU]; exact hV z

/-- maps.Keys(m). -/
theorem keys_is (mb : Option Nat) (w : World) : Calls Try.prog 50 #[.map mb] w fun e w' => e = .returned (.func (.func 72) #[] #[.pointer (some ⟨w.heap.size, 0, none⟩)]) ∧ w' = w.alloc (.cells #[.map mb] 51) :=
  (callsIn_wide (n := 5)).1 (AnyZI.keys_in Try.keysA Fence.wide 5 trivial rfl mb w)

theorem sorts_in (m : Nat) : AnyZI.SortsIn Try.prog Try.sortedA_ren Fence.wide m :=
  ⟨fun blk off cap ss W hH hblk hsz => callsIn_wide.2 (AnyM.slices_Sort_int Try.sortA blk off cap ss W hH hblk hsz),
   fun p cap W => callsIn_wide.2 (AnyM.slices_Sort_int_none Try.sortA p cap W)⟩

/-- ks are the keys of V, rising. -/
def KeysOfV (V : Int → Option Value) (ks : List Int) : Prop := ks.Pairwise (· < ·) ∧ ∀ x, x ∈ ks ↔ (V x).isSome = true

theorem own_size {w : World} {b n : Nat} {D : DataW Value} (h : w.ownsMap Try.prog 3 heldR b n D) : Maps.size D ≤ n := by
  obtain ⟨es, c, _, _, h3, rfl⟩ := h
  show (List.foldr DataW.insert [] _).length ≤ n
  rw [length_sorted]
  simpa using h3

theorem own_keys {w : World} {b n : Nat} {l : List (Lit × DataW Value)} (h : w.ownsMap Try.prog 3 heldR b n (.map l)) : ∀ p ∈ l, ∃ x, p.1 = .int .i64 x := by
  obtain ⟨es, c, _, F, _, h5⟩ := h
  have h6 : l = List.foldr DataW.insert [] (List.map (WideElems.rg Try.prog 3 heldR) es.toList) := by injection h5
  intro p hp2
  rw [h6] at hp2
  have hp3 := (WideShapes.sorted_perm _).mem_iff.1 hp2
  obtain ⟨v, hv⟩ := Maps.fit_keys F p hp3
  obtain ⟨x, _, hx, _⟩ := Maps.keyOf_i64 Try.underlying3 hv
  exact ⟨x, hx⟩

theorem own_intKeys {w : World} {b n : Nat} {D : DataW Value} {V : Int → Option Value} (h : w.ownsMap Try.prog 3 heldR b n D)
    (hV : ∀ key : Int, match V key with | none => ∀ z, D.atKey (.int .i64 key) z = z | some v => ∀ z, D.atKey (.int .i64 key) z = .held v) :
    (intKeys D).Nodup ∧ (intKeys D).length = Maps.size D ∧ ∀ x, x ∈ intKeys D ↔ (V x).isSome = true := by
  obtain ⟨l, rfl, hpw⟩ := h.tidy key3
  have hint := own_keys h
  refine ⟨?_, ?_, fun x => ?_⟩
  · show (l.map fun p => Go.intOf p.1).Nodup
    refine List.pairwise_map.2 (hpw.imp_of_mem fun {p q} hp' hq' hne e => hne ?_)
    obtain ⟨a, ha⟩ := hint p hp'
    obtain ⟨b, hb2⟩ := hint q hq'
    rw [ha, hb2] at e ⊢
    have : a = b := e
    rw [this]
  · show (l.map fun p => Go.intOf p.1).length = l.length
    simp
  · have hhas : has (DataW.map l) (.int .i64 x) = (V x).isSome := by
      have hVx := hV x
      cases hv : V x with
      | none => rw [hv] at hVx; exact has_false_of_atKey hVx
      | some v => rw [hv] at hVx; exact has_true_of_atKey hVx
    rw [← hhas, has_eq, List.any_eq_true]
    constructor
    · intro hx
      obtain ⟨p, hp1, hp2⟩ := List.mem_map.1 hx
      obtain ⟨y, hy⟩ := hint p hp1
      refine ⟨p, hp1, ?_⟩
      rw [hy] at hp2 ⊢
      have : y = x := hp2
      subst this
      show (Lit.int .i64 y).sameKey (.int .i64 y) = true
      simp [Lit.sameKey]
    · rintro ⟨p, hp1, hp2⟩
      have h5 := WideAt.sameKey_eq hp2
      exact List.mem_map.2 ⟨p, hp1, by rw [h5]; rfl⟩

/-- A row of the call's own reads. -/
theorem row_of_own {w : World} {base : Nat} {e : TypeId} {v : Value} {n : Nat} {xs : List Value} (h : w.ownsRow base e 1 v n xs) (hl : xs.length = n) : Row Zone.no w v xs := by
  rcases h.2 with ⟨rfl, hx⟩ | ⟨g, cap, cur, rfl, hg, hh, hnc, hm, hs⟩
  · subst hx
    have : xs = [] := List.eq_nil_of_length_eq_zero hl
    subst this
    exact row_nil _ _ _ _ (Nat.zero_le _)
  · subst hl
    refine ⟨some ⟨g, 0, none⟩, cap, rfl, hnc, hm, fun j u hu => ⟨_, rfl, id, ?_⟩⟩
    exact h.cells (g := g) rfl j u hu

theorem sort_keys {ss l : List Int} (hS : ss.Perm l) (hnd : l.Nodup) :
    (ss.mergeSort (fun x y => decide (x ≤ y))).Pairwise (· < ·) ∧ (∀ x, x ∈ ss.mergeSort (fun x y => decide (x ≤ y)) ↔ x ∈ l) ∧ (ss.mergeSort (fun x y => decide (x ≤ y))).length = l.length := by
  have hsp : (ss.mergeSort (fun x y => decide (x ≤ y))).Perm l := (List.mergeSort_perm _ _).trans hS
  refine ⟨?_, fun x => hsp.mem_iff, hsp.length_eq⟩
  have h1 : (ss.mergeSort (fun x y => decide (x ≤ y))).Pairwise (fun a b => decide (a ≤ b) = true) :=
    List.pairwise_mergeSort (fun a b c h1 h2 => by simp only [decide_eq_true_eq] at *; omega) (fun a b => by simp only [Bool.or_eq_true, decide_eq_true_eq]; omega) ss
  have h2 : (ss.mergeSort (fun x y => decide (x ≤ y))).Pairwise (· ≠ ·) := hsp.nodup_iff.2 hnd
  refine (h1.and h2).imp (fun {a b} h => ?_)
  have h3 := h.1
  have h4 : a ≠ b := h.2
  simp only [decide_eq_true_eq] at h3
  omega

set_option maxHeartbeats 1000000 in
/-- slices.Sorted(maps.Keys(m)). -/
theorem sorted_is (w : World) (b n : Nat) (V : Int → Option Value) (h : MapV Try.prog 3 w b n V) (hn : n ≤ 65536) :
    Calls Try.prog 49 #[.func (.func 72) #[] #[.pointer (some ⟨w.heap.size, 0, none⟩)]] (w.alloc (.cells #[.map (some b)] 51)) fun e w' => ∃ (v : Value) (ks : List Int), e = .returned v ∧ KeysOfV V ks ∧ ks.length ≤ 65536 ∧
      Row Zone.no w' v (ks.map (Value.int .i64)) ∧ Out Zone.no w w' := by
  obtain ⟨D0, hown, hV⟩ := h
  have hsz := own_size hown
  have hbl := hown.lt
  have hik := own_intKeys hown hV
  have hseq : SeqGives Fence.wide 2 Try.prog 72 #[.pointer (some ⟨w.heap.size, 0, none⟩)] encZ (fun ss => ss.Perm (intKeys D0)) (Maps.size D0) (w.alloc (.cells #[.map (some b)] 51)) :=
    AnyZI.keys_gives (ρ := Try.keysA_ren) { Try.keysA with } Fence.wide _ trivial rfl (by omega) w.heap.size b n D0 _ (by simp) (by simp) (by
      obtain ⟨es, clock, hb, Ft, hs, hD⟩ := hown
      exact ⟨es, clock, (Below.heap_alloc _ _ b hbl).trans hb, Ft, hs, hD⟩)
  have cS := AnyZI.sorted_in Try.sortedA Fence.wide 5 trivial trivial trivial trivial rfl (by omega) (sorts_in _) (enters_of Try.func71 (by kernel_rfl) rfl) 72 #[.pointer (some ⟨w.heap.size, 0, none⟩)] trivial (enters_of Try.func72 (by kernel_rfl) rfl) _ _ (le_maxLen (by omega)) (by omega) _ hseq
  change CallsIn _ _ Try.prog 49 _ _ _ at cS
  refine ((callsIn_wide (n := 5)).1 cS).mono ?_
  rintro e w' ⟨v, ss, rfl, hS, hrow, hnil, hb⟩
  obtain ⟨q1, q2, q3⟩ := sort_keys hS hik.1
  refine ⟨v, ss.mergeSort (fun x y => decide (x ≤ y)), rfl, ⟨q1, fun x => (q2 x).trans (hik.2.2 x)⟩, by rw [q3, hik.2.1]; omega, ?_, ?_⟩
  · exact row_of_own hrow (by rw [List.length_map, q3]; exact hS.length_eq.symm)
  · exact ((Out.refl Zone.no w).alloc _).trans (Out.below hb)
end Go.Proofs.Ytddcojikbcbihaa
