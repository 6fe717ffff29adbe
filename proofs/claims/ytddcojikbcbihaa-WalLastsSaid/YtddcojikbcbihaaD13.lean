import Derived.Test.YtddcojikbcbihaaD12
import Derived.Test.YtddcojikbcbihaaD9
/-! A crash, as numbers and lists; slices.Clone's own block. -/
set_option linter.unusedVariables false
namespace Go.Proofs.Ytddcojikbcbihaa
open Go.RowKit

namespace DS
/-- The fate that a list begins with. -/
def fateOf : List Int → Int
  | [] => 0
  | f :: _ => (f.tmod 3 + 3).tmod 3
def lost : List UInt8 := List.replicate 512 255
/-- What a fate makes of the sure pages. -/
def stepOld (k fate : Int) (fresh old : Int → Option (List UInt8)) : Int → Option (List UInt8) :=
  if fate = 1 then putF old k ((fresh k).getD []) else if fate = 2 then putF old k lost else old
def crashOld (fresh : Int → Option (List UInt8)) : List Int → List Int → (Int → Option (List UInt8)) → Int → Option (List UInt8)
  | [], _, old => old
  | k :: ks, fs, old => crashOld fresh ks fs.tail (stepOld k (fateOf fs) fresh old)
/-- How many bytes stay. -/
def stay (D : DS) (keep : Int) : Nat := D.sure + min (max keep 0).toNat (D.log.length - D.sure)
/-- What stays of a log, torn perhaps. -/
def tear (L : List UInt8) (n sure : Nat) (torn : Bool) : List UInt8 :=
  if torn = true ∧ sure < n then (L.take n).set (n - 1) ((L.getD (n - 1) 0) ^^^ 85) else L.take n
def keys (D : DS) : List Int := ((List.range D.count).map Int.ofNat).filter fun k => (D.fresh k).isSome
def crash (D : DS) (keep : Int) (torn : Bool) (fates : List Int) : DS :=
  { D with left := -1, off := false, log := tear D.log (D.stay keep) D.sure torn, sure := D.stay keep, old := crashOld D.fresh D.keys fates D.old, fresh := fun _ => none }

theorem crashOld_snoc (fresh : Int → Option (List UInt8)) (k : Int) : ∀ (ks fs : List Int) (old : Int → Option (List UInt8)),
    crashOld fresh (ks ++ [k]) fs old = stepOld k (fateOf (fs.drop ks.length)) fresh (crashOld fresh ks fs old)
  | [], fs, old => by simp [crashOld]
  | q :: ks, fs, old => by
    rw [List.cons_append, crashOld, crashOld_snoc fresh k ks fs.tail, crashOld]
    congr 2
    cases fs <;> simp

theorem fate_cases (fs : List Int) : fateOf fs = 0 ∨ fateOf fs = 1 ∨ fateOf fs = 2 := by
  cases fs with
  | nil => exact Or.inl rfl
  | cons f r =>
    simp only [fateOf]
    have h1 : -3 < f.tmod 3 ∧ f.tmod 3 < 3 := by
      rcases Int.lt_or_le f 0 with h | h
      · have := Int.tmod_eq_emod (a := f) (b := 3)
        have h2 := Int.emod_nonneg f (show (3 : Int) ≠ 0 by omega)
        have h3 := Int.emod_lt_of_pos f (show (0 : Int) < 3 by omega)
        rw [this]
        split <;> simp <;> omega
      · rw [Int.tmod_eq_emod_of_nonneg h]
        omega
    rw [Int.tmod_eq_emod_of_nonneg (by omega)]
    omega

theorem stay_le {D : DS} (h : D.Ok) (keep : Int) : D.stay keep ≤ D.log.length ∧ D.sure ≤ D.stay keep := by
  have := h.sure
  unfold stay
  omega

theorem length_tear (L : List UInt8) (n sure : Nat) (torn : Bool) : (tear L n sure torn).length = min n L.length := by
  unfold tear
  split <;> simp

theorem stepOld_ok {D : DS} (h : D.Ok) {old : Int → Option (List UInt8)} (ho : ∀ k s, old k = some s → 0 ≤ k ∧ k < D.count ∧ s.length = 512) {k : Int} (hk : (D.fresh k).isSome = true) (fate : Int) :
    ∀ q s, stepOld k fate D.fresh old q = some s → 0 ≤ q ∧ q < D.count ∧ s.length = 512 := by
  intro q s hs
  obtain ⟨t, ht⟩ := Option.isSome_iff_exists.1 hk
  have hf := h.fresh k t ht
  unfold stepOld at hs
  by_cases h1 : fate = 1
  · rw [if_pos h1] at hs
    unfold putF at hs
    by_cases hq : q = k
    · rw [if_pos hq, ht] at hs; cases hs; subst hq; exact hf
    · rw [if_neg hq] at hs; exact ho q s hs
  · rw [if_neg h1] at hs
    by_cases h2 : fate = 2
    · rw [if_pos h2] at hs
      unfold putF at hs
      by_cases hq : q = k
      · rw [if_pos hq] at hs; cases hs; subst hq; exact ⟨hf.1, hf.2.1, List.length_replicate⟩
      · rw [if_neg hq] at hs; exact ho q s hs
    · rw [if_neg h2] at hs; exact ho q s hs

theorem crashOld_ok {D : DS} (h : D.Ok) : ∀ (ks fs : List Int) (old : Int → Option (List UInt8)), (∀ k ∈ ks, (D.fresh k).isSome = true) → (∀ k s, old k = some s → 0 ≤ k ∧ k < D.count ∧ s.length = 512) →
    ∀ q s, crashOld D.fresh ks fs old q = some s → 0 ≤ q ∧ q < D.count ∧ s.length = 512
  | [], _, old, _, ho => ho
  | k :: ks, fs, old, hk, ho => crashOld_ok h ks fs.tail _ (fun q hq => hk q (by simp [hq])) (stepOld_ok h ho (hk k (by simp)) _)

/-- Rising lists with the same members are one. -/
theorem rising_eq : ∀ {l m : List Int}, l.Pairwise (· < ·) → m.Pairwise (· < ·) → (∀ x, x ∈ l ↔ x ∈ m) → l = m
  | [], [], _, _, _ => rfl
  | [], b :: m, _, _, h => absurd ((h b).2 (by simp)) (by simp)
  | a :: l, [], _, _, h => absurd ((h a).1 (by simp)) (by simp)
  | a :: l, b :: m, hl, hm, h => by
    obtain ⟨h1, h2⟩ := List.pairwise_cons.1 hl
    obtain ⟨h3, h4⟩ := List.pairwise_cons.1 hm
    have hab : a = b := by
      have ha := (h a).1 (by simp)
      have hb := (h b).2 (by simp)
      simp only [List.mem_cons] at ha hb
      rcases ha with ha | ha
      · exact ha
      · rcases hb with hb | hb
        · exact hb.symm
        · have := h3 a ha
          have := h1 b hb
          omega
    subst hab
    congr 1
    refine rising_eq h2 h4 (fun x => ?_)
    have hx := h x
    simp only [List.mem_cons] at hx
    constructor
    · intro hxl
      have := h1 x hxl
      rcases hx.1 (Or.inr hxl) with e | e
      · omega
      · exact e
    · intro hxm
      have := h3 x hxm
      rcases hx.2 (Or.inr hxm) with e | e
      · omega
      · exact e

theorem keys_rising (D : DS) : D.keys.Pairwise (· < ·) := by
  unfold keys
  refine List.Pairwise.filter _ ?_
  rw [List.pairwise_map]
  exact List.pairwise_lt_range.imp (fun h => by simp only [Int.ofNat_eq_natCast]; omega)

theorem mem_keys {D : DS} (h : D.Ok) (k : Int) : k ∈ D.keys ↔ (D.fresh k).isSome = true := by
  unfold keys
  simp only [List.mem_filter, List.mem_map, List.mem_range]
  constructor
  · exact fun h => h.2
  · intro hk
    refine ⟨?_, hk⟩
    obtain ⟨t, ht⟩ := Option.isSome_iff_exists.1 hk
    have := h.fresh k t ht
    exact ⟨k.toNat, by omega, by simp only [Int.ofNat_eq_natCast]; omega⟩
end DS

/-- slices.Clone: the row is the call's own. -/
theorem clone_own (w : World) (v : Value) (xs : List Value) (h : Row Zone.no w v xs) (h1c : ∀ u ∈ xs, u.oneCell' = true) (hl : xs.length ≤ 140737488355328) :
    Calls Try.prog 47 #[v] w fun e w' => ∃ v', e = .returned v' ∧ Out Zone.no w w' ∧ w'.ownsRow w.heap.size 5 1 v' xs.length xs := by
  obtain ⟨A, c, rfl, h1, h2, h3⟩ := id h
  cases A with
  | none =>
    have hx : xs = [] := by
      cases xs with
      | nil => rfl
      | cons x r => obtain ⟨a, ha, _⟩ := h3 0 x (by simp); cases ha
    subst hx
    have e0 := Lib.run_eql_slice_nil (P := Try.prog) w 22 5 none 0 c 0 0 Try.underlying22
    clear h h1 h2 h3 hl h1c
    go_enter Try.func47, Try.ntmps47
    go_wp2_with fail
    go_ret
    exact ⟨_, rfl, Out.refl _ _, World.ownsRow_nil _ _ _ _⟩
  | some a =>
    have e0 := Lib.run_eql_slice_nil (P := Try.prog) w 22 5 (some a) xs.length c 0 0 Try.underlying22
    obtain ⟨hu, ⟨i, hi1, hz, hsz, hby⟩, hz1⟩ := elem22
    have hcells : ∀ j u, xs[j]? = some u → (w.alloc (.cells #[] 5)).cell? (a.add j) = some u := fun j u hu => by
      obtain ⟨a', ha, _, hc⟩ := h3 j u hu
      cases ha
      exact ((Out.refl Zone.no w).alloc _).cell hc (id)
    have hown : (w.alloc (.cells #[] 5)).ownsRow w.heap.size 5 1 (.slice (some ⟨w.heap.size, 0, none⟩) 0 0) 0 [] :=
      World.ownsRow_lit (base := w.heap.size) (e := 5) (size := 1) w #[] 0 (Nat.le_refl _) (Nat.zero_le _) (by simp)
    obtain ⟨v', w', hrun, ho, hg, _⟩ := run_append_own (P := Try.prog) (w.alloc (.cells #[] 5)) w.heap.size 22 22 5 i (.int .u8 0) 1 1 hu hi1 hz hsz hby hz1 (by omega) _ 0 [] hown a xs.length c xs (by simp) hcells h1c
      (by rw [Nat.zero_add]; exact le_maxLen hl) (by rw [Nat.zero_add, Nat.mul_one]; exact hl) (by simp)
    have HR := Lib.hid hrun
    rw [Nat.zero_add, List.nil_append] at ho
    have HO := Lib.hid (((Out.refl Zone.no w).alloc (.cells #[] 5)).grown hg (fun k hk => by
      right
      simp only [Value.ownBlock] at hk
      injection hk with hk
      omega))
    have HW := Lib.hid ho
    clear h h1 h2 h3 hl hrun ho hg hcells hown h1c
    go_enter Try.func47, Try.ntmps47
    go_wp2_with (at_builtin; refine wpList_builtin rfl _ _ _ rfl HR.out ?_)
    go_ret
    exact ⟨_, rfl, HO.out, HW.out⟩
end Go.Proofs.Ytddcojikbcbihaa
