import Derived.Test.YtddcojikbcbihaaD13
import Derived.Test.YtddcojikbcbihaaD11
import Derived.Test.YtddcojikbcbihaaD19
/-! The law DiskSure on numbers and lists. -/
set_option linter.unusedVariables false
namespace Go.Proofs.Ytddcojikbcbihaa
open Go.RowKit

/-- The law's disk: a is sure, M lies behind it; page 7 is b, and sure. -/
structure SureAt (a b M : List UInt8) (D : DS) : Prop where
  base : D.base = 0
  count : D.count = 8
  sure : D.sure = a.length
  log : D.log = a ++ M
  old : D.old 7 = some b
  fresh : D.fresh 7 = none

theorem SureAt.ticked {a b M : List UInt8} {D : DS} (h : SureAt a b M D) : SureAt a b M D.ticked :=
  ⟨by rw [DS.ticked_base, h.base], by rw [DS.ticked_count, h.count], by rw [DS.ticked_sure, h.sure], by rw [DS.ticked_log, h.log], by rw [DS.ticked_old, h.old], by rw [DS.ticked_fresh, h.fresh]⟩

theorem SureAt.append {a b M : List UInt8} {D : DS} (h : SureAt a b M D) (B : List UInt8) :
    ((D.append B).2.1 = 0 ∧ SureAt a b (M ++ B) (D.append B).2.2) ∨ ((D.append B).2.1 ≠ 0 ∧ SureAt a b M (D.append B).2.2) := by
  unfold DS.append
  split
  · exact Or.inr ⟨by simp, h⟩
  · split
    · exact Or.inr ⟨by simp, h⟩
    · split
      · exact Or.inr ⟨by simp, h.ticked⟩
      · have k := h.ticked
        refine Or.inl ⟨rfl, k.base, k.count, k.sure, ?_, k.old, k.fresh⟩
        show D.log ++ B = _
        rw [h.log, List.append_assoc]

theorem SureAt.write {a b M : List UInt8} {D : DS} (h : SureAt a b M D) (p : Int) (hp : p ≠ 7) (B : List UInt8) : SureAt a b M (D.write p B).2 := by
  unfold DS.write
  split
  · exact h
  · split
    · split
      · exact h.ticked
      · have k := h.ticked
        refine ⟨k.base, k.count, k.sure, k.log, k.old, ?_⟩
        show (if (7 : Int) = p then some B else D.fresh 7) = none
        rw [if_neg (fun e => hp e.symm), h.fresh]
    · exact h

theorem SureAt.fuse {a b M : List UInt8} {D : DS} (h : SureAt a b M D) (k : Int) : SureAt a b M (D.fuse k) := ⟨h.base, h.count, h.sure, h.log, h.old, h.fresh⟩

theorem sure_start (a b : List UInt8) (ha : a.length ≤ 10000) (hb : b.length = 512) :
    (DS.new 1048576 8).append a = (0, 0, { DS.new 1048576 8 with log := a }) ∧
    DS.write { DS.new 1048576 8 with log := a } 7 b = (0, { DS.new 1048576 8 with log := a, fresh := putF (fun _ => none) 7 b }) ∧
    DS.sync { DS.new 1048576 8 with log := a, fresh := putF (fun _ => none) 7 b } = (0, { DS.new 1048576 8 with log := a, sure := a.length, old := DS.merged (fun _ => none) (putF (fun _ => none) 7 b) }) := by
  refine ⟨?_, ?_, ?_⟩
  · unfold DS.append
    rw [if_neg (by simp [DS.new]), if_neg (by simp only [DS.new, List.length_nil]; omega), if_neg (by simp [DS.new])]
    simp [DS.new, DS.ticked, DS.fin, wrap64]
  · unfold DS.write
    rw [if_neg (by simp [DS.new]), if_pos (by simp [DS.new, DS.page, hb]), if_neg (by simp [DS.new])]
    simp only [DS.new, DS.ticked]
    rfl
  · unfold DS.sync
    rw [if_neg (by simp [DS.new]), if_neg (by simp [DS.new])]
    simp only [DS.new, DS.ticked]
    rfl

theorem sure_began (a b : List UInt8) : SureAt a b [] { DS.new 1048576 8 with log := a, sure := a.length, old := DS.merged (fun _ => none) (putF (fun _ => none) 7 b) } :=
  ⟨rfl, rfl, rfl, by simp, by simp [DS.merged, putF], rfl⟩

theorem crashOld_far (fresh : Int → Option (List UInt8)) (q : Int) : ∀ (ks fs : List Int) (old : Int → Option (List UInt8)), q ∉ ks → DS.crashOld fresh ks fs old q = old q
  | [], _, old, _ => rfl
  | k :: ks, fs, old, h => by
    simp only [List.mem_cons, not_or] at h
    rw [DS.crashOld, crashOld_far fresh q ks fs.tail _ h.2]
    unfold DS.stepOld
    split
    · unfold putF; rw [if_neg h.1]
    · split
      · unfold putF; rw [if_neg h.1]
      · rfl

theorem SureAt.load {a b M : List UInt8} {D : DS} (h : SureAt a b M D) (ok : D.Ok) (keep : Int) (torn : Bool) (F : List Int) : (D.crash keep torn F).load 7 = (b, 0) := by
  have hk : (7 : Int) ∉ D.keys := by
    intro hm
    have := (DS.mem_keys ok 7).1 hm
    rw [h.fresh] at this
    cases this
  have ho : DS.crashOld D.fresh D.keys F D.old 7 = some b := by rw [crashOld_far _ _ _ _ _ hk, h.old]
  unfold DS.load
  rw [if_neg (by simp [DS.crash]), if_pos (by simp [DS.crash, DS.page, h.count])]
  simp [DS.crash, ho]

/-- What the crash leaves of the log. -/
def left (a M : List UInt8) (keep : Int) (torn : Bool) : List UInt8 := DS.tear (a ++ M) (a.length + min (max keep 0).toNat M.length) a.length torn

theorem SureAt.stay {a b M : List UInt8} {D : DS} (h : SureAt a b M D) (keep : Int) : D.stay keep = a.length + min (max keep 0).toNat M.length := by
  unfold DS.stay
  rw [h.sure, h.log, List.length_append]
  omega

theorem SureAt.crashLog {a b M : List UInt8} {D : DS} (h : SureAt a b M D) (keep : Int) (torn : Bool) (F : List Int) : (D.crash keep torn F).log = left a M keep torn := by
  show DS.tear D.log (D.stay keep) D.sure torn = _
  rw [h.stay, h.log, h.sure]
  rfl

theorem length_left (a M : List UInt8) (keep : Int) (torn : Bool) : (left a M keep torn).length = a.length + min (max keep 0).toNat M.length := by
  unfold left
  rw [DS.length_tear, List.length_append]
  omega

theorem SureAt.read {a b M : List UInt8} {D : DS} (h : SureAt a b M D) (ok : D.Ok) (keep : Int) (torn : Bool) (F : List Int) : (D.crash keep torn F).read 0 = (left a M keep torn, 0) := by
  have hl := h.crashLog keep torn F
  have hb : (D.crash keep torn F).base = 0 := h.base
  have h1 := ok.log
  have h2 := ok.most
  have h3 := length_left a M keep torn
  rw [h.log, List.length_append] at h1
  unfold DS.read
  rw [if_neg (by simp [DS.crash]), if_pos]
  · rw [hl, hb]; simp
  · unfold DS.inn DS.fin wrap64
    rw [hl, hb, h3]
    simp only [Bool.and_eq_true, decide_eq_true_eq]
    omega

theorem left_take (a M : List UInt8) (keep : Int) (torn : Bool) : (left a M keep torn).take a.length = a := by
  unfold left DS.tear
  split
  · rename_i h
    rw [List.take_set, List.take_take, Nat.min_eq_left (by omega), List.take_left', List.set_eq_of_length_le (by omega)]
    rfl
  · rw [List.take_take, Nat.min_eq_left (by omega), List.take_left']
    rfl

theorem left_rest (a M : List UInt8) (keep : Int) (torn : Bool) (i : Nat) (hi : i < min (max keep 0).toNat M.length) :
    ((left a M keep torn).drop a.length)[i]? = M[i]? ∨ (torn = true ∧ i + 1 = min (max keep 0).toNat M.length) := by
  have hM : (a ++ M)[a.length + i]? = M[i]? := by rw [List.getElem?_append_right (by omega)]; congr 1; omega
  unfold left DS.tear
  split
  · rename_i h
    by_cases e : i + 1 = min (max keep 0).toNat M.length
    · exact Or.inr ⟨h.1, e⟩
    · left
      rw [List.getElem?_drop, List.getElem?_set_ne (by omega), List.getElem?_take, if_pos (by omega), hM]
  · left
    rw [List.getElem?_drop, List.getElem?_take, if_pos (by omega), hM]
end Go.Proofs.Ytddcojikbcbihaa
