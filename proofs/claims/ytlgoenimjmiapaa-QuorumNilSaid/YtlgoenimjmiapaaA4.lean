import Derived.Test.YtlgoenimjmiapaaA1
import Derived.Laws.BytesString
import Derived.Laws.BytesArg
/-! Bytes as strings. -/
set_option linter.unusedVariables false
namespace Go.Proofs.Ytlgoenimjmiapaa
open Go.RowKit

/-- The string of some bytes. -/
def str (L : List UInt8) : ByteArray := ⟨L.toArray⟩

theorem loop_eq (bs : ByteArray) : ∀ (n i : Nat) (r : List UInt8), bs.size - i = n → ByteArray.toList.loop bs i r = r.reverse ++ bs.data.toList.drop i := by
  have hl : bs.data.toList.length = bs.size := rfl
  intro n
  induction n with
  | zero =>
    intro i r h
    unfold ByteArray.toList.loop
    rw [if_neg (by omega), List.drop_of_length_le (by omega), List.append_nil]
  | succ n ih =>
    intro i r h
    unfold ByteArray.toList.loop
    rw [if_pos (by omega), ih (i + 1) _ (by omega)]
    have hi : i < bs.data.toList.length := by omega
    rw [List.drop_eq_getElem_cons hi, List.reverse_cons, List.append_assoc]
    have hg : bs.get! i = bs.data.toList[i] := by
      show bs.data[i]! = _
      rw [getElem!_pos bs.data i (by exact hi)]
      simp
    rw [hg]
    rfl
theorem str_toList (L : List UInt8) : (str L).toList = L := by
  unfold ByteArray.toList
  rw [loop_eq _ _ 0 [] rfl]
  simp [str]

/-- The zone's own blocks lie at n or behind. -/
def Zone.Past (Z : Zone) (n : Nat) : Prop := ∀ k, Z.S k → n ≤ k

theorem Out.fresh {Z : Zone} {w w1 w2 : World} (h : Out Zone.no w w1) (k : Out Z w1 w2) (hz : Z.Past w.heap.size) : Out Zone.no w w2 :=
  ⟨k.os.trans h.os, k.tape.trans h.tape, k.output.trans h.output, Nat.le_trans h.size k.size, fun i hi ho => (k.block i (Nat.lt_of_lt_of_le hi h.size) (fun e => by have := hz i e; omega)).trans (h.block i hi ho)⟩

theorem str_inj {L M : List UInt8} : str L = str M ↔ L = M := by
  unfold str
  constructor
  · intro h; injection h with h; simpa using h
  · rintro rfl; rfl

theorem run_string {P : Program} {src dst e : TypeId} (hs : P.underlying src = some (.slice e)) (he : P.underlying e = some (.int .u8)) (hd : P.underlying dst = some .string) {Z : Zone} {w : World} {v : Value} {L : List UInt8}
    (h : Row Z w v (bytes L)) : (convert src dst v).run P w = .ok (.string (str L)) w := by
  obtain ⟨A, c, rfl, h1, h2, h3⟩ := h
  cases A with
  | none =>
    have hL : L = [] := by
      cases L with
      | nil => rfl
      | cons x r => obtain ⟨a, ha, _⟩ := h3 0 (.int .u8 x.toNat) (by simp [bytes]); cases ha
    subst hL
    rw [run_convert_bytes_nil w src e hs he _ _ dst hd]
    rfl
  | some a =>
    have hl : (loadCells a (bytes L).length).run P w = .ok ((L.map fun b => (b.toNat : Int)).map (Value.int .u8)).toArray w := by
      have := run_loadCells_list (P := P) w a (bytes L) (fun j u hu => by
        obtain ⟨a', ha, _, hc⟩ := h3 j u hu
        cases ha
        exact hc)
      rw [this]
      simp [bytes]
    rw [run_convert_bytes_string w src dst e _ _ c hs he hd, run_bytesToString w _ _ c _ hl, foldl_push_bytes]
    congr 3
    simp [ByteArray.empty, ByteArray.emptyWithCapacity, List.map_map, Function.comp_def]
    rfl
end Go.Proofs.Ytlgoenimjmiapaa
