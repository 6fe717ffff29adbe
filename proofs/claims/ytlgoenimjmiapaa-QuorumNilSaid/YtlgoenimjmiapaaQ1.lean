import Derived.Test.YtlgoenimjmiapaaProg
import Derived.Test.YtlgoenimjmiapaaQ0
/-! What may be: numbers, entries, notes, messages. -/
set_option linter.unusedVariables false
namespace Go.Proofs.Ytlgoenimjmiapaa
open Go.RowKit

/-- Entries, states, notes, messages. -/
structure Ent where
  ep : Int
  data : List UInt8
deriving DecidableEq
structure Nt where
  kind : Int
  ep : Int
  n : Int
  ent : Ent
deriving DecidableEq
structure Msg where
  kind : Int
  frm : Int
  to : Int
  ep : Int
  at_ : Int
  last : Int
  commit : Int
  log : List Ent
deriving DecidableEq
structure St where
  ep : Int
  voted : Int
  log : List Ent
deriving DecidableEq

def Ent.cells (x : Ent) : List Value := [.int .i64 x.ep, .string (str x.data)]
def encL (l : List Ent) : List Value := l.flatMap Ent.cells
def ints (l : List Int) : List Value := l.map (Value.int .i64)
theorem encL_length (l : List Ent) : (encL l).length = l.length * 2 := by
  induction l with
  | nil => rfl
  | cons x r ih => show (x.cells ++ encL r).length = _; rw [List.length_append, ih]; simp [Ent.cells]; omega
theorem encL_append (l m : List Ent) : encL (l ++ m) = encL l ++ encL m := by simp [encL]
theorem encL_at {l : List Ent} {i : Nat} {x : Ent} (h : l[i]? = some x) : (encL l)[i * 2]? = some (.int .i64 x.ep) ∧ (encL l)[i * 2 + 1]? = some (.string (str x.data)) := by
  induction l generalizing i with
  | nil => cases h
  | cons y r ih =>
    have e : encL (y :: r) = .int .i64 y.ep :: .string (str y.data) :: encL r := rfl
    rw [e]
    cases i with
    | zero => injection h with h; subst h; exact ⟨rfl, rfl⟩
    | succ i =>
      have := ih (i := i) h
      rw [show (i + 1) * 2 = i * 2 + 1 + 1 by omega]
      exact this
theorem encL_take (l : List Ent) (k : Nat) : encL (l.take k) = (encL l).take (k * 2) := by
  induction l generalizing k with
  | nil => simp [encL]
  | cons x r ih =>
    cases k with
    | zero => simp [encL]
    | succ k =>
      have e : encL (x :: r) = .int .i64 x.ep :: .string (str x.data) :: encL r := rfl
      rw [e, show (k + 1) * 2 = k * 2 + 1 + 1 by omega, List.take_succ_cons, List.take_succ_cons, List.take_succ_cons, ← ih]
      rfl
theorem encL_drop (l : List Ent) (k : Nat) : encL (l.drop k) = (encL l).drop (k * 2) := by
  induction l generalizing k with
  | nil => simp [encL]
  | cons x r ih =>
    cases k with
    | zero => simp
    | succ k =>
      have e : encL (x :: r) = .int .i64 x.ep :: .string (str x.data) :: encL r := rfl
      rw [e, show (k + 1) * 2 = k * 2 + 1 + 1 by omega, List.drop_succ_cons, List.drop_succ_cons, List.drop_succ_cons, ← ih]
theorem encL_one (l : List Ent) : ∀ u ∈ encL l, u.oneCell' = true := by
  intro u hu
  obtain ⟨x, _, hx⟩ := List.mem_flatMap.1 hu
  simp only [Ent.cells, List.mem_cons, List.not_mem_nil, or_false] at hx
  rcases hx with rfl | rfl <;> rfl

def inB (n : Int) : Bool := decide (0 ≤ n) && decide (n ≤ 1099511627776)
def Ent.right (x : Ent) : Bool := inB x.ep && decide (x.data.length ≤ 65536)

set_option maxRecDepth 100000 in
theorem inbad_is (w : World) (n : Int) : Calls Try.prog 47 #[.int .i64 n] w fun e w' => e = .returned (.bool (!inB n)) ∧ w = w' := by
  by_cases h1 : n < 0
  · have hb : inB n = false := by simp [inB]; omega
    rw [hb]
    go_enter Try.func47, Try.ntmps47
    go_wp2_with fail
    go_ret
    exact ⟨rfl, rfl⟩
  · by_cases h2 : 1099511627776 < n
    · have hb : inB n = false := by simp [inB]; omega
      rw [hb]
      go_enter Try.func47, Try.ntmps47
      go_wp2_with fail
      go_ret
      exact ⟨rfl, rfl⟩
    · have hb : inB n = true := by simp [inB]; omega
      rw [hb]
      go_enter Try.func47, Try.ntmps47
      go_wp2_with fail
      go_ret
      exact ⟨rfl, rfl⟩

set_option maxRecDepth 100000 in
theorem idx_is (w : World) (N : Nat → Prop) (v : Value) (L : List Int) (hr : RRow N w v L.length 1 (ints L)) (hl : L.length ≤ 1000000) :
    Calls Try.prog 57 #[v, .func (.func 47) #[] #[]] w fun e w' => (∃ r : Int, e = .returned (.int .i64 r) ∧ decide (0 ≤ r) = !(L.all inB)) ∧ w = w' := by
  obtain ⟨A, c, rfl, _, _⟩ := hr.form
  have HR := Lib.hid hr
  clear hr
  go_enter Try.func57, Try.ntmps57
  go_wp2_with fail
  go_loop [8] (fun vi => ∃ i : Nat, i ≤ L.length ∧ vi = .int .i64 (i : Int) ∧ Hid ((L.take i).all inB = true)) (fun vi => L.length - (intOf vi).toNat)
  case atStart => exact ⟨0, by omega, rfl, rfl⟩
  case round =>
    obtain ⟨i, hi, rfl, hall⟩ := hrel
    by_cases hlt : i < L.length
    · obtain ⟨x, hx⟩ : ∃ x, L[i]? = some x := ⟨_, List.getElem?_eq_getElem hlt⟩
      obtain ⟨_, A', c', hv, _, _, hc⟩ := HR.out
      obtain ⟨b, o, hA, _, hcell⟩ := hc i (.int .i64 x) (by simp [ints, hx])
      obtain rfl : A = A' := by injection hv
      subst hA
      clear hv hc
      have hta : Hid (inB x = true → (L.take (i + 1)).all inB = true) := fun e => by
        obtain ⟨hi', rfl⟩ := List.getElem?_eq_some_iff.1 hx
        rw [List.take_succ_eq_append_getElem hi', List.all_append, hall.out]
        simp [e]
      have hfa : Hid (inB x = false → L.all inB = false) := fun e => by
        rw [List.all_eq_false]
        exact ⟨x, List.mem_of_getElem? hx, by simp [e]⟩
      clear hx
      obtain ⟨g, hg⟩ : ∃ g, inB x = g := ⟨_, rfl⟩
      have IB := inbad_is w x
      rw [hg] at IB hta hfa
      have HIB := Lib.hid IB
      clear IB hg
      cases g with
      | true =>
        go_wp2_with (go_at_call 47; refine HIB.out.mono ?_; rintro e w' ⟨rfl, rfl⟩)
        go_round
        case rel => exact ⟨i + 1, by omega, by go_num, hta.out (by simp)⟩
        case measure => simp [intOf]; omega
      | false =>
        go_wp2_with (go_at_call 47; refine HIB.out.mono ?_; rintro e w' ⟨rfl, rfl⟩)
        go_ret
        refine ⟨⟨_, rfl, ?_⟩, rfl⟩
        have h0 := hfa.out (by simp)
        rw [h0]
        simp
    · obtain rfl : i = L.length := by omega
      have hta : Hid (L.all inB = true) := by have := hall.out; rwa [List.take_length] at this
      go_wp2_with fail
      go_ret
      refine ⟨⟨_, rfl, ?_⟩, rfl⟩
      have h0 := hta.out
      rw [h0]
      rfl

theorem in_is (w : World) (N : Nat → Prop) (v : Value) (L : List Int) (hr : RRow N w v L.length 1 (ints L)) (hl : L.length ≤ 1000000) :
    Calls Try.prog 24 #[v] w fun e w' => e = .returned (.bool (L.all inB)) ∧ w = w' := by
  obtain ⟨A, c, rfl, _, _⟩ := hr.form
  have HI := Lib.hid (idx_is w N _ L hr hl)
  have C : Calls Try.prog 46 #[.slice A L.length c, .func (.func 47) #[] #[]] w fun e w' => e = .returned (.bool (!L.all inB)) ∧ w = w' := by
    clear hr
    go_enter Try.func46, Try.ntmps46
    go_wp2_with (go_at_call 57; refine HI.out.mono ?_; rintro e w' ⟨⟨r, rfl, hr⟩, rfl⟩; have HRR := Lib.hid hr; clear hr)
    go_ret
    exact ⟨by rw [← HRR.out]; rfl, rfl⟩
  have HC := Lib.hid C
  clear C hr HI
  go_enter Try.func24, Try.ntmps24
  go_wp2_with (go_at_call 46; refine HC.out.mono ?_; rintro e w' ⟨rfl, rfl⟩)
  go_ret
  exact ⟨by simp [go_sem], rfl⟩
end Go.Proofs.Ytlgoenimjmiapaa
