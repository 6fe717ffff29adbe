import Derived.Test.YtlgoenimjmiapaaQ15
/-! others, with ship. -/
set_option linter.unusedVariables false
namespace Go.Proofs.Ytlgoenimjmiapaa
open Go.RowKit Go.Maps

/-- What is shipped to the nodes below i, itself left out. -/
def ND.ships (q : ND) (i : Nat) : List Msg := ((List.range i).filter (fun j => j ≠ q.id)).map fun j => shipMsg q j (q.has.getD j 0).toNat
theorem ships_self (q : ND) : q.ships (q.id + 1) = q.ships q.id := by
  unfold ND.ships
  rw [List.range_succ, List.filter_append]
  simp
theorem ships_next (q : ND) {i : Nat} (h : i ≠ q.id) : q.ships (i + 1) = q.ships i ++ [shipMsg q i (q.has.getD i 0).toNat] := by
  unfold ND.ships
  rw [List.range_succ, List.filter_append, List.map_append]
  simp [h]

section
variable {w w' : World} {x : Nat} {q : ND} {ns : List Nt} {ss : List (Msg × Value)} {V : NV}

def ShipsAt (w : World) (x : Nat) (q : ND) (ns : List Nt) (ss : List (Msg × Value)) (V : NV) (i : Nat) (wr : World) : Prop :=
  ∃ sv' ts, ts.map Prod.fst = q.ships i ∧ ts.length ≤ i ∧ NodeAt wr x q ns (ss ++ ts) { V with sv := sv' } ∧ Next (V.own x) w (NV.own x { V with sv := sv' }) wr

theorem ShipsAt.next {wr : World} {i : Nat} (h : ShipsAt w x q ns ss V i wr) (hss : ss.length ≤ 900000) (hi : i ≤ 7) (hne : i ≠ q.id) (hh : ∃ n : Nat, q.has[i]? = some (n : Int) ∧ n ≤ q.st.log.length) (hl : q.st.log.length ≤ 1000000) (hhl : q.has.length ≤ 1000) :
    Calls Try.prog 36 #[.pointer (some ⟨x, 0, none⟩), .int .i64 (i : Int)] wr fun e w' => e = .returned (.tuple #[]) ∧ ShipsAt w x q ns ss V (i + 1) w' := by
  obtain ⟨sv', ts, h1, h2, h3, h4⟩ := h
  obtain ⟨n, hn1, hn2⟩ := hh
  refine (ship_is h3 (by rw [List.length_append]; omega) i n hn1 hn2 hl hhl).mono ?_
  rintro e w' ⟨rfl, sv2, v, k1, k2⟩
  refine ⟨rfl, sv2, ts ++ [(shipMsg q i n, v)], ?_, by rw [List.length_append]; simp; omega, by rw [← List.append_assoc]; exact k1, h4.trans k2⟩
  rw [List.map_append, h1, ships_next q hne]
  have : (q.has.getD i 0).toNat = n := by rw [List.getD_eq_getElem?_getD, hn1]; simp
  rw [this]
  rfl

set_option maxRecDepth 100000 in
set_option maxHeartbeats 1000000 in
theorem others_ship (h : NodeAt w x q ns ss V) (hss : ss.length ≤ 900000) (hn2 : q.n ≤ 7) (hid : q.id ≤ 7) (hh : ∀ i, i < q.n → i ≠ q.id → ∃ n : Nat, q.has[i]? = some (n : Int) ∧ n ≤ q.st.log.length) (hl : q.st.log.length ≤ 1000000) (hhl : q.has.length ≤ 1000) :
    Calls Try.prog 38 #[.pointer (some ⟨x, 0, none⟩), .func (.func 36) #[.pointer (some ⟨x, 0, none⟩)] #[]] w fun e w' => e = .returned (.tuple #[]) ∧ ShipsAt w x q ns ss V q.n w' := by
  have c4 := h.c4
  have S0 : Hid (ShipsAt w x q ns ss V 0 w) := ⟨V.sv, [], rfl, by simp, by rw [List.append_nil]; exact h, Next.refl _ _⟩
  obtain ⟨N, hN⟩ : ∃ N, q.n = N := ⟨_, rfl⟩
  rw [hN] at c4 hn2 hh ⊢
  obtain ⟨D, hD⟩ : ∃ D, q.id = D := ⟨_, rfl⟩
  rw [hD] at hid hh
  have HD := Lib.hid hD
  have HH := Lib.hid hh
  clear h hN hD hh
  go_enter Try.func38, Try.ntmps38
  go_wp2_with fail
  go_loopw [9] (fun vi wr => ∃ i : Nat, i ≤ N ∧ vi = .int .i64 (i : Int) ∧ Hid (ShipsAt w x q ns ss V i wr)) (fun vi _ => N - (intOf vi).toNat)
  case atStart => exact ⟨0, by omega, rfl, S0.out⟩
  case round =>
    obtain ⟨i, hi, rfl, hs⟩ := hrel
    by_cases hlt : i < N
    · have c3 : wr.cell? ⟨x, 3, none⟩ = some (.int .i64 (D : Int)) := by
        obtain ⟨sv', ts, _, _, h3, _⟩ := hs.out
        rw [← HD.out]; exact h3.c3
      by_cases hne : i = D
      · have e0 : ((i : Int) == (D : Int)) = true := by rw [beq_iff_eq]; omega
        have S1 : Hid (ShipsAt w x q ns ss V (i + 1) wr) := by
          obtain ⟨sv', ts, h1, h2, h3, h4⟩ := hs.out
          refine ⟨sv', ts, ?_, by omega, h3, h4⟩
          have e : i = q.id := by rw [HD.out]; exact hne
          rw [h1, e, ships_self]
        clear hne
        go_wp2_with fail
        all_goals
          go_roundw
          case rel => exact ⟨i + 1, by omega, by go_num, S1.out⟩
          case measure => simp [intOf]; omega
      · have e0 : ((i : Int) == (D : Int)) = false := by rw [beq_eq_false_iff_ne]; omega
        have SN := Lib.hid (hs.out.next hss (by omega) (by rw [HD.out]; exact hne) (HH.out i hlt hne) hl hhl)
        clear hne
        go_wp2_with (go_at_call 36; refine SN.out.mono ?_; rintro e w2 ⟨rfl, hs2⟩; have S1 := Lib.hid hs2; clear hs2)
        all_goals
          go_roundw
          case rel => exact ⟨i + 1, by omega, by go_num, S1.out⟩
          case measure => simp [intOf]; omega
    · obtain rfl : i = N := by omega
      go_wp2_with fail
      go_end0
      exact ⟨rfl, hs.out⟩
end
end Go.Proofs.Ytlgoenimjmiapaa
