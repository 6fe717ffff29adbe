/-
  PROVED HERE: for every input the law WalLasts (whenever the power goes, whatever is kept or torn: all synced records are told, then a beginning of those that were appended behind them, and nothing else, life after life) returns true, and its input reads as it did. No condition.
  The frame of this text was printed by a program of this seat's, after the kit's shell.
-/
import Derived.Test.YtddcojikbcbihaaRows
import Derived.WalkKit
import Derived.ProofKit
import Derived.OpenShut
import Derived.ShutString
import Derived.ChangeOld
import Derived.Below
import Derived.Test.YtddcojikbcbihaaT4
import Derived.Test.YtddcojikbcbihaaA5
namespace Go.Proofs.Ytddcojikbcbihaa.walLasts
open Go.ChangeShapes Go.WideShapes Go.ChangeAt Go.RowKit
open Go.ChangeMaps (open_string shut_string)
set_option linter.unusedVariables false

theorem own : ownKnob Try.prog.godebug = none := by kernel_rfl
theorem laidOut : laidOutB Try.prog = true := by kernel_rfl

theorem below_of {w w' : World} (ho : Out Zone.no w w') : Below w.heap.size w w' := ⟨ho.os, ho.tape, ho.output, ho.size, fun k hk => ho.block k hk id⟩

/-- A slice of operations, opened. -/
theorem ops_of {H : Type} {enc : TypeId × Value → H} {w : World} {base : Nat} {spare : Nat → Bool} {held : Bool} {fuel : Nat} {v : Value} {x : DataW H × List MemPlace}
    (h : DataW.trod enc Try.prog w base spare held fuel 65 [v] = some x) : ∃ ls, OpsW w v ls := by
  obtain ⟨A, n, c, hv, h1, h2, h3⟩ := open_structs Try.underlying65 Try.underlying72 (by kernel_rfl) (by kernel_rfl) h
  injection hv with hv
  subst hv
  have key : ∀ i, ∃ o : OpW, i < n → 
      (-9223372036854775808 ≤ o.kind ∧ o.kind ≤ 9223372036854775807) ∧ (-9223372036854775808 ≤ o.n ∧ o.n ≤ 9223372036854775807) ∧ Row Zone.no w o.vb (bytes o.b) ∧
      ∃ a, A = some a ∧ w.cell? (a.add (i * 4)) = some (.int .i64 o.kind) ∧ w.cell? (a.add (i * 4 + 1)) = some (.int .i64 o.n) ∧ w.cell? (a.add (i * 4 + 2)) = some o.vb ∧
      w.cell? (a.add (i * 4 + 3)) = some (.bool o.torn) := by
    intro i
    by_cases hi : i < n
    · obtain ⟨a, hA, hf⟩ := h3 i hi
      obtain ⟨v0, y0, m0, c0, t0⟩ := hf 0 _ rfl
      obtain ⟨v1, y1, m1, c1, t1⟩ := hf 1 _ rfl
      obtain ⟨v2, y2, m2, c2, t2⟩ := hf 2 _ rfl
      obtain ⟨v3, y3, m3, c3, t3⟩ := hf 3 _ rfl
      obtain ⟨k0, e0, _, b0⟩ := DataW.trod_int Try.underlying3 t0
      obtain ⟨k1, e1, _, b1⟩ := DataW.trod_int Try.underlying3 t1
      obtain ⟨L, hL⟩ := open_bytes Try.underlying22 Try.underlying5 (by kernel_rfl) t2
      obtain ⟨k3, e3, _⟩ := DataW.trod_bool Try.underlying4 t3
      injection e0 with e0
      injection e1 with e1
      injection e3 with e3
      subst e0 e1 e3
      exact ⟨⟨k0, k1, L, v2, k3⟩, fun _ => ⟨int_bounds b0, int_bounds b1, hL, a, hA, c0, c1, c2, c3⟩⟩
    · exact ⟨⟨0, 0, [], .bool false, false⟩, fun h => absurd h hi⟩
  have key2 := fun i => (key i).choose_spec
  refine ⟨(List.range n).map fun i => (key i).choose, A, c, by simp, by simpa using h1, h2, fun i o ho => ?_⟩
  rw [List.getElem?_map] at ho
  by_cases hi : i < n
  · rw [List.getElem?_range hi] at ho
    injection ho with ho
    subst ho
    exact key2 i hi
  · rw [List.getElem?_eq_none (by simpa using hi)] at ho
    cases ho

set_option maxRecDepth 100000 in
theorem opened {H : Type} {enc : TypeId × Value → H} {W : World} {base : Nat} {v0 : Value} {d0 : DataW H} {p0 : List MemPlace}
    (o0 : Value.okWide Try.prog W .any base 65 v0) (h0 : DataW.Trod enc Try.prog W 0 (fun _ => true) true 65 v0 d0 p0) :
    Calls Try.prog 8 #[v0] W fun e w' => e = .returned (.bool true) ∧ Below W.heap.size W w' := by
  obtain ⟨a0, l0, c0, rfl⟩ := okWide_slice Try.underlying65 o0
  obtain ⟨m0, h0⟩ := h0
  simp only [Value.cells] at h0
  obtain ⟨ls, hls⟩ := ops_of h0
  exact (lasts_is W _ ls hls).mono fun e w' ⟨he, ho⟩ => ⟨he, below_of ho⟩

set_option maxRecDepth 100000 in
theorem lifted (os : Os) (started : os.Started) (H : Type) (enc : TypeId × Value → H) :
    ReturnsInHanded {} Try.checked os 8 .any (Rows.walLastsSpec.pre6 enc Try.prog Try.f8 Rows.walLastsRow.domain false) (Rows.walLastsSpec.post enc Try.prog Try.f8 false true false false) := by
  refine returnsInHanded_of_change (C := Try.checked) own started (by kernel_rfl) Try.func8
    (ChangeSpec.witness6 (enc := enc) (C := Try.checked) false ⟨#[], #[.slice none 0 0], []⟩ 8 (by kernel_rfl) (by kernel_rfl) (by kernel_rfl) (by kernel_rfl)) ?_
  intro W base args ds gs before hval0 hW hcnd _
  have hval : ∀ (j : Nat) t v, Try.f8.params[j]? = some t → args[j]? = some v → Value.okWide Try.prog W .any base t v := hval0
  have hW' := hW
  obtain ⟨p, q, hA0, hV, rfl, hfz, hnd⟩ := hW
  have hA : DataW.TrodAll enc Try.prog W 0 (fun _ => true) true Try.f8.params.toList args.toList ds p := hA0
  rw [Try.params8] at hA hval
  obtain ⟨v0, vs0, d0, ds0, p0, q0, hargs, rfl, rfl, h0, r0⟩ := trodAll_cons hA
  obtain ⟨rfl, rfl, rfl⟩ := trodAll_nil r0
  obtain rfl : args = #[v0] := by cases args; simp_all
  obtain ⟨rfl, rfl⟩ := trodVars_none hV
  have k0 := h0
  have lt0 : ∀ x ∈ p0, x.block < W.heap.size := by obtain ⟨m, hm⟩ := k0; exact DataW.trod_lt m _ _ _ hm
  have o0 := hval 0 65 v0 rfl rfl
  clear hA0 hval0 hval
  refine (opened o0 h0).mono fun e W' ⟨he, bel⟩ => ?_
  subst he
  exact ⟨_, rfl, _, _, _, [], _, [], hW', trodAll_mk1 (shut_bool Try.underlying4 _), (trodAll_cons_mk (Below.trod laidOut (by kernel_rfl) (of_decide_eq_true (by kernel_rfl)) k0 bel lt0) trodAll_mk0), rfl, bel.frame _, fun h => by cases h⟩

theorem over : Rows.walLastsRow.holds Try.pinned (OpenSpec.ofChange Rows.walLastsSpec) :=
  OpenClaim.holds_of_wide 8 Try.f8 rfl rfl rfl rfl rfl rfl rfl ⟨rfl, rfl, rfl, rfl, rfl⟩ rfl rfl rfl rfl rfl (by kernel_rfl) Try.func8 (by kernel_rfl)
    (of_decide_eq_true (by kernel_rfl)) (by unfold Func.isWrapper; first | (rw [if_pos (by decide +kernel)]; kernel_rfl) | (rw [if_neg (by decide +kernel)]; exact ⟨rfl, rfl⟩))
    (fun os started H enc _ => lifted os started H enc)

/-- THE STATEMENT. -/
theorem proved : Rows.WalLastsSaid := over
#print axioms proved
end Go.Proofs.Ytddcojikbcbihaa.walLasts
