/-
  PROVED HERE: for every input the law QuorumBytes (any note and message as bytes, any bytes as these) returns true, and its input reads as it did. No condition.
  The frame of this text was printed by a program of this seat's, after the kit's shell.
-/
import Derived.Test.YtlgoenimjmiapaaGreatRows
import Derived.WalkKit
import Derived.ProofKit
import Derived.OpenShut
import Derived.ShutString
import Derived.ChangeOld
import Derived.Below
import Derived.Test.YtlgoenimjmiapaaGreatT36
import Derived.Test.YtlgoenimjmiapaaGreatT37
set_option linter.unusedSimpArgs false
set_option linter.unusedVariables false
set_option linter.unusedSectionVars false
namespace Go.Proofs.YtlgoenimjmiapaaGreat.quorumBytes
open Go.ChangeShapes Go.WideShapes Go.ChangeAt Go.RowKit
open Go.ChangeMaps (open_string shut_string)
set_option linter.unusedVariables false

theorem own : ownKnob Tryz.prog.godebug = none := by kernel_rfl
theorem laidOut : laidOutB Tryz.prog = true := by kernel_rfl

theorem below_of {w w' : World} (ho : Out Zone.no w w') : Below w.heap.size w w' := ⟨ho.os, ho.tape, ho.output, ho.size, fun k hk => ho.block k hk id⟩

set_option maxRecDepth 100000 in
theorem opened {H : Type} {enc : TypeId × Value → H} {W : World} {base : Nat} {v0 v1 v2 v3 : Value} {d0 d1 d2 d3 : DataW H} {p0 p1 p2 p3 : List MemPlace}
    (o0 : Value.okWide Tryz.prog W .any base 25 v0) (h0 : DataW.Trod enc Tryz.prog W 0 (fun _ => true) true 25 v0 d0 p0) (z0 : Sized Tryz.prog 25 d0)
    (o1 : Value.okWide Tryz.prog W .any base 28 v1) (h1 : DataW.Trod enc Tryz.prog W 0 (fun _ => true) true 28 v1 d1 p1) (z1 : Sized Tryz.prog 28 d1)
    (o2 : Value.okWide Tryz.prog W .any base 29 v2) (h2 : DataW.Trod enc Tryz.prog W 0 (fun _ => true) true 29 v2 d2 p2) (z2 : Sized Tryz.prog 29 d2)
    (o3 : Value.okWide Tryz.prog W .any base 29 v3) (h3 : DataW.Trod enc Tryz.prog W 0 (fun _ => true) true 29 v3 d3 p3) (z3 : Sized Tryz.prog 29 d3) :
    Calls Tryz.prog 3 #[v0, v1, v2, v3] W fun e w' => e = .returned (.bool true) ∧ Below W.heap.size W w' := by
  obtain ⟨k, ep, n, ee, S, rfl, hS⟩ := note_of o0 h0
  obtain ⟨c0, c1, c2, c3, c4, c5, c6, c7, y0, y1, y2, y3, y4, y5, y6, y7, n', rfl, t0, t1, t2, t3, t4, t5, t6, t7, s7⟩ := open_agg8_sized Tryz.underlying28 (by kernel_rfl) (by kernel_rfl) o1 h1 z1
  obtain ⟨k0, e0, _, _⟩ := DataW.trod_int Tryz.underlying3 t0
  obtain ⟨k1, e1, _, _⟩ := DataW.trod_int Tryz.underlying3 t1
  obtain ⟨k2, e2, _, _⟩ := DataW.trod_int Tryz.underlying3 t2
  obtain ⟨k3, e3, _, _⟩ := DataW.trod_int Tryz.underlying3 t3
  obtain ⟨k4, e4, _, _⟩ := DataW.trod_int Tryz.underlying3 t4
  obtain ⟨k5, e5, _, _⟩ := DataW.trod_int Tryz.underlying3 t5
  obtain ⟨k6, e6, _, _⟩ := DataW.trod_int Tryz.underlying3 t6
  obtain ⟨l, hr, hf, hb⟩ := ents_of t7 s7
  injection e0 with e0
  injection e1 with e1
  injection e2 with e2
  injection e3 with e3
  injection e4 with e4
  injection e5 with e5
  injection e6 with e6
  subst e0 e1 e2 e3 e4 e5 e6
  obtain ⟨A2, n2, q2, rfl⟩ := okWide_slice Tryz.underlying29 o2
  obtain ⟨m2, h2⟩ := h2
  simp only [Value.cells] at h2
  obtain ⟨Lb, hLb, hlb⟩ := open_bytes_sized Tryz.underlying29 Tryz.underlying5 (by kernel_rfl) (by kernel_rfl) h2 z2
  obtain ⟨A3, n3, q3, rfl⟩ := okWide_slice Tryz.underlying29 o3
  obtain ⟨m3, h3⟩ := h3
  simp only [Value.cells] at h3
  obtain ⟨Lc, hLc, hlc⟩ := open_bytes_sized Tryz.underlying29 Tryz.underlying5 (by kernel_rfl) (by kernel_rfl) h3 z3
  exact (qbytes_is W k ep n ee S hS ⟨k0, k1, k2, k3, k4, k5, k6, l⟩ c7 hr (by show (l.length + 1) * 24 ≤ _; omega) hf _ _ Lb Lc hLb hLc hlb hlc).mono fun e w' ⟨he, ho⟩ => ⟨he, below_of ho⟩

set_option maxRecDepth 100000 in
theorem lifted (os : Os) (started : os.Started) (H : Type) (enc : TypeId × Value → H) :
    ReturnsInHanded {} Tryz.checked os 3 .any (Rows.quorumBytesSpec.pre6 enc Tryz.prog Tryz.f3 Rows.quorumBytesRow.domain false) (Rows.quorumBytesSpec.post enc Tryz.prog Tryz.f3 false true false false) := by
  refine returnsInHanded_of_change_sized (C := Tryz.checked) own started (by kernel_rfl) Tryz.func3
    (ChangeSpec.witness6 (enc := enc) (C := Tryz.checked) false ⟨#[], #[.agg #[.int .i64 0, .int .i64 0, .int .i64 0, .int .i64 0, .string ⟨#[]⟩], .agg #[.int .i64 0, .int .i64 0, .int .i64 0, .int .i64 0, .int .i64 0, .int .i64 0, .int .i64 0, .slice none 0 0], .slice none 0 0, .slice none 0 0], []⟩ 8 (by kernel_rfl) (by kernel_rfl) (by kernel_rfl) (by kernel_rfl)) ?_
  intro W base args ds gs before hval0 hW hcnd hsz0 _
  have hval : ∀ (j : Nat) t v, Tryz.f3.params[j]? = some t → args[j]? = some v → Value.okWide Tryz.prog W .any base t v := hval0
  have hW' := hW
  obtain ⟨p, q, hA0, hV, rfl, hfz, hnd⟩ := hW
  have hA : DataW.TrodAll enc Tryz.prog W 0 (fun _ => true) true Tryz.f3.params.toList args.toList ds p := hA0
  have hsz : (DataW.weightsEach Tryz.prog (Tryz.f3.params.toList ++ Rows.quorumBytesSpec.plain.varTypes Tryz.prog) (ds ++ gs)).all (· ≤ reachBytes) = true := hsz0
  rw [Tryz.params3] at hA hval hsz
  obtain ⟨v0, vs0, d0, ds0, p0, q0, hargs, rfl, rfl, h0, r0⟩ := trodAll_cons hA
  obtain ⟨v1, vs1, d1, ds1, p1, q1, rfl, rfl, rfl, h1, r1⟩ := trodAll_cons r0
  obtain ⟨v2, vs2, d2, ds2, p2, q2, rfl, rfl, rfl, h2, r2⟩ := trodAll_cons r1
  obtain ⟨v3, vs3, d3, ds3, p3, q3, rfl, rfl, rfl, h3, r3⟩ := trodAll_cons r2
  obtain ⟨rfl, rfl, rfl⟩ := trodAll_nil r3
  obtain rfl : args = #[v0, v1, v2, v3] := by cases args; simp_all
  obtain ⟨rfl, rfl⟩ := trodVars_none hV
  have k0 := h0
  have lt0 : ∀ x ∈ p0, x.block < W.heap.size := by obtain ⟨m, hm⟩ := k0; exact DataW.trod_lt m _ _ _ hm
  have k1 := h1
  have lt1 : ∀ x ∈ p1, x.block < W.heap.size := by obtain ⟨m, hm⟩ := k1; exact DataW.trod_lt m _ _ _ hm
  have k2 := h2
  have lt2 : ∀ x ∈ p2, x.block < W.heap.size := by obtain ⟨m, hm⟩ := k2; exact DataW.trod_lt m _ _ _ hm
  have k3 := h3
  have lt3 : ∀ x ∈ p3, x.block < W.heap.size := by obtain ⟨m, hm⟩ := k3; exact DataW.trod_lt m _ _ _ hm
  have o0 := hval 0 25 v0 rfl rfl
  have o1 := hval 1 28 v1 rfl rfl
  have o2 := hval 2 29 v2 rfl rfl
  have o3 := hval 3 29 v3 rfl rfl
  have z0 : Sized Tryz.prog 25 d0 := sized_of hsz (j := 0) rfl rfl
  have z1 : Sized Tryz.prog 28 d1 := sized_of hsz (j := 1) rfl rfl
  have z2 : Sized Tryz.prog 29 d2 := sized_of hsz (j := 2) rfl rfl
  have z3 : Sized Tryz.prog 29 d3 := sized_of hsz (j := 3) rfl rfl
  clear hsz hsz0
  clear hA0 hval0 hval
  refine (opened o0 h0 z0 o1 h1 z1 o2 h2 z2 o3 h3 z3).mono fun e W' ⟨he, bel⟩ => ?_
  subst he
  exact ⟨_, rfl, _, _, _, [], _, [], hW', trodAll_mk1 (shut_bool Tryz.underlying4 _), (trodAll_cons_mk (Below.trod laidOut (by kernel_rfl) (of_decide_eq_true (by kernel_rfl)) k0 bel lt0) (trodAll_cons_mk (Below.trod laidOut (by kernel_rfl) (of_decide_eq_true (by kernel_rfl)) k1 bel lt1) (trodAll_cons_mk (Below.trod laidOut (by kernel_rfl) (of_decide_eq_true (by kernel_rfl)) k2 bel lt2) (trodAll_cons_mk (Below.trod laidOut (by kernel_rfl) (of_decide_eq_true (by kernel_rfl)) k3 bel lt3) trodAll_mk0)))), rfl, bel.frame _, fun h => by cases h⟩

theorem over : Rows.quorumBytesRow.holds Tryz.pinned (OpenSpec.ofChange Rows.quorumBytesSpec) :=
  OpenClaim.holds_of_wide 3 Tryz.f3 rfl rfl rfl rfl rfl rfl rfl ⟨rfl, rfl, rfl, rfl, rfl⟩ rfl rfl rfl rfl rfl (by kernel_rfl) Tryz.func3 (by kernel_rfl)
    (of_decide_eq_true (by kernel_rfl)) (by unfold Func.isWrapper; first | (rw [if_pos (by decide +kernel)]; kernel_rfl) | (rw [if_neg (by decide +kernel)]; exact ⟨rfl, rfl⟩))
    (fun os started H enc _ => lifted os started H enc)

/-- THE STATEMENT. -/
theorem proved : Rows.QuorumBytesSaid := over
#print axioms proved
end Go.Proofs.YtlgoenimjmiapaaGreat.quorumBytes
