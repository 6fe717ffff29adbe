/-
  PROVED HERE: for every input the law DiskPlays (two disks, by turns: each does what the document says, call by call) returns true, and its input reads as it did. No condition.
  The frame of this text was printed by a program of this seat's, after the kit's shell.
-/
import Derived.Test.YtddcojikbcbihaaRows
import Derived.WalkKit
import Derived.ProofKit
import Derived.OpenShut
import Derived.ShutString
import Derived.ChangeOld
import Derived.Below
import Derived.Test.YtddcojikbcbihaaR12
import Derived.Test.YtddcojikbcbihaaA6
namespace Go.Proofs.Ytddcojikbcbihaa.diskPlays
open Go.ChangeShapes Go.WideShapes Go.ChangeAt Go.RowKit
open Go.ChangeMaps (open_string shut_string)
set_option linter.unusedVariables false

theorem own : ownKnob Try.prog.godebug = none := by kernel_rfl
theorem laidOut : laidOutB Try.prog = true := by kernel_rfl

theorem below_of {w w' : World} (ho : Out Zone.no w w') : Below w.heap.size w w' := ⟨ho.os, ho.tape, ho.output, ho.size, fun k hk => ho.block k hk id⟩

/-- A slice of operations, opened. -/
theorem ops_of {H : Type} {enc : TypeId × Value → H} {w : World} {base : Nat} {spare : Nat → Bool} {held : Bool} {fuel : Nat} {v : Value} {x : DataW H × List MemPlace}
    (h : DataW.trod enc Try.prog w base spare held fuel 38 [v] = some x) (hs : Sized Try.prog 38 x.1) : ∃ ls, OpsF w v ls ∧ ls.length ≤ 140737488351232 := by
  obtain ⟨A, n, c, hv, h1, h2, hz, h3⟩ := open_structs_sized Try.underlying38 Try.underlying42 (by kernel_rfl) (by kernel_rfl) h hs
  injection hv with hv
  subst hv
  have key : ∀ i, ∃ o : OpF, i < n → OpFOk w o ∧
      ∃ a, A = some a ∧ w.cell? (a.add (i * 5)) = some (.int .i64 o.kind) ∧ w.cell? (a.add (i * 5 + 1)) = some (.int .i64 o.n) ∧ w.cell? (a.add (i * 5 + 2)) = some o.vb ∧
      w.cell? (a.add (i * 5 + 3)) = some (.bool o.torn) ∧ w.cell? (a.add (i * 5 + 4)) = some o.vf := by
    intro i
    by_cases hi : i < n
    · obtain ⟨a, hA, hf⟩ := h3 i hi
      obtain ⟨v0, y0, m0, c0, t0, s0⟩ := hf 0 _ rfl
      obtain ⟨v1, y1, m1, c1, t1, s1⟩ := hf 1 _ rfl
      obtain ⟨v2, y2, m2, c2, t2, s2⟩ := hf 2 _ rfl
      obtain ⟨v3, y3, m3, c3, t3, s3⟩ := hf 3 _ rfl
      obtain ⟨v4, y4, m4, c4, t4, s4⟩ := hf 4 _ rfl
      obtain ⟨k0, e0, _, b0⟩ := DataW.trod_int Try.underlying3 t0
      obtain ⟨k1, e1, _, b1⟩ := DataW.trod_int Try.underlying3 t1
      obtain ⟨L, hL, hL2⟩ := open_bytes_sized Try.underlying22 Try.underlying5 (by kernel_rfl) (by kernel_rfl) t2 s2
      obtain ⟨k3, e3, _⟩ := DataW.trod_bool Try.underlying4 t3
      obtain ⟨F, hF, hFb, hF2⟩ := open_i64s_sized Try.underlying39 Try.underlying3 (by kernel_rfl) (by kernel_rfl) t4 s4
      injection e0 with e0
      injection e1 with e1
      injection e3 with e3
      subst e0 e1 e3
      exact ⟨⟨k0, k1, L, v2, k3, F, v4⟩, fun _ => ⟨⟨int_bounds b0, int_bounds b1, hL, hL2, hF, hF2, hFb⟩, a, hA, c0, c1, c2, c3, c4⟩⟩
    · exact ⟨⟨0, 0, [], .bool false, false, [], .bool false⟩, fun h => absurd h hi⟩
  have key2 := fun i => (key i).choose_spec
  refine ⟨(List.range n).map fun i => (key i).choose, ⟨A, c, by simp, by simpa using h1, h2, fun i o ho => ?_⟩, ?_⟩
  · rw [List.getElem?_map] at ho
    by_cases hi : i < n
    · rw [List.getElem?_range hi] at ho
      injection ho with ho
      subst ho
      exact key2 i hi
    · rw [List.getElem?_eq_none (by simpa using hi)] at ho
      cases ho
  · rw [show Try.prog.bytesOf 42 = 72 from by kernel_rfl] at hz
    simp only [List.length_map, List.length_range]
    unfold reachBytes at hz
    omega

set_option maxRecDepth 100000 in
theorem opened {H : Type} {enc : TypeId × Value → H} {W : World} {base : Nat} {v0 v1 v2 v3 : Value} {d0 d1 d2 d3 : DataW H} {p0 p1 p2 p3 : List MemPlace}
    (o0 : Value.okWide Try.prog W .any base 3 v0) (h0 : DataW.Trod enc Try.prog W 0 (fun _ => true) true 3 v0 d0 p0) (z0 : Sized Try.prog 3 d0)
    (o1 : Value.okWide Try.prog W .any base 3 v1) (h1 : DataW.Trod enc Try.prog W 0 (fun _ => true) true 3 v1 d1 p1) (z1 : Sized Try.prog 3 d1)
    (o2 : Value.okWide Try.prog W .any base 38 v2) (h2 : DataW.Trod enc Try.prog W 0 (fun _ => true) true 38 v2 d2 p2) (z2 : Sized Try.prog 38 d2)
    (o3 : Value.okWide Try.prog W .any base 38 v3) (h3 : DataW.Trod enc Try.prog W 0 (fun _ => true) true 38 v3 d3 p3) (z3 : Sized Try.prog 38 d3) :
    Calls Try.prog 5 #[v0, v1, v2, v3] W fun e w' => e = .returned (.bool true) ∧ Below W.heap.size W w' := by
  obtain ⟨a0, rfl, rfl, rfl, _⟩ := open_int Try.underlying3 o0 h0
  obtain ⟨a1, rfl, rfl, rfl, _⟩ := open_int Try.underlying3 o1 h1
  obtain ⟨a2, l2, c2, rfl⟩ := okWide_slice Try.underlying38 o2
  obtain ⟨a3, l3, c3, rfl⟩ := okWide_slice Try.underlying38 o3
  obtain ⟨m2, h2⟩ := h2
  obtain ⟨m3, h3⟩ := h3
  simp only [Value.cells] at h2 h3
  obtain ⟨ls1, hl1, hb1⟩ := ops_of h2 z2
  obtain ⟨ls2, hl2, hb2⟩ := ops_of h3 z3
  exact (plays_is W a0 a1 _ _ ls1 ls2 hl1 hl2 hb1 hb2).mono fun e w' ⟨he, ho⟩ => ⟨he, below_of ho⟩

set_option maxRecDepth 100000 in
theorem lifted (os : Os) (started : os.Started) (H : Type) (enc : TypeId × Value → H) :
    ReturnsInHanded {} Try.checked os 5 .any (Rows.diskPlaysSpec.pre6 enc Try.prog Try.f5 Rows.diskPlaysRow.domain false) (Rows.diskPlaysSpec.post enc Try.prog Try.f5 false true false false) := by
  refine returnsInHanded_of_change_sized (C := Try.checked) own started (by kernel_rfl) Try.func5
    (ChangeSpec.witness6 (enc := enc) (C := Try.checked) false ⟨#[], #[.int .i64 0, .int .i64 0, .slice none 0 0, .slice none 0 0], []⟩ 8 (by kernel_rfl) (by kernel_rfl) (by kernel_rfl) (by kernel_rfl)) ?_
  intro W base args ds gs before hval0 hW hcnd hsz0 _
  have hval : ∀ (j : Nat) t v, Try.f5.params[j]? = some t → args[j]? = some v → Value.okWide Try.prog W .any base t v := hval0
  have hW' := hW
  obtain ⟨p, q, hA0, hV, rfl, hfz, hnd⟩ := hW
  have hA : DataW.TrodAll enc Try.prog W 0 (fun _ => true) true Try.f5.params.toList args.toList ds p := hA0
  have hsz : (DataW.weightsEach Try.prog (Try.f5.params.toList ++ Rows.diskPlaysSpec.plain.varTypes Try.prog) (ds ++ gs)).all (· ≤ reachBytes) = true := hsz0
  rw [Try.params5] at hA hval hsz
  obtain ⟨v0, vs0, d0, ds0, p0, q0, hargs, rfl, rfl, h0, r0⟩ := trodAll_cons hA
  obtain ⟨v1, vs1, d1, ds1, p1, q1, rfl, rfl, rfl, h1, r1⟩ := trodAll_cons r0
  obtain ⟨v2, vs2, d2, ds2, p2, q2, rfl, rfl, rfl, h2, r2⟩ := trodAll_cons r1
  obtain ⟨v3, vs3, d3, ds3, p3, q3, rfl, rfl, rfl, h3, r3⟩ := trodAll_cons r2
  obtain ⟨rfl, rfl, rfl⟩ := trodAll_nil r3
  obtain rfl : args = #[v0, v1, v2, v3] := by cases args; simp_all
  obtain ⟨rfl, rfl⟩ := trodVars_none hV
  have k0 := h0
  have lt0 : ∀ x ∈ p0, x.block < W.heap.size := by obtain ⟨m, hm⟩ := k0; exact DataW.trod_lt m _ _ _ hm
  have k1 := h1
  have lt1 : ∀ x ∈ p1, x.block < W.heap.size := by obtain ⟨m, hm⟩ := k1; exact DataW.trod_lt m _ _ _ hm
  have k2 := h2
  have lt2 : ∀ x ∈ p2, x.block < W.heap.size := by obtain ⟨m, hm⟩ := k2; exact DataW.trod_lt m _ _ _ hm
  have k3 := h3
  have lt3 : ∀ x ∈ p3, x.block < W.heap.size := by obtain ⟨m, hm⟩ := k3; exact DataW.trod_lt m _ _ _ hm
  have o0 := hval 0 3 v0 rfl rfl
  have o1 := hval 1 3 v1 rfl rfl
  have o2 := hval 2 38 v2 rfl rfl
  have o3 := hval 3 38 v3 rfl rfl
  have z0 : Sized Try.prog 3 d0 := sized_of hsz (j := 0) rfl rfl
  have z1 : Sized Try.prog 3 d1 := sized_of hsz (j := 1) rfl rfl
  have z2 : Sized Try.prog 38 d2 := sized_of hsz (j := 2) rfl rfl
  have z3 : Sized Try.prog 38 d3 := sized_of hsz (j := 3) rfl rfl
  clear hsz hsz0
  clear hA0 hval0 hval
  refine (opened o0 h0 z0 o1 h1 z1 o2 h2 z2 o3 h3 z3).mono fun e W' ⟨he, bel⟩ => ?_
  subst he
  exact ⟨_, rfl, _, _, _, [], _, [], hW', trodAll_mk1 (shut_bool Try.underlying4 _), (trodAll_cons_mk (Below.trod laidOut (by kernel_rfl) (of_decide_eq_true (by kernel_rfl)) k0 bel lt0) (trodAll_cons_mk (Below.trod laidOut (by kernel_rfl) (of_decide_eq_true (by kernel_rfl)) k1 bel lt1) (trodAll_cons_mk (Below.trod laidOut (by kernel_rfl) (of_decide_eq_true (by kernel_rfl)) k2 bel lt2) (trodAll_cons_mk (Below.trod laidOut (by kernel_rfl) (of_decide_eq_true (by kernel_rfl)) k3 bel lt3) trodAll_mk0)))), rfl, bel.frame _, fun h => by cases h⟩

theorem over : Rows.diskPlaysRow.holds Try.pinned (OpenSpec.ofChange Rows.diskPlaysSpec) :=
  OpenClaim.holds_of_wide 5 Try.f5 rfl rfl rfl rfl rfl rfl rfl ⟨rfl, rfl, rfl, rfl, rfl⟩ rfl rfl rfl rfl rfl (by kernel_rfl) Try.func5 (by kernel_rfl)
    (of_decide_eq_true (by kernel_rfl)) (by unfold Func.isWrapper; first | (rw [if_pos (by decide +kernel)]; kernel_rfl) | (rw [if_neg (by decide +kernel)]; exact ⟨rfl, rfl⟩))
    (fun os started H enc _ => lifted os started H enc)

/-- THE STATEMENT. -/
theorem proved : Rows.DiskPlaysSaid := over
#print axioms proved
end Go.Proofs.Ytddcojikbcbihaa.diskPlays
