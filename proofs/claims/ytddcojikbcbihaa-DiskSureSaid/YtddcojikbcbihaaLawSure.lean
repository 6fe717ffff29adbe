/-
  PROVED HERE: for every input the law DiskSure (what is sure is there behind any crash) returns true, and its input reads as it did. No condition.
  The frame of this text is turned from the one that the kit's program writes; the walk is D23's.
-/
import Derived.Test.YtddcojikbcbihaaRows
import Derived.WalkKit
import Derived.ProofKit
import Derived.OpenShut
import Derived.ShutString
import Derived.ChangeOld
import Derived.Below
import Derived.Test.YtddcojikbcbihaaD23
import Derived.Test.YtddcojikbcbihaaA5
namespace Go.Proofs.Ytddcojikbcbihaa.diskSure
open Go.ChangeShapes Go.WideShapes Go.ChangeAt Go.RowKit
open Go.ChangeMaps (open_string shut_string)
set_option linter.unusedVariables false

theorem own : ownKnob Try.prog.godebug = none := by kernel_rfl
theorem laidOut : laidOutB Try.prog = true := by kernel_rfl

theorem below_of {w w' : World} (ho : Out Zone.no w w') : Below w.heap.size w w' := ⟨ho.os, ho.tape, ho.output, ho.size, fun k hk => ho.block k hk id⟩

/-- A slice of operations, opened. -/
theorem ops_of {H : Type} {enc : TypeId × Value → H} {w : World} {base : Nat} {spare : Nat → Bool} {held : Bool} {fuel : Nat} {v : Value} {x : DataW H × List MemPlace}
    (h : DataW.trod enc Try.prog w base spare held fuel 38 [v] = some x) : ∃ ls, Ops w v ls := by
  obtain ⟨A, n, c, hv, h1, h2, h3⟩ := open_structs Try.underlying38 Try.underlying42 (by kernel_rfl) (by kernel_rfl) h
  injection hv with hv
  subst hv
  have key : ∀ i, ∃ o : OpL, i < n → 
      (-9223372036854775808 ≤ o.kind ∧ o.kind ≤ 9223372036854775807) ∧ (-9223372036854775808 ≤ o.n ∧ o.n ≤ 9223372036854775807) ∧ Row Zone.no w o.vb (bytes o.b) ∧ (∃ Af nf cf, o.vf = .slice Af nf cf) ∧
      ∃ a, A = some a ∧ w.cell? (a.add (i * 5)) = some (.int .i64 o.kind) ∧ w.cell? (a.add (i * 5 + 1)) = some (.int .i64 o.n) ∧ w.cell? (a.add (i * 5 + 2)) = some o.vb ∧
      w.cell? (a.add (i * 5 + 3)) = some (.bool o.torn) ∧ w.cell? (a.add (i * 5 + 4)) = some o.vf := by
    intro i
    by_cases hi : i < n
    · obtain ⟨a, hA, hf⟩ := h3 i hi
      obtain ⟨v0, y0, m0, c0, t0⟩ := hf 0 _ rfl
      obtain ⟨v1, y1, m1, c1, t1⟩ := hf 1 _ rfl
      obtain ⟨v2, y2, m2, c2, t2⟩ := hf 2 _ rfl
      obtain ⟨v3, y3, m3, c3, t3⟩ := hf 3 _ rfl
      obtain ⟨v4, y4, m4, c4, t4⟩ := hf 4 _ rfl
      obtain ⟨k0, e0, _, b0⟩ := DataW.trod_int Try.underlying3 t0
      obtain ⟨k1, e1, _, b1⟩ := DataW.trod_int Try.underlying3 t1
      obtain ⟨L, hL⟩ := open_bytes Try.underlying22 Try.underlying5 (by kernel_rfl) t2
      obtain ⟨k3, e3, _⟩ := DataW.trod_bool Try.underlying4 t3
      obtain ⟨F, hF, _⟩ := open_i64s Try.underlying39 Try.underlying3 (by kernel_rfl) t4
      obtain ⟨Af, cf, hvf, _, _⟩ := hF.form0
      injection e0 with e0
      injection e1 with e1
      injection e3 with e3
      subst e0 e1 e3
      exact ⟨⟨k0, k1, L, v2, k3, v4⟩, fun _ => ⟨int_bounds b0, int_bounds b1, hL, ⟨Af, _, cf, hvf⟩, a, hA, c0, c1, c2, c3, c4⟩⟩
    · exact ⟨⟨0, 0, [], .bool false, false, .bool false⟩, fun h => absurd h hi⟩
  have key2 := fun i => (key i).choose_spec
  refine ⟨(List.range n).map fun i => (key i).choose, A, c, by simp, by simpa using h1, h2, fun i o ho => ?_⟩
  rw [List.getElem?_map] at ho
  by_cases hi : i < n
  · rw [List.getElem?_range hi] at ho
    injection ho with ho
    subst ho
    exact key2 i hi
  · rw [List.getElem?_eq_none (by simpa using hi)] at ho
    cases ho

set_option maxRecDepth 100000 in
/-- Where a is long the law is true at once. -/
theorem sure_big (w : World) (A : Option Addr) (n c : Nat) (Ap : Option Addr) (np cp : Nat) (vl vf : Value) (K : Int) (torn : Bool) (hbig : 10000 < n) (hn : n ≤ 9223372036854775807) :
    Calls Try.prog 4 #[.slice A n c, .slice Ap np cp, vl, .int .i64 K, .bool torn, vf] w fun e w' => e = .returned (.bool true) ∧ Out Zone.no w w' := by
  have N1 := Lib.hid (new_ok w 1048576 8 (by omega) (by omega) (by omega) (by omega))
  go_enter Try.func4, Try.ntmps4
  go_wp2_with fail
  refine N1.out.mono ?_
  rintro e w1 ⟨d, rfl, hd, hd1, hd2, ho⟩
  have HO1 := Lib.hid ho
  clear hd ho N1
  go_wp2_with (first | (go_at_call 11; refine (num_is _ _).mono ?_; rintro e w' ⟨rfl, rfl⟩) | (go_at_call 12; refine (knows_is _).mono ?_; rintro e w2 ⟨rfl, hok⟩; have HOK := Lib.hid hok; clear hok))
  go_ret
  exact ⟨rfl, HO1.out.trans HOK.out⟩

theorem walk (va vp vl vf : Value) (a p : List UInt8) (ls : List OpL) (F : List Int) (K : Int) (torn : Bool) (w : World) (ha : Row Zone.no w va (bytes a)) (hp : Row Zone.no w vp (bytes p)) (hl : Ops w vl ls)
    (hf : Row Zone.no w vf (F.map (Value.int .i64))) (hF : ∀ x ∈ F, -9223372036854775808 ≤ x ∧ x ≤ 9223372036854775807) (hK : -9223372036854775808 ≤ K ∧ K ≤ 9223372036854775807) :
    Calls Try.prog 4 #[va, vp, vl, .int .i64 K, .bool torn, vf] w fun e w' => e = .returned (.bool true) ∧ Below w.heap.size w w' := by
  suffices key : Calls Try.prog 4 #[va, vp, vl, .int .i64 K, .bool torn, vf] w fun e w' => e = .returned (.bool true) ∧ Out Zone.no w w' from key.mono fun e w' ⟨he, ho⟩ => ⟨he, below_of ho⟩
  by_cases hs : a.length ≤ 10000
  · exact sure_is w va vp vl vf a p ls F ha hp hl hf hF K hK torn hs
  · obtain ⟨A, c, rfl, h1, h2⟩ := ha.form
    obtain ⟨Ap, cp, rfl, _, _⟩ := hp.form
    unfold maxLen at h2
    exact sure_big w A _ c Ap _ cp vl vf K torn (by omega) (by omega)

set_option maxRecDepth 100000 in
theorem lifted (os : Os) (started : os.Started) (H : Type) (enc : TypeId × Value → H) :
    ReturnsInHanded {} Try.checked os 4 .any (Rows.diskSureSpec.pre6 enc Try.prog Try.f4 Rows.diskSureRow.domain false) (Rows.diskSureSpec.post enc Try.prog Try.f4 false true false false) := by
  refine returnsInHanded_of_change (C := Try.checked) own started (by kernel_rfl) Try.func4
    (ChangeSpec.witness6 (enc := enc) (C := Try.checked) false ⟨#[], #[.slice none 0 0, .slice none 0 0, .slice none 0 0, .int .i64 0, .bool false, .slice none 0 0], []⟩ 8 (by kernel_rfl) (by kernel_rfl) (by kernel_rfl) (by kernel_rfl)) ?_
  intro W base args ds gs before hval0 hW hcnd _
  have hval : ∀ (j : Nat) t v, Try.f4.params[j]? = some t → args[j]? = some v → Value.okWide Try.prog W .any base t v := hval0
  have hW' := hW
  obtain ⟨p, q, hA0, hV, rfl, hfz, hnd⟩ := hW
  have hA : DataW.TrodAll enc Try.prog W 0 (fun _ => true) true Try.f4.params.toList args.toList ds p := hA0
  rw [Try.params4] at hA hval
  obtain ⟨v0, vs0, d0, ds0, p0, q0, hargs, rfl, rfl, h0, r0⟩ := trodAll_cons hA
  obtain ⟨v1, vs1, d1, ds1, p1, q1, rfl, rfl, rfl, h1, r1⟩ := trodAll_cons r0
  obtain ⟨v2, vs2, d2, ds2, p2, q2, rfl, rfl, rfl, h2, r2⟩ := trodAll_cons r1
  obtain ⟨v3, vs3, d3, ds3, p3, q3, rfl, rfl, rfl, h3, r3⟩ := trodAll_cons r2
  obtain ⟨v4, vs4, d4, ds4, p4, q4, rfl, rfl, rfl, h4, r4⟩ := trodAll_cons r3
  obtain ⟨v5, vs5, d5, ds5, p5, q5, rfl, rfl, rfl, h5, r5⟩ := trodAll_cons r4
  obtain ⟨rfl, rfl, rfl⟩ := trodAll_nil r5
  obtain rfl : args = #[v0, v1, v2, v3, v4, v5] := by cases args; simp_all
  obtain ⟨rfl, rfl⟩ := trodVars_none hV
  obtain ⟨a0, l0, c0, rfl⟩ := okWide_slice Try.underlying22 (hval 0 22 v0 rfl rfl)
  obtain ⟨a1, l1, c1, rfl⟩ := okWide_slice Try.underlying22 (hval 1 22 v1 rfl rfl)
  obtain ⟨a2, l2, c2, rfl⟩ := okWide_slice Try.underlying38 (hval 2 38 v2 rfl rfl)
  obtain ⟨a5, l5, c5, rfl⟩ := okWide_slice Try.underlying39 (hval 5 39 v5 rfl rfl)
  obtain ⟨K, rfl, rfl, rfl, wK⟩ := open_int Try.underlying3 (hval 3 3 v3 rfl rfl) h3
  obtain ⟨torn, rfl, rfl, rfl⟩ := open_bool Try.underlying4 (hval 4 4 v4 rfl rfl) h4
  have k0 := h0
  have k1 := h1
  have k2 := h2
  have k5 := h5
  have lt0 : ∀ x ∈ p0, x.block < W.heap.size := by obtain ⟨m, hm⟩ := k0; exact DataW.trod_lt m _ _ _ hm
  have lt1 : ∀ x ∈ p1, x.block < W.heap.size := by obtain ⟨m, hm⟩ := k1; exact DataW.trod_lt m _ _ _ hm
  have lt2 : ∀ x ∈ p2, x.block < W.heap.size := by obtain ⟨m, hm⟩ := k2; exact DataW.trod_lt m _ _ _ hm
  have lt5 : ∀ x ∈ p5, x.block < W.heap.size := by obtain ⟨m, hm⟩ := k5; exact DataW.trod_lt m _ _ _ hm
  obtain ⟨m0, h0⟩ := h0
  obtain ⟨m1, h1⟩ := h1
  obtain ⟨m2, h2⟩ := h2
  obtain ⟨m5, h5⟩ := h5
  simp only [Value.cells] at h0 h1 h2 h5
  obtain ⟨a, ha⟩ := open_bytes Try.underlying22 Try.underlying5 (by kernel_rfl) h0
  obtain ⟨b, hb⟩ := open_bytes Try.underlying22 Try.underlying5 (by kernel_rfl) h1
  obtain ⟨ls, hls⟩ := ops_of h2
  obtain ⟨F, hF, hFb⟩ := open_i64s Try.underlying39 Try.underlying3 (by kernel_rfl) h5
  clear hA0 hval0
  refine (walk _ _ _ _ a b ls F K torn W ha hb hls hF hFb (int_bounds wK)).mono fun e W' ⟨he, bel⟩ => ?_
  subst he
  exact ⟨_, rfl, _, _, _, [], _, [], hW', trodAll_mk1 (shut_bool Try.underlying4 _), (trodAll_cons_mk (Below.trod laidOut (by kernel_rfl) (of_decide_eq_true (by kernel_rfl)) k0 bel lt0) (trodAll_cons_mk (Below.trod laidOut (by kernel_rfl) (of_decide_eq_true (by kernel_rfl)) k1 bel lt1) (trodAll_cons_mk (Below.trod laidOut (by kernel_rfl) (of_decide_eq_true (by kernel_rfl)) k2 bel lt2) (trodAll_cons_mk (shut_int Try.underlying3 wK) (trodAll_cons_mk (shut_bool Try.underlying4 _) (trodAll_cons_mk (Below.trod laidOut (by kernel_rfl) (of_decide_eq_true (by kernel_rfl)) k5 bel lt5) trodAll_mk0)))))), rfl, bel.frame _, fun h => by cases h⟩

theorem over : Rows.diskSureRow.holds Try.pinned (OpenSpec.ofChange Rows.diskSureSpec) :=
  OpenClaim.holds_of_wide 4 Try.f4 rfl rfl rfl rfl rfl rfl rfl ⟨rfl, rfl, rfl, rfl, rfl⟩ rfl rfl rfl rfl rfl (by kernel_rfl) Try.func4 (by kernel_rfl)
    (of_decide_eq_true (by kernel_rfl)) (by unfold Func.isWrapper; first | (rw [if_pos (by decide +kernel)]; kernel_rfl) | (rw [if_neg (by decide +kernel)]; exact ⟨rfl, rfl⟩))
    (fun os started H enc _ => lifted os started H enc)

/-- THE STATEMENT. -/
theorem proved : Rows.DiskSureSaid := over
#print axioms proved
end Go.Proofs.Ytddcojikbcbihaa.diskSure
