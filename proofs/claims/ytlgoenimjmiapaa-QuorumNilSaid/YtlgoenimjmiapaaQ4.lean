import Derived.Test.YtlgoenimjmiapaaQ2
/-! Notes that may be; the last epoch. -/
set_option linter.unusedVariables false
namespace Go.Proofs.Ytlgoenimjmiapaa
open Go.RowKit

def Nt.right (t : Nt) : Bool :=
  if t.kind = 1 then decide (t.ent.ep = 0) && decide (t.ent.data = []) && inB t.ep && decide (-1 ≤ t.n) && decide (t.n ≤ 6)
  else if t.kind = 2 then decide (t.ep = 0) && decide (t.ent.ep = 0) && decide (t.ent.data = []) && inB t.n
  else decide (t.kind = 3) && decide (t.ep = 0) && decide (t.n = 0) && t.ent.right

set_option maxRecDepth 100000 in
set_option maxHeartbeats 2000000 in
theorem nright_is (w : World) (k ep n ee : Int) (d : List UInt8) (hl : d.length ≤ 9223372036854775807) :
    Calls Try.prog 59 #[.agg #[.int .i64 k, .int .i64 ep, .int .i64 n, .int .i64 ee, .string (str d)]] w fun e w' => e = .returned (.bool (Nt.right ⟨k, ep, n, ⟨ee, d⟩⟩)) ∧ Out Zone.no w w' := by
  have o1 := (Out.refl Zone.no w).alloc (.cells #[.int .i64 k, .int .i64 ep, .int .i64 n, .int .i64 ee, .string (str d)] 75)
  have HO1 := Lib.hid o1
  have hd : (str d).toList = d := str_toList d
  by_cases k1 : k = 1
  · have e1 : (k == 1) = true := by simpa using k1
    have o2 := o1.alloc (.cells #[.int .i64 ep] 3)
    have I := in1_is (w.alloc (.cells #[.int .i64 k, .int .i64 ep, .int .i64 n, .int .i64 ee, .string (str d)] 75)) ep
    subst k1
    simp only [World.size_alloc] at I
    have HO2 := Lib.hid o2
    have HI := Lib.hid I
    have HR : Hid (Nt.right ⟨1, ep, n, ⟨ee, d⟩⟩ = (decide (ee = 0) && decide (d = []) && inB ep && decide (-1 ≤ n) && decide (n ≤ 6))) := rfl
    clear I o1 o2
    by_cases h0 : ee = 0
    · subst h0
      by_cases h1 : d = []
      · subst h1
        obtain ⟨g, hg⟩ : ∃ g, inB ep = g := ⟨_, rfl⟩
        rw [hg] at HI HR
        clear hg
        cases g with
        | true =>
          by_cases h2 : -1 ≤ n
          · by_cases h3 : n ≤ 6
            · go_enter Try.func59, Try.ntmps59
              go_wp2_with (go_at_call 24; refine HI.out.mono ?_; rintro e w' ⟨rfl, rfl⟩)
              go_ret
              exact ⟨by rw [HR.out]; simp [go_sem, h2, h3] <;> omega, HO2.out⟩
            · go_enter Try.func59, Try.ntmps59
              go_wp2_with (go_at_call 24; refine HI.out.mono ?_; rintro e w' ⟨rfl, rfl⟩)
              go_ret
              exact ⟨by rw [HR.out]; simp [go_sem, h2, h3] <;> omega, HO2.out⟩
          · go_enter Try.func59, Try.ntmps59
            go_wp2_with (go_at_call 24; refine HI.out.mono ?_; rintro e w' ⟨rfl, rfl⟩)
            go_ret
            exact ⟨by rw [HR.out]; simp [go_sem, h2] <;> omega, HO2.out⟩
        | false =>
          go_enter Try.func59, Try.ntmps59
          go_wp2_with (go_at_call 24; refine HI.out.mono ?_; rintro e w' ⟨rfl, rfl⟩)
          go_ret
          exact ⟨by rw [HR.out]; simp [go_sem], HO2.out⟩
      · go_enter Try.func59, Try.ntmps59
        go_wp2_with fail
        go_ret
        exact ⟨by rw [HR.out]; simp [go_sem, h1], HO1.out⟩
    · go_enter Try.func59, Try.ntmps59
      go_wp2_with fail
      go_ret
      exact ⟨by rw [HR.out]; simp [go_sem, h0], HO1.out⟩
  · have e1 : (k == 1) = false := by simpa using k1
    by_cases k2 : k = 2
    · have e2 : (k == 2) = true := by simpa using k2
      have o2 := o1.alloc (.cells #[.int .i64 n] 3)
      have I := in1_is (w.alloc (.cells #[.int .i64 k, .int .i64 ep, .int .i64 n, .int .i64 ee, .string (str d)] 75)) n
      subst k2
      simp only [World.size_alloc] at I
      have HO2 := Lib.hid o2
      have HI := Lib.hid I
      have HR : Hid (Nt.right ⟨2, ep, n, ⟨ee, d⟩⟩ = (decide (ep = 0) && decide (ee = 0) && decide (d = []) && inB n)) := rfl
      clear I o1 o2
      by_cases hp : ep = 0
      · subst hp
        by_cases h0 : ee = 0
        · subst h0
          by_cases h1 : d = []
          · subst h1
            obtain ⟨g, hg⟩ : ∃ g, inB n = g := ⟨_, rfl⟩
            rw [hg] at HI HR
            clear hg
            go_enter Try.func59, Try.ntmps59
            go_wp2_with (go_at_call 24; refine HI.out.mono ?_; rintro e w' ⟨rfl, rfl⟩)
            go_ret
            exact ⟨by rw [HR.out]; simp [go_sem], HO2.out⟩
          · go_enter Try.func59, Try.ntmps59
            go_wp2_with fail
            go_ret
            exact ⟨by rw [HR.out]; simp [go_sem, h1], HO1.out⟩
        · go_enter Try.func59, Try.ntmps59
          go_wp2_with fail
          go_ret
          exact ⟨by rw [HR.out]; simp [go_sem, h0], HO1.out⟩
      · go_enter Try.func59, Try.ntmps59
        go_wp2_with fail
        go_ret
        exact ⟨by rw [HR.out]; simp [go_sem, hp], HO1.out⟩
    · have e2 : (k == 2) = false := by simpa using k2
      have HR : Hid (Nt.right ⟨k, ep, n, ⟨ee, d⟩⟩ = (decide (k = 3) && decide (ep = 0) && decide (n = 0) && Ent.right ⟨ee, d⟩)) := by
        show _ = _
        unfold Nt.right
        simp only
        rw [if_neg k1, if_neg k2]
      have E := eright_is (w.alloc (.cells #[.int .i64 k, .int .i64 ep, .int .i64 n, .int .i64 ee, .string (str d)] 75)) ⟨ee, d⟩ hl
      obtain ⟨g, hg⟩ : ∃ g, Ent.right ⟨ee, d⟩ = g := ⟨_, rfl⟩
      rw [hg] at E HR
      have HE := Lib.hid E
      clear E hg o1
      by_cases k3 : k = 3
      · have e3 : (k == 3) = true := by simpa using k3
        subst k3
        by_cases hp : ep = 0
        · subst hp
          by_cases hn : n = 0
          · subst hn
            go_enter Try.func59, Try.ntmps59
            go_wp2_with (go_at_call 25; refine HE.out.mono ?_; rintro e w1 ⟨rfl, ho⟩; have HO := Lib.hid ho; clear ho)
            go_ret
            exact ⟨by rw [HR.out]; simp [go_sem], HO1.out.trans HO.out⟩
          · go_enter Try.func59, Try.ntmps59
            go_wp2_with fail
            go_ret
            exact ⟨by rw [HR.out]; simp [go_sem, hn], HO1.out⟩
        · go_enter Try.func59, Try.ntmps59
          go_wp2_with fail
          go_ret
          exact ⟨by rw [HR.out]; simp [go_sem, hp], HO1.out⟩
      · have e3 : (k == 3) = false := by simpa using k3
        go_enter Try.func59, Try.ntmps59
        go_wp2_with fail
        go_ret
        exact ⟨by rw [HR.out]; simp [go_sem, k3], HO1.out⟩
end Go.Proofs.Ytlgoenimjmiapaa
