import Derived.Test.YtlgoenimjmiapaaGreatT01
set_option linter.unusedSimpArgs false
set_option linter.unusedVariables false
set_option linter.unusedSectionVars false
/-! Messages that may be. -/
set_option linter.unusedVariables false
namespace Go.Proofs.YtlgoenimjmiapaaGreat
open Go.RowKit

def idB (n : Int) : Bool := decide (0 ≤ n) && decide (n ≤ 6)
def Msg.nums (m : Msg) : Bool := inB m.ep && inB m.at_ && inB m.last && inB m.commit
def Msg.shape (m : Msg) : Bool := decide (m.kind = 3) || decide (m.log.length = 0)
def Msg.right (m : Msg) : Bool := decide (1 ≤ m.kind) && decide (m.kind ≤ 5) && idB m.frm && idB m.to && m.nums && decide (m.log.length ≤ 2048) && m.shape && m.log.all Ent.right
def Msg.agg (m : Msg) (v : Value) : Value := .agg #[.int .i64 m.kind, .int .i64 m.frm, .int .i64 m.to, .int .i64 m.ep, .int .i64 m.at_, .int .i64 m.last, .int .i64 m.commit, v]
def Msg.blk (m : Msg) (v : Value) : Obj := .cells #[.int .i64 m.kind, .int .i64 m.frm, .int .i64 m.to, .int .i64 m.ep, .int .i64 m.at_, .int .i64 m.last, .int .i64 m.commit, v] 49

set_option maxRecDepth 100000 in
theorem id_is (w : World) (n : Int) : Calls Tryz.prog 56 #[.int .i64 n] w fun e w' => e = .returned (.bool (idB n)) ∧ w = w' := by
  by_cases h1 : n < 0
  · have hb : idB n = false := by simp [idB]; omega
    rw [hb]
    go_enter Tryz.func56, Tryz.ntmps56
    go_wp2_with fail
    go_ret
    exact ⟨rfl, rfl⟩
  · by_cases h2 : 6 < n
    · have hb : idB n = false := by simp [idB]; omega
      rw [hb]
      go_enter Tryz.func56, Tryz.ntmps56
      go_wp2_with fail
      go_ret
      refine ⟨?_, rfl⟩
      simp [go_sem] <;> omega
    · have hb : idB n = true := by simp [idB]; omega
      rw [hb]
      have h3 : 0 ≤ n := by omega
      have h4 : n ≤ 6 := by omega
      go_enter Tryz.func56, Tryz.ntmps56
      go_wp2_with fail
      go_ret
      refine ⟨?_, rfl⟩
      simp [go_sem] <;> omega

theorem in4_is (w : World) (a b c d : Int) : Calls Tryz.prog 44 #[.slice (some ⟨w.heap.size, 0, none⟩) 4 4] (w.alloc (.cells #[.int .i64 a, .int .i64 b, .int .i64 c, .int .i64 d] 3)) fun e w' => e = .returned (.bool (inB a && inB b && inB c && inB d)) ∧ w.alloc (.cells #[.int .i64 a, .int .i64 b, .int .i64 c, .int .i64 d] 3) = w' := by
  have h := in_is _ (fun _ => False) _ [a, b, c, d] (rrow_new (w := w) (e := 3) (cs := [.int .i64 a, .int .i64 b, .int .i64 c, .int .i64 d]) (n := 4) (sz := 1) (fun h => h) (by simp) (by omega)) (by simp)
  have hI : [a, b, c, d].all inB = (inB a && inB b && inB c && inB d) := by simp [Bool.and_assoc]
  rw [hI] at h
  exact h

set_option maxRecDepth 100000 in
set_option maxHeartbeats 2000000 in
theorem mright_is (w : World) (N : Nat → Prop) (m : Msg) (v : Value) (hr : RRow N w v m.log.length 2 (encL m.log)) (hl : m.log.length ≤ 9223372036854775807) (hf : Fits m.log) :
    Calls Tryz.prog 33 #[.agg #[.int .i64 m.kind, .int .i64 m.frm, .int .i64 m.to, .int .i64 m.ep, .int .i64 m.at_, .int .i64 m.last, .int .i64 m.commit, v]] w fun e w' => e = .returned (.bool m.right) ∧ Out Zone.no w w' := by
  obtain ⟨A, c, rfl, _, _⟩ := hr.form
  have o1 := (Out.refl Zone.no w).alloc (m.blk (.slice A m.log.length c))
  have o2 := o1.alloc (.cells #[.int .i64 m.ep, .int .i64 m.at_, .int .i64 m.last, .int .i64 m.commit] 3)
  have HO1 := Lib.hid o1
  have HO2 := Lib.hid o2
  have I4 := in4_is (w.alloc (m.blk (.slice A m.log.length c))) m.ep m.at_ m.last m.commit
  have EB := ebads_is _ N _ m.log (hr.any o2) hl hf
  simp only [World.size_alloc] at I4
  have HID := Lib.hid (fun w n => id_is w n)
  have HI4 := Lib.hid I4
  have HEB := Lib.hid EB
  have HR : Hid (m.right = (decide (1 ≤ m.kind) && decide (m.kind ≤ 5) && idB m.frm && idB m.to && m.nums && decide (m.log.length ≤ 2048) && m.shape && m.log.all Ent.right)) := rfl
  obtain ⟨gf, hgf⟩ : ∃ g, idB m.frm = g := ⟨_, rfl⟩
  obtain ⟨gt, hgt⟩ : ∃ g, idB m.to = g := ⟨_, rfl⟩
  obtain ⟨gn, hgn⟩ : ∃ g, m.nums = g := ⟨_, rfl⟩
  obtain ⟨ga, hga⟩ : ∃ g, m.log.all Ent.right = g := ⟨_, rfl⟩
  obtain ⟨gs, hgs⟩ : ∃ g, m.shape = g := ⟨_, rfl⟩
  rw [hgf, hgt] at HR
  unfold Msg.nums at hgn
  rw [hgn] at HI4
  rw [show m.nums = gn from hgn, hga, hgs] at HR
  rw [hga] at HEB
  unfold Msg.shape at hgs
  unfold Msg.blk at *
  clear I4 EB hr o1 o2 hgn hga hf HID
  by_cases k1 : 1 ≤ m.kind
  case' neg =>
    go_enter Tryz.func33, Tryz.ntmps33
    go_wp2_with (first
      | (go_at_call 56; refine (id_is _ _).mono ?_; rintro e w' ⟨rfl, rfl⟩)
      | (go_at_call 44; refine HI4.out.mono ?_; rintro e w' ⟨rfl, rfl⟩)
      | (go_at_call 57; refine HEB.out.mono ?_; rintro e w9 ⟨rfl, ho9⟩; have HO9 := Lib.hid ho9; clear ho9)
      | fail)
    go_ret
    exact ⟨by rw [HR.out]; simp [k1, go_sem] <;> omega, HO1.out⟩
  by_cases k5 : m.kind ≤ 5
  case' neg =>
    go_enter Tryz.func33, Tryz.ntmps33
    go_wp2_with (first
      | (go_at_call 56; refine (id_is _ _).mono ?_; rintro e w' ⟨rfl, rfl⟩)
      | (go_at_call 44; refine HI4.out.mono ?_; rintro e w' ⟨rfl, rfl⟩)
      | (go_at_call 57; refine HEB.out.mono ?_; rintro e w9 ⟨rfl, ho9⟩; have HO9 := Lib.hid ho9; clear ho9)
      | fail)
    go_ret
    exact ⟨by rw [HR.out]; simp [k5, go_sem] <;> omega, HO1.out⟩
  cases gf with
  | false =>
    go_enter Tryz.func33, Tryz.ntmps33
    go_wp2_with (first
      | (go_at_call 56; refine (id_is _ _).mono ?_; rintro e w' ⟨rfl, rfl⟩)
      | (go_at_call 44; refine HI4.out.mono ?_; rintro e w' ⟨rfl, rfl⟩)
      | (go_at_call 57; refine HEB.out.mono ?_; rintro e w9 ⟨rfl, ho9⟩; have HO9 := Lib.hid ho9; clear ho9)
      | fail)
    go_ret
    exact ⟨by rw [HR.out]; simp [go_sem], HO1.out⟩
  | true =>
  cases gt with
  | false =>
    go_enter Tryz.func33, Tryz.ntmps33
    go_wp2_with (first
      | (go_at_call 56; refine (id_is _ _).mono ?_; rintro e w' ⟨rfl, rfl⟩)
      | (go_at_call 44; refine HI4.out.mono ?_; rintro e w' ⟨rfl, rfl⟩)
      | (go_at_call 57; refine HEB.out.mono ?_; rintro e w9 ⟨rfl, ho9⟩; have HO9 := Lib.hid ho9; clear ho9)
      | fail)
    go_ret
    exact ⟨by rw [HR.out]; simp [go_sem], HO1.out⟩
  | true =>
  cases gn with
  | false =>
    go_enter Tryz.func33, Tryz.ntmps33
    go_wp2_with (first
      | (go_at_call 56; refine (id_is _ _).mono ?_; rintro e w' ⟨rfl, rfl⟩)
      | (go_at_call 44; refine HI4.out.mono ?_; rintro e w' ⟨rfl, rfl⟩)
      | (go_at_call 57; refine HEB.out.mono ?_; rintro e w9 ⟨rfl, ho9⟩; have HO9 := Lib.hid ho9; clear ho9)
      | fail)
    go_ret
    exact ⟨by rw [HR.out]; simp [go_sem], HO2.out⟩
  | true =>
  by_cases hl8 : m.log.length ≤ 2048
  case' neg =>
    go_enter Tryz.func33, Tryz.ntmps33
    go_wp2_with (first
      | (go_at_call 56; refine (id_is _ _).mono ?_; rintro e w' ⟨rfl, rfl⟩)
      | (go_at_call 44; refine HI4.out.mono ?_; rintro e w' ⟨rfl, rfl⟩)
      | (go_at_call 57; refine HEB.out.mono ?_; rintro e w9 ⟨rfl, ho9⟩; have HO9 := Lib.hid ho9; clear ho9)
      | fail)
    go_ret
    exact ⟨by rw [HR.out]; simp [hl8, go_sem] <;> omega, HO2.out⟩
  have h8 : decide (m.log.length ≤ 2048) = true := by simpa using hl8
  have hk1 : decide (1 ≤ m.kind) = true := by simpa using k1
  have hk5 : decide (m.kind ≤ 5) = true := by simpa using k5
  rw [h8, hk1, hk5] at HR
  have HR := Lib.hid HR.out
  clear h8 hk1 hk5
  by_cases k3 : m.kind = 3
  · have e3 : (m.kind == 3) = true := by simpa using k3
    obtain rfl : gs = true := by rw [← hgs]; simp [k3]
    clear hgs k3
    cases ga with
    | false =>
      go_enter Tryz.func33, Tryz.ntmps33
      go_wp2_with (first
        | (go_at_call 56; refine (id_is _ _).mono ?_; rintro e w' ⟨rfl, rfl⟩)
        | (go_at_call 44; refine HI4.out.mono ?_; rintro e w' ⟨rfl, rfl⟩)
        | (go_at_call 57; refine HEB.out.mono ?_; rintro e w9 ⟨rfl, ho9⟩; have HO9 := Lib.hid ho9; clear ho9)
        | fail)
      go_ret
      exact ⟨by rw [HR.out]; simp [go_sem], HO2.out.trans HO9.out⟩
    | true =>
      go_enter Tryz.func33, Tryz.ntmps33
      go_wp2_with (first
        | (go_at_call 56; refine (id_is _ _).mono ?_; rintro e w' ⟨rfl, rfl⟩)
        | (go_at_call 44; refine HI4.out.mono ?_; rintro e w' ⟨rfl, rfl⟩)
        | (go_at_call 57; refine HEB.out.mono ?_; rintro e w9 ⟨rfl, ho9⟩; have HO9 := Lib.hid ho9; clear ho9)
        | fail)
      go_ret
      exact ⟨by rw [HR.out]; simp [go_sem], HO2.out.trans HO9.out⟩
  · have e3 : (m.kind == 3) = false := by simpa using k3
    by_cases h0 : m.log.length = 0
    · have e0 : ((m.log.length : Int) == 0) = true := by rw [beq_iff_eq]; omega
      obtain rfl : gs = true := by rw [← hgs]; simp [h0]
      clear hgs k3 h0
      cases ga with
      | false =>
        go_enter Tryz.func33, Tryz.ntmps33
        go_wp2_with (first
          | (go_at_call 56; refine (id_is _ _).mono ?_; rintro e w' ⟨rfl, rfl⟩)
          | (go_at_call 44; refine HI4.out.mono ?_; rintro e w' ⟨rfl, rfl⟩)
          | (go_at_call 57; refine HEB.out.mono ?_; rintro e w9 ⟨rfl, ho9⟩; have HO9 := Lib.hid ho9; clear ho9)
          | fail)
        go_ret
        exact ⟨by rw [HR.out]; simp [go_sem], HO2.out.trans HO9.out⟩
      | true =>
        go_enter Tryz.func33, Tryz.ntmps33
        go_wp2_with (first
          | (go_at_call 56; refine (id_is _ _).mono ?_; rintro e w' ⟨rfl, rfl⟩)
          | (go_at_call 44; refine HI4.out.mono ?_; rintro e w' ⟨rfl, rfl⟩)
          | (go_at_call 57; refine HEB.out.mono ?_; rintro e w9 ⟨rfl, ho9⟩; have HO9 := Lib.hid ho9; clear ho9)
          | fail)
        go_ret
        exact ⟨by rw [HR.out]; simp [go_sem], HO2.out.trans HO9.out⟩
    · have e0 : ((m.log.length : Int) == 0) = false := by rw [beq_eq_false_iff_ne]; omega
      obtain rfl : gs = false := by rw [← hgs]; simp [h0, k3]
      clear hgs k3 h0
      go_enter Tryz.func33, Tryz.ntmps33
      go_wp2_with (first
        | (go_at_call 56; refine (id_is _ _).mono ?_; rintro e w' ⟨rfl, rfl⟩)
        | (go_at_call 44; refine HI4.out.mono ?_; rintro e w' ⟨rfl, rfl⟩)
        | (go_at_call 57; refine HEB.out.mono ?_; rintro e w9 ⟨rfl, ho9⟩; have HO9 := Lib.hid ho9; clear ho9)
        | fail)
      go_ret
      exact ⟨by rw [HR.out]; simp [go_sem], HO2.out⟩
end Go.Proofs.YtlgoenimjmiapaaGreat
