import Derived.Test.YtddcojikbcbihaaD2
import Derived.Deep.RegionWith
/-! The program's disk: Read. -/
set_option linter.unusedVariables false
namespace Go.Proofs.Ytddcojikbcbihaa
open Go.RowKit

section
variable {Z : Zone} {w : World} {d p o f : Nat} {lv : Value} {D : DS}

theorem Disk0.any {w' : World} (h : Disk0 Z w d p o f lv D) (ho : Out Zone.no w w') : Disk0 Z w' d p o f lv D :=
  have hm := h.map_ne
  ⟨ho.get h.sd (id), ho.get h.sp (id), h.log.out ho.mono0, h.old.out (ho.mono0 (Z' := Z)) Z.sub (ho.block o (h.top.lt h.bo) (id)),
    h.fresh.out (ho.mono0 (Z' := Z)) Z.sub (ho.block f (h.top.lt h.bf) (id)), h.bd, h.bp, h.bo, h.bf, h.top.mono ho.size, h.ne, h.ok⟩

/-- What Read comes to. -/
def ReadOk (Z : Zone) (d p o f : Nat) (lv : Value) (D : DS) (x : List UInt8 × Int) (w : World) (e : Ending) (w' : World) : Prop :=
  ∃ v, e = .returned (.tuple #[v, .int .i64 x.2]) ∧ Row Z w' v (bytes x.1) ∧ Disk0 Z w' d p o f lv D ∧ Out Zone.no w w'

theorem read_is (h : Disk0 Z w d p o f lv D) (at_ : Int) : Calls Try.prog 18 #[.pointer (some ⟨d, 0, none⟩), .int .i64 at_] w (ReadOk Z d p o f lv D (D.read at_) w) := by
  have HH := Lib.hid h
  have I := Lib.hid (in_is h at_)
  have M : ∀ n, Hid _ := fun n => Lib.hid (may_is (h.drewN n) (D.inn at_))
  by_cases hr : D.may (D.inn at_) = 0
  · have hoff : D.off = false := by
      cases h1 : D.off
      · rfl
      · unfold DS.may at hr; rw [h1] at hr; simp at hr
    have hin : D.inn at_ = true := by
      cases h1 : D.inn at_
      · unfold DS.may at hr; rw [h1, hoff] at hr; simp at hr
      · rfl
    obtain ⟨k1, k2, k3⟩ := h.ok.inn hin
    have hres : D.read at_ = (D.log.drop (at_ - D.base).toNat, 0) := by unfold DS.read; rw [hoff, hin]; rfl
    have k4 := h.ok.log
    have k5 := h.ok.most
    have k6 := h.ok.base0
    have k7 := h.ok.base1
    rw [hres]
    obtain ⟨A, c, rfl, hc, _⟩ := h.log.form
    have s1 := h.sd
    have HR := Lib.hid h.log
    have HT := Lib.hid h.top
    obtain ⟨k, hk⟩ : ∃ k : Nat, at_ = D.base + k := ⟨(at_ - D.base).toNat, by omega⟩
    have hk' : (at_ - D.base).toNat = k := by omega
    rw [hk']
    clear hk'
    subst hk
    have c3 := cells_all s1 3
    have c5 := cells_all s1 5
    rw [hr] at M
    generalize D.base = b at *
    clear h hr hres hin hoff k3 s1
    have e1 : IntKind.i64.wrap (b + (k : Int) - b) = k := by rw [show b + (k : Int) - b = k from by omega]; exact IntWalk.i64_in _ (by omega)
    have e2 : k ≤ D.log.length := by omega
    have e4 : (bytes (D.log.drop k)).length ≤ 140737488355328 := by rw [length_bytes, List.length_drop]; omega
    have E4 := Lib.hid e4
    clear e4
    by_cases hck : c = k
    · subst hck
      go_enter Try.func18, Try.ntmps18
      go_wp2_with (first | (go_at_call 46; refine I.out.mono ?_; rintro e w' ⟨rfl, n, rfl⟩) | (go_at_call 43; refine (M _).out.mono ?_; rintro e w' ⟨rfl, rfl⟩))
      go_region_with (go_at_call 47; refine (clone_any _ Z (by exact HT.out) _ (bytes (D.log.drop c)) (by exact row_nil_drop hc) E4.out).mono ?_; rintro e w' ⟨v', rfl, ho, hr⟩; have HO := Lib.hid ho; have HV := Lib.hid hr; clear ho hr)
      all_goals
        go_wp2_with fail
        go_ret2
        exact ⟨_, rfl, HV.out, HH.out.any HO.out.undrewN, HO.out.undrewN⟩
    · go_enter Try.func18, Try.ntmps18
      go_wp2_with (first | (go_at_call 46; refine I.out.mono ?_; rintro e w' ⟨rfl, n, rfl⟩) | (go_at_call 43; refine (M _).out.mono ?_; rintro e w' ⟨rfl, rfl⟩))
      go_region_with (go_at_call 47; refine (clone_any _ Z (by exact HT.out) _ (bytes (D.log.drop k)) (by exact (Row.drewN HR.out _).drop_ne e2 hck) E4.out).mono ?_; rintro e w' ⟨v', rfl, ho, hr⟩; have HO := Lib.hid ho; have HV := Lib.hid hr; clear ho hr)
      all_goals
        go_wp2_with fail
        go_ret2
        exact ⟨_, rfl, HV.out, HH.out.any HO.out.undrewN, HO.out.undrewN⟩
  · have hres : ∃ x, D.read at_ = ([], x) ∧ D.may (D.inn at_) = x := by
      unfold DS.read DS.may at *
      cases h1 : D.off <;> rw [h1] at hr
      · cases h2 : D.inn at_ <;> rw [h2] at hr
        · exact ⟨1, rfl, rfl⟩
        · exact absurd rfl hr
      · exact ⟨9, rfl, rfl⟩
    obtain ⟨x, h1, h2⟩ := hres
    have hx : (x == 0) = false := beq_eq_false_iff_ne.2 (h2 ▸ hr)
    have hx' : (x != 0) = true := bne_iff_ne.2 (h2 ▸ hr)
    rw [h1]
    rw [h2] at M
    clear h h1 h2 hr
    go_enter Try.func18, Try.ntmps18
    go_wp2_with (first | (go_at_call 46; refine I.out.mono ?_; rintro e w' ⟨rfl, n, rfl⟩) | (go_at_call 43; refine (M _).out.mono ?_; rintro e w' ⟨rfl, rfl⟩))
    go_ret2
    exact ⟨_, rfl, row_nil _ _ _ _ (Nat.zero_le _), HH.out.drewN _, (Out.refl Zone.no w).drewN _⟩
end
end Go.Proofs.Ytddcojikbcbihaa
