import Derived.Test.YtddcojikbcbihaaW2
import Derived.Lib.SlBytesConst
/-! wal.Sync; the law's made. -/
set_option linter.unusedVariables false
namespace Go.Proofs.Ytddcojikbcbihaa
open Go.RowKit

def Zone.one (b : Nat) : Zone := ⟨fun k => k = b, fun k => k = b, fun _ h => h⟩
def Zone.with_ (Z : Zone) (b : Nat) : Zone := ⟨fun k => Z.S k ∨ k = b, fun k => Z.T k ∨ k = b, fun k h => h.imp (Z.sub k) id⟩

def WSyncOk (Z : Zone) (wb d : Nat) (s : Int) (x : Int × DS) (w : World) (e : Ending) (w' : World) : Prop :=
  e = .returned (.int .i64 x.1) ∧ DiskAt Z w' d x.2 ∧ WalAt w' wb d (if x.1 = 0 then x.2.fin else s) ∧ Out (Z.with_ wb) w w'

set_option maxRecDepth 100000 in
set_option maxHeartbeats 1000000 in
theorem wsync_is {Z : Zone} {w : World} {wb d : Nat} {s : Int} {D : DS} (h : WalAt w wb d s) (hd : DiskAt Z w d D) (hz : ¬ Z.S wb) (ht : Z.T wb) :
    Calls Try.prog 38 #[.pointer (some ⟨wb, 0, none⟩)] w (WSyncOk Z wb d s D.sync w) := by
  have N := Lib.hid (wnone_is h)
  have SY := Lib.hid (sync_is hd)
  have c0 := cells_all h 0
  have HW := Lib.hid h
  obtain ⟨⟨er, D'⟩, hx⟩ : ∃ x, D.sync = x := ⟨_, rfl⟩
  rw [hx] at SY ⊢
  clear h hd hx
  go_enter Try.func38, Try.ntmps38
  go_wp2_with (go_at_call 66; refine N.out.mono ?_; rintro e w' ⟨rfl, rfl⟩)
  refine SY.out.mono ?_
  rintro e w1 ⟨rfl, h1, ho1⟩
  have HW1 := HW.out.out ho1 hz
  have c1 := cells_all HW1 0
  have c2 := cells_all HW1 1
  have f1 := frozen_all HW1 1
  have HWW := Lib.hid HW1
  have H1 := Lib.hid h1
  have HO1 := Lib.hid ho1
  obtain ⟨p, o, f, lv, h0⟩ := h1
  have EN := Lib.hid (end_is h0)
  clear HW1 h0 ho1 c0
  by_cases he : er = 0
  · subst he
    go_wp2_with (go_at_call 20; refine EN.out.mono ?_; rintro e w2 ⟨rfl, q, rfl⟩)
    go_ret
    have ho : Out (Zone.one wb) w1 ((w1.drewN q).setCell ⟨wb, 1, none⟩ (.int .i64 D'.fin)) := ((Out.refl _ w1).drewN q).setCell (Or.inl rfl) _
    refine ⟨rfl, H1.out.out ho (fun k hk e => hz (by rw [← show k = wb from e]; exact hk)) (fun k e => by rw [show k = wb from e]; exact ht), ?_, (HO1.out.mono (fun k hk => Or.inl hk)).trans (ho.mono (fun k hk => Or.inr hk))⟩
    rw [if_pos rfl]
    have hw2 : (w1.drewN q).heap[wb]? = some (.cells #[.pointer (some ⟨d, 0, none⟩), .int .i64 s] 79 (0, 0)) := HWW.out
    have := heap_set hw2 1 (.int .i64 D'.fin)
    simpa [WalAt] using this
  · have hne : (er == 0) = false := by simpa using he
    go_wp2_with fail
    go_ret
    refine ⟨rfl, H1.out, ?_, HO1.out.mono (fun k hk => Or.inl hk)⟩
    rw [if_neg he]
    exact HWW.out

theorem made_is (w : World) (most : Int) (h1 : 1 ≤ most) (h2 : most ≤ 16777216) : Calls Try.prog 34 #[.int .i64 most] w fun e w' =>
    ∃ d, e = .returned (.pointer (some ⟨d, 0, none⟩)) ∧ DiskAt (Zone.of w.heap.size w'.heap.size) w' d (DS.new most 0) ∧ w.heap.size ≤ d ∧ d < w'.heap.size ∧ Out Zone.no w w' := by
  have N := Lib.hid (new_ok w most 0 h1 h2 (by omega) (by omega))
  go_enter Try.func34, Try.ntmps34
  go_wp2_with fail
  refine N.out.mono ?_
  rintro e w1 ⟨d, rfl, hd, hd1, hd2, ho⟩
  have H := Lib.hid hd
  have HO := Lib.hid ho
  clear hd ho
  go_wp2_with (go_at_call 36; refine (wnum_is _ _).mono ?_; rintro e w' ⟨rfl, rfl⟩)
  go_ret
  exact ⟨d, rfl, H.out, hd1, hd2, HO.out⟩
end Go.Proofs.Ytddcojikbcbihaa
