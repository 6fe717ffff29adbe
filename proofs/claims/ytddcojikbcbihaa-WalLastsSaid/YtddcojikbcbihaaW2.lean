import Derived.Test.YtddcojikbcbihaaW1
import Derived.Test.YtddcojikbcbihaaK8
/-! wal.Append, wal.Sync, Sure. -/
set_option linter.unusedVariables false
namespace Go.Proofs.Ytddcojikbcbihaa
open Go.RowKit

/-- A wal's block. -/
def WalAt (w : World) (wb d : Nat) (sure : Int) : Prop := w.heap[wb]? = some (.cells #[.pointer (some ⟨d, 0, none⟩), .int .i64 sure] 79 (0, 0))
theorem WalAt.out {Z : Zone} {w w' : World} {wb d : Nat} {s : Int} (h : WalAt w wb d s) (ho : Out Z w w') (hz : ¬ Z.S wb) : WalAt w' wb d s := ho.get h hz

theorem wnone_is {w : World} {wb d : Nat} {s : Int} (h : WalAt w wb d s) : Calls Try.prog 66 #[.pointer (some ⟨wb, 0, none⟩)] w fun e w' => e = .returned (.bool false) ∧ w = w' := by
  have c0 := cells_all h 0
  clear h
  go_enter Try.func66, Try.ntmps66
  go_wp2
  go_ret
  exact ⟨rfl, rfl⟩

theorem wsure_is {w : World} {wb d : Nat} {s : Int} (h : WalAt w wb d s) : Calls Try.prog 42 #[.pointer (some ⟨wb, 0, none⟩)] w fun e w' => e = .returned (.int .i64 s) ∧ w = w' := by
  have N := Lib.hid (wnone_is h)
  have c1 := cells_all h 1
  clear h
  go_enter Try.func42, Try.ntmps42
  go_wp2_with (go_at_call 66; refine N.out.mono ?_; rintro e w' ⟨rfl, rfl⟩)
  go_ret
  exact ⟨rfl, rfl⟩

set_option maxRecDepth 100000 in
set_option maxHeartbeats 1000000 in
theorem wappend_is {Z : Zone} {w : World} {wb d : Nat} {s : Int} {D : DS} (h : WalAt w wb d s) (hd : DiskAt Z w d D) (hz : ¬ Z.S wb) (sv : Value) (L : List UInt8) (hr : Row Zone.no w sv (bytes L)) (hl : L.length ≤ 1048576) :
    Calls Try.prog 37 #[.pointer (some ⟨wb, 0, none⟩), sv] w (AppendOk Z d (D.append (recB L)) w) := by
  obtain ⟨A, c, rfl, _, _⟩ := hr.form
  have N := Lib.hid (wnone_is h)
  have R := Lib.hid (record_is w _ L hr hl)
  have HW := Lib.hid h
  have HD := Lib.hid hd
  have hk := numB_short (u := 2 * L.length) (k := 3) (by omega)
  have hlen2 : (recB L).length = (numB (2 * L.length)).length + L.length + 8 := by
    unfold recB
    rw [List.length_append, List.length_append, length_eightI]
  have HL : Hid ((recB L).length ≤ 140737488355328) := by show _ ≤ _; omega
  have HT := Lib.hid hd.top
  clear h hd hr hk hlen2
  go_enter Try.func37, Try.ntmps37
  go_wp2_with (go_at_call 66; refine N.out.mono ?_; rintro e w' ⟨rfl, rfl⟩)
  refine R.out.mono ?_
  rintro e w1 ⟨v1, rfl, h1, ho1⟩
  have c0 := cells_all (HW.out.out ho1 id) 0
  have AP := Lib.hid (append_is (HD.out.any ho1) v1 (recB L) (h1.row fun g hg ht => by
    have := (World.ownsRow.lt h1 g hg).1
    have := HT.out g ht
    omega) HL.out)
  have HO1 := Lib.hid ho1
  clear h1 ho1
  go_wp2_with fail
  refine AP.out.mono ?_
  rintro e w2 ⟨rfl, h2, ho2⟩
  have H2 := Lib.hid h2
  have HO2 := Lib.hid (HO1.out.mono0.trans ho2)
  clear h2 ho2 AP
  go_wp2_with fail
  go_ret2
  exact ⟨rfl, H2.out, HO2.out⟩
end Go.Proofs.Ytddcojikbcbihaa
