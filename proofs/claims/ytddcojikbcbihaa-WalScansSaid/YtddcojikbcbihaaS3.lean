import Derived.Test.YtddcojikbcbihaaK2
import Derived.Test.YtddcojikbcbihaaS1
import Derived.Test.YtddcojikbcbihaaS2
/-! The document's eight. -/
set_option linter.unusedVariables false
namespace Go.Proofs.Ytddcojikbcbihaa
open Go.RowKit

set_option maxRecDepth 100000 in
set_option maxHeartbeats 1000000 in
theorem reight_is (w : World) (c : Int) : Calls Try.prog 79 #[.int .u64 c] w fun e w' => ∃ v, e = .returned v ∧ Row Zone.no w' v (bytes (eightI c)) ∧ Out Zone.no w w' := by
  go_enter Try.func79, Try.ntmps79
  go_wp2_with fail
  go_loopw [3, 4] (fun vb vi wr => ∃ (i : Nat), i ≤ 8 ∧ vi = .int .i64 (56 - 8 * (i : Int)) ∧ Hid (Owns w.heap.size wr vb ((List.range i).map (byteAt c))) ∧ Hid (Out Zone.no w wr)) (fun _ vi _ => (intOf vi + 8).toNat)
  case atStart => exact ⟨0, by omega, rfl, owns_nil _ _, Out.refl _ _⟩
  case round =>
    obtain ⟨i, hi, rfl, hown, how⟩ := hrel
    by_cases hlt : i < 8
    · obtain ⟨v', w', hrun, h1, ho⟩ := owns_push hown.out how.out.size (byteAt c i) (by simp; omega)
      have HR := Lib.hid hrun
      have H1 : Hid (Owns w.heap.size w' v' ((List.range (i + 1)).map (byteAt c))) := by
        show Owns _ _ _ _
        rw [List.range_succ, List.map_append]
        exact h1
      have HO := Lib.hid (ho w how.out (Nat.le_refl _))
      have hby : (c / 2 ^ (56 - 8 * i)) % 256 = ((byteAt c i).toNat : Int) := mod_byte _
      have hwb : IntKind.u8.wrap (c / 2 ^ (56 - 8 * i)) = ((byteAt c i).toNat : Int) := wrap_byte _
      clear hrun h1 ho
      go_wp2_with (at_builtin; refine wpList_builtin rfl _ _ _ rfl HR.out ?_)
      go_roundw
      case rel => exact ⟨i + 1, by omega, by go_num, H1.out, HO.out⟩
      case measure => simp [intOf]; omega
    · obtain rfl : i = 8 := by omega
      have HE := Lib.hid (hown.out.row (Z := Zone.no) (fun _ _ h => h))
      go_wp2_with fail
      go_ret
      exact ⟨_, rfl, HE.out, how.out⟩
end Go.Proofs.Ytddcojikbcbihaa
