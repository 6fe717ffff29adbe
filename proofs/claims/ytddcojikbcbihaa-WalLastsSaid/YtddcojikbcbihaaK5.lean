import Derived.Test.YtddcojikbcbihaaL2
import Derived.Test.YtddcojikbcbihaaK2
import Derived.Test.YtddcojikbcbihaaK4
/-! slices.Grow at a nil []byte, slices.Concat at [][]byte. -/
set_option linter.unusedVariables false
namespace Go.Proofs.Ytddcojikbcbihaa
open Go.RowKit

theorem grow_nil (w : World) (n : Nat) (h0 : 0 < n) (hl : n ≤ 10000000000) :
    Calls Try.prog 93 #[.slice none 0 0, .int .i64 (n : Int)] w fun e w' => ∃ v, e = .returned v ∧ Owns w.heap.size w' v [] ∧ Out Zone.no w w' := by
  obtain ⟨hu, ⟨i, hi1, hz, hsz, hby⟩, hz1⟩ := elem22
  have h := Any8.slices_Grow_grow Try.growB i (.int .u8 0) hi1 hz (by omega) none 0 0 n [] w (Nat.le_refl _) (by omega) (by rw [hby]; omega) (by omega) (by simp) (fun _ => rfl) (fun a ha => by cases ha)
  refine (show Calls Try.prog 93 _ w _ from h).mono ?_
  rintro e w' ⟨rfl, rfl⟩
  have hge := grownCap_ge w (0 + n) 0 (Try.growB_ren.t 25)
  have hle := grownCap_le_maxLen w (0 + n) 0 (Try.growB_ren.t 25) (le_maxLen (by omega))
  refine ⟨_, rfl, ?_, ?_⟩
  · refine ⟨by simp [bytes], Or.inr ⟨w.heap.size, _, _, rfl, Nat.le_refl _, heap_alloc_new w.drew _, Nat.zero_le _, hle, ?_, by simp [bytes]⟩⟩
    rw [Array.size_append, Array.size_append, size_zeroCells1 hz1, size_zeroCells1 hz1]
    simp only [List.size_toArray, List.length_nil]
    omega
  · exact (Out.drewN (Out.refl Zone.no w) 1).alloc _

/-- Rows of bytes in a row. -/
def Rows (w : World) (a : Addr) (Ls : List (List UInt8)) : Prop :=
  ∀ i L, Ls[i]? = some L → ∃ v, w.cell? (a.add i) = some v ∧ Row Zone.no w v (bytes L)

theorem Rows.out {w w' : World} {a : Addr} {Ls : List (List UInt8)} (h : Rows w a Ls) (ho : Out Zone.no w w') : Rows w' a Ls := by
  intro i L hL
  obtain ⟨v, h1, h2⟩ := h i L hL
  exact ⟨v, ho.cell h1 id, h2.out ho⟩

theorem take_flat {Ls : List (List UInt8)} {i : Nat} {L : List UInt8} (h : Ls[i]? = some L) : (Ls.take (i + 1)).flatten = (Ls.take i).flatten ++ L := by
  rw [List.take_add_one, h]
  simp

theorem flat_le (Ls : List (List UInt8)) (i : Nat) : (Ls.take i).flatten.length ≤ Ls.flatten.length := by
  have h := congrArg List.length (congrArg List.flatten (List.take_append_drop i Ls))
  rw [List.flatten_append, List.length_append] at h
  omega

set_option maxRecDepth 100000 in
set_option maxHeartbeats 1000000 in
theorem concat_is (w : World) (a : Addr) (Ls : List (List UInt8)) (hr : Rows w a Ls) (h0 : 0 < Ls.flatten.length) (hl : Ls.flatten.length ≤ 2000000) (hk : Ls.length ≤ 1000) :
    Calls Try.prog 81 #[.slice (some a) Ls.length Ls.length] w fun e w' => ∃ v, e = .returned v ∧ Owns w.heap.size w' v Ls.flatten ∧ Out Zone.no w w' := by
  have HR := Lib.hid hr
  clear hr
  go_enter Try.func81, Try.ntmps81
  go_wp2_with fail
  go_loop [3, 11] (fun vn vi => ∃ i : Nat, i ≤ Ls.length ∧ vi = .int .i64 (i : Int) ∧ vn = .int .i64 (((Ls.take i).flatten.length : Nat) : Int)) (fun _ vi => Ls.length - (intOf vi).toNat)
  case atStart => exact ⟨0, by omega, rfl, rfl⟩
  case round =>
    obtain ⟨i, hi, rfl, rfl⟩ := hrel
    by_cases hlt : i < Ls.length
    · obtain ⟨L, hL⟩ : ∃ L, Ls[i]? = some L := ⟨_, List.getElem?_eq_getElem hlt⟩
      obtain ⟨v, hc, hv⟩ := HR.out i L hL
      obtain ⟨A, c, rfl, hc1, hc2⟩ := hv.form
      have hf := Lib.hid (take_flat hL)
      have hfl : (Ls.take i).flatten.length + L.length ≤ 2000000 := by
        have h1 := congrArg List.length hf.out
        have h2 := flat_le Ls (i + 1)
        rw [List.length_append] at h1
        omega
      have HN := Lib.hid (congrArg List.length hf.out)
      clear hv hL hc2
      generalize hgn : (Ls.take i).flatten.length = n at *
      have HG := Lib.hid hgn
      clear hgn
      go_wp2_with fail
      go_roundw
      case rel => exact ⟨i + 1, by omega, by go_num, by rw [HN.out, List.length_append, HG.out]; go_num⟩
      case measure => simp [intOf]; omega
    · obtain rfl : i = Ls.length := by omega
      rw [List.take_length]
      obtain ⟨n, hn⟩ : ∃ n, Ls.flatten.length = n := ⟨_, rfl⟩
      rw [hn] at h0 hl ⊢
      have HN := Lib.hid hn
      clear hn
      go_wp2_with (go_at_call 93; refine (grow_nil _ n h0 (by omega)).mono ?_; rintro e w1 ⟨vb, rfl, hown, how⟩; have HOWN := Lib.hid hown; have HOW := Lib.hid how; clear hown how)
      go_loopw [6, 27] (fun vb vi wr => ∃ i : Nat, i ≤ Ls.length ∧ vi = .int .i64 (i : Int) ∧ Hid (Owns w.heap.size wr vb (Ls.take i).flatten) ∧ Hid (Out Zone.no w wr)) (fun _ vi _ => Ls.length - (intOf vi).toNat)
      case atStart => exact ⟨0, by omega, rfl, HOWN.out, HOW.out⟩
      case round =>
        obtain ⟨i, hi, rfl, hown, how⟩ := hrel
        rename_i vb' _ wr
        by_cases hlt : i < Ls.length
        · obtain ⟨L, hL⟩ : ∃ L, Ls[i]? = some L := ⟨_, List.getElem?_eq_getElem hlt⟩
          obtain ⟨v, hc, hv⟩ := (HR.out.out how.out) i L hL
          have hf := Lib.hid (take_flat hL)
          have hfl : (Ls.take i).flatten.length + L.length ≤ 2000000 := by
            have h1 := congrArg List.length hf.out
            have h2 := flat_le Ls (i + 1)
            have h3 := HN.out
            rw [List.length_append] at h1
            omega
          obtain ⟨v', w', hrun, h1, hg, _⟩ := hown.out.append how.out.size hv (by omega) 22
          have HU := Lib.hid hrun
          have H1 := Lib.hid h1
          have HO := Lib.hid (how.out.grown hg (fun k hk => Or.inr (World.ownsRow.lt hown.out k hk).1))
          clear hv hL hrun h1 hg
          go_wp2_with (at_builtin; refine wpList_builtin rfl _ _ _ rfl HU.out ?_)
          go_roundw
          case rel => exact ⟨i + 1, by omega, by go_num, by rw [hf.out]; exact H1.out, HO.out⟩
          case measure => simp [intOf]; omega
        · obtain rfl : i = Ls.length := by omega
          rw [List.take_length] at hown
          go_wp2_with fail
          go_ret
          exact ⟨_, rfl, hown.out, how.out⟩
end Go.Proofs.Ytddcojikbcbihaa
