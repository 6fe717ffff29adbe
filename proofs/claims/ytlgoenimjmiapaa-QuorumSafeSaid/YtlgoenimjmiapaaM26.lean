import Derived.Test.YtlgoenimjmiapaaM22
import Derived.Test.YtlgoenimjmiapaaQ69
import Derived.Test.YtlgoenimjmiapaaM23
import Derived.Test.YtlgoenimjmiapaaQ73
import Derived.Test.YtlgoenimjmiapaaM24
import Derived.Test.YtlgoenimjmiapaaM25
set_option linter.unusedSimpArgs false
set_option linter.unusedVariables false
set_option linter.unusedSectionVars false
/-! Do. -/
set_option linter.unusedVariables false
set_option linter.unusedSectionVars false
namespace Go.Proofs.Ytlgoenimjmiapaa
open Go.RowKit Go.Maps

section
variable {w : World} {w0 : Base} {tb : Nat} {t : Town} {xs : Nat → Nat}
theorem net_none {t : Town} {k : Int} (h : t.net[modN k t.net.length]? = none) : t.net = [] := by
  by_cases h0 : t.net.length = 0
  · exact List.eq_nil_of_length_eq_zero h0
  · have := modN_lt k (n := t.net.length) (by omega)
    have := List.getElem?_eq_none_iff.1 h
    omega
theorem do_is (h : TownX w0 tb t xs w) (h0 : 0 < t.n) (h7 : t.n ≤ 7) (hodd : t.n % 2 = 1) {T : Nat} (ht : TI t T) (hb : TB t T) (hT : T < 400) (has : t.asked ≤ 1000) (a : Deed) (hcut : -9223372036854775808 ≤ a.cut ∧ a.cut ≤ 9223372036854775807) :
    Calls Try.prog 20 #[.pointer (some ⟨tb, 0, none⟩), .agg (deedV a)] w fun e w' => e = .returned (.bool true) ∧ ∃ xs', TownX w0 tb (t.act a) xs' w' := by
  by_cases k0 : a.kind = 0
  · exact do_promote h h0 h7 hodd ht hb hT a k0 hcut
  by_cases k1 : a.kind = 1
  · exact do_append h h0 h7 hodd ht hb hT a k1 hcut has
  by_cases k2 : a.kind = 2
  · exact do_tick h h0 h7 hodd ht hb hT a k2 hcut
  by_cases k3 : a.kind = 3
  · cases hm : t.net[modN a.k t.net.length]? with
    | none => exact do_empty3 h h0 h7 hodd ht hb hT a k3 hcut (net_none hm)
    | some m => exact do_step h h0 h7 hodd ht hb hT a k3 hcut hm
  by_cases k4 : a.kind = 4
  · cases hm : t.net[modN a.k t.net.length]? with
    | none => exact do_empty4 h h0 h7 hodd ht hb hT a k4 hcut (net_none hm)
    | some m => exact do_lose h h0 h7 hodd ht hb hT a k4 hcut hm
  by_cases k5 : a.kind = 5
  · cases hm : t.net[modN a.k t.net.length]? with
    | none => exact do_empty5 h h0 h7 hodd ht hb hT a k5 hcut (net_none hm)
    | some m => exact do_dup h h0 h7 hodd ht hb hT a k5 hcut hm
  by_cases k6 : a.kind = 6
  · exact do_crash h h0 h7 hodd ht hb hT a k6 hcut
  exact do_none h h0 h7 hodd ht hb hT a k0 k1 k2 k3 k4 k5 k6 hcut
end
end Go.Proofs.Ytlgoenimjmiapaa

/-! QuorumSafe, walked. -/
set_option linter.unusedVariables false
set_option linter.unusedSectionVars false
namespace Go.Proofs.Ytlgoenimjmiapaa
open Go.RowKit Go.Maps

def Deed.Ok (a : Deed) : Prop := -9223372036854775808 ≤ a.cut ∧ a.cut ≤ 9223372036854775807
/-- Deeds that come in. -/
def Deeds (W : World) (v : Value) (ls : List Deed) : Prop := ∃ A c, v = .slice A ls.length c ∧ ∀ i a, ls[i]? = some a → a.Ok ∧
  ∃ b o, A = some ⟨b, o, none⟩ ∧ W.cell? ⟨b, o + i * 5, none⟩ = some (.int .i64 a.kind) ∧ W.cell? ⟨b, o + i * 5 + 1, none⟩ = some (.int .i64 a.i) ∧ W.cell? ⟨b, o + i * 5 + 2, none⟩ = some (.int .i64 a.k) ∧ W.cell? ⟨b, o + i * 5 + 3, none⟩ = some (.int .i64 a.cut) ∧ W.cell? ⟨b, o + i * 5 + 4, none⟩ = some (.bool a.falls)
/-- A town behind k deeds. -/
def TownK (W : World) (tb N k : Nat) (w : World) : Prop := ∃ (t : Town) (xs : Nat → Nat), TownX ⟨W, []⟩ tb t xs w ∧ t.n = N ∧ TI t k ∧ TB t k ∧ t.asked ≤ k
theorem TownK.out {W w : World} {tb N k : Nat} (h : TownK W tb N k w) : Out Zone.no W w := by
  obtain ⟨t, xs, h1, _⟩ := h
  exact TownX.out h1
theorem TownK.any {W w w' : World} {tb N k : Nat} (h : TownK W tb N k w) (ho : Out Zone.no w w') : TownK W tb N k w' := by
  obtain ⟨t, xs, h1, h2⟩ := h
  exact ⟨t, xs, h1.any ho, h2⟩
theorem TownK.new {W w : World} {tb N : Nat} (h : ∃ xs, TownX ⟨W, []⟩ tb (Town.new N) xs w) : TownK W tb N 0 w := by
  obtain ⟨xs, h⟩ := h
  exact ⟨Town.new N, xs, h, rfl, TI.new N, TB.new N, Nat.le_refl _⟩
theorem TownK.act {W w : World} {tb N k : Nat} (h : TownK W tb N k w) (h0 : 0 < N) (h7 : N ≤ 7) (hodd : N % 2 = 1) (hk : k < 400) (a : Deed) (ha : a.Ok) :
    Calls Try.prog 20 #[.pointer (some ⟨tb, 0, none⟩), .agg #[.int .i64 a.kind, .int .i64 a.i, .int .i64 a.k, .int .i64 a.cut, .bool a.falls]] w fun e w' => e = .returned (.bool true) ∧ Hid (TownK W tb N (k + 1) w') := by
  obtain ⟨t, xs, h1, rfl, h2, h3, h4⟩ := h
  refine (do_is h1 h0 h7 hodd h2 h3 hk (by omega) a ha).mono ?_
  rintro e w' ⟨rfl, xs', h5⟩
  exact ⟨rfl, t.act a, xs', h5, act_n t a, (h2.act h0 hodd h7 (by omega) a).1, h3.act h2 h0 hodd h7 (by omega) a, Nat.le_trans (asked_act t a) (by omega)⟩

set_option maxRecDepth 100000 in
set_option maxHeartbeats 2000000 in
theorem qsafe_is (W : World) (n0 : Int) (v : Value) (ls : List Deed) (hl : Deeds W v ls) (hb : ls.length ≤ 140737488355328) :
    Calls Try.prog 5 #[.int .i64 n0, v] W fun e w' => e = .returned (.bool true) ∧ Out Zone.no W w' := by
  obtain ⟨A, c, rfl, hl⟩ := hl
  obtain ⟨M, hM⟩ : ∃ M, ls.length = M := ⟨_, rfl⟩
  obtain ⟨r, hr⟩ : ∃ r, modN n0 4 = r := ⟨_, rfl⟩
  have hr4 : r < 4 := by rw [← hr]; exact modN_lt _ (by omega)
  obtain ⟨N, hN⟩ : ∃ N : Nat, 1 + 2 * r = N := ⟨_, rfl⟩
  have e1 : (n0.tmod 4 + 4).tmod 4 = (r : Int) := by rw [← hr]; exact modN_eq n0 4 (by omega)
  obtain ⟨w1, w2⟩ := modN_wraps n0 4 (by omega) (by omega)
  have w1' : IntKind.i64.wrap (n0.tmod 4) = n0.tmod 4 := w1
  have w2' : IntKind.i64.wrap (n0.tmod 4 + 4) = n0.tmod 4 + 4 := w2
  have e2 : IntKind.i64.wrap (2 * (r : Int)) = 2 * (r : Int) := IntWalk.i64_in _ (by omega)
  have e3 : IntKind.i64.wrap (1 + 2 * (r : Int)) = 1 + 2 * (r : Int) := IntWalk.i64_in _ (by omega)
  have e4 : 1 + 2 * (r : Int) = (N : Int) := by omega
  have e5 : wrap64 (N : Int) = (N : Int) := IntWalk.wrap64_in _ (by omega)
  have MAKE : Hid (Calls Try.prog 19 #[.int .i64 (N : Int)] W fun e w' => ∃ tb, e = .returned (.pointer (some ⟨tb, 0, none⟩)) ∧ Hid (TownK W tb N 0 w')) := by
    refine (make_is W N (by omega) (by omega) (by omega)).mono ?_
    rintro e w' ⟨tb, rfl, h⟩
    exact ⟨tb, rfl, TownK.new h⟩
  have KNO : Hid (∀ w, Calls Try.prog 11 #[] w fun e w' => e = .returned (.bool true) ∧ Hid (Out Zone.no w w')) := fun w => knows_is w
  have ACT : Hid (∀ (k : Nat) (w : World) (tb : Nat) (a : Deed), TownK W tb N k w → k < 400 → a.Ok → Calls Try.prog 20 #[.pointer (some ⟨tb, 0, none⟩), .agg #[.int .i64 a.kind, .int .i64 a.i, .int .i64 a.k, .int .i64 a.cut, .bool a.falls]] w fun e w' => e = .returned (.bool true) ∧ Hid (TownK W tb N (k + 1) w')) := fun k w tb a h hk ha => h.act (by omega) (by omega) (by omega) hk a ha
  have DE : Hid (∀ (k : Nat) (w : World), k < M → Out Zone.no W w → ∃ a : Deed, a.Ok ∧ ∃ b o : Nat, A = some ⟨b, o, none⟩ ∧ w.cell? ⟨b, o + k * 5, none⟩ = some (.int .i64 a.kind) ∧ w.cell? ⟨b, o + k * 5 + 1, none⟩ = some (.int .i64 a.i) ∧ w.cell? ⟨b, o + k * 5 + 2, none⟩ = some (.int .i64 a.k) ∧ w.cell? ⟨b, o + k * 5 + 3, none⟩ = some (.int .i64 a.cut) ∧ w.cell? ⟨b, o + k * 5 + 4, none⟩ = some (.bool a.falls)) := fun k w hk ho => by
    have hka : ls[k]? = some ls[k] := List.getElem?_eq_getElem (by omega)
    obtain ⟨h1, b, o, h2, c0, c1, c2, c3, c4⟩ := hl k _ hka
    exact ⟨_, h1, b, o, h2, ho.cell c0 id, ho.cell c1 id, ho.cell c2 id, ho.cell c3 id, ho.cell c4 id⟩
  rw [hM] at hb ⊢
  clear hl hM hr hN w1 w2 hr4
  go_enter Try.func5, Try.ntmps5
  go_wp2_with (first
    | (go_at_call 19; refine MAKE.out.mono ?_; rintro e w3 ⟨tb, rfl, h3⟩)
    | (go_at_call 11; refine (KNO.out _).mono ?_; rintro e w4 ⟨rfl, h4⟩))
  have H4 := Lib.hid (h3.out.any h4.out)
  clear MAKE KNO h3 h4 e1 e2 e3 e4 e5 w1' w2'
  go_loopw [6, 4] (fun vi v4 wr => ∃ k : Nat, k ≤ M ∧ k ≤ 250 ∧ vi = .int .i64 (k : Int) ∧ v4 = .bool false ∧ Hid (TownK W tb N k wr)) (fun vi _ _ => M - (intOf vi).toNat)
  case atStart => exact ⟨0, by omega, by omega, rfl, rfl, H4⟩
  case round =>
    obtain ⟨k, hk, hk2, rfl, rfl, hinv⟩ := hrel
    by_cases hlt : k < M
    · by_cases h250 : k < 250
      · have j0 : (0 : Int) ≤ (k : Int) := by omega
        have j1 : (k : Int) < (M : Int) := by omega
        have j2 : (k : Int) < 250 := by omega
        obtain ⟨a, hao, bb, oo, rfl, c0, c1, c2, c3, c4⟩ := DE.out k wr hlt hinv.out.out
        have CA := Lib.hid (ACT.out k wr tb a hinv.out (by omega) hao)
        obtain ⟨x0, hx0⟩ : ∃ x, a.kind = x := ⟨_, rfl⟩
        obtain ⟨x1, hx1⟩ : ∃ x, a.i = x := ⟨_, rfl⟩
        obtain ⟨x2, hx2⟩ : ∃ x, a.k = x := ⟨_, rfl⟩
        obtain ⟨x3, hx3⟩ : ∃ x, a.cut = x := ⟨_, rfl⟩
        obtain ⟨x4, hx4⟩ : ∃ x, a.falls = x := ⟨_, rfl⟩
        rw [hx0] at c0 CA
        rw [hx1] at c1 CA
        rw [hx2] at c2 CA
        rw [hx3] at c3 CA
        rw [hx4] at c4 CA
        clear hx0 hx1 hx2 hx3 hx4 hao
        go_wp2_with (go_at_call 20; refine CA.out.mono ?_; rintro e w5 ⟨rfl, h5⟩)
        go_roundw
        case rel => exact ⟨k + 1, by omega, by omega, by go_num, rfl, h5⟩
        case measure => simp [intOf]; omega
      · have j1 : (k : Int) < (M : Int) := by omega
        have j2 : ¬ (k : Int) < 250 := by omega
        have HO := Lib.hid hinv.out.out
        go_wp2_with fail
        go_ret
        exact ⟨rfl, HO.out⟩
    · have j1 : ¬ (k : Int) < (M : Int) := by omega
      have HO := Lib.hid hinv.out.out
      go_wp2_with fail
      go_ret
      exact ⟨rfl, HO.out⟩
end Go.Proofs.Ytlgoenimjmiapaa
