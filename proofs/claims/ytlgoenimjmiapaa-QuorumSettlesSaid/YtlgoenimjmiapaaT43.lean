import Derived.Test.YtlgoenimjmiapaaT37
import Derived.Test.YtlgoenimjmiapaaT38
import Derived.Test.YtlgoenimjmiapaaT39
import Derived.Test.YtlgoenimjmiapaaT41
import Derived.Test.YtlgoenimjmiapaaT42
import Derived.Test.YtlgoenimjmiapaaT44
set_option linter.unusedSimpArgs false
set_option linter.unusedVariables false
set_option linter.unusedSectionVars false
/-! Do. -/
namespace Go.Proofs.Ytlgoenimjmiapaa
open Go.RowKit Go.Maps

section
variable {w : World} {w0 : Base} {tb : Nat} {t : Town} {xs : Nat → Nat}
theorem net_none {t : Town} {k : Int} (h : t.net[modN k t.net.length]? = none) : t.net = [] := by
  by_cases h0 : t.net.length = 0
  · exact List.eq_nil_of_length_eq_zero h0
  · have := modN_lt k (n := t.net.length) (by omega)
    have := List.getElem?_eq_none_iff.1 h
    omega
theorem do_is (h : TownX w0 tb t xs w) (h0 : 0 < t.n) (h7 : t.n ≤ 7) (hodd : t.n % 2 = 1) {T D : Nat} (ht : TI t T) (hb : TB t T D) (hT : T < 400) (hD : D < 400000) (has : t.asked ≤ 1000) (a : Deed) (hcut : -9223372036854775808 ≤ a.cut ∧ a.cut ≤ 9223372036854775807) :
    Calls Try.prog 20 #[.pointer (some ⟨tb, 0, none⟩), .agg (deedV a)] w fun e w' => e = .returned (.bool true) ∧ ∃ xs', TownX w0 tb (t.act a) xs' w' := by
  by_cases k0 : a.kind = 0
  · exact do_promote h h0 h7 hodd ht hb hT hD a k0 hcut
  by_cases k1 : a.kind = 1
  · exact do_append h h0 h7 hodd ht hb hT hD a k1 hcut has
  by_cases k2 : a.kind = 2
  · exact do_tick h h0 h7 hodd ht hb hT hD a k2 hcut
  by_cases k3 : a.kind = 3
  · cases hm : t.net[modN a.k t.net.length]? with
    | none => exact do_empty3 h h0 h7 hodd ht hb hT hD a k3 hcut (net_none hm)
    | some m => exact do_step h h0 h7 hodd ht hb hT hD a k3 hcut hm
  by_cases k4 : a.kind = 4
  · cases hm : t.net[modN a.k t.net.length]? with
    | none => exact do_empty4 h h0 h7 hodd ht hb hT hD a k4 hcut (net_none hm)
    | some m => exact do_lose h h0 h7 hodd ht hb hT hD a k4 hcut hm
  by_cases k5 : a.kind = 5
  · cases hm : t.net[modN a.k t.net.length]? with
    | none => exact do_empty5 h h0 h7 hodd ht hb hT hD a k5 hcut (net_none hm)
    | some m => exact do_dup h h0 h7 hodd ht hb hT hD a k5 hcut hm
  by_cases k6 : a.kind = 6
  · exact do_crash h h0 h7 hodd ht hb hT hD a k6 hcut
  exact do_none h h0 h7 hodd ht hb hT hD a k0 k1 k2 k3 k4 k5 k6 hcut
end
end Go.Proofs.Ytlgoenimjmiapaa

/-! QuorumSafe, walked. -/
namespace Go.Proofs.Ytlgoenimjmiapaa
open Go.RowKit Go.Maps

def Deed.Ok (a : Deed) : Prop := -9223372036854775808 ≤ a.cut ∧ a.cut ≤ 9223372036854775807
/-- Deeds that come in. -/
def Deeds (W : World) (v : Value) (ls : List Deed) : Prop := ∃ A c, v = .slice A ls.length c ∧ ∀ i a, ls[i]? = some a → a.Ok ∧
  ∃ b o, A = some ⟨b, o, none⟩ ∧ W.cell? ⟨b, o + i * 5, none⟩ = some (.int .i64 a.kind) ∧ W.cell? ⟨b, o + i * 5 + 1, none⟩ = some (.int .i64 a.i) ∧ W.cell? ⟨b, o + i * 5 + 2, none⟩ = some (.int .i64 a.k) ∧ W.cell? ⟨b, o + i * 5 + 3, none⟩ = some (.int .i64 a.cut) ∧ W.cell? ⟨b, o + i * 5 + 4, none⟩ = some (.bool a.falls)
/-- A town behind k deeds. -/
def TownK (W : World) (tb N k : Nat) (w : World) : Prop := ∃ (t : Town) (xs : Nat → Nat), TownX ⟨W, []⟩ tb t xs w ∧ t.n = N ∧ TI t k ∧ TB t k k ∧ t.asked ≤ k
theorem TownK.out {W w : World} {tb N k : Nat} (h : TownK W tb N k w) : Out Zone.no W w := by
  obtain ⟨t, xs, h1, _⟩ := h
  exact TownX.out h1
theorem TownK.any {W w w' : World} {tb N k : Nat} (h : TownK W tb N k w) (ho : Out Zone.no w w') : TownK W tb N k w' := by
  obtain ⟨t, xs, h1, h2⟩ := h
  exact ⟨t, xs, h1.any ho, h2⟩
theorem TownK.new {W w : World} {tb N : Nat} (h : ∃ xs, TownX ⟨W, []⟩ tb (Town.new N) xs w) : TownK W tb N 0 w := by
  obtain ⟨xs, h⟩ := h
  exact ⟨Town.new N, xs, h, rfl, TI.new N, TB.new N, Nat.le_refl _⟩
theorem TownK.act {W w : World} {tb N k : Nat} (h : TownK W tb N k w) (h0 : 0 < N) (h7 : N ≤ 7) (hodd : N % 2 = 1) (hk : k < 400) (a : Deed) (ha : a.Ok) :
    Calls Try.prog 20 #[.pointer (some ⟨tb, 0, none⟩), .agg #[.int .i64 a.kind, .int .i64 a.i, .int .i64 a.k, .int .i64 a.cut, .bool a.falls]] w fun e w' => e = .returned (.bool true) ∧ Hid (TownK W tb N (k + 1) w') := by
  obtain ⟨t, xs, h1, rfl, h2, h3, h4⟩ := h
  refine (do_is h1 h0 h7 hodd h2 h3 hk (by omega) (by omega) a ha).mono ?_
  rintro e w' ⟨rfl, xs', h5⟩
  exact ⟨rfl, t.act a, xs', h5, act_n t a, (h2.act h0 hodd h7 (by omega) a).1, h3.act h2 h0 hodd h7 (by omega) a, Nat.le_trans (asked_act t a) (by omega)⟩

end Go.Proofs.Ytlgoenimjmiapaa
