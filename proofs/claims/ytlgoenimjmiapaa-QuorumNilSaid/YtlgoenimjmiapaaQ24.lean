import Derived.Test.YtlgoenimjmiapaaQ23
/-! The node's operations, restated over NS. -/
set_option linter.unusedVariables false
namespace Go.Proofs.Ytlgoenimjmiapaa
open Go.RowKit Go.Maps

def NS.note (c : NS) (t : Nt) : NS := { c with q := { c.q with st := (c.q.st.note t).getD c.q.st }, ns := c.ns ++ [t] }
def NS.sent (c : NS) (m : Msg) : NS := { c with ms := c.ms ++ [{ m with frm := (c.q.id : Int), ep := c.q.st.ep }] }
def NS.ship (c : NS) (i : Nat) : NS := { c with ms := c.ms ++ [shipMsg c.q i (c.q.has.getD i 0).toNat] }
def NS.ships (c : NS) : NS := { c with ms := c.ms ++ c.q.ships c.q.n }
def NS.asks (c : NS) : NS := { c with ms := c.ms ++ c.q.asks (c.q.granted.getD []) c.q.n }
def NS.rise (c : NS) : NS := { c with q := c.q.risen }
def NS.lead (c : NS) : NS := { c with q := { c.q with role := 2, has := List.replicate c.q.n (c.q.st.log.length : Int), acked := List.replicate c.q.n 0 } }
def NS.count (c : NS) : NS := if 2 * (c.q.granted.getD []).length ≤ c.q.n ∨ 2048 ≤ c.q.st.log.length then c else ((c.lead.note ⟨3, 0, 0, ⟨c.q.st.ep, []⟩⟩).ships).rise

theorem put_log (s : St) (t : Nt) (h : t.kind = 3) : s.log.length ≤ ((s.note t).getD s).log.length ∧ ((s.note t).getD s).log.length ≤ s.log.length + 1 := by
  unfold St.note
  rw [h]
  simp only [show ¬ ((3 : Int) = 1) by omega, show ¬ ((3 : Int) = 2) by omega, if_false]
  split
  · simp
  split
  · simp
  · simp

section
variable {w w' : World} {x : Nat} {c : NS} {V : NV}

theorem noted_g (h : NAt w x c V) (hl : c.q.st.log.length ≤ 1000000) (hn : c.ns.length ≤ 1000000) (t : Nt) (hd : t.ent.data.length ≤ 9223372036854775807) :
    Calls Try.prog 29 #[.pointer (some ⟨x, 0, none⟩), .agg #[.int .i64 t.kind, .int .i64 t.ep, .int .i64 t.n, .int .i64 t.ent.ep, .string (str t.ent.data)]] w fun e w' => e = .returned (.tuple #[]) ∧ Gone w x V (c.note t) w' := by
  obtain ⟨ss, h1, h2⟩ := h
  refine (noted_is h2 hl hn t.kind t.ep t.n t.ent.ep t.ent.data hd).mono ?_
  rintro e w' ⟨rfl, V', k1, k2⟩
  exact ⟨rfl, V', ⟨ss, h1, k1⟩, k2⟩
theorem send_g (h : NAt w x c V) (hn : c.ms.length ≤ 1000000) (m : Msg) (v : Value) (hr : RRow (V.own x) w v m.log.length 2 (encL m.log)) :
    Calls Try.prog 30 #[.pointer (some ⟨x, 0, none⟩), .agg #[.int .i64 m.kind, .int .i64 m.frm, .int .i64 m.to, .int .i64 m.ep, .int .i64 m.at_, .int .i64 m.last, .int .i64 m.commit, v]] w fun e w' => e = .returned (.tuple #[]) ∧ Gone w x V (c.sent m) w' := by
  obtain ⟨ss, h1, h2⟩ := h
  refine (send_is h2 (by rw [← h1, List.length_map] at hn; exact hn) m v hr).mono ?_
  rintro e w' ⟨rfl, sv', k1, k2⟩
  exact ⟨rfl, _, ⟨_, by rw [List.map_append, h1]; rfl, k1⟩, k2⟩
theorem ship_g (h : NAt w x c V) (hn : c.ms.length ≤ 1000000) (i : Nat) (hid : ∃ n : Nat, c.q.has[i]? = some (n : Int) ∧ n ≤ c.q.st.log.length) (hl : c.q.st.log.length ≤ 1000000) (hh : c.q.has.length ≤ 1000) :
    Calls Try.prog 36 #[.pointer (some ⟨x, 0, none⟩), .int .i64 (i : Int)] w fun e w' => e = .returned (.tuple #[]) ∧ Gone w x V (c.ship i) w' := by
  obtain ⟨ss, h1, h2⟩ := h
  obtain ⟨n, hn1, hn2⟩ := hid
  refine (ship_is h2 (by rw [← h1, List.length_map] at hn; exact hn) i n hn1 hn2 hl hh).mono ?_
  rintro e w' ⟨rfl, sv', v, k1, k2⟩
  refine ⟨rfl, _, ⟨_, ?_, k1⟩, k2⟩
  rw [List.map_append, h1]
  unfold NS.ship
  rw [List.getD_eq_getElem?_getD, hn1]
  rfl
theorem ships_g (h : NAt w x c V) (hn : c.ms.length ≤ 900000) (hn2 : c.q.n ≤ 7) (hid : c.q.id ≤ 7) (hh : ∀ i, i < c.q.n → i ≠ c.q.id → ∃ n : Nat, c.q.has[i]? = some (n : Int) ∧ n ≤ c.q.st.log.length) (hl : c.q.st.log.length ≤ 1000000) (hhl : c.q.has.length ≤ 1000) :
    Calls Try.prog 38 #[.pointer (some ⟨x, 0, none⟩), .func (.func 36) #[.pointer (some ⟨x, 0, none⟩)] #[]] w fun e w' => e = .returned (.tuple #[]) ∧ Gone w x V c.ships w' := by
  obtain ⟨ss, h1, h2⟩ := h
  refine (others_ship h2 (by rw [← h1, List.length_map] at hn; exact hn) hn2 hid hh hl hhl).mono ?_
  rintro e w' ⟨rfl, sv', ts, k0, _, k1, k2⟩
  exact ⟨rfl, _, ⟨_, by rw [List.map_append, h1, k0]; rfl, k1⟩, k2⟩
theorem ask_g (h : NAt w x c V) {gs : List Int} (hgs : c.q.granted = some gs) (hn : c.ms.length ≤ 900000) (hn2 : c.q.n ≤ 7) (hid : c.q.id ≤ 7) (hl : c.q.st.log.length ≤ 1000000) :
    Calls Try.prog 37 #[.pointer (some ⟨x, 0, none⟩)] w fun e w' => e = .returned (.tuple #[]) ∧ Gone w x V c.asks w' := by
  obtain ⟨ss, h1, h2⟩ := h
  refine (ask_is h2 hgs (by rw [← h1, List.length_map] at hn; exact hn) hn2 hid hl).mono ?_
  rintro e w' ⟨rfl, sv', ts, k0, k1, k2⟩
  refine ⟨rfl, _, ⟨_, ?_, k1⟩, k2⟩
  rw [List.map_append, h1, k0]
  unfold NS.asks
  rw [hgs]
  rfl
theorem rise_g (h : NAt w x c V) (hal : c.q.acked.length = c.q.n) (hid : c.q.id < c.q.n) (hn2 : c.q.n ≤ 7) (hl : c.q.st.log.length ≤ 1000000) (hak : ∀ a ∈ c.q.acked, 0 ≤ a ∧ a ≤ (c.q.st.log.length : Int)) :
    Calls Try.prog 35 #[.pointer (some ⟨x, 0, none⟩)] w fun e w' => e = .returned (.tuple #[]) ∧ Gone w x V c.rise w' := by
  obtain ⟨ss, h1, h2⟩ := h
  refine (rise_is h2 hal hid hn2 hl hak).mono ?_
  rintro e w' ⟨rfl, k1, k2⟩
  exact ⟨rfl, _, ⟨ss, h1, k1⟩, k2⟩
theorem VotesAt.len {b : Nat} {gs : List Int} (h : VotesAt w b gs) (ty : TypeId) : (Builtin.len_ #[51] ty #[.map (some b)]).run Try.prog w = .ok (.int .i64 (gs.length : Int)) w := by
  obtain ⟨D, h1, h2, _⟩ := h
  have := World.ownsMap.len h1 Try.underlying51 ty
  rw [h2] at this
  exact this
end
end Go.Proofs.Ytlgoenimjmiapaa
