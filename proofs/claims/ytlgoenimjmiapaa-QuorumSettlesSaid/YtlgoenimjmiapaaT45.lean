import Derived.Test.YtlgoenimjmiapaaT24
set_option linter.unusedSimpArgs false
set_option linter.unusedVariables false
set_option linter.unusedSectionVars false
/-! Settles, plain: what one message makes of a standby, and of the one that is promoted. -/
namespace Go.Proofs.Ytlgoenimjmiapaa

/-- A log is no newer than another. -/
def Newer (l p : List Ent) : Prop := lastAt l l.length < lastAt p p.length ∨ lastAt l l.length = lastAt p p.length ∧ l.length ≤ p.length
/-- A message's log is a piece of a log. -/
def Seg (m : Msg) (p : List Ent) : Prop := ∃ a : Nat, m.at_ = (a : Int) ∧ a + m.log.length ≤ p.length ∧ (∀ (k : Nat) (x : Ent), m.log[k]? = some x → p[a + k]? = some x)

section
variable {c : NS} {q : ND} {m : Msg}
theorem note3_log (c : NS) (y : Ent) : ∃ r : List Ent, (c.note ⟨3, 0, 0, y⟩).q = { c.q with st := { c.q.st with log := c.q.st.log ++ r } } ∧ (r = [] ∨ r = [y]) := by
  unfold NS.note St.note
  simp only [show ¬ ((3 : Int) = 1) by omega, show ¬ ((3 : Int) = 2) by omega, if_false]
  split
  · exact ⟨[], by simp, Or.inl rfl⟩
  · split
    · exact ⟨[], by simp, Or.inl rfl⟩
    · exact ⟨[y], rfl, Or.inr rfl⟩
theorem puts_log : ∀ (l : List Ent) (c : NS), ∃ r : List Ent, (c.puts l).q = { c.q with st := { c.q.st with log := c.q.st.log ++ r } } ∧ (∀ x ∈ r, x ∈ l) ∧ r.length ≤ l.length ∧ (c.puts l).ms = c.ms
  | [], c => ⟨[], by simp [NS.puts], fun x h => h, Nat.le_refl _, rfl⟩
  | y :: l, c => by
    obtain ⟨r1, h1, h2⟩ := note3_log c y
    obtain ⟨r2, h3, h4, h5, h6⟩ := puts_log l (c.note ⟨3, 0, 0, y⟩)
    have e : c.puts (y :: l) = (c.note ⟨3, 0, 0, y⟩).puts l := rfl
    refine ⟨r1 ++ r2, ?_, fun x hx => ?_, ?_, by rw [e, h6]; rfl⟩
    · rw [e, h3, h1]
      simp [List.append_assoc]
    · rcases List.mem_append.1 hx with k | k
      · rcases h2 with rfl | rfl
        · cases k
        · rw [List.mem_singleton.1 k]; exact List.mem_cons_self ..
      · exact List.mem_cons_of_mem _ (h4 x k)
    · rw [List.length_append]
      have : r1.length ≤ 1 := by rcases h2 with rfl | rfl <;> simp
      simp; omega

/-- What takes makes of a log. -/
theorem takes_spec (hl : c.q.st.log.length ≤ 2048) {a : Nat} (ha : m.at_ = (a : Int)) (hal : a ≤ c.q.st.log.length) : ∃ (p : Nat) (r : List Ent) (cc : Nat), (c.takes m).q = { c.q with st := { c.q.st with log := c.q.st.log.take p ++ r }, commit := cc } ∧ (∀ x ∈ r, x ∈ m.log) ∧ (r = [] ∨ (c.q.st.log.take p).length + r.length ≤ a + m.log.length) ∧
    cc = (max (c.q.commit : Int) (min m.commit (m.at_ + (m.log.length : Int)))).toNat ∧ (c.takes m).ms = c.ms ++ [⟨4, (c.q.id : Int), m.frm, c.q.st.ep, m.at_ + (m.log.length : Int), 0, 0, []⟩] := by
  unfold NS.takes
  obtain ⟨i0, hi0⟩ : ∃ i0, sameN (c.q.st.log.drop m.at_.toNat) m.log = i0 := ⟨_, rfl⟩
  simp only [hi0]
  rw [ha, Int.toNat_natCast] at hi0
  have hsl := sameN_le (c.q.st.log.drop a) m.log
  rw [hi0, List.length_drop] at hsl
  obtain ⟨c2, hc2⟩ : ∃ c2, (if i0 < m.log.length ∧ m.at_ + (i0 : Int) < (c.q.st.log.length : Int) then c.note ⟨2, 0, m.at_ + (i0 : Int), ⟨0, []⟩⟩ else c) = c2 := ⟨_, rfl⟩
  rw [hc2]
  have key : ∃ p, c2.q = { c.q with st := { c.q.st with log := c.q.st.log.take p } } ∧ (m.log.drop i0 = [] ∨ (c.q.st.log.take p).length ≤ a + i0) ∧ c2.ms = c.ms := by
    rw [← hc2]
    split
    · next h =>
      have hn := note_cut (s := c.q.st) (p := a + i0) (by omega) (by omega)
      have hpe : (m.at_ + (i0 : Int)) = ((a + i0 : Nat) : Int) := by omega
      rw [hpe]
      refine ⟨a + i0, NS.note_q hn, Or.inr (by rw [List.length_take]; omega), rfl⟩
    · next h =>
      refine ⟨c.q.st.log.length, by rw [List.take_length], ?_, rfl⟩
      by_cases h1 : i0 < m.log.length
      · exact Or.inr (by rw [List.take_length]; omega)
      · exact Or.inl (List.drop_of_length_le (by omega))
  obtain ⟨p, k1, k2, k3⟩ := key
  obtain ⟨r, h1, h2, h3, h4⟩ := puts_log (m.log.drop i0) c2
  refine ⟨p, r, (max (c.q.commit : Int) (min m.commit (m.at_ + (m.log.length : Int)))).toNat, ?_, fun x hx => List.mem_of_mem_drop (h2 x hx), ?_, rfl, ?_⟩
  · show { (c2.puts (m.log.drop i0)).q with commit := (max ((c2.puts (m.log.drop i0)).q.commit : Int) (min m.commit (m.at_ + (m.log.length : Int)))).toNat } = _
    rw [h1, k1]
  · rcases k2 with k2 | k2
    · left
      rw [k2] at h3
      exact List.eq_nil_of_length_eq_zero (Nat.le_zero.1 h3)
    · right
      rw [List.length_drop] at h3
      omega
  · show (c2.puts (m.log.drop i0)).ms ++ [⟨4, ((c2.puts (m.log.drop i0)).q.id : Int), m.frm, (c2.puts (m.log.drop i0)).q.st.ep, m.at_ + (m.log.length : Int), 0, 0, []⟩] = _
    rw [h1, k1, h4, k3]

/-- What a message from the one that is promoted makes of a standby. -/
structure AtJ (q : ND) (m : Msg) (c : NS) : Prop where
  role : c.q.role = 0
  ids : c.q.id = q.id ∧ c.q.n = q.n
  ep : c.q.st.ep = max q.st.ep m.ep
  ms : c.ms = [] ∨ ∃ r : Msg, c.ms = [r] ∧ r.to = m.frm ∧ r.frm = (q.id : Int) ∧ (r.kind = 2 ∨ r.kind = 4 ∨ r.kind = 5) ∧ r.ep = c.q.st.ep
  log : ∃ (p : Nat) (r : List Ent), c.q.st.log = q.st.log.take p ++ r ∧ (∀ x ∈ r, x ∈ m.log) ∧ (r = [] ∨ m.kind = 3 ∧ ((q.st.log.take p).length + r.length : Int) ≤ m.at_ + (m.log.length : Int))
theorem step_is' (hr : m.right = true) (hto : m.to = (q.id : Int)) (hf : m.frm ≠ (q.id : Int)) (hn : m.frm < (q.n : Int)) : (q.step m).1 = if m.ep < (q.front m).q.st.ep then (if m.kind = 1 ∨ m.kind = 3 then (q.front m).sent (nackMsg m) else q.front m) else (q.front m).act m := by
  unfold ND.step
  rw [if_neg (by rw [hr]; rintro (e | e | e | e); cases e; exact e hto; exact hf e; omega)]
  split <;> rfl
/-- Behind the message's epoch: the standby. -/
theorem front_st (hr : m.right = true) (h0 : q.role = 0) : (q.front m).q.role = 0 ∧ (q.front m).q.id = q.id ∧ (q.front m).q.n = q.n ∧ (q.front m).q.st.log = q.st.log ∧ (q.front m).q.st.ep = max q.st.ep m.ep ∧ (q.front m).ms = [] ∧ (q.front m).q.commit = q.commit ∧
    (q.front m).q.st.voted = if q.st.ep < m.ep then -1 else q.st.voted := by
  obtain ⟨h1, _, h3⟩ := front_is (q := q) hr
  rw [h1]
  split
  · next h => exact ⟨rfl, rfl, rfl, rfl, by show m.ep = _; omega, h3, rfl, rfl⟩
  · next h => exact ⟨h0, rfl, rfl, rfl, by show q.st.ep = _; omega, h3, rfl, rfl⟩
theorem atJ (hr : m.right = true) (h0 : q.role = 0) (hl : q.st.log.length ≤ 2048) (hto : m.to = (q.id : Int)) (hf : m.frm ≠ (q.id : Int)) (hn : m.frm < (q.n : Int)) (hk : m.kind = 1 ∨ m.kind = 3) : AtJ q m (q.step m).1 := by
  obtain ⟨f1, f2, f3, f4, f5, f6, f7, f8⟩ := front_st hr h0
  rw [step_is' hr hto hf hn]
  obtain ⟨c, hc⟩ : ∃ c, q.front m = c := ⟨_, rfl⟩
  rw [hc] at f1 f2 f3 f4 f5 f6 f7 f8 ⊢
  have same : ∃ (p : Nat) (r : List Ent), c.q.st.log = q.st.log.take p ++ r ∧ (∀ x ∈ r, x ∈ m.log) ∧ (r = [] ∨ m.kind = 3 ∧ ((q.st.log.take p).length + r.length : Int) ≤ m.at_ + (m.log.length : Int)) := ⟨q.st.log.length, [], by rw [f4, List.take_length, List.append_nil], fun x hx => (by cases hx), Or.inl rfl⟩
  split
  · next hlow =>
    exact ⟨f1, ⟨f2, f3⟩, f5, Or.inr ⟨_, by show c.ms ++ [_] = _; rw [f6]; rfl, rfl, by rw [← f2], Or.inr (Or.inr rfl), rfl⟩, same⟩
  · next hlow =>
    unfold NS.act
    rcases hk with hk | hk
    · rw [if_pos hk]
      unfold NS.asked
      split
      · exact ⟨f1, ⟨f2, f3⟩, f5, Or.inl f6, same⟩
      · split
        · next hv =>
          have hn : c.q.st.note ⟨1, c.q.st.ep, m.frm, ⟨0, []⟩⟩ = some { c.q.st with ep := c.q.st.ep, voted := m.frm } := by
            have h1 := right_ep hr
            have h2 := right_frm hr
            unfold St.note
            rw [vote_right c.q.st.ep m.frm (by omega) (by omega) (by omega) (by omega)]
            simp [hv]
          have hq := NS.note_q hn
          refine ⟨by show (c.note _).q.role = 0; rw [hq]; exact f1, ⟨by show (c.note _).q.id = _; rw [hq]; exact f2, by show (c.note _).q.n = _; rw [hq]; exact f3⟩, by show (c.note _).q.st.ep = _; rw [hq]; exact f5, Or.inr ⟨⟨2, ((c.note ⟨1, c.q.st.ep, m.frm, ⟨0, []⟩⟩).q.id : Int), m.frm, (c.note ⟨1, c.q.st.ep, m.frm, ⟨0, []⟩⟩).q.st.ep, 0, 0, 0, []⟩, by show c.ms ++ [_] = _; rw [f6]; rfl, rfl, by show ((c.note _).q.id : Int) = _; rw [hq, ← f2], Or.inl rfl, rfl⟩, ?_⟩
          show ∃ (p : Nat) (r : List Ent), (c.note _).q.st.log = _ ∧ _
          rw [hq]
          exact same
        · split
          · exact ⟨f1, ⟨f2, f3⟩, f5, Or.inr ⟨_, by show c.ms ++ [_] = _; rw [f6]; rfl, rfl, by rw [← f2], Or.inl rfl, rfl⟩, same⟩
          · exact ⟨f1, ⟨f2, f3⟩, f5, Or.inl f6, same⟩
    · rw [if_neg (by omega), if_neg (by omega), if_pos hk]
      have hst : c.stands = c := by unfold NS.stands; rw [if_neg (by omega)]
      have hat := right_at hr
      unfold NS.shipped
      rw [hst]
      split
      · exact ⟨f1, ⟨f2, f3⟩, f5, Or.inr ⟨_, by show c.ms ++ [_] = _; rw [f6]; rfl, rfl, by rw [← f2], Or.inr (Or.inr rfl), rfl⟩, same⟩
      · next h1 =>
        split
        · exact ⟨f1, ⟨f2, f3⟩, f5, Or.inl f6, same⟩
        · next h2 =>
          obtain ⟨a, ha⟩ : ∃ a : Nat, m.at_ = (a : Int) := ⟨m.at_.toNat, by omega⟩
          obtain ⟨p, r, cc, k1, k2, k3, k4, k5⟩ := takes_spec (c := c) (m := m) (by rw [f4]; exact hl) ha (by have : ¬ (c.q.st.log.length : Int) < m.at_ := fun e => h1 (Or.inl e); omega)
          refine ⟨by rw [k1]; exact f1, ⟨by rw [k1]; exact f2, by rw [k1]; exact f3⟩, by rw [k1]; exact f5, Or.inr ⟨_, by rw [k5, f6]; rfl, rfl, by rw [← f2], Or.inr (Or.inl rfl), by rw [k1]⟩, p, r, by rw [k1]; show c.q.st.log.take p ++ r = _; rw [f4], k2, ?_⟩
          rcases k3 with k3 | k3
          · exact Or.inl k3
          · right
            rw [f4] at k3
            exact ⟨hk, by omega⟩

/-- .. an answer makes of the one that is promoted. -/
theorem atB_hi (hr : m.right = true) (hto : m.to = (q.id : Int)) (hf : m.frm ≠ (q.id : Int)) (hn : m.frm < (q.n : Int)) (hk : m.kind = 2 ∨ m.kind = 4 ∨ m.kind = 5) (h : q.st.ep < m.ep) : (q.step m).1.q = { q with st := { q.st with ep := m.ep, voted := -1 }, role := 0 } ∧ (q.step m).1.ms = [] := by
  obtain ⟨h1, _, h3⟩ := front_is (q := q) hr
  rw [if_pos h] at h1
  rw [step_is' hr hto hf hn, if_neg (by rw [h1]; exact Int.lt_irrefl _)]
  have hr0 : (q.front m).q.role = 0 := by rw [h1]
  unfold NS.act
  rcases hk with hk | hk | hk
  · rw [if_neg (by omega), if_pos hk]
    unfold NS.grants
    rw [if_neg (by omega)]
    exact ⟨h1, h3⟩
  · rw [if_neg (by omega), if_neg (by omega), if_neg (by omega), if_pos hk]
    unfold NS.acks
    rw [if_neg (by omega)]
    exact ⟨h1, h3⟩
  · rw [if_neg (by omega), if_neg (by omega), if_neg (by omega), if_neg (by omega), if_pos hk]
    unfold NS.nacks
    rw [if_neg (by omega)]
    exact ⟨h1, h3⟩
theorem atB_lo (hr : m.right = true) (hto : m.to = (q.id : Int)) (hf : m.frm ≠ (q.id : Int)) (hn : m.frm < (q.n : Int)) (hk : m.kind = 2 ∨ m.kind = 4 ∨ m.kind = 5) (h : m.ep < q.st.ep) : (q.step m).1.q = q ∧ (q.step m).1.ms = [] := by
  obtain ⟨h1, _, h3⟩ := front_is (q := q) hr
  rw [if_neg (by omega)] at h1
  rw [step_is' hr hto hf hn, if_pos (by rw [h1]; exact h), if_neg (by omega)]
  exact ⟨h1, h3⟩
theorem front_eq (h : m.ep = q.st.ep) : q.front m = ⟨q, [], []⟩ := by unfold ND.front; rw [if_neg (by omega)]
theorem atB_eq (hr : m.right = true) (hto : m.to = (q.id : Int)) (hf : m.frm ≠ (q.id : Int)) (hn : m.frm < (q.n : Int)) (h : m.ep = q.st.ep) : (q.step m).1 = NS.act ⟨q, [], []⟩ m := by
  rw [step_is' hr hto hf hn, front_eq h, if_neg (by rw [h]; exact Int.lt_irrefl _)]
end
end Go.Proofs.Ytlgoenimjmiapaa

/-! Settles, plain: one node asks, the others answer; what holds in any epoch. -/
namespace Go.Proofs.Ytlgoenimjmiapaa

/-- What the one that is promoted makes. -/
structure AtB (q : ND) (c : NS) : Prop where
  ids : c.q.id = q.id ∧ c.q.n = q.n
  ep : q.st.ep ≤ c.q.st.ep
  log : ∃ r : List Ent, c.q.st.log = q.st.log ++ r ∧ (r = [] ∨ ∃ x : Ent, r = [x] ∧ x.ep = c.q.st.ep)
  ms : ∀ r ∈ c.ms, r.frm = (q.id : Int) ∧ r.ep = c.q.st.ep ∧ (r.kind = 1 ∨ r.kind = 3 ∧ Seg r c.q.st.log)

section
variable {c : NS} {q : ND} {m : Msg}
theorem seg_ship {q : ND} {j n : Nat} (hn : n ≤ q.st.log.length) : Seg (shipMsg q j n) q.st.log := by
  refine ⟨n, rfl, ?_, fun k x hx => ?_⟩
  · show n + (q.st.log.drop n).length ≤ _
    rw [List.length_drop]; omega
  · have hx : (q.st.log.drop n)[k]? = some x := hx
    rw [List.getElem?_drop] at hx
    exact hx
theorem AtB.idle (q : ND) : AtB q ⟨q, [], []⟩ := ⟨⟨rfl, rfl⟩, Int.le_refl _, ⟨[], by simp, Or.inl rfl⟩, fun r hr => (by cases hr)⟩
theorem AtB.ships (h : AtB q c) (hh : ∀ j, (c.q.has.getD j 0).toNat ≤ c.q.st.log.length) : AtB q c.ships := by
  refine ⟨h.ids, h.ep, h.log, fun r hr => ?_⟩
  have hr : r ∈ c.ms ++ c.q.ships c.q.n := hr
  rcases List.mem_append.1 hr with e | e
  · exact h.ms r e
  · obtain ⟨j, _, _, rfl⟩ := mem_ships e
    exact ⟨by show (c.q.id : Int) = _; rw [h.ids.1], rfl, Or.inr ⟨rfl, seg_ship (hh j)⟩⟩
theorem AtB.ship (h : AtB q c) {j : Nat} (hh : (c.q.has.getD j 0).toNat ≤ c.q.st.log.length) : AtB q (c.ship j) := by
  refine ⟨h.ids, h.ep, h.log, fun r hr => ?_⟩
  have hr : r ∈ c.ms ++ [shipMsg c.q j (c.q.has.getD j 0).toNat] := hr
  rcases List.mem_append.1 hr with e | e
  · exact h.ms r e
  · rw [List.mem_singleton.1 e]
    exact ⟨by show (c.q.id : Int) = _; rw [h.ids.1], rfl, Or.inr ⟨rfl, seg_ship hh⟩⟩
theorem AtB.asks (h : AtB q c) : AtB q c.asks := by
  refine ⟨h.ids, h.ep, h.log, fun r hr => ?_⟩
  have hr : r ∈ c.ms ++ c.q.asks (c.q.granted.getD []) c.q.n := hr
  rcases List.mem_append.1 hr with e | e
  · exact h.ms r e
  · obtain ⟨j, _, _, rfl⟩ := mem_asks e
    exact ⟨by show (c.q.id : Int) = _; rw [h.ids.1], rfl, Or.inl rfl⟩
theorem AtB.of (h : AtB q c) {c' : NS} (h1 : c'.q.id = c.q.id) (h2 : c'.q.n = c.q.n) (h3 : c'.q.st = c.q.st) (h4 : c'.ms = c.ms) : AtB q c' :=
  ⟨⟨h1.trans h.ids.1, h2.trans h.ids.2⟩, by rw [h3]; exact h.ep, by rw [h3]; exact h.log, by rw [h3, h4]; exact h.ms⟩
theorem AtB.rise (h : AtB q c) : AtB q c.rise := by
  have hr := risen_log c.q
  refine h.of ?_ ?_ hr.1 rfl
  · show c.q.risen.id = c.q.id; unfold ND.risen; split <;> rfl
  · show c.q.risen.n = c.q.n; unfold ND.risen; split <;> rfl
/-- One's own entry. -/
theorem AtB.put (h : AtB q c) (hlog : c.q.st.log = q.st.log) (hms : c.ms = []) {d : List UInt8} : AtB q (c.note ⟨3, 0, 0, ⟨c.q.st.ep, d⟩⟩) ∧ ((c.note ⟨3, 0, 0, ⟨c.q.st.ep, d⟩⟩).q.has = c.q.has) ∧ c.q.st.log.length ≤ (c.note ⟨3, 0, 0, ⟨c.q.st.ep, d⟩⟩).q.st.log.length := by
  obtain ⟨r, h1, h2⟩ := note3_log c ⟨c.q.st.ep, d⟩
  refine ⟨⟨by rw [h1]; exact h.ids, by rw [h1]; exact h.ep, ⟨r, by rw [h1, hlog], ?_⟩, fun x hx => ?_⟩, by rw [h1], by rw [h1]; simp⟩
  · rw [h1]
    rcases h2 with h2 | h2
    · exact Or.inl h2
    · exact Or.inr ⟨_, h2, rfl⟩
  · have hx : x ∈ c.ms := hx
    rw [hms] at hx; cases hx
theorem AtB.put' (h : AtB q c) (hlog : c.q.st.log = q.st.log) (hms : ∀ r ∈ c.ms, r.kind = 1) {d : List UInt8} : AtB q (c.note ⟨3, 0, 0, ⟨c.q.st.ep, d⟩⟩) ∧ ((c.note ⟨3, 0, 0, ⟨c.q.st.ep, d⟩⟩).q.has = c.q.has) ∧ c.q.st.log.length ≤ (c.note ⟨3, 0, 0, ⟨c.q.st.ep, d⟩⟩).q.st.log.length := by
  obtain ⟨r, h1, h2⟩ := note3_log c ⟨c.q.st.ep, d⟩
  refine ⟨⟨by rw [h1]; exact h.ids, by rw [h1]; exact h.ep, ⟨r, by rw [h1, hlog], ?_⟩, fun x hx => ?_⟩, by rw [h1], by rw [h1]; simp⟩
  · rw [h1]
    rcases h2 with h2 | h2
    · exact Or.inl h2
    · exact Or.inr ⟨_, h2, rfl⟩
  · have hx : x ∈ c.ms := hx
    obtain ⟨k1, k2, _⟩ := h.ms x hx
    exact ⟨k1, by rw [h1]; exact k2, Or.inl (hms x hx)⟩
theorem replicate_getD (n : Nat) (v : Int) (j : Nat) (hv : 0 ≤ v) : ((List.replicate n v).getD j 0).toNat ≤ v.toNat := by
  rw [List.getD_eq_getElem?_getD, List.getElem?_replicate]
  split
  · simp
  · simp
theorem AtB.count (h : AtB q c) (hlog : c.q.st.log = q.st.log) (hms : ∀ r ∈ c.ms, r.kind = 1) : AtB q c.count := by
  unfold NS.count
  split
  · exact h
  · have h1 : AtB q c.lead := h.of rfl rfl rfl rfl
    obtain ⟨h2, h3, h4⟩ := h1.put' (c := c.lead) hlog hms (d := [])
    refine (h2.ships (fun j => ?_)).rise
    rw [h3]
    refine Nat.le_trans ?_ h4
    have := replicate_getD c.q.n (c.q.st.log.length : Int) j (by omega)
    rw [Int.toNat_natCast] at this
    exact this
theorem has_le' (hf : q.Fit) (hr : q.role = 2) (j : Nat) : (q.has.getD j 0).toNat ≤ q.st.log.length := by
  obtain ⟨h1, _, h3, _⟩ := hf.prim hr
  by_cases hj : j < q.has.length
  · have := h3 _ (List.mem_of_getElem? (getD_is hj))
    omega
  · rw [List.getD_eq_getElem?_getD, List.getElem?_eq_none (by omega)]
    exact Nat.zero_le _
theorem atB_act (hf : q.Fit) (hr : m.right = true) (hk : m.kind = 2 ∨ m.kind = 4 ∨ m.kind = 5) : AtB q (NS.act ⟨q, [], []⟩ m) := by
  have h0 := AtB.idle q
  unfold NS.act
  rcases hk with hk | hk | hk
  · rw [if_neg (by omega), if_pos hk]
    unfold NS.grants
    split
    · exact (h0.of (c' := NS.vote ⟨q, [], []⟩ m.frm) rfl rfl rfl rfl).count rfl (fun r hr => (by cases hr))
    · exact h0
  · rw [if_neg (by omega), if_neg (by omega), if_neg (by omega), if_pos hk]
    unfold NS.acks
    split
    · exact AtB.rise (h0.of rfl rfl rfl rfl)
    · exact h0
  · rw [if_neg (by omega), if_neg (by omega), if_neg (by omega), if_neg (by omega), if_pos hk]
    unfold NS.nacks
    split
    · next h =>
      have hfr := right_frm hr
      have hat := right_at hr
      obtain ⟨p1, p2, p3, p4⟩ := hf.prim h.1
      refine (h0.of (c' := NS.setHas ⟨q, [], []⟩ m.frm.toNat (max m.at_ (q.acked.getD m.frm.toNat 0))) rfl rfl rfl rfl).ship ?_
      show ((q.has.set m.frm.toNat (max m.at_ (q.acked.getD m.frm.toNat 0))).getD m.frm.toNat 0).toNat ≤ q.st.log.length
      have hlt : m.frm.toNat < q.has.length := by
        refine Classical.byContradiction (fun e => ?_)
        have h2 := h.2
        have : q.has.getD m.frm.toNat 0 = 0 := by rw [List.getD_eq_getElem?_getD, List.getElem?_eq_none (by omega)]; rfl
        have h2 : m.at_ < q.has.getD m.frm.toNat 0 := h2
        omega
      have e : (q.has.set m.frm.toNat (max m.at_ (q.acked.getD m.frm.toNat 0))).getD m.frm.toNat 0 = max m.at_ (q.acked.getD m.frm.toNat 0) := by
        rw [List.getD_eq_getElem?_getD, List.getElem?_set, if_pos rfl, if_pos hlt]
        rfl
      rw [e]
      have hh := has_le' hf h.1 m.frm.toNat
      have h2 : m.at_ < q.has.getD m.frm.toNat 0 := h.2
      have ha : (q.acked.getD m.frm.toNat 0) ≤ (q.st.log.length : Int) := by
        by_cases hj : m.frm.toNat < q.acked.length
        · exact (p4 _ (List.mem_of_getElem? (getD_is hj))).2
        · rw [List.getD_eq_getElem?_getD, List.getElem?_eq_none (by omega)]
          show (0 : Int) ≤ _
          omega
      omega
    · exact h0
theorem atB_promote (hep : 0 ≤ q.st.ep) (hep2 : q.st.ep + 1 ≤ 1099511627776) (hid : q.id ≤ 6) : AtB q q.promote.1 ∧ q.promote.1.q.st.ep = q.st.ep + 1 := by
  unfold ND.promote
  rw [if_neg (by omega)]
  have hn := note_vote (s := q.st) (t := ⟨1, q.st.ep + 1, (q.id : Int), ⟨0, []⟩⟩) rfl (vote_right (q.st.ep + 1) (q.id : Int) (by omega) (by omega) (by omega) (by omega)) (by show q.st.ep < q.st.ep + 1; omega)
  have hq := NS.note_q (c := ⟨q, [], []⟩) hn
  have h1 : AtB q (NS.note ⟨q, [], []⟩ ⟨1, q.st.ep + 1, (q.id : Int), ⟨0, []⟩⟩).cand := by
    refine ⟨?_, ?_, ⟨[], ?_, Or.inl rfl⟩, fun r hr => (by cases hr)⟩
    · unfold NS.cand; simp only; rw [hq]; exact ⟨rfl, rfl⟩
    · unfold NS.cand; simp only; rw [hq]; show q.st.ep ≤ q.st.ep + 1; omega
    · unfold NS.cand; simp only; rw [hq]; simp
  have hl : (NS.note ⟨q, [], []⟩ ⟨1, q.st.ep + 1, (q.id : Int), ⟨0, []⟩⟩).cand.q.st = { q.st with ep := q.st.ep + 1, voted := (q.id : Int) } := by unfold NS.cand; simp only; rw [hq]
  refine ⟨h1.asks.count (by show (NS.cand _).q.st.log = _; rw [hl]) (fun r hr => ?_), ?_⟩
  · have hr : r ∈ (NS.note ⟨q, [], []⟩ ⟨1, q.st.ep + 1, (q.id : Int), ⟨0, []⟩⟩).cand.ms ++ ND.asks _ _ _ := hr
    rcases List.mem_append.1 hr with e | e
    · cases e
    · obtain ⟨j, _, _, rfl⟩ := mem_asks e
      rfl
  · have key : ∀ c : NS, c.count.q.st.ep = c.q.st.ep := fun c => by
      unfold NS.count
      split
      · rfl
      · show ((c.lead.note ⟨3, 0, 0, ⟨c.q.st.ep, []⟩⟩).ships).q.risen.st.ep = _
        rw [(risen_log _).1]
        obtain ⟨r, h1, _⟩ := note3_log c.lead ⟨c.q.st.ep, []⟩
        show (c.lead.note ⟨3, 0, 0, ⟨c.q.st.ep, []⟩⟩).q.st.ep = _
        rw [h1]
        rfl
    rw [key]
    show (NS.cand _).q.st.ep = _
    rw [hl]
theorem atB_tick (hf : q.Fit) : AtB q q.tick ∧ q.tick.q = q := by
  unfold ND.tick
  split
  · next h => exact ⟨(AtB.idle q).ships (has_le' hf h), rfl⟩
  · split
    · exact ⟨(AtB.idle q).asks, rfl⟩
    · exact ⟨AtB.idle q, rfl⟩

/-- A log gets an entry of an epoch that is no less. -/
theorem Newer.push {l p r : List Ent} {e : Int} (h : Newer l p) (hp : lastAt p p.length ≤ e) (hr : r = [] ∨ ∃ x : Ent, r = [x] ∧ x.ep = e) : Newer l (p ++ r) := by
  rcases hr with rfl | ⟨x, rfl, rfl⟩
  · rw [List.append_nil]; exact h
  · have e1 : lastAt (p ++ [x]) (p ++ [x]).length = x.ep := by
      rw [List.length_append]
      exact lastAt_succ (by rw [List.getElem?_append_right (Nat.le_refl _), Nat.sub_self]; rfl)
    unfold Newer
    rw [e1, List.length_append]
    rcases h with h | ⟨h1, h2⟩
    · left; omega
    · by_cases h3 : lastAt l l.length < x.ep
      · exact Or.inl h3
      · exact Or.inr ⟨by omega, by simp; omega⟩
theorem lastAt_le {p : List Ent} {e : Int} (he : 0 ≤ e) (h : ∀ x ∈ p, x.ep ≤ e) (n : Nat) : lastAt p n ≤ e := by
  unfold lastAt
  split
  · exact he
  · cases hx : p[n - 1]? with
    | none => exact he
    | some x => exact h x (List.mem_of_getElem? hx)
theorem lastAt_mono {p : List Ent} (hm : Mono p) (h1 : ∀ x ∈ p, 0 ≤ x.ep) {i j : Nat} (hij : i ≤ j) (hj : j ≤ p.length) : lastAt p i ≤ lastAt p j := by
  by_cases h0 : i = 0
  · subst h0
    rw [lastAt_zero]
    unfold lastAt
    split
    · exact Int.le_refl _
    · cases hx : p[j - 1]? with
      | none => exact Int.le_refl _
      | some x => exact h1 x (List.mem_of_getElem? hx)
  · obtain ⟨x, hx⟩ := at_len (l := p) (k := i - 1) (by omega)
    obtain ⟨y, hy⟩ := at_len (l := p) (k := j - 1) (by omega)
    have e1 := lastAt_succ hx
    have e2 := lastAt_succ hy
    rw [Nat.sub_add_cancel (by omega)] at e1 e2
    rw [e1, e2]
    exact hm _ _ x y (by omega) hx hy
/-- A standby's log, behind a message, is no newer than the other's still. -/
theorem Newer.took {l p r : List Ent} {k : Nat} {m : Msg} (h : Newer l p) (hml : Mono l) (hl0 : ∀ x ∈ l, 0 ≤ x.ep) (hmp : Mono p) (hp0 : ∀ x ∈ p, 0 ≤ x.ep) (hs : Seg m p) (hr : ∀ x ∈ r, x ∈ m.log) (hk : r = [] ∨ ((l.take k).length + r.length : Int) ≤ m.at_ + (m.log.length : Int)) : Newer (l.take k ++ r) p := by
  by_cases h0 : r = []
  · subst h0
    rw [List.append_nil]
    have e : lastAt (l.take k) (l.take k).length = lastAt l (l.take k).length := lastAt_agree (fun j hj => by rw [List.length_take] at hj; rw [List.getElem?_take, if_pos (by omega)])
    have hle : (l.take k).length ≤ l.length := by rw [List.length_take]; omega
    have := lastAt_mono hml hl0 hle (Nat.le_refl _)
    unfold Newer
    rw [e]
    rcases h with h | ⟨h1, h2⟩
    · left; omega
    · by_cases h3 : lastAt l (l.take k).length < lastAt p p.length
      · exact Or.inl h3
      · exact Or.inr ⟨by omega, by omega⟩
  · have hk : ((l.take k).length + r.length : Int) ≤ m.at_ + (m.log.length : Int) := hk.resolve_left h0
    obtain ⟨a, e1, e2, e3⟩ := hs
    obtain ⟨n, hn⟩ : ∃ n, r.length = n + 1 := ⟨r.length - 1, by have : r.length ≠ 0 := fun e => h0 (List.eq_nil_of_length_eq_zero e); omega⟩
    obtain ⟨x, hx⟩ := at_len (l := r) (k := n) (by omega)
    have hxm := hr x (List.mem_of_getElem? hx)
    obtain ⟨i, hi, hix⟩ := List.getElem_of_mem hxm
    have hpx := e3 i x (by rw [List.getElem?_eq_getElem hi, hix])
    have e4 : lastAt (l.take k ++ r) (l.take k ++ r).length = x.ep := by
      rw [List.length_append, hn, ← Nat.add_assoc]
      exact lastAt_succ (by rw [List.getElem?_append_right (by omega), Nat.add_sub_cancel_left]; exact hx)
    have h5 : x.ep ≤ lastAt p p.length := by
      have := lastAt_succ hpx
      rw [← this]
      exact lastAt_mono hmp hp0 (by have := lt_len hpx; omega) (Nat.le_refl _)
    unfold Newer
    rw [e4, List.length_append]
    by_cases h6 : x.ep < lastAt p p.length
    · exact Or.inl h6
    · exact Or.inr ⟨by omega, by omega⟩
end
end Go.Proofs.Ytlgoenimjmiapaa

/-! Settles, plain: what holds whatever arrives. -/
namespace Go.Proofs.Ytlgoenimjmiapaa

/-- What is known of any town. -/
structure Facts (N T : Nat) (X : Nat → ND) (net : List Msg) : Prop where
  id : ∀ i, i < N → (X i).id = i
  n : ∀ i, i < N → (X i).n = N
  fit : ∀ i, i < N → (X i).Fit
  ep : ∀ i, i < N → (X i).st.ep ≤ (T : Int)
  len : ∀ i, i < N → (X i).st.log.length ≤ T
  mono : ∀ i, i < N → Mono (X i).st.log
  ents : ∀ i, i < N → ∀ x ∈ (X i).st.log, 1 ≤ x.ep ∧ x.ep ≤ (X i).st.ep
  right : ∀ m ∈ net, m.right = true
  ends : ∀ m ∈ net, ∃ f k : Nat, m.frm = (f : Int) ∧ m.to = (k : Int) ∧ f < N ∧ k < N ∧ f ≠ k
theorem TI.facts {t : Town} {T : Nat} (h : TI t T) (h7 : t.n ≤ 7) (hT : T ≤ 2048) : Facts t.n T t.X t.net := by
  have hf := h.fine h7 hT
  obtain ⟨S, g, h1, h2, h3, h4, h5, _, _⟩ := h
  exact ⟨fun i hi => (hf.fit i hi).2.1, fun i hi => (hf.fit i hi).2.2.1, fun i hi => (hf.fit i hi).1, fun i hi => (hf.fit i hi).2.2.2.2.1, fun i hi => (hf.fit i hi).2.2.2.2.2, fun i hi => (h1.2.1 i hi).mono, fun i hi => (h1.2.1 i hi).ents, fun m hm => (hf.net m hm).1, fun m hm => (hf.net m hm).2.2.1⟩

theorem count_ep (c : NS) : c.count.q.st.ep = c.q.st.ep ∧ c.count.q.st.voted = c.q.st.voted := by
  unfold NS.count
  split
  · exact ⟨rfl, rfl⟩
  · obtain ⟨r, h1, _⟩ := note3_log c.lead ⟨c.q.st.ep, []⟩
    have e : (((c.lead.note ⟨3, 0, 0, ⟨c.q.st.ep, []⟩⟩).ships).rise).q.st = (c.lead.note ⟨3, 0, 0, ⟨c.q.st.ep, []⟩⟩).q.st := (risen_log _).1
    rw [e, h1]
    exact ⟨rfl, rfl⟩
theorem act_ep {q : ND} {m : Msg} (hk : m.kind = 2 ∨ m.kind = 4 ∨ m.kind = 5) : (NS.act ⟨q, [], []⟩ m).q.st.ep = q.st.ep := by
  unfold NS.act
  rcases hk with hk | hk | hk
  · rw [if_neg (by omega), if_pos hk]
    unfold NS.grants
    split
    · rw [(count_ep _).1]; rfl
    · rfl
  · rw [if_neg (by omega), if_neg (by omega), if_neg (by omega), if_pos hk]
    unfold NS.acks
    split
    · exact (congrArg St.ep (risen_log _).1).trans rfl
    · rfl
  · rw [if_neg (by omega), if_neg (by omega), if_neg (by omega), if_neg (by omega), if_pos hk]
    unfold NS.nacks
    split <;> rfl

/-- One node alone asks: b. -/
structure Set0 (N b : Nat) (E0 : Int) (X : Nat → ND) (net : List Msg) : Prop where
  stand : ∀ j, j < N → j ≠ b → (X j).role = 0
  new : ∀ j, j < N → j ≠ b → Newer (X j).st.log (X b).st.log
  dir : ∀ m ∈ net, m.frm = (b : Int) ∧ (m.kind = 1 ∨ m.kind = 3) ∨ m.to = (b : Int) ∧ (m.kind = 2 ∨ m.kind = 4 ∨ m.kind = 5)
  seg : ∀ m ∈ net, m.kind = 3 → Seg m (X b).st.log
  ep : ∀ j, j < N → (X j).st.ep ≤ max E0 (X b).st.ep
  mep : ∀ m ∈ net, m.ep ≤ max E0 (X b).st.ep
  top : (X b).st.ep ≤ E0 + 1

section
variable {N T b cap : Nat} {E0 : Int} {X : Nat → ND} {net rest : List Msg} {c : NS} {m : Msg}
theorem Seg.app {p r : List Ent} (h : Seg m p) : Seg m (p ++ r) := by
  obtain ⟨a, h1, h2, h3⟩ := h
  refine ⟨a, h1, by rw [List.length_append]; omega, fun k x hx => ?_⟩
  have := h3 k x hx
  rw [List.getElem?_append_left (lt_len this)]
  exact this
/-- b does something. -/
theorem Set0.own (h : Set0 N b E0 X net) (hF : Facts N T X net) (hb : b < N) (hA : AtB (X b) c) (ht : c.q.st.ep ≤ E0 + 1) : Set0 N b E0 (upd X b c.q) (net ++ c.ms.take cap) := by
  obtain ⟨r, hr1, hr2⟩ := hA.log
  have hfit := hF.fit b hb
  have hlast : lastAt (X b).st.log (X b).st.log.length ≤ c.q.st.ep := Int.le_trans (lastAt_le hfit.ep (fun x hx => (hF.ents b hb x hx).2) _) hA.ep
  have hep := hA.ep
  refine ⟨fun j hj hne => ?_, fun j hj hne => ?_, fun x hx => ?_, fun x hx hk => ?_, fun j hj => ?_, fun x hx => ?_, ?_⟩
  · rw [upd_ne _ _ _ hne]; exact h.stand j hj hne
  · rw [upd_ne _ _ _ hne, upd_self, hr1]
    exact (h.new j hj hne).push hlast hr2
  · rcases List.mem_append.1 hx with e | e
    · exact h.dir x e
    · obtain ⟨k1, k2, k3⟩ := hA.ms x (List.mem_of_mem_take e)
      left
      refine ⟨by rw [k1, hF.id b hb], ?_⟩
      rcases k3 with k3 | k3
      · exact Or.inl k3
      · exact Or.inr k3.1
  · rw [upd_self]
    rcases List.mem_append.1 hx with e | e
    · rw [hr1]; exact (h.seg x e hk).app
    · obtain ⟨k1, k2, k3⟩ := hA.ms x (List.mem_of_mem_take e)
      rcases k3 with k3 | k3
      · omega
      · exact k3.2
  · rw [upd_self]
    by_cases hjb : j = b
    · subst hjb; rw [upd_self]; exact Int.le_max_right _ _
    · rw [upd_ne _ _ _ hjb]
      have := h.ep j hj
      omega
  · rw [upd_self]
    rcases List.mem_append.1 hx with e | e
    · have := h.mep x e; omega
    · rw [(hA.ms x (List.mem_of_mem_take e)).2.1]; exact Int.le_max_right _ _
  · rw [upd_self]; exact ht
theorem Set0.tail (h : Set0 N b E0 X (m :: rest)) : Set0 N b E0 X rest :=
  ⟨h.stand, h.new, fun x hx => h.dir x (List.mem_cons_of_mem _ hx), fun x hx => h.seg x (List.mem_cons_of_mem _ hx), h.ep, fun x hx => h.mep x (List.mem_cons_of_mem _ hx), h.top⟩
theorem Facts.tail (h : Facts N T X (m :: rest)) : Facts N T X rest := ⟨h.id, h.n, h.fit, h.ep, h.len, h.mono, h.ents, fun x hx => h.right x (List.mem_cons_of_mem _ hx), fun x hx => h.ends x (List.mem_cons_of_mem _ hx)⟩
/-- The first message arrives. -/
theorem Set0.recv (h : Set0 N b E0 X (m :: rest)) (hF : Facts N T X (m :: rest)) (hT : T ≤ 2048) (hb : b < N) : Set0 N b E0 (upd X m.to.toNat ((X m.to.toNat).step m).1.q) (rest ++ ((X m.to.toNat).step m).1.ms.take cap) := by
  obtain ⟨f, k, e1, e2, e3, e4, e5⟩ := hF.ends m (List.mem_cons_self ..)
  have hr := hF.right m (List.mem_cons_self ..)
  have ek : m.to.toNat = k := by omega
  rw [ek]
  have hid := hF.id k e4
  have hn := hF.n k e4
  have hlen := hF.len k e4
  have hto : m.to = ((X k).id : Int) := by rw [hid]; exact e2
  have hfr : m.frm ≠ ((X k).id : Int) := by rw [hid, e1]; omega
  have hfn : m.frm < ((X k).n : Int) := by rw [hn, e1]; omega
  rcases h.dir m (List.mem_cons_self ..) with ⟨d1, d2⟩ | ⟨d1, d2⟩
  · have hkb : k ≠ b := by omega
    have hJ := atJ hr (h.stand k e4 hkb) (by omega) hto hfr hfn d2
    obtain ⟨c, hc⟩ : ∃ c, ((X k).step m).1 = c := ⟨_, rfl⟩
    rw [hc] at hJ ⊢
    have hms : ∀ x ∈ c.ms, x.to = (b : Int) ∧ (x.kind = 2 ∨ x.kind = 4 ∨ x.kind = 5) ∧ x.ep = c.q.st.ep := fun x hx => by
      rcases hJ.ms with e | ⟨r, e, k1, k2, k3, k4⟩
      · rw [e] at hx; cases hx
      · rw [e] at hx
        rw [List.mem_singleton.1 hx]
        exact ⟨k1.trans d1, k3, k4⟩
    have hmep := h.mep m (List.mem_cons_self ..)
    have hepk := h.ep k e4
    refine ⟨fun j hj hne => ?_, fun j hj hne => ?_, fun x hx => ?_, fun x hx hk => ?_, fun j hj => ?_, fun x hx => ?_, ?_⟩
    · by_cases hjk : j = k
      · subst hjk; rw [upd_self]; exact hJ.role
      · rw [upd_ne _ _ _ hjk]; exact h.stand j hj hne
    · rw [upd_ne _ _ _ (Ne.symm hkb)]
      by_cases hjk : j = k
      · subst hjk
        rw [upd_self]
        obtain ⟨p, r, k1, k2, k3⟩ := hJ.log
        rw [k1]
        by_cases h0 : r = []
        · subst h0
          rw [List.append_nil]
          have hs : Newer ((X j).st.log.take p ++ []) (X b).st.log := by
            rcases d2 with d2 | d2
            ·
              refine Newer.took (m := ⟨3, 0, 0, 0, 0, 0, 0, []⟩) (h.new j hj hne) (hF.mono j hj) (fun x hx => by have := (hF.ents j hj x hx).1; omega) (hF.mono b hb) (fun x hx => by have := (hF.ents b hb x hx).1; omega) ⟨0, rfl, Nat.zero_le _, fun k x hx => (by cases hx)⟩ (fun x hx => (by cases hx)) (Or.inl rfl)
            · exact Newer.took (h.new j hj hne) (hF.mono j hj) (fun x hx => by have := (hF.ents j hj x hx).1; omega) (hF.mono b hb) (fun x hx => by have := (hF.ents b hb x hx).1; omega) (h.seg m (List.mem_cons_self ..) d2) (fun x hx => (by cases hx)) (Or.inl rfl)
          rw [List.append_nil] at hs
          exact hs
        · obtain ⟨k4, k5⟩ := k3.resolve_left h0
          exact Newer.took (h.new j hj hne) (hF.mono j hj) (fun x hx => by have := (hF.ents j hj x hx).1; omega) (hF.mono b hb) (fun x hx => by have := (hF.ents b hb x hx).1; omega) (h.seg m (List.mem_cons_self ..) k4) k2 (Or.inr k5)
      · rw [upd_ne _ _ _ hjk]; exact h.new j hj hne
    · rcases List.mem_append.1 hx with e | e
      · exact h.dir x (List.mem_cons_of_mem _ e)
      · obtain ⟨k1, k2, _⟩ := hms x (List.mem_of_mem_take e)
        exact Or.inr ⟨k1, k2⟩
    · rw [upd_ne _ _ _ (Ne.symm hkb)]
      rcases List.mem_append.1 hx with e | e
      · exact h.seg x (List.mem_cons_of_mem _ e) hk
      · obtain ⟨_, k2, _⟩ := hms x (List.mem_of_mem_take e)
        omega
    · rw [upd_ne _ _ _ (Ne.symm hkb)]
      by_cases hjk : j = k
      · subst hjk; rw [upd_self, hJ.ep]; omega
      · rw [upd_ne _ _ _ hjk]; exact h.ep j hj
    · rw [upd_ne _ _ _ (Ne.symm hkb)]
      rcases List.mem_append.1 hx with e | e
      · exact h.mep x (List.mem_cons_of_mem _ e)
      · rw [(hms x (List.mem_of_mem_take e)).2.2, hJ.ep]; omega
    · rw [upd_ne _ _ _ (Ne.symm hkb)]; exact h.top
  · obtain rfl : k = b := by omega
    have hmep := h.mep m (List.mem_cons_self ..)
    by_cases hhi : (X k).st.ep < m.ep
    · obtain ⟨k1, k2⟩ := atB_hi hr hto hfr hfn d2 hhi
      rw [k1, k2, List.take_nil, List.append_nil]
      have hE : m.ep ≤ E0 := by omega
      refine ⟨fun j hj hne => ?_, fun j hj hne => ?_, h.tail.dir, fun x hx hk => ?_, fun j hj => ?_, fun x hx => ?_, ?_⟩
      · rw [upd_ne _ _ _ hne]; exact h.stand j hj hne
      · rw [upd_ne _ _ _ hne, upd_self]; exact h.new j hj hne
      · rw [upd_self]; exact h.seg x (List.mem_cons_of_mem _ hx) hk
      · rw [upd_self]
        by_cases hjk : j = k
        · subst hjk; rw [upd_self]; exact Int.le_max_right _ _
        · rw [upd_ne _ _ _ hjk]
          have := h.ep j hj
          show _ ≤ max E0 m.ep
          omega
      · rw [upd_self]
        have := h.mep x (List.mem_cons_of_mem _ hx)
        show _ ≤ max E0 m.ep
        omega
      · rw [upd_self]; show m.ep ≤ E0 + 1; omega
    · by_cases hlo : m.ep < (X k).st.ep
      · obtain ⟨k1, k2⟩ := atB_lo hr hto hfr hfn d2 hlo
        rw [k1, k2, List.take_nil, List.append_nil, upd_same]
        exact h.tail
      · rw [atB_eq hr hto hfr hfn (by omega)]
        have hA := atB_act (hF.fit k e4) hr d2
        refine h.tail.own hF.tail hb hA ?_
        have := h.top
        obtain ⟨r, _, _⟩ := hA.log
        have : (NS.act ⟨X k, [], []⟩ m).q.st.ep = (X k).st.ep := act_ep d2
        omega
end
end Go.Proofs.Ytlgoenimjmiapaa

/-! Settles, plain: the last epoch: what each message makes of a standby there. -/
namespace Go.Proofs.Ytlgoenimjmiapaa

section
variable {c : NS} {q : ND} {m : Msg}
theorem front_up (hr : m.right = true) (h0 : q.role = 0) (hep : q.st.ep ≤ m.ep) : ∃ c, q.front m = c ∧ ¬ m.ep < c.q.st.ep ∧ c.q.role = 0 ∧ c.q.id = q.id ∧ c.q.n = q.n ∧ c.q.st.log = q.st.log ∧ c.q.st.ep = m.ep ∧ c.ms = [] ∧ c.q.commit = q.commit ∧ c.q.st.voted = if q.st.ep < m.ep then -1 else q.st.voted := by
  obtain ⟨f1, f2, f3, f4, f5, f6, f7, f8⟩ := front_st (q := q) hr h0
  have e : (q.front m).q.st.ep = m.ep := by rw [f5]; omega
  exact ⟨_, rfl, by rw [e]; exact Int.lt_irrefl _, f1, f2, f3, f4, e, f6, f7, f8⟩
/-- An ask of a log that is no older is granted. -/
theorem stepJ_ask (hr : m.right = true) (h0 : q.role = 0) (hto : m.to = (q.id : Int)) (hf : m.frm ≠ (q.id : Int)) (hn : m.frm < (q.n : Int)) (hk : m.kind = 1) (hep : q.st.ep ≤ m.ep) (hnew : lastAt q.st.log q.st.log.length < m.last ∨ lastAt q.st.log q.st.log.length = m.last ∧ (q.st.log.length : Int) ≤ m.at_)
    (hv : q.st.ep = m.ep → q.st.voted = -1 ∨ q.st.voted = m.frm) : (q.step m).1.ms = [⟨2, (q.id : Int), m.frm, m.ep, 0, 0, 0, []⟩] := by
  obtain ⟨c, hc, c1, c2, c3, c4, c5, c6, c7, c8, c9⟩ := front_up hr h0 hep
  rw [step_is' hr hto hf hn, hc, if_neg c1]
  unfold NS.act
  rw [if_pos hk]
  have hnw : c.q.newer m = true := by
    unfold ND.newer
    rw [last_lastAt, c5]
    simp
    rcases hnew with e | ⟨e1, e2⟩
    · exact Or.inl e
    · exact Or.inr ⟨e1.symm, e2⟩
  unfold NS.asked
  rw [if_neg (by rw [hnw]; decide)]
  have hcv : c.q.st.voted = -1 ∨ c.q.st.voted = m.frm := by
    rw [c9]
    split
    · exact Or.inl rfl
    · exact hv (by omega)
  rcases hcv with h | h
  · rw [if_pos h]
    have hnn : c.q.st.note ⟨1, c.q.st.ep, m.frm, ⟨0, []⟩⟩ = some { c.q.st with ep := c.q.st.ep, voted := m.frm } := by
      have h1 := right_ep hr
      have h2 := right_frm hr
      unfold St.note
      rw [vote_right c.q.st.ep m.frm (by omega) (by omega) (by omega) (by omega)]
      simp [h]
    have hq := NS.note_q hnn
    show c.ms ++ [_] = _
    rw [hq, c7]
    show [_] = _
    simp only [grantMsg, c3, c6]
  · have hf0 := right_frm hr
    rw [if_neg (by omega), if_pos h]
    show c.ms ++ [_] = _
    rw [c7]
    simp only [grantMsg, c3, c6]
    rfl
/-- A ship is refused, .. -/
theorem stepJ_nack (hr : m.right = true) (h0 : q.role = 0) (hto : m.to = (q.id : Int)) (hf : m.frm ≠ (q.id : Int)) (hn : m.frm < (q.n : Int)) (hk : m.kind = 3) (hep : q.st.ep ≤ m.ep) (h : (q.st.log.length : Int) < m.at_ ∨ lastAt q.st.log m.at_.toNat ≠ m.last) :
    (q.step m).1.ms = [⟨5, (q.id : Int), m.frm, m.ep, max 0 (min (q.st.log.length : Int) (m.at_ - 1)), 0, 0, []⟩] := by
  obtain ⟨c, hc, c1, c2, c3, c4, c5, c6, c7, c8, c9⟩ := front_up hr h0 hep
  rw [step_is' hr hto hf hn, hc, if_neg c1]
  unfold NS.act
  rw [if_neg (by omega), if_neg (by omega), if_pos hk]
  have hst : c.stands = c := by unfold NS.stands; rw [if_neg (by omega)]
  unfold NS.shipped
  rw [hst, if_pos (by rw [c5, last_lastAt, c5]; exact h)]
  show c.ms ++ [_] = _
  rw [c7]
  simp only [c3, c5, c6]
  rfl
/-- .. or taken. -/
theorem stepJ_ack (hr : m.right = true) (h0 : q.role = 0) (hto : m.to = (q.id : Int)) (hf : m.frm ≠ (q.id : Int)) (hn : m.frm < (q.n : Int)) (hk : m.kind = 3) (hep : q.st.ep ≤ m.ep) (hl : q.st.log.length ≤ 2048) (h1 : ¬ (q.st.log.length : Int) < m.at_) (h2 : lastAt q.st.log m.at_.toNat = m.last) (h3 : m.at_ + (m.log.length : Int) ≤ 2048) :
    (q.step m).1.ms = [⟨4, (q.id : Int), m.frm, m.ep, m.at_ + (m.log.length : Int), 0, 0, []⟩] ∧ (q.step m).1.q.commit = (max (q.commit : Int) (min m.commit (m.at_ + (m.log.length : Int)))).toNat := by
  obtain ⟨c, hc, c1, c2, c3, c4, c5, c6, c7, c8, c9⟩ := front_up hr h0 hep
  rw [step_is' hr hto hf hn, hc, if_neg c1]
  unfold NS.act
  rw [if_neg (by omega), if_neg (by omega), if_pos hk]
  have hst : c.stands = c := by unfold NS.stands; rw [if_neg (by omega)]
  unfold NS.shipped
  rw [hst, if_neg (by rw [c5, last_lastAt, c5]; rintro (e | e); exact h1 e; exact e h2), if_neg (by omega)]
  have hat := right_at hr
  obtain ⟨a, ha⟩ : ∃ a : Nat, m.at_ = (a : Int) := ⟨m.at_.toNat, by omega⟩
  obtain ⟨p, r, cc, k1, k2, k3, k4, k5⟩ := takes_spec (c := c) (m := m) (by rw [c5]; exact hl) ha (by rw [c5]; omega)
  refine ⟨by rw [k5, c7]; simp only [c3, c6]; rfl, ?_⟩
  rw [k1]
  show cc = _
  rw [k4, c8]
/-- A message of an elder epoch. -/
theorem stepJ_low (hr : m.right = true) (h0 : q.role = 0) (hto : m.to = (q.id : Int)) (hf : m.frm ≠ (q.id : Int)) (hn : m.frm < (q.n : Int)) (hk : m.kind = 1 ∨ m.kind = 3) (hep : m.ep < q.st.ep) : (q.step m).1.q = q := by
  obtain ⟨h1, _, h3⟩ := front_is (q := q) hr
  rw [if_neg (by omega)] at h1
  rw [step_is' hr hto hf hn, if_pos (by rw [h1]; exact hep), if_pos hk]
  exact h1
/-- Whom a standby votes for. -/
theorem stepJ_voted (hr : m.right = true) (h0 : q.role = 0) (hl : q.st.log.length ≤ 2048) (hto : m.to = (q.id : Int)) (hf : m.frm ≠ (q.id : Int)) (hn : m.frm < (q.n : Int)) (hk : m.kind = 1 ∨ m.kind = 3) : (q.step m).1.q.st.voted = -1 ∨ (q.step m).1.q.st.voted = m.frm ∨ (q.step m).1.q.st.voted = q.st.voted ∧ (q.step m).1.q.st.ep = q.st.ep := by
  by_cases hlow : m.ep < q.st.ep
  · rw [stepJ_low hr h0 hto hf hn hk hlow]
    exact Or.inr (Or.inr ⟨rfl, rfl⟩)
  · obtain ⟨c, hc, c1, c2, c3, c4, c5, c6, c7, c8, c9⟩ := front_up hr h0 (by omega)
    rw [step_is' hr hto hf hn, hc, if_neg c1]
    have base : c.q.st.voted = -1 ∨ c.q.st.voted = m.frm ∨ c.q.st.voted = q.st.voted ∧ c.q.st.ep = q.st.ep := by
      rw [c9]
      split
      · exact Or.inl rfl
      · exact Or.inr (Or.inr ⟨rfl, by omega⟩)
    unfold NS.act
    rcases hk with hk | hk
    · rw [if_pos hk]
      unfold NS.asked
      split
      · exact base
      · split
        · next h =>
          have hnn : c.q.st.note ⟨1, c.q.st.ep, m.frm, ⟨0, []⟩⟩ = some { c.q.st with ep := c.q.st.ep, voted := m.frm } := by
            have h1 := right_ep hr
            have h2 := right_frm hr
            unfold St.note
            rw [vote_right c.q.st.ep m.frm (by omega) (by omega) (by omega) (by omega)]
            simp [h]
          have hq := NS.note_q hnn
          right; left
          show (c.note _).q.st.voted = _
          rw [hq]
        · split
          · exact base
          · exact base
    · rw [if_neg (by omega), if_neg (by omega), if_pos hk]
      have hst : c.stands = c := by unfold NS.stands; rw [if_neg (by omega)]
      unfold NS.shipped
      rw [hst]
      split
      · exact base
      · next h1 =>
        split
        · exact base
        · have hat := right_at hr
          obtain ⟨a, ha⟩ : ∃ a : Nat, m.at_ = (a : Int) := ⟨m.at_.toNat, by omega⟩
          obtain ⟨p, r, cc, k1, k2, k3, k4, k5⟩ := takes_spec (c := c) (m := m) (by rw [c5]; exact hl) ha (by have : ¬ (c.q.st.log.length : Int) < m.at_ := fun e => h1 (Or.inl e); omega)
          rw [k1]
          exact base
/-- What is committed stays so. -/
theorem stepJ_commit (hr : m.right = true) (h0 : q.role = 0) (hl : q.st.log.length ≤ 2048) (hto : m.to = (q.id : Int)) (hf : m.frm ≠ (q.id : Int)) (hn : m.frm < (q.n : Int)) (hk : m.kind = 1 ∨ m.kind = 3) : q.commit ≤ (q.step m).1.q.commit := by
  by_cases hlow : m.ep < q.st.ep
  · rw [stepJ_low hr h0 hto hf hn hk hlow]
    exact Nat.le_refl _
  · obtain ⟨c, hc, c1, c2, c3, c4, c5, c6, c7, c8, c9⟩ := front_up hr h0 (by omega)
    rw [step_is' hr hto hf hn, hc, if_neg c1]
    have base : q.commit ≤ c.q.commit := by omega
    unfold NS.act
    rcases hk with hk | hk
    · rw [if_pos hk]
      unfold NS.asked
      split
      · exact base
      · split
        · exact base
        · split <;> exact base
    · rw [if_neg (by omega), if_neg (by omega), if_pos hk]
      have hst : c.stands = c := by unfold NS.stands; rw [if_neg (by omega)]
      unfold NS.shipped
      rw [hst]
      split
      · exact base
      · next h1 =>
        split
        · exact base
        · have hat := right_at hr
          obtain ⟨a, ha⟩ : ∃ a : Nat, m.at_ = (a : Int) := ⟨m.at_.toNat, by omega⟩
          obtain ⟨p, r, cc, k1, k2, k3, k4, k5⟩ := takes_spec (c := c) (m := m) (by rw [c5]; exact hl) ha (by have : ¬ (c.q.st.log.length : Int) < m.at_ := fun e => h1 (Or.inl e); omega)
          rw [k1]
          show q.commit ≤ cc
          omega
end

/-- What the ghosts tell of the one that is promoted, and its messages of this epoch. -/
structure Extra (N b : Nat) (X : Nat → ND) (net : List Msg) : Prop where
  ask : (X b).role = 1 → ∀ m ∈ net, m.kind = 1 → m.frm = (b : Int) → m.ep = (X b).st.ep → m.at_ = ((X b).st.log.length : Int) ∧ m.last = lastAt (X b).st.log (X b).st.log.length
  ship : (X b).role = 2 → ∀ m ∈ net, m.kind = 3 → m.frm = (b : Int) → m.ep = (X b).st.ep → m.last = lastAt (X b).st.log m.at_.toNat
  agree : (X b).role = 2 → ∀ j, j < N → j ≠ b → (X j).st.ep ≤ (X b).st.ep → Agree (X j).st.log (X b).st.log ((X b).acked.getD j 0).toNat
  good : (X b).role = 2 → ∀ j, j < N → ∀ k x y, (X j).st.log[k]? = some x → (X b).st.log[k]? = some y → x.ep = y.ep → Agree (X j).st.log (X b).st.log (k + 1)
  own : (X b).role = 2 → ∀ j, j < N → ∀ k x, (X j).st.log[k]? = some x → x.ep = (X b).st.ep → Agree (X j).st.log (X b).st.log (k + 1)
theorem TI.extra {t : Town} {T b : Nat} (h : TI t T) (hb : b < t.n) : Extra t.n b t.X t.net := by
  obtain ⟨S, g, h1, h2, h3, h4, h5, _, _⟩ := h
  have hq := h1.2.1 b hb
  refine ⟨fun hr m hm hk hf he => ?_, fun hr m hm hk hf he => ?_, fun hr j hj hjb hle => ?_, fun hr j hj k x y hx hy hxy => ?_, fun hr j hj k x hx he => ?_⟩
  · obtain ⟨_, k2, k3⟩ := (h1.2.2 m (h4 m hm)).ask hk
    obtain ⟨_, c2, _⟩ := hq.cand hr
    rw [hf, Int.toNat_natCast, he, c2] at k2 k3
    exact ⟨k2, k3⟩
  · obtain ⟨_, a, c, k1, _, _, _, k5, _⟩ := (h1.2.2 m (h4 m hm)).ship hk
    obtain ⟨_, c2, _⟩ := hq.prim hr
    rw [he, c2] at k5
    rw [k1, Int.toNat_natCast]
    exact k5
  · obtain ⟨_, c2, _, _, c5, c6, c7, _⟩ := hq.prim hr
    by_cases hl : j < (t.X b).acked.length
    · obtain ⟨a0, a1, a2⟩ := c7 j _ (getD_is hl)
      have a3 := a2 hjb
      rcases (h1.2.1 j hj).keep (t.X b).st.ep ((t.X b).acked.getD j 0).toNat (by omega) with e | ⟨e2, e3, e4, _⟩
      · rw [c2] at e; exact e
      · omega
    · rw [List.getD_eq_getElem?_getD, List.getElem?_eq_none (by omega)]
      exact Agree.zero _ _
  · exact good_agree (h1.2.1 j hj).good hq.good hx hy hxy
  · obtain ⟨_, c2, _⟩ := hq.prim hr
    have := (h1.2.1 j hj).good k x hx
    rw [he, c2] at this
    exact this
end Go.Proofs.Ytlgoenimjmiapaa

/-! Settles, plain: what is on its way grows less. -/
namespace Go.Proofs.Ytlgoenimjmiapaa

/-- What a message may bring about still. -/
def wt (q : ND) (m : Msg) : Nat := if m.kind = 1 then 5 else if m.kind = 3 then (if q.role = 2 ∧ m.ep = q.st.ep ∧ m.at_ ≤ q.acked.getD m.to.toNat 0 then 2 else 5) else if m.kind = 5 then 4 else 1
def gap (q : ND) (j : Nat) : Nat := (q.has.getD j 0 - q.acked.getD j 0).toNat
def gaps (q : ND) (b : Nat) : Nat → Nat
  | 0 => 0
  | n + 1 => gaps q b n + (if n = b then 0 else 4 * gap q n)
def wsum (q : ND) (l : List Msg) : Nat := (l.map (wt q)).sum
def Phi (L N b : Nat) (q : ND) (net : List Msg) : Nat := wsum q net + (if q.role = 1 then 36 + 28 * L else if q.role = 2 then gaps q b N else 0)

section
variable {q q' : ND} {b n f L N : Nat}
theorem wt_pos (q : ND) (m : Msg) : 1 ≤ wt q m ∧ wt q m ≤ 5 := by
  unfold wt
  split
  · omega
  · split
    · split <;> omega
    · split <;> omega
theorem wt_small (q : ND) {m : Msg} (h : m.kind = 2 ∨ m.kind = 4) : wt q m = 1 := by
  unfold wt
  rw [if_neg (by omega), if_neg (by omega), if_neg (by omega)]
theorem wsum_nil (q : ND) : wsum q [] = 0 := rfl
theorem wsum_cons (q : ND) (m : Msg) (l : List Msg) : wsum q (m :: l) = wt q m + wsum q l := by simp [wsum]
theorem wsum_app (q : ND) (l r : List Msg) : wsum q (l ++ r) = wsum q l + wsum q r := by simp [wsum]
theorem wsum_le {l : List Msg} (h : ∀ x ∈ l, wt q' x ≤ wt q x) : wsum q' l ≤ wsum q l := by
  induction l with
  | nil => exact Nat.le_refl _
  | cons x r ih =>
    rw [wsum_cons, wsum_cons]
    have := h x (List.mem_cons_self ..)
    have := ih (fun y hy => h y (List.mem_cons_of_mem _ hy))
    omega
theorem wsum_bound (q : ND) (l : List Msg) : wsum q l ≤ 5 * l.length := by
  induction l with
  | nil => exact Nat.le_refl _
  | cons x r ih =>
    rw [wsum_cons]
    have := (wt_pos q x).2
    simp; omega
theorem wsum_take (q : ND) (l : List Msg) (k : Nat) : wsum q (l.take k) ≤ wsum q l := by
  have e : wsum q l = wsum q (l.take k) + wsum q (l.drop k) := by rw [← wsum_app, List.take_append_drop]
  omega
theorem gaps_le : ∀ (n : Nat), (∀ j, j < n → j ≠ b → gap q' j ≤ gap q j) → gaps q' b n ≤ gaps q b n
  | 0, _ => Nat.le_refl _
  | n + 1, h => by
    have := gaps_le n (fun j hj => h j (by omega))
    unfold gaps
    split
    · omega
    · next hn => have := h n (by omega) hn; omega
theorem gaps_lt : ∀ (n : Nat), f < n → f ≠ b → gap q' f + 1 ≤ gap q f → (∀ j, j < n → j ≠ b → gap q' j ≤ gap q j) → gaps q' b n + 4 ≤ gaps q b n
  | 0, hf, _, _, _ => by omega
  | n + 1, hf, hb, hg, h => by
    unfold gaps
    by_cases hfn : f = n
    · subst hfn
      have := gaps_le (b := b) (q := q) (q' := q') f (fun j hj => h j (by omega))
      rw [if_neg hb, if_neg hb]
      omega
    · have := gaps_lt n (by omega) hb hg (fun j hj => h j (by omega))
      split
      · omega
      · next hn => have := h n (by omega) hn; omega
theorem gaps_bound (h : ∀ j, gap q j ≤ L) : ∀ n, gaps q b n ≤ n * (4 * L)
  | 0 => Nat.zero_le _
  | n + 1 => by
    have h1 := gaps_bound h n
    have h2 := h n
    have h3 : (n + 1) * (4 * L) = n * (4 * L) + 4 * L := Nat.succ_mul _ _
    rw [h3]
    show gaps q b n + (if n = b then 0 else 4 * gap q n) ≤ _
    split
    · omega
    · omega
theorem gaps_zero (h : ∀ j, j < n → j ≠ b → gap q j = 0) : gaps q b n = 0 := by
  induction n with
  | zero => rfl
  | succ n ih =>
    unfold gaps
    rw [ih (fun j hj => h j (by omega))]
    split
    · rfl
    · next hn => rw [h n (by omega) hn]
end

/-- b has asked in the last epoch. -/
structure Set2 (N b : Nat) (E : Int) (X : Nat → ND) (net : List Msg) : Prop where
  s0 : Set0 N b (E - 1) X net
  top : (X b).st.ep = E
  role : (X b).role = 1 ∨ (X b).role = 2
  votes : ∀ j, j < N → j ≠ b → (X j).st.ep = E → (X j).st.voted = -1 ∨ (X j).st.voted = (b : Int)
  cand : (X b).role = 1 → (b : Int) ∈ (X b).granted.getD [] ∧ 2 * ((X b).granted.getD []).length ≤ N
  last : (X b).role = 2 → lastAt (X b).st.log (X b).st.log.length = E
  acks : (X b).role = 2 → ∀ j, (X b).acked.getD j 0 ≤ (X b).has.getD j 0
  comm : (X b).role = 2 → (X b).mid ≤ ((X b).commit : Int) ∨ (X b).st.last (X b).mid.toNat ≠ E
/-- Node j's vote is on its way. -/
def Vj (b : Nat) (E : Int) (X : Nat → ND) (net : List Msg) (j : Nat) : Prop :=
  (j : Int) ∈ (X b).granted.getD [] ∨ (∃ x ∈ net, x.kind = 1 ∧ x.frm = (b : Int) ∧ x.to = (j : Int) ∧ x.ep = E) ∨ ∃ x ∈ net, x.kind = 2 ∧ x.frm = (j : Int) ∧ x.to = (b : Int) ∧ x.ep = E
/-- Node j's log is on its way. -/
def Fj (b : Nat) (E : Int) (X : Nat → ND) (net : List Msg) (j : Nat) : Prop :=
  (∃ x ∈ net, x.kind = 3 ∧ x.frm = (b : Int) ∧ x.to = (j : Int) ∧ x.ep = E ∧ x.at_ + (x.log.length : Int) = ((X b).st.log.length : Int) ∧ x.at_ ≤ (X b).has.getD j 0) ∨
  (∃ x ∈ net, x.kind = 5 ∧ x.frm = (j : Int) ∧ x.to = (b : Int) ∧ x.ep = E ∧ x.at_ < (X b).has.getD j 0) ∨
  (∃ x ∈ net, x.kind = 4 ∧ x.frm = (j : Int) ∧ x.to = (b : Int) ∧ x.ep = E ∧ x.at_ = ((X b).st.log.length : Int)) ∨
  (X b).acked.getD j 0 = ((X b).st.log.length : Int)
/-- What a message that arrives keeps. -/
structure Keeps (N b : Nat) (E : Int) (L : Nat) (X : Nat → ND) (net : List Msg) (X' : Nat → ND) (net' : List Msg) : Prop where
  set : Set2 N b E X' net'
  less : Phi L N b (X' b) net' + 1 ≤ Phi L N b (X b) net
  vote : (X b).role = 1 → (X' b).role = 1 → ∀ j, j < N → j ≠ b → Vj b E X net j → Vj b E X' net' j
  prim : (X b).role = 2 → (X' b).role = 2 ∧ (X' b).st.log = (X b).st.log ∧ ((X b).commit ≤ (X' b).commit)
  log : (X b).role = 2 → ∀ j, j < N → j ≠ b → Fj b E X net j → Fj b E X' net' j
  up : (X b).role = 2 → ∀ j, (X b).acked.getD j 0 ≤ (X' b).acked.getD j 0
  com : ∀ j, j < N → j ≠ b → (X j).commit ≤ (X' j).commit

section
variable {N T b L : Nat} {E : Int} {X : Nat → ND} {net rest : List Msg} {m : Msg}
theorem Vj.more {X' : Nat → ND} {net' : List Msg} {j : Nat} (h : Vj b E X net j) (hg : ∀ z, z ∈ (X b).granted.getD [] → z ∈ (X' b).granted.getD []) (hn : ∀ x ∈ net, x ∈ net') : Vj b E X' net' j := by
  rcases h with h | ⟨x, hx, h⟩ | ⟨x, hx, h⟩
  · exact Or.inl (hg _ h)
  · exact Or.inr (Or.inl ⟨x, hn x hx, h⟩)
  · exact Or.inr (Or.inr ⟨x, hn x hx, h⟩)
theorem Vj.of {X' : Nat → ND} {net' : List Msg} {j : Nat} (h : Vj b E X (m :: rest) j) (hg : ∀ z, z ∈ (X b).granted.getD [] → z ∈ (X' b).granted.getD []) (hn : ∀ x ∈ rest, x ∈ net')
    (h1 : m.kind = 1 → m.frm = (b : Int) → m.to = (j : Int) → m.ep = E → Vj b E X' net' j) (h2 : m.kind = 2 → m.frm = (j : Int) → m.to = (b : Int) → m.ep = E → Vj b E X' net' j) : Vj b E X' net' j := by
  rcases h with h | ⟨x, hx, k1, k2, k3, k4⟩ | ⟨x, hx, k1, k2, k3, k4⟩
  · exact Or.inl (hg _ h)
  · rcases List.mem_cons.1 hx with e | e
    · subst e; exact h1 k1 k2 k3 k4
    · exact Or.inr (Or.inl ⟨x, hn x e, k1, k2, k3, k4⟩)
  · rcases List.mem_cons.1 hx with e | e
    · subst e; exact h2 k1 k2 k3 k4
    · exact Or.inr (Or.inr ⟨x, hn x e, k1, k2, k3, k4⟩)
theorem Fj.of {X' : Nat → ND} {net' : List Msg} {j : Nat} (h : Fj b E X (m :: rest) j) (hl : (X' b).st.log.length = (X b).st.log.length) (hh : (X b).has.getD j 0 ≤ (X' b).has.getD j 0) (ha : (X b).acked.getD j 0 = ((X b).st.log.length : Int) → (X' b).acked.getD j 0 = ((X b).st.log.length : Int)) (hn : ∀ x ∈ rest, x ∈ net')
    (h3 : m.kind = 3 → m.frm = (b : Int) → m.to = (j : Int) → m.ep = E → m.at_ + (m.log.length : Int) = ((X b).st.log.length : Int) → m.at_ ≤ (X b).has.getD j 0 → Fj b E X' net' j)
    (h5 : m.kind = 5 → m.frm = (j : Int) → m.to = (b : Int) → m.ep = E → m.at_ < (X b).has.getD j 0 → Fj b E X' net' j)
    (h4 : m.kind = 4 → m.frm = (j : Int) → m.to = (b : Int) → m.ep = E → m.at_ = ((X b).st.log.length : Int) → Fj b E X' net' j) : Fj b E X' net' j := by
  rcases h with ⟨x, hx, k1, k2, k3, k4, k5, k6⟩ | ⟨x, hx, k1, k2, k3, k4, k5⟩ | ⟨x, hx, k1, k2, k3, k4, k5⟩ | h
  · rcases List.mem_cons.1 hx with e | e
    · subst e; exact h3 k1 k2 k3 k4 k5 k6
    · exact Or.inl ⟨x, hn x e, k1, k2, k3, k4, by rw [hl]; exact k5, by omega⟩
  · rcases List.mem_cons.1 hx with e | e
    · subst e; exact h5 k1 k2 k3 k4 k5
    · exact Or.inr (Or.inl ⟨x, hn x e, k1, k2, k3, k4, by omega⟩)
  · rcases List.mem_cons.1 hx with e | e
    · subst e; exact h4 k1 k2 k3 k4 k5
    · exact Or.inr (Or.inr (Or.inl ⟨x, hn x e, k1, k2, k3, k4, by rw [hl]; exact k5⟩))
  · exact Or.inr (Or.inr (Or.inr (by rw [hl]; exact ha h)))

/-- A standby is asked. -/
theorem Set2.standby (h : Set2 N b E X (m :: rest)) (hF : Facts N T X (m :: rest)) (hX : Extra N b X (m :: rest)) (hT : T ≤ 2048) (hb : b < N) (hrest : rest.length ≤ 299) (d1 : m.frm = (b : Int)) (d2 : m.kind = 1 ∨ m.kind = 3) :
    Keeps N b E L X (m :: rest) (upd X m.to.toNat ((X m.to.toNat).step m).1.q) (rest ++ ((X m.to.toNat).step m).1.ms.take (300 - rest.length)) := by
  have hs0 := h.s0.recv (cap := 300 - rest.length) hF hT hb
  obtain ⟨f, k, e1, e2, e3, e4, e5⟩ := hF.ends m (List.mem_cons_self ..)
  have hr := hF.right m (List.mem_cons_self ..)
  have ek : m.to.toNat = k := by omega
  rw [ek] at hs0 ⊢
  have hid := hF.id k e4
  have hn := hF.n k e4
  have hlen := hF.len k e4
  have hto : m.to = ((X k).id : Int) := by rw [hid]; exact e2
  have hfr : m.frm ≠ ((X k).id : Int) := by rw [hid, e1]; omega
  have hfn : m.frm < ((X k).n : Int) := by rw [hn, e1]; omega
  have hkb : k ≠ b := by omega
  have hst := h.s0.stand k e4 hkb
  have hJ := atJ hr hst (by omega) hto hfr hfn d2
  have hvo := stepJ_voted hr hst (by omega) hto hfr hfn d2
  have hepk : (X k).st.ep ≤ E := by have := h.s0.ep k e4; rw [h.top] at this; omega
  have hmE : m.ep ≤ E := by have := h.s0.mep m (List.mem_cons_self ..); rw [h.top] at this; omega
  have hlb := hF.len b hb
  have sure : (X b).role = 2 → m.kind = 3 → m.ep = E → m.at_ ≤ (X b).acked.getD k 0 → ((X k).step m).1.ms = [⟨4, ((X k).id : Int), m.frm, m.ep, m.at_ + (m.log.length : Int), 0, 0, []⟩] := fun hr2 hk he ha => by
    obtain ⟨a, s1, s2, s3⟩ := h.s0.seg m (List.mem_cons_self ..) hk
    have hag := hX.agree hr2 k e4 hkb (by rw [h.top]; exact hepk)
    have hl := hX.ship hr2 m (List.mem_cons_self ..) hk d1 (by rw [h.top]; exact he)
    have hag2 := hag.le (show a ≤ ((X b).acked.getD k 0).toNat by omega)
    have h5 := hag2.len (by omega)
    refine (stepJ_ack hr hst hto hfr hfn hk (by omega) (by omega) (by omega) ?_ (by omega)).1
    rw [hl, s1, Int.toNat_natCast]
    exact lastAt_agree hag2
  have hco := stepJ_commit hr hst (by omega) hto hfr hfn d2
  obtain ⟨c, hc⟩ : ∃ c, (X k).step m = c := ⟨_, rfl⟩
  have tk : c.1.ms.take (300 - rest.length) = c.1.ms := List.take_of_length_le (by
    rw [← hc]
    rcases hJ.ms with e | ⟨r, e, _⟩
    · rw [e]; simp
    · rw [e]; simp; omega)
  rw [hc] at hs0 hJ hvo sure hco ⊢
  rw [tk] at hs0 ⊢
  have hXb : upd X k c.1.q b = X b := upd_ne _ _ _ (Ne.symm hkb)
  have hle : wsum (X b) c.1.ms + 1 ≤ wt (X b) m := by
    have hw : wt (X b) m = 5 ∨ wt (X b) m = 2 ∧ (X b).role = 2 ∧ m.kind = 3 ∧ m.ep = E ∧ m.at_ ≤ (X b).acked.getD k 0 := by
      unfold wt
      rcases d2 with d2 | d2
      · rw [if_pos d2]; exact Or.inl rfl
      · rw [if_neg (by omega), if_pos d2]
        split
        · next hh => rw [ek] at hh; exact Or.inr ⟨rfl, hh.1, d2, by rw [hh.2.1]; exact h.top, hh.2.2⟩
        · exact Or.inl rfl
    rcases hw with hw | ⟨hw, w1, w2, w3, w4⟩
    · rw [hw]
      rcases hJ.ms with e | ⟨r, e, _, _, hk, _⟩
      · rw [e, wsum_nil]; omega
      · rw [e, wsum_cons, wsum_nil]
        unfold wt
        rw [if_neg (by omega), if_neg (by omega)]
        split <;> omega
    · rw [hw, sure w1 w2 w3 w4, wsum_cons, wsum_nil, wt_small _ (Or.inr rfl)]
      omega
  refine ⟨⟨hs0, by rw [hXb]; exact h.top, by rw [hXb]; exact h.role, fun j hj hne hE => ?_, by rw [hXb]; exact h.cand, by rw [hXb]; exact h.last, by rw [hXb]; exact h.acks, by rw [hXb]; exact h.comm⟩, ?_, fun hr1 _ j hj hjb hv => ?_, fun hr2 => by rw [hXb]; exact ⟨hr2, rfl, Nat.le_refl _⟩, fun hr2 j hj hjb hf => ?_, fun _ j => by rw [hXb]; exact Int.le_refl _, fun j hj hjb => ?_⟩
  · by_cases hjk : j = k
    · subst hjk
      rw [upd_self] at hE ⊢
      rcases hvo with e | e | ⟨ea, eb⟩
      · exact Or.inl e
      · exact Or.inr (e.trans d1)
      · rw [ea]; exact h.votes j hj hne (by rw [← eb]; exact hE)
    · rw [upd_ne _ _ _ hjk] at hE ⊢
      exact h.votes j hj hne hE
  · rw [hXb]
    unfold Phi
    rw [wsum_app, wsum_cons]
    omega
  · refine hv.of (fun z hz => by rw [hXb]; exact hz) (fun x hx => List.mem_append.2 (Or.inl hx)) (fun hk hfb htj hE => ?_) (fun hk => by omega)
    obtain rfl : j = k := by omega
    obtain ⟨a1, a2⟩ := hX.ask hr1 m (List.mem_cons_self ..) hk d1 (by rw [h.top]; exact hE)
    have hnew := h.s0.new j hj hjb
    have hgr := stepJ_ask hr hst hto hfr hfn hk (by omega) (by
      rcases hnew with e | ⟨ea, eb⟩
      · exact Or.inl (by rw [a2]; exact e)
      · exact Or.inr ⟨by rw [a2]; exact ea, by rw [a1]; omega⟩) (fun he => by rw [d1]; exact h.votes j hj hjb (by omega))
    rw [hc] at hgr
    have hmem : (⟨2, ((X j).id : Int), m.frm, m.ep, 0, 0, 0, []⟩ : Msg) ∈ rest ++ c.1.ms := List.mem_append.2 (Or.inr (by rw [hgr]; exact List.mem_cons_self ..))
    exact Or.inr (Or.inr ⟨_, hmem, rfl, by show ((X j).id : Int) = _; rw [hid], by show m.frm = _; exact d1, hE⟩)
  · refine hf.of (by rw [hXb]) (by rw [hXb]; exact Int.le_refl _) (fun e => by rw [hXb]; exact e) (fun x hx => List.mem_append.2 (Or.inl hx)) (fun hk hfb htj hE hal hah => ?_) (fun hk => by omega) (fun hk => by omega)
    obtain rfl : j = k := by omega
    obtain ⟨a, s1, s2, s3⟩ := h.s0.seg m (List.mem_cons_self ..) hk
    have hl := hX.ship hr2 m (List.mem_cons_self ..) hk d1 (by rw [h.top]; exact hE)
    by_cases hrej : ((X j).st.log.length : Int) < m.at_ ∨ lastAt (X j).st.log m.at_.toNat ≠ m.last
    · have hn2 := stepJ_nack hr hst hto hfr hfn hk (by omega) hrej
      rw [hc] at hn2
      have ha1 : 1 ≤ m.at_ := by
        refine Classical.byContradiction (fun e => ?_)
        have e0 : m.at_ = 0 := by omega
        rcases hrej with h6 | h6
        · omega
        · exact h6 (by rw [hl, e0]; rfl)
      have hmem : (⟨5, ((X j).id : Int), m.frm, m.ep, max 0 (min ((X j).st.log.length : Int) (m.at_ - 1)), 0, 0, []⟩ : Msg) ∈ rest ++ c.1.ms := List.mem_append.2 (Or.inr (by rw [hn2]; exact List.mem_cons_self ..))
      refine Or.inr (Or.inl ⟨_, hmem, rfl, by show ((X j).id : Int) = _; rw [hid], by show m.frm = _; exact d1, hE, ?_⟩)
      rw [hXb]
      show max 0 (min ((X j).st.log.length : Int) (m.at_ - 1)) < _
      omega
    · have hn2 := (stepJ_ack hr hst hto hfr hfn hk (by omega) (by omega) (fun e => hrej (Or.inl e)) (Classical.byContradiction fun e => hrej (Or.inr e)) (by omega)).1
      rw [hc] at hn2
      have hmem : (⟨4, ((X j).id : Int), m.frm, m.ep, m.at_ + (m.log.length : Int), 0, 0, []⟩ : Msg) ∈ rest ++ c.1.ms := List.mem_append.2 (Or.inr (by rw [hn2]; exact List.mem_cons_self ..))
      refine Or.inr (Or.inr (Or.inl ⟨_, hmem, rfl, by show ((X j).id : Int) = _; rw [hid], by show m.frm = _; exact d1, hE, ?_⟩))
      rw [hXb]
      exact hal
  · by_cases hjk : j = k
    · subst hjk; rw [upd_self]; exact hco
    · rw [upd_ne _ _ _ hjk]; exact Nat.le_refl _
end
end Go.Proofs.Ytlgoenimjmiapaa
