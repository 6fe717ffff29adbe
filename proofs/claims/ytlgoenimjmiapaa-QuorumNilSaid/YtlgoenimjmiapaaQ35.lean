import Derived.Test.YtlgoenimjmiapaaQ34
/-! What stays fit. -/
set_option linter.unusedVariables false
namespace Go.Proofs.Ytlgoenimjmiapaa
open Go.RowKit Go.Maps

theorem note_vote {s : St} {t : Nt} (h : t.kind = 1) (hr : t.right = true) (hep : s.ep < t.ep) : s.note t = some { s with ep := t.ep, voted := t.n } := by
  unfold St.note
  rw [hr, h]
  simp only [if_true, Bool.true_eq_false, if_false]
  rw [if_neg]
  rintro (e | e)
  · omega
  · omega
theorem vote_right (ep n : Int) (h1 : 0 ≤ ep) (h2 : ep ≤ 1099511627776) (h3 : -1 ≤ n) (h4 : n ≤ 6) : (Nt.right ⟨1, ep, n, ⟨0, []⟩⟩) = true := by
  unfold Nt.right
  simp [inB]
  omega

theorem right_ep {m : Msg} (h : m.right = true) : 0 ≤ m.ep ∧ m.ep ≤ 1099511627776 := by
  simp [Msg.right, Msg.nums, inB] at h
  omega
theorem right_at {m : Msg} (h : m.right = true) : 0 ≤ m.at_ ∧ m.at_ ≤ 1099511627776 := by
  simp [Msg.right, Msg.nums, inB] at h
  omega
theorem right_frm {m : Msg} (h : m.right = true) : 0 ≤ m.frm ∧ m.frm ≤ 6 := by
  simp [Msg.right, idB] at h
  omega
theorem right_kind {m : Msg} (h : m.right = true) : 1 ≤ m.kind ∧ m.kind ≤ 5 := by
  simp [Msg.right] at h
  omega

/-- The node behind the message's epoch. -/
theorem front_is {q : ND} {m : Msg} (hr : m.right = true) : (q.front m).q = (if q.st.ep < m.ep then { q with st := { q.st with ep := m.ep, voted := -1 }, role := 0 } else q) ∧ (q.front m).ns.length ≤ 1 ∧ (q.front m).ms = [] := by
  unfold ND.front
  by_cases h : q.st.ep < m.ep
  · rw [if_pos h, if_pos h]
    have := right_ep hr
    have hn := note_vote (s := q.st) (t := ⟨1, m.ep, -1, ⟨0, []⟩⟩) rfl (vote_right m.ep (-1) this.1 this.2 (by omega) (by omega)) h
    refine ⟨?_, by simp [NS.note, NS.role0], rfl⟩
    unfold NS.role0 NS.note
    simp only
    rw [hn]
    rfl
  · rw [if_neg h, if_neg h]
    exact ⟨rfl, by simp, rfl⟩
theorem front_fit {q : ND} {m : Msg} (hf : q.Fit) (hr : m.right = true) : (q.front m).q.Fit := by
  rw [(front_is hr).1]
  by_cases h : q.st.ep < m.ep
  · rw [if_pos h]
    have := right_ep hr
    exact ⟨hf.n0, hf.n7, hf.ids, hf.log, this.1, Or.inl rfl, fun e => absurd rfl e, fun e => by cases e⟩
  · rw [if_neg h]; exact hf
theorem front_ep {q : ND} {m : Msg} (hr : m.right = true) (h : ¬ m.ep < q.st.ep) : ¬ m.ep < (q.front m).q.st.ep := by
  rw [(front_is hr).1]
  by_cases h2 : q.st.ep < m.ep
  · rw [if_pos h2]; exact Int.lt_irrefl _
  · rw [if_neg h2]; exact h
theorem front_id {q : ND} {m : Msg} (hr : m.right = true) : (q.front m).q.id = q.id ∧ (q.front m).q.n = q.n ∧ (q.front m).q.st.log = q.st.log := by
  rw [(front_is hr).1]
  by_cases h2 : q.st.ep < m.ep
  · rw [if_pos h2]; exact ⟨rfl, rfl, rfl⟩
  · rw [if_neg h2]; exact ⟨rfl, rfl, rfl⟩
end Go.Proofs.Ytlgoenimjmiapaa
