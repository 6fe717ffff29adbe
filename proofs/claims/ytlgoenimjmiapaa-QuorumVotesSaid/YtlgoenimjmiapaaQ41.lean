import Derived.Test.YtlgoenimjmiapaaQ40
import Derived.Test.YtlgoenimjmiapaaQ14
/-! QuorumVotes, walked. -/
set_option linter.unusedVariables false
namespace Go.Proofs.Ytlgoenimjmiapaa
open Go.RowKit Go.Maps

def vq1 (E a : Int) : ND := ⟨⟨E, a, []⟩, 0, 3, 0, 0, none, [], []⟩
def vask (E a : Int) : Msg := ⟨1, a, 0, E, 0, 0, 0, []⟩
def vold (E b : Int) : Msg := ⟨3, b, 0, E - 1, 0, 0, 0, [⟨1, [111, 108, 100]⟩]⟩

theorem v1 {E a : Int} (hE : 0 < E ∧ E ≤ 1099511627776) (ha : a = 1 ∨ a = 2) : ∃ ns, (kq0.front (vask E a)).asked (vask E a) = ⟨vq1 E a, ns, [⟨2, 0, a, E, 0, 0, 0, []⟩]⟩ := by
  have e1 : kq0.front (vask E a) = ⟨⟨⟨E, -1, []⟩, 0, 3, 0, 0, none, [], []⟩, [⟨1, E, -1, ⟨0, []⟩⟩], []⟩ := by
    unfold ND.front
    rw [if_pos (show kq0.st.ep < (vask E a).ep from hE.1)]
    have hn := note_vote (s := kq0.st) (t := ⟨1, E, -1, ⟨0, []⟩⟩) rfl (vote_right E (-1) (by omega) hE.2 (by omega) (by omega)) hE.1
    unfold NS.role0 NS.note
    simp only
    rw [show kq0.st.note ⟨1, (vask E a).ep, -1, ⟨0, []⟩⟩ = _ from hn]
    rfl
  rw [e1]
  unfold NS.asked
  have hnw : ND.newer ⟨⟨E, -1, []⟩, 0, 3, 0, 0, none, [], []⟩ (vask E a) = true := by
    simp [ND.newer, vask, St.last]
  simp only [hnw]
  rw [if_neg (by decide), if_pos trivial]
  have hn : St.note ⟨E, -1, []⟩ ⟨1, E, a, ⟨0, []⟩⟩ = some ⟨E, a, []⟩ := by
    unfold St.note
    rw [vote_right E a (by omega) hE.2 (by omega) (by omega)]
    simp
  unfold NS.sent NS.note
  simp only
  rw [show St.note ⟨E, -1, []⟩ ⟨1, E, (vask E a).frm, ⟨0, []⟩⟩ = _ from hn]
  exact ⟨_, rfl⟩
theorem v2 {E a b : Int} (ha : a = 1 ∨ a = 2) : ∃ ns ms, ((vq1 E a).front (vask E b)).asked (vask E b) = ⟨vq1 E a, ns, ms⟩ ∧ ms.length = if a = b then 1 else 0 := by
  have e1 : (vq1 E a).front (vask E b) = ⟨vq1 E a, [], []⟩ := by
    unfold ND.front
    rw [if_neg (show ¬ (vq1 E a).st.ep < (vask E b).ep from Int.lt_irrefl _)]
  rw [e1]
  unfold NS.asked
  have hnw : ND.newer (vq1 E a) (vask E b) = true := by
    simp [ND.newer, vask, St.last, vq1]
  simp only [hnw]
  rw [if_neg (by decide), if_neg (show ¬ (vq1 E a).st.voted = -1 by show ¬ a = -1; omega)]
  by_cases hab : a = b
  · rw [if_pos (show (vq1 E a).st.voted = (vask E b).frm from hab), if_pos hab]
    exact ⟨_, _, rfl, rfl⟩
  · rw [if_neg (show ¬ (vq1 E a).st.voted = (vask E b).frm from hab), if_neg hab]
    exact ⟨_, _, rfl, rfl⟩
theorem vask_right {E a : Int} (hE : 0 < E ∧ E ≤ 1099511627776) (ha : a = 1 ∨ a = 2) : (vask E a).right = true := by
  rcases ha with rfl | rfl
  all_goals
    simp [Msg.right, vask, idB, Msg.nums, Msg.shape, inB]
    exact ⟨decide_eq_true (by omega), decide_eq_true (by omega)⟩
theorem vold_right {E b : Int} (hE : 0 < E ∧ E ≤ 1099511627776) (hb : b = 1 ∨ b = 2) : (vold E b).right = true := by
  rcases hb with rfl | rfl
  all_goals
    simp [Msg.right, vold, idB, Msg.nums, Msg.shape, inB, Ent.right]
    first | exact ⟨by omega, decide_eq_true (by omega)⟩ | exact ⟨by omega, by omega⟩ | omega
theorem vfit {E a : Int} (hE : 0 < E) : (vq1 E a).Fit := ⟨by show 0 < 3; decide, by show 3 ≤ 7; decide, by show 0 < 3; decide, by show (0 : Nat) ≤ _; decide, by show 0 ≤ E; omega, Or.inl rfl, fun h => absurd rfl h, fun h => by cases h⟩

/-- A cell outside the node's blocks. -/
def Safe (x : Nat) (W : World) (V : NV) (k i : Nat) (u : Value) : Prop := W.cell? ⟨k, i, none⟩ = some u ∧ ¬ V.own x k
theorem Safe.next {x k i : Nat} {W W' : World} {V V' : NV} {u : Value} (h : Safe x W V k i u) (n : Next (V.own x) W (V'.own x) W') : Safe x W' V' k i u := by
  refine ⟨n.out.cell h.1 h.2, fun e => ?_⟩
  rcases n.sub k e with e | e
  · exact h.2 e
  · have := lt_of_cell h.1; omega
theorem Safe.any {x k i : Nat} {W W' : World} {V : NV} {u : Value} (h : Safe x W V k i u) (ho : Out Zone.no W W') : Safe x W' V k i u := ⟨ho.cell h.1 id, h.2⟩

section
variable {w w' : World} {x : Nat} {c c' : NS} {V : NV}
/-- The first message handed out, in its cells. -/
theorem Handed.first {v : Value} (h : Handed w x V c v w') {m : Msg} (hm : c.ms = [m]) : ∃ A1 c1 g c2 V', v = .agg #[.slice A1 c.ns.length c1, .slice (some ⟨g, 0, none⟩) 1 c2] ∧ NAt w' x ⟨c.q, [], []⟩ V' ∧ Next (V.own x) w (V'.own x) w' ∧ Safe x w' V' g 0 (.int .i64 m.kind) ∧ Safe x w' V' g 3 (.int .i64 m.ep) := by
  obtain ⟨A1, c1, A2, c2, ss, V', rfl, h1, h2, h3, h4⟩ := h.open
  rw [hm] at h1 h2 ⊢
  obtain ⟨p, rfl⟩ : ∃ p, ss = [p] := by
    cases ss with
    | nil => cases h1
    | cons p r =>
      cases r with
      | nil => exact ⟨p, rfl⟩
      | cons y r => cases h1
  obtain rfl : p.1 = m := by injection h1
  have hs := h2.send
  obtain ⟨g, cap, hv, k0⟩ := GRow.cell hs (show (encM [p])[0]? = some (.int .i64 p.1.kind) from rfl)
  obtain ⟨g', cap', hv', k3⟩ := GRow.cell hs (show (encM [p])[3]? = some (.int .i64 p.1.ep) from rfl)
  rw [hv] at hv'
  have e : g = g' := by injection hv' with e _ _; injection e with e; injection e
  subst e
  have hbs := h2.bs g (by rw [hv]; rfl)
  have hA : A2 = some ⟨g, 0, none⟩ := by injection hv
  subst hA
  exact ⟨A1, c1, g, c2, V', rfl, h3, h4, ⟨k0, hbs⟩, ⟨k3, hbs⟩⟩
end
end Go.Proofs.Ytlgoenimjmiapaa
