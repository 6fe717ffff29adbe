import Derived.Test.YtlgoenimjmiapaaQ38
/-! The document's first days of a node, plain: promoted, granted, an entry, acknowledged. -/
set_option linter.unusedVariables false
namespace Go.Proofs.Ytlgoenimjmiapaa
open Go.RowKit Go.Maps

def kq0 : ND := newND ⟨0, -1, []⟩ 0 3
def kq1 : ND := ⟨⟨1, 0, []⟩, 0, 3, 1, 0, some [0], [], []⟩
def kq2 : ND := ⟨⟨1, 0, [⟨1, []⟩]⟩, 0, 3, 2, 0, some [0, 2], [0, 0, 0], [0, 0, 0]⟩
def kq3 : ND := ⟨⟨1, 0, [⟨1, []⟩, ⟨1, [97]⟩]⟩, 0, 3, 2, 0, some [0, 2], [0, 0, 0], [0, 0, 0]⟩
def kq4 : ND := ⟨⟨1, 0, [⟨1, []⟩, ⟨1, [97]⟩]⟩, 0, 3, 2, 2, some [0, 2], [0, 2, 0], [0, 2, 0]⟩
def kgrant : Msg := ⟨2, 2, 0, 1, 0, 0, 0, []⟩
def kack : Msg := ⟨4, 1, 0, 1, 2, 0, 0, []⟩

theorem sort3 (a : Int) (h : 0 ≤ a) : (sortI [a, 0, 0]).getD 1 0 = 0 := by
  unfold sortI
  by_cases h0 : a = 0
  · subst h0; simp [List.mergeSort, List.MergeSort.Internal.splitInTwo, List.splitAt, List.splitAt.go, List.merge]
  · have : ¬ a ≤ 0 := by omega
    simp [List.mergeSort, List.MergeSort.Internal.splitInTwo, List.splitAt, List.splitAt.go, List.merge, this, h]
theorem sort220 : (sortI [2, 2, 0]).getD 1 0 = 2 := by
  unfold sortI
  simp [List.mergeSort, List.MergeSort.Internal.splitInTwo, List.splitAt, List.splitAt.go, List.merge]

theorem ns_ex (c : NS) {q : ND} (h : c.q = q) : ∃ ns ms, c = ⟨q, ns, ms⟩ := ⟨c.ns, c.ms, by cases c; cases h; rfl⟩
theorem k1 : ∃ ns ms, kq0.promote = (⟨kq1, ns, ms⟩, 0) ∧ ms.length = 2 := by
  refine ⟨_, _, rfl, ?_⟩
  decide
theorem kgrant_right : kgrant.right = true := by decide
theorem kack_right : kack.right = true := by decide
theorem k2 : ∃ ns ms, (kq1.front kgrant).grants kgrant = ⟨kq2, ns, ms⟩ := by
  have e : kq1.front kgrant = ⟨kq1, [], []⟩ := rfl
  rw [e]
  have h1 : (NS.grants ⟨kq1, [], []⟩ kgrant) = (((((NS.vote ⟨kq1, [], []⟩ 2).lead.note ⟨3, 0, 0, ⟨1, []⟩⟩).ships).rise)) := rfl
  rw [h1]
  have h2 : ((NS.vote ⟨kq1, [], []⟩ 2).lead.note ⟨3, 0, 0, ⟨1, []⟩⟩).q = kq2 := rfl
  have h3 : (((NS.vote ⟨kq1, [], []⟩ 2).lead.note ⟨3, 0, 0, ⟨1, []⟩⟩).ships).q.risen = kq2 := by
    show ND.risen kq2 = kq2
    unfold ND.risen
    have : kq2.mid = 0 := sort3 1 (by omega)
    rw [this]
    rfl
  exact ns_ex _ h3
theorem k3 : ∃ ns ms, kq2.append [97] = (⟨kq3, ns, ms⟩, 2, 0) := by
  have h1 : kq2.append [97] = (((NS.note ⟨kq2, [], []⟩ ⟨3, 0, 0, ⟨1, [97]⟩⟩).ships).rise, ((((NS.note ⟨kq2, [], []⟩ ⟨3, 0, 0, ⟨1, [97]⟩⟩).ships).rise).q.st.log.length : Int), 0) := rfl
  rw [h1]
  have h3 : ((NS.note ⟨kq2, [], []⟩ ⟨3, 0, 0, ⟨1, [97]⟩⟩).ships).q.risen = kq3 := by
    show ND.risen kq3 = kq3
    unfold ND.risen
    have : kq3.mid = 0 := sort3 2 (by omega)
    rw [this]
    rfl
  obtain ⟨ns, ms, e⟩ := ns_ex (((NS.note ⟨kq2, [], []⟩ ⟨3, 0, 0, ⟨1, [97]⟩⟩).ships).rise) h3
  rw [e]
  exact ⟨ns, ms, rfl⟩
theorem k4 : ∃ ns ms, (kq3.front kack).acks kack = ⟨kq4, ns, ms⟩ := by
  have e : kq3.front kack = ⟨kq3, [], []⟩ := rfl
  rw [e]
  have h1 : NS.acks ⟨kq3, [], []⟩ kack = ((NS.setAcked ⟨kq3, [], []⟩ 1 2).setHas 1 2).rise := rfl
  rw [h1]
  have h3 : ((NS.setAcked ⟨kq3, [], []⟩ 1 2).setHas 1 2).q.risen = kq4 := by
    show ND.risen ⟨⟨1, 0, [⟨1, []⟩, ⟨1, [97]⟩]⟩, 0, 3, 2, 0, some [0, 2], [0, 2, 0], [0, 2, 0]⟩ = kq4
    unfold ND.risen
    have : ND.mid ⟨⟨1, 0, [⟨1, []⟩, ⟨1, [97]⟩]⟩, 0, 3, 2, 0, some [0, 2], [0, 2, 0], [0, 2, 0]⟩ = 2 := sort220
    rw [this]
    rfl
  exact ns_ex _ h3
theorem fit0 : kq0.Fit := ⟨by decide, by decide, by decide, by decide, by decide, by decide, fun h => absurd rfl h, fun h => by cases h⟩
theorem fit1 : kq1.Fit := ⟨by decide, by decide, by decide, by decide, by decide, by decide, fun h => ⟨[0], rfl, by decide, by decide⟩, fun h => by cases h⟩
theorem fit2 : kq2.Fit := ⟨by decide, by decide, by decide, by decide, by decide, by decide, fun h => ⟨[0, 2], rfl, by decide, by decide⟩, fun h => by decide⟩
theorem fit3 : kq3.Fit := ⟨by decide, by decide, by decide, by decide, by decide, by decide, fun h => ⟨[0, 2], rfl, by decide, by decide⟩, fun h => by decide⟩
theorem good0 : St.Good ⟨0, -1, []⟩ := ⟨by decide, by decide, by decide, by decide, fun i x y h => by cases h⟩
theorem fits_nil : Fits ([] : List Ent) := fun x h => by cases h
end Go.Proofs.Ytlgoenimjmiapaa
