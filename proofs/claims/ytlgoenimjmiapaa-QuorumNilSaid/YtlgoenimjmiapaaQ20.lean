import Derived.Test.YtlgoenimjmiapaaQ19
import Derived.Test.YtlgoenimjmiapaaL0
import Derived.Sort.OwnSortedInts
/-! slices.Sort at ints; rise. -/
set_option linter.unusedVariables false
namespace Go.Proofs.Ytlgoenimjmiapaa
open Go.RowKit Go.Maps Go.Sort

def sortI (l : List Int) : List Int := l.mergeSort fun x y => decide (x ≤ y)
theorem sortI_length (l : List Int) : (sortI l).length = l.length := by simp [sortI]

theorem ints_holds {w : World} {g c : Nat} {cur : Array Value} {l : List Int} (hh : w.heap[g]? = some (.cells cur 3 (0, 0))) (ht : cur.toList.take (l.length * 1) = ints l) : Holds (Value.int .i64) w g 0 l.toArray := by
  intro j hj
  have hj' : j < l.length := by simpa using hj
  refine ⟨?_, frozen_all hh _⟩
  rw [cells_all hh, Nat.zero_add]
  have h1 : (cur.toList.take (l.length * 1))[j]? = (ints l)[j]? := by rw [ht]
  rw [List.getElem?_take_of_lt (by omega), Array.getElem?_toList] at h1
  rw [h1]
  simp [ints, hj']

theorem sort_is {w : World} {v : Value} {l : List Int} (h : GR w 3 1 v l.length (ints l)) (hl : l.length ≤ 1000) (hp : 0 < l.length) :
    Calls Try.prog 55 #[v] w fun e w' => e = .returned (.tuple #[]) ∧ GR w' 3 1 v l.length (ints (sortI l)) ∧ Out (Zone.m fun k => v.ownBlock = some k) w w' := by
  rcases h.2 with ⟨_, h0⟩ | ⟨g, cap, cur, hv, hm, hh, h1, h2, h3, h4⟩
  · omega
  subst hv
  refine (AnyM.slices_Sort_int Try.sortA g 0 cap l w (ints_holds (c := cap) hh h4) (heap_lt hh) (by omega)).mono ?_
  rintro e w' ⟨rfl, n, os, rfl⟩
  refine ⟨rfl, ⟨by rw [ints_length, sortI_length], Or.inr ⟨g, cap, _, rfl, trivial, heap_sortedI _ hh, h1, h2, ?_, ?_⟩⟩, (Out.refl _ _).grown (grownBy_sortedI _) (fun k hk => ?_)⟩
  · simpa [putCells] using h3
  · have := take_putCellsI cur (sortI l) (by rw [sortI_length]; omega)
    rw [sortI_length] at this
    rw [Nat.mul_one]
    exact this
  · injection hk with hk
    subst hk
    exact Or.inl rfl

/-- To what more than half have. -/
def ND.mid (q : ND) : Int := (sortI (q.acked.set q.id (q.st.log.length : Int))).getD (q.n / 2) 0
def ND.risen (q : ND) : ND := if (q.commit : Int) < q.mid ∧ q.st.last q.mid.toNat = q.st.ep then { q with commit := q.mid.toNat } else q
end Go.Proofs.Ytlgoenimjmiapaa
