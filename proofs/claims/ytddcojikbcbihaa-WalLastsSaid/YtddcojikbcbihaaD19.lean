import Derived.Test.YtddcojikbcbihaaD12
/-! The law's block: 512 bytes, mostly. -/
set_option linter.unusedVariables false
namespace Go.Proofs.Ytddcojikbcbihaa
open Go.RowKit

theorem row_block' {Z : Zone} {w : World} {g : Nat} {cs : List Value} {t : TypeId} {fr : Nat × Nat} (h : w.heap[g]? = some (.cells cs.toArray t fr)) (hg : ¬ Z.T g) (hl : cs.length ≤ maxLen) : Row Z w (.slice (some ⟨g, 0, none⟩) cs.length cs.length) cs :=
  ⟨some ⟨g, 0, none⟩, cs.length, rfl, Nat.le_refl _, hl, fun j u hu => ⟨_, rfl, hg, by rw [addr0_add, cell_of_row w g j _ _ _ h]; simpa using hu⟩⟩
theorem addr0_slice (g k : Nat) : (⟨g, 0, none⟩ : Addr).add k = ⟨g, k, none⟩ := by rw [addr0_add]

theorem length_zeros : DS.zeros.length = 512 := List.length_replicate

/-- What block makes of an operation. -/
def page512 (B : List UInt8) : List UInt8 := splice (splice (DS.zeros) 0 (B.take 512)) 300 (B.take 212)
def blockOf (torn : Bool) (B : List UInt8) : List UInt8 := if torn then B else page512 B

theorem length_page512 (B : List UInt8) : (page512 B).length = 512 := by
  unfold page512
  have h1 : (splice (DS.zeros) 0 (B.take 512)).length = 512 := by
    rw [length_splice _ _ _ (by rw [length_zeros, List.length_take]; omega), length_zeros]
  rw [length_splice _ _ _ (by rw [h1, List.length_take]; omega), h1]

theorem bytes_splice (L M : List UInt8) (k : Nat) : splice (bytes L) k (bytes M) = bytes (splice L k M) := by
  simp [splice, bytes]

theorem rep_bytes (n : Nat) : rep (.int .u8 255) (.int .u8 0) 0 n = bytes (List.replicate n 0) := by
  simp [rep, bytes]

theorem bytes_one' (L : List UInt8) : ∀ v ∈ bytes L, v.oneCell' = true := by
  intro v hv
  simp only [bytes, List.mem_map] at hv
  obtain ⟨u, _, rfl⟩ := hv
  rfl

theorem row_take {Z : Zone} {w w' : World} {A : Option Addr} {n c : Nat} {L : List UInt8} (h : Row Z w (.slice A n c) (bytes L)) (ho : Out Z w w') (m : Nat) :
    0 < (bytes (L.take m)).length → ∃ ad, A = some ad ∧ ∀ j v, (bytes (L.take m))[j]? = some v → w'.cell? (ad.add j) = some v := by
  obtain ⟨A', c', hv, h1, h2, h3⟩ := h
  injection hv with e1 e2 e3
  subst e1
  intro hp
  have hl : 0 < (bytes L).length := by
    rw [length_bytes] at hp ⊢
    rw [List.length_take] at hp
    omega
  obtain ⟨ad, ha, hb, _⟩ := h3 0 (bytes L)[0] (List.getElem?_eq_getElem hl)
  refine ⟨ad, ha, fun j v hj => ?_⟩
  have hj2 : (bytes L)[j]? = some v := by
    rw [bytes, List.map_take, List.getElem?_take] at hj
    split at hj
    · exact hj
    · cases hj
  obtain ⟨ad', ha', hb', hc⟩ := h3 j v hj2
  rw [ha] at ha'
  cases ha'
  exact ho.cell hc (by rw [addr_add_block]; exact fun e => hb' (Z.sub _ e))

theorem Out.above {Z : Zone} {H : Nat} {a b c : World} (h : Out Z a b) (k : Below H b c) (hH : a.heap.size ≤ H) : Out Z a c :=
  ⟨k.os.trans h.os, k.tape.trans h.tape, k.output.trans h.output, Nat.le_trans h.size k.size, fun i hi ho => (k.block i (Nat.lt_of_lt_of_le hi hH)).trans (h.block i hi ho)⟩

section
variable {Z : Zone} {w : World}

set_option maxRecDepth 100000 in
set_option maxHeartbeats 1000000 in
theorem block_is (k n : Value) (v : Value) (B : List UInt8) (h : Row Z w v (bytes B)) (hhi : Z.Top w) (torn : Bool) (f : Value) :
    Calls Try.prog 21 #[.agg #[k, n, v, .bool torn, f]] w fun e w' => ∃ v', e = .returned v' ∧ Row Z w' v' (bytes (blockOf torn B)) ∧ Out Zone.no w w' := by
  obtain ⟨A, c, rfl, hc, hcm⟩ := h.form
  cases torn with
  | true =>
    have HR := Lib.hid h
    clear h hcm
    go_enter Try.func21, Try.ntmps21
    go_wp2_with fail
    have a1 := heap_alloc_new w (.cells #[k, n, .slice A B.length c, .bool true, f] 42)
    have c0 := cells_all a1 3
    have c1 := cells_all a1 2
    clear a1
    go_wp2_with fail
    go_ret
    exact ⟨_, rfl, HR.out.out ((Out.refl Z w).alloc _), (Out.refl Zone.no w).alloc _⟩
  | false =>
    have HR := Lib.hid h
    have HH := Lib.hid hhi
    clear h hcm hhi
    have W1 : Hid (∀ w0, Out Zone.no w w0 → (Instr.makeSlice 22 (.int .i64 512) (.int .i64 512)).run Try.prog w0 = .ok (.slice (some ⟨w0.heap.size, 0, none⟩) 512 512) (w0.alloc (.cells (bytes (DS.zeros)).toArray 5))) := fun w0 _ => by
      have MB := make_bytes 512 (by omega) w0
      rw [rep_bytes, show List.replicate 512 (0 : UInt8) = DS.zeros from rfl] at MB
      exact MB
    have OA := Lib.hid ((Out.refl Zone.no w).alloc (.cells #[k, n, .slice A B.length c, .bool false, f] 42))
    have A1 := Lib.hid (heap_alloc_new w (.cells #[k, n, .slice A B.length c, .bool false, f] 42))
    go_enter Try.func21, Try.ntmps21
    go_wp2_with fail
    generalize hw1 : w.alloc (.cells #[k, n, .slice A B.length c, .bool false, f] 42) = w1 at *
    generalize hG : w.heap.size = G at *
    have c0 := cells_all A1.out 3
    have MB := W1.out w1 OA.out
    have B2 := Lib.hid (heap_alloc_new w1 (.cells (bytes (DS.zeros)).toArray 5))
    have A2 := Lib.hid (heap_alloc' A1.out (.cells (bytes (DS.zeros)).toArray 5))
    have O2 := Lib.hid ((Out.refl Zone.no w1).alloc (.cells (bytes (DS.zeros)).toArray 5))
    have L2 : Hid (w1.heap.size < (w1.alloc (.cells (bytes (DS.zeros)).toArray 5)).heap.size) := by show _ < _; simp
    have G1 := Lib.hid (heap_lt A1.out)
    have HG := Lib.hid hG
    clear hw1 hG
    go_wp2_with fail
    rw [MB]
    generalize hw2 : w1.alloc (.cells (bytes (DS.zeros)).toArray 5) = w2 at *
    clear hw2 MB c0
    generalize hH : w1.heap.size = H at *
    have HH1 := Lib.hid hH
    clear hH
    have c0 := cells_all A2.out 2
    go_wp2_with (refine wpList_copy_splice rfl (.tmp 9) (.tmp 11) 22 22 rfl 5 Try.underlying22 size22 _ A 512 512 B.length c rfl rfl H 0 (bytes (DS.zeros)) 5 B2.out (bytes (B.take 512)) (by rw [length_bytes, List.length_take]; exact Nat.min_comm _ _) (fun hp => ⟨rfl, row_take HR.out (OA.out.trans O2.out).mono0 512 hp⟩) (by rw [length_bytes, length_bytes, List.length_take, length_zeros]; omega) (bytes_one' _) H w2 (Below.refl _ _) (Nat.le_refl _) ?_; intro w3 hg3 hb3)
    have hg3' := hg3.out
    rw [bytes_splice] at hg3'
    have B3 := Lib.hid hg3'
    have A3 := Lib.hid ((hb3.block G G1.out).trans A2.out)
    have LB : (bytes (B.take 512)).length = min 512 B.length := by rw [length_bytes, List.length_take]
    have HB3 := Lib.hid hb3
    have c0 := cells_all A3.out 2
    clear hg3 hg3' hb3 LB
    generalize goInt ↑(bytes (List.take 512 B)).length = gl
    simp only [Act.put, List.getElem_toArray, List.getElem_cons_succ, List.getElem_cons_zero, List.setIfInBounds_toArray, List.set_cons_succ, List.set_cons_zero]
    have LS : Hid ((splice DS.zeros 0 (B.take 512)).length = 512) := by
      show _ = _
      rw [length_splice _ _ _ (by rw [length_zeros, List.length_take]; omega), length_zeros]
    have HS := Lib.hid hc
    go_wp2_with fail
    go_region_law (refine step_copy_splice rfl (.tmp 14) (.tmp 16) 22 22 rfl 5 Try.underlying22 size22 (some ⟨H, 300, none⟩) A 212 212 B.length c rfl rfl H 300 (bytes (splice DS.zeros 0 (B.take 512))) 5 B3.out (bytes (B.take 212)) (by rw [length_bytes, List.length_take]; exact Nat.min_comm _ _) (fun hp => ⟨rfl, row_take HR.out ((OA.out.trans O2.out).mono0.above HB3.out.drew (by rw [HG.out]; exact Nat.le_of_lt G1.out)) 212 hp⟩) (by rw [length_bytes, length_bytes, List.length_take, LS.out]; omega) (bytes_one' _) H w2 HB3.out.drew (Nat.le_refl _) ?_; intro w4 hg4 hb4)
    all_goals
      go_wp2_with fail
      go_ret
      have hg5 := hg4.out
      rw [bytes_splice] at hg5
      have ho : Out Zone.no w w4 := (OA.out.trans O2.out).above hb4 (by rw [HG.out]; exact Nat.le_of_lt G1.out)
      refine ⟨_, rfl, ?_, ho⟩
      have hl := length_page512 B
      have := row_block' (Z := Z) (w := w4) (g := H) (cs := bytes (page512 B)) hg5 (HH.out.fresh (by rw [HG.out]; exact Nat.le_of_lt G1.out)) (by rw [length_bytes, hl]; exact le_maxLen (by omega))
      rw [length_bytes, hl] at this
      exact this
end
end Go.Proofs.Ytddcojikbcbihaa
