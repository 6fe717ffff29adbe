import Derived.Test.YtddcojikbcbihaaD21
import Derived.Test.YtddcojikbcbihaaD15
/-! The document's disk in memory, and its small functions. -/
set_option linter.unusedVariables false
namespace Go.Proofs.Ytddcojikbcbihaa
open Go.RowKit

/-- Pages as strings. -/
def strF (F : Int → Option (List UInt8)) : Int → Option Value := fun x => (F x).map fun L => .string (str L)

/-- A map of strings. -/
def MapStr (w : World) (b : Nat) (F : Int → Option (List UInt8)) : Prop := MapV Try.prog 3 w b 65536 (strF F)

theorem MapStr.same {w w' : World} {b : Nat} {F : Int → Option (List UInt8)} (h : MapStr w b F) (hb : w'.heap[b]? = w.heap[b]?) : MapStr w' b F := MapV.same h hb
theorem MapStr.lt {w : World} {b : Nat} {F : Int → Option (List UInt8)} (h : MapStr w b F) : b < w.heap.size := MapV.lt h

/-- The disk of the document: its struct in block r, its maps in o and f, its log's value lv. -/
structure Ref0 (Z : Zone) (w : World) (r o f : Nat) (lv : Value) (D : DS) : Prop where
  sr : w.heap[r]? = some (.cells #[.int .i64 D.most, .int .i64 D.count, .int .i64 D.left, .bool D.off, .int .i64 D.base, lv, .int .i64 D.sure, .map (some o), .map (some f)] 95 (0, 0))
  log : Row Z w lv (bytes D.log)
  old : MapStr w o D.old
  fresh : MapStr w f D.fresh
  br : Z.S r
  bo : Z.S o
  bf : Z.S f
  top : Z.Top w
  ne : o ≠ f
  ok : D.Ok

def RefAt (Z : Zone) (w : World) (r : Nat) (D : DS) : Prop := ∃ o f lv, Ref0 Z w r o f lv D

section
variable {Z Z' : Zone} {w w' : World} {r o f : Nat} {lv : Value} {D : DS}

theorem Ref0.at_ (h : Ref0 Z w r o f lv D) : RefAt Z w r D := ⟨o, f, lv, h⟩

theorem Ref0.map_ne (h : Ref0 Z w r o f lv D) : o ≠ r ∧ f ≠ r := by
  obtain ⟨D1, ⟨es, c, hb, _⟩, _⟩ := h.old
  obtain ⟨D2, ⟨es', c', hb', _⟩, _⟩ := h.fresh
  refine ⟨?_, ?_⟩
  · rintro rfl; have := hb.symm.trans h.sr; cases this
  · rintro rfl; have := hb'.symm.trans h.sr; cases this

theorem Ref0.any (h : Ref0 Z w r o f lv D) (ho : Out Zone.no w w') : Ref0 Z w' r o f lv D :=
  ⟨ho.get h.sr id, h.log.out ho.mono0, h.old.same (ho.block o (h.top.lt h.bo) id), h.fresh.same (ho.block f (h.top.lt h.bf) id), h.br, h.bo, h.bf, h.top.mono ho.size, h.ne, h.ok⟩
theorem Ref0.drewN (h : Ref0 Z w r o f lv D) (n : Nat) : Ref0 Z (w.drewN n) r o f lv D := ⟨h.sr, h.log, h.old, h.fresh, h.br, h.bo, h.bf, h.top, h.ne, h.ok⟩

/-- The disk behind stores into its struct. -/
theorem Ref0.remake (h : Ref0 Z w r o f lv D) (D' : DS) (lv' : Value)
    (hr : w'.heap[r]? = some (.cells #[.int .i64 D'.most, .int .i64 D'.count, .int .i64 D'.left, .bool D'.off, .int .i64 D'.base, lv', .int .i64 D'.sure, .map (some o), .map (some f)] 95 (0, 0)))
    (ho : Out Z w w') (hk : ∀ k, k ≠ r → Z.S k → w'.heap[k]? = w.heap[k]?) (e3 : D'.old = D.old) (e4 : D'.fresh = D.fresh) (hl : Row Z w' lv' (bytes D'.log)) (ok : D'.Ok) :
    Ref0 Z w' r o f lv' D' :=
  ⟨hr, hl, by rw [e3]; exact h.old.same (hk o h.map_ne.1 h.bo), by rw [e4]; exact h.fresh.same (hk f h.map_ne.2 h.bf), h.br, h.bo, h.bf, h.top.mono ho.size, h.ne, ok⟩

/-- .. where nothing but its struct has turned. -/
theorem Ref0.store (h : Ref0 Z w r o f lv D) (D' : DS) (lv' : Value)
    (hr : w'.heap[r]? = some (.cells #[.int .i64 D'.most, .int .i64 D'.count, .int .i64 D'.left, .bool D'.off, .int .i64 D'.base, lv', .int .i64 D'.sure, .map (some o), .map (some f)] 95 (0, 0)))
    (hg : w.grownBy w' (some r)) (e3 : D'.old = D.old) (e4 : D'.fresh = D.fresh) (hl : Row Z w lv' (bytes D'.log)) (ok : D'.Ok) :
    Ref0 Z w' r o f lv' D' ∧ Out Z w w' := by
  have ho : Out Z w w' := (Out.refl Z w).grown hg (fun k hk => by cases hk; exact Or.inl h.br)
  exact ⟨h.remake D' lv' hr ho (fun k hk hs => hg.block k (h.top.lt hs) (fun e => hk (by injection e))) e3 e4 (hl.out ho) ok, ho⟩

theorem rend_is (h : Ref0 Z w r o f lv D) : Calls Try.prog 63 #[.pointer (some ⟨r, 0, none⟩)] w fun e w' => e = .returned (.int .i64 D.fin) ∧ ∃ n, w' = w.drewN n := by
  have k1 := h.ok.base0
  have k2 := h.ok.base1
  have k3 := h.ok.log
  have k4 := h.ok.most
  have k5 := h.sr
  obtain ⟨A, c, rfl, _, _, _⟩ := h.log
  rw [length_bytes] at k5
  have c3 := cells_all k5 4
  have c5 := cells_all k5 5
  unfold DS.fin
  clear h k5
  generalize D.log.length = n at *
  generalize D.base = b at *
  have hn : n ≤ 16777216 := by omega
  clear k3 k4
  go_enter Try.func63, Try.ntmps63
  go_wp2_with fail
  go_quiet (fail)
  go_wp2_with fail
  go_ret
  exact ⟨rfl, _, rfl⟩

/-- operate: whether there is power; the disk behind it. -/
theorem roper_is (h : Ref0 Z w r o f lv D) (hoff : D.off = false) : Calls Try.prog 74 #[.pointer (some ⟨r, 0, none⟩)] w fun e w' => e = .returned (.bool (decide (D.left ≠ 0))) ∧ Ref0 Z w' r o f lv D.ticked ∧ Out Z w w' := by
  have c2 := cells_all h.sr 2
  have f2 := frozen_all h.sr 2
  have f3 := frozen_all h.sr 3
  have c3 := cells_all h.sr 3
  have HH := Lib.hid h
  have k7 := h.ok.left0
  have k8 := h.ok.left1
  have HT := Lib.hid h.ok.ticked
  clear h
  unfold DS.ticked at HT ⊢
  by_cases h0 : D.left = 0
  · rw [h0] at c2
    rw [if_pos h0] at HT ⊢
    have H0 := Lib.hid h0
    have HF := Lib.hid hoff
    clear h0 hoff k7 k8
    go_enter Try.func74, Try.ntmps74
    go_wp2_with fail
    go_ret
    refine ⟨by simp [H0.out], HH.out.store _ _ ?_ (only_setCell _ _ _) rfl rfl HH.out.log HT.out⟩
    simpa [H0.out] using heap_set HH.out.sr 3 (.bool true)
  · rw [if_neg h0] at HT ⊢
    have hd : (D.left == 0) = false := beq_eq_false_iff_ne.2 h0
    by_cases h1 : 0 < D.left
    · rw [if_pos h1] at HT ⊢
      go_enter Try.func74, Try.ntmps74
      go_wp2_with fail
      go_ret
      refine ⟨by simp [h0], HH.out.store _ _ ?_ (only_setCell _ _ _) rfl rfl HH.out.log HT.out⟩
      simpa using heap_set HH.out.sr 2 (.int .i64 (D.left - 1))
    · rw [if_neg h1] at HT ⊢
      go_enter Try.func74, Try.ntmps74
      go_wp2_with fail
      go_ret
      exact ⟨by simp [h0], HH.out, Out.refl _ _⟩
end
end Go.Proofs.Ytddcojikbcbihaa
