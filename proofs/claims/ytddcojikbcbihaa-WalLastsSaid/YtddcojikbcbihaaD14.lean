import Derived.Test.YtddcojikbcbihaaD13
import Derived.Deep.RegionLaw
import Derived.Deep.RegionHeld3
import Derived.Deep.AppendLies
/-! The program's disk: Crash. -/
set_option linter.unusedVariables false
namespace Go.Proofs.Ytddcojikbcbihaa
open Go.RowKit

theorem Row.headc {Z : Zone} {w : World} {A : Option Addr} {n c : Nat} {xs : List Value} (h : Row Z w (.slice A n c) xs) {k : Nat} (hk : k ≤ n) : Row Z w (.slice A k c) (xs.take k) := by
  obtain ⟨A', c', hv, g1, g2, g3⟩ := h
  injection hv with e1 e2 e3
  subst e1 e2 e3
  have hl : (xs.take k).length = k := by rw [List.length_take]; omega
  refine ⟨A, c, by rw [hl], by omega, by omega, fun j u hu => ?_⟩
  have hj : j < (xs.take k).length := (List.getElem?_eq_some_iff.1 hu).1
  rw [List.getElem?_take, if_pos (by omega)] at hu
  exact g3 j u hu

theorem bytes_one (L : List UInt8) : ∀ u ∈ bytes L, u.oneCell' = true := by
  intro u hu
  obtain ⟨b, _, rfl⟩ := List.mem_map.1 hu
  rfl

theorem row_of_own_hi {w : World} {Z : Zone} {base : Nat} {e : TypeId} {v : Value} {n : Nat} {xs : List Value} (h : w.ownsRow base e 1 v n xs) (hl : xs.length = n) (hb : ∀ k, base ≤ k → ¬ Z.T k) : Row Z w v xs := by
  obtain ⟨A, c, hv, h1, h2, h3⟩ := row_of_own h hl
  refine ⟨A, c, hv, h1, h2, fun j u hu => ?_⟩
  obtain ⟨a, ha, _, hc⟩ := h3 j u hu
  refine ⟨a, ha, hb _ ?_, hc⟩
  subst ha
  exact (h.lt a.block (by rw [hv]; rfl)).1

open Go.Maps Go.Sort Go.Shelf in
set_option maxHeartbeats 1000000 in
/-- slices.Sorted(maps.Keys(m)): the row is the call's own. -/
theorem sorted_own (w : World) (b n : Nat) (V : Int → Option Value) (h : MapV Try.prog 3 w b n V) (hn : n ≤ 65536) :
    Calls Try.prog 49 #[.func (.func 72) #[] #[.pointer (some ⟨w.heap.size, 0, none⟩)]] (w.alloc (.cells #[.map (some b)] 51)) fun e w' => ∃ (v : Value) (ks : List Int), e = .returned v ∧ KeysOfV V ks ∧ ks.length ≤ 65536 ∧
      (∀ Z : Zone, Z.Top w → Row Z w' v (ks.map (Value.int .i64))) ∧ Out Zone.no w w' := by
  obtain ⟨D0, hown, hV⟩ := h
  have hsz := own_size hown
  have hbl := hown.lt
  have hik := own_intKeys hown hV
  have hseq : SeqGives Fence.wide 2 Try.prog 72 #[.pointer (some ⟨w.heap.size, 0, none⟩)] encZ (fun ss => ss.Perm (intKeys D0)) (Maps.size D0) (w.alloc (.cells #[.map (some b)] 51)) :=
    AnyZI.keys_gives (ρ := Try.keysA_ren) { Try.keysA with } Fence.wide _ trivial rfl (by omega) w.heap.size b n D0 _ (by simp) (by simp) (by
      obtain ⟨es, clock, hb, Ft, hs, hD⟩ := hown
      exact ⟨es, clock, (Below.heap_alloc _ _ b hbl).trans hb, Ft, hs, hD⟩)
  have cS := AnyZI.sorted_in Try.sortedA Fence.wide 5 trivial trivial trivial trivial rfl (by omega) (sorts_in _) (enters_of Try.func71 (by kernel_rfl) rfl) 72 #[.pointer (some ⟨w.heap.size, 0, none⟩)] trivial (enters_of Try.func72 (by kernel_rfl) rfl) _ _ (le_maxLen (by omega)) (by omega) _ hseq
  change CallsIn _ _ Try.prog 49 _ _ _ at cS
  refine ((callsIn_wide (n := 5)).1 cS).mono ?_
  rintro e w' ⟨v, ss, rfl, hS, hrow, hnil, hb⟩
  obtain ⟨q1, q2, q3⟩ := sort_keys hS hik.1
  refine ⟨v, ss.mergeSort (fun x y => decide (x ≤ y)), rfl, ⟨q1, fun x => (q2 x).trans (hik.2.2 x)⟩, by rw [q3, hik.2.1]; omega, fun Z hh => ?_, ?_⟩
  · exact row_of_own_hi hrow (by rw [List.length_map, q3]; exact hS.length_eq.symm) (fun k hk => hh.fresh (Nat.le_trans (by simp) hk))
  · exact ((Out.refl Zone.no w).alloc _).trans (Out.below hb)

section
variable {Z : Zone} {w : World} {d p o f : Nat} {lv : Value} {D : DS}

theorem DS.Ok.tearOk {D : DS} (h : D.Ok) (N : Nat) (h1 : N ≤ D.log.length) (torn : Bool) : DS.Ok { D with log := DS.tear D.log N D.sure torn, sure := N } := by
  obtain ⟨k1, k2, k3, k4, k5, k6, k7, k8, k9, k10⟩ := h
  exact ⟨k1, k2, k3, k4, by simp only [DS.length_tear]; omega, by simp only [DS.length_tear]; omega, k7, k8, k9, k10⟩

/-- The disk behind the log's turn. -/
theorem Disk0.torn {w1 w2 : World} {lv' : Value} {N : Nat} {torn : Bool} (h : Disk0 Z w1 d p o f lv D) (hN : N ≤ D.log.length) (hr : Row Zone.no w2 lv' (bytes (DS.tear D.log N D.sure torn)))
    (hlv : ∀ a n c, lv' = .slice (some a) n c → ¬ Z.T a.block)
    (hd : w2.heap[d]? = some (.cells #[.pointer (some ⟨p, 0, none⟩), .int .i64 D.most, .int .i64 D.count, .int .i64 D.base, .int .i64 (N : Int), lv', .map (some o), .map (some f)] 53 (0, 0)))
    (hk : ∀ k, Z.S k → k ≠ d → w2.heap[k]? = w1.heap[k]?) (ho : Out Z w1 w2) :
    Disk0 Z w2 d p o f lv' { D with log := DS.tear D.log N D.sure torn, sure := N } := by
  have hm := h.map_ne
  refine ⟨hd, (hk p h.bp (Ne.symm h.dp)).trans h.sp, ?_, h.old.out ho Z.sub (hk o h.bo hm.1), h.fresh.out ho Z.sub (hk f h.bf hm.2.2.1), h.bd, h.bp, h.bo, h.bf, h.top.mono ho.size, h.ne, h.ok.tearOk N hN torn⟩
  obtain ⟨A, c, hv, g1, g2, g3⟩ := hr
  subst hv
  refine ⟨A, c, rfl, g1, g2, fun j u hu => ?_⟩
  obtain ⟨a, ha, _, hc⟩ := g3 j u hu
  subst ha
  exact ⟨a, rfl, hlv a _ _ rfl, hc⟩

theorem own_far {w : World} {base : Nat} {e : TypeId} {v : Value} {n : Nat} {xs : List Value} (h : w.ownsRow base e 1 v n xs) {q : Addr} (hq : q.block < base) (u : Value) : (w.setCell q u).ownsRow base e 1 v n xs :=
  h.kept (only_setCell w q u) (by
    cases hv : v.ownBlock with
    | none => exact Or.inl rfl
    | some k => right; intro e; injection e with e; have := (h.lt k hv).1; omega)

theorem own_hi {w : World} {base : Nat} {e : TypeId} {v : Value} {n : Nat} {xs : List Value} (h : w.ownsRow base e 1 v n xs) : ∀ a n c, v = .slice (some a) n c → base ≤ a.block :=
  fun a n c hv => (h.lt a.block (by rw [hv]; rfl)).1

theorem xor_byte (x : UInt8) : bits .xor .u8 ((x.toNat : Nat) : Int) 85 = ((x.toNat ^^^ 85 : Nat) : Int) :=
  u8_xor_nat x.toNat 85 x.toNat_lt (by omega)

theorem tear_one (L : List UInt8) (N sure : Nat) (h1 : N ≤ L.length) (h2 : sure < N) (x : UInt8) (hx : L.getD (N - 1) 0 = x) :
    (bytes (L.take N))[N - 1]? = some (.int .u8 (x.toNat : Int)) ∧ (bytes (L.take N)).set (N - 1) (.int .u8 ((x.toNat ^^^ 85 : Nat) : Int)) = bytes (DS.tear L N sure true) := by
  constructor
  · subst hx
    simp only [bytes, List.getElem?_map, List.getElem?_take]
    rw [if_pos (by omega), List.getD_eq_getElem?_getD, List.getElem?_eq_getElem (by omega)]
    simp
  · unfold DS.tear
    rw [if_pos ⟨rfl, h2⟩, hx]
    simp only [bytes]
    rw [List.map_set, UInt8.toNat_xor]
    rfl

/-- The disk behind a store of a sure page. -/
theorem Disk0.reold {w2 : World} {V : Int → Option Value} {F' : Int → Option (List UInt8)} {N : Nat} (h : Disk0 Z w d p o f lv D)
    (hm2 : MapV Try.prog 3 w2 o N V) (hF : ∀ x, match V x with | none => F' x = none | some v => ∃ L, F' x = some L ∧ Row Z w v (bytes L)) (hg2 : w.grownBy w2 (some o))
    (hok : ∀ k s, F' k = some s → 0 ≤ k ∧ k < D.count ∧ s.length = 512) :
    Disk0 Z w2 d p o f lv { D with old := F' } ∧ Out Z w w2 := by
  have hm := h.map_ne
  have o2 : Out Z w w2 := (Out.refl Z w).grown hg2 (fun k hk => by cases hk; exact Or.inl h.bo)
  have top := h.top
  have hc := h.ok.count
  refine ⟨⟨(hg2.block d (top.lt h.bd) (some_ne (Ne.symm hm.1))).trans h.sd, (hg2.block p (top.lt h.bp) (some_ne (Ne.symm hm.2.1))).trans h.sp, h.log.out o2,
    ⟨V, mapV_of_rows hm2 (rows_out o2 hF) (fun k s hs => by have := hok k s hs; omega), rows_out o2 hF⟩, h.fresh.out o2 Z.sub (hg2.block f (top.lt h.bf) (some_ne (Ne.symm h.ne))), h.bd, h.bp, h.bo, h.bf, top.mono o2.size, h.ne, ?_⟩, o2⟩
  obtain ⟨k1, k2, k3, k4, k5, k6, k7, k8, k9, k10⟩ := h.ok
  exact ⟨k1, k2, k3, k4, k5, k6, k7, k8, hok, k10⟩

/-- The disk behind a store of its power. -/
theorem Disk0.power {w2 : World} (h : Disk0 Z w d p o f lv D) (hp : w2.heap[p]? = some (.cells #[.int .i64 (-1), .bool false] 82 (0, 0))) (hg2 : w.grownBy w2 (some p)) :
    Disk0 Z w2 d p o f lv { D with left := -1, off := false } ∧ Out Z w w2 := by
  have hm := h.map_ne
  have o2 : Out Z w w2 := (Out.refl Z w).grown hg2 (fun k hk => by cases hk; exact Or.inl h.bp)
  have top := h.top
  refine ⟨⟨(hg2.block d (top.lt h.bd) (some_ne h.dp)).trans h.sd, hp, h.log.out o2,
    h.old.out o2 Z.sub (hg2.block o (top.lt h.bo) (some_ne hm.2.1)), h.fresh.out o2 Z.sub (hg2.block f (top.lt h.bf) (some_ne hm.2.2.2)), h.bd, h.bp, h.bo, h.bf, top.mono o2.size, h.ne, ?_⟩, o2⟩
  obtain ⟨k1, k2, k3, k4, k5, k6, k7, k8, k9, k10⟩ := h.ok
  exact ⟨k1, k2, k3, k4, k5, k6, by simp only; omega, by simp only; omega, k9, k10⟩

theorem repeat_at (w : World) (a : Addr) (c n G : Nat) (hG : w.heap.size = G) (hx : w.cell? a = some (.int .u8 255)) (hn : 1 ≤ n) (hn2 : n ≤ 65536) :
    Calls Try.prog 51 #[.slice (some a) 1 c, .int .i64 (n : Int)] w fun e w' => e = .returned (.slice (some ⟨G, 0, none⟩) n n) ∧ Row Zone.no w' (.slice (some ⟨G, 0, none⟩) n n) (List.replicate n (.int .u8 255)) ∧ Out Zone.no w w' := by
  subst hG
  exact repeat_is w a c n hx hn hn2

set_option maxRecDepth 100000 in
set_option maxHeartbeats 8000000 in
theorem crash_ok (h : Disk0 Z w d p o f lv D) (keep : Int) (hkeep : -9223372036854775808 ≤ keep ∧ keep ≤ 9223372036854775807) (torn tt : Bool) (htt : torn = tt) (fv : Value) (F : List Int) (hf : Row Z w fv (F.map (Value.int .i64))) (hF : ∀ x ∈ F, -9223372036854775808 ≤ x ∧ x ≤ 9223372036854775807) :
    Calls Try.prog 17 #[.pointer (some ⟨d, 0, none⟩), .int .i64 keep, .bool torn, fv] w fun e w' => e = .returned (.tuple #[]) ∧ DiskAt Z w' d (D.crash keep tt F) ∧ Out Z w w' := by
  obtain ⟨A, c, rfl, hc, _⟩ := h.log.form
  have NN := Lib.hid (none_is h)
  have k4 := h.ok.log
  have k5 := h.ok.most
  have k8 := h.ok.sure
  have c4 := cells_all h.sd 4
  have c5 := cells_all h.sd 5
  have HH := Lib.hid h
  have HT := Lib.hid htt
  clear htt
  have HF := Lib.hid hf
  have HFF := Lib.hid hF
  clear h hf hF
  go_enter Try.func17, Try.ntmps17
  go_wp2_with fail
  refine NN.out.mono ?_
  rintro e w' ⟨rfl, rfl⟩
  go_wp2_with fail
  go_quiet (fail)
  have hN : (D.sure : Int) + min (max keep 0) ((D.log.length : Int) - (D.sure : Int)) = ((D.stay keep : Nat) : Int) := by unfold DS.stay; omega
  rw [hN]
  have n1 := (DS.stay_le HH.out.ok keep).1
  have n2 := (DS.stay_le HH.out.ok keep).2
  clear hN
  obtain ⟨N, hNN⟩ : ∃ N, D.stay keep = N := ⟨_, rfl⟩
  rw [hNN] at n1 n2
  rw [hNN]
  have HNN := Lib.hid hNN
  clear hNN
  rename_i nq
  have HR : Hid (Row Zone.no (w.drewN nq) (.slice A N c) (bytes (D.log.take N))) := by
    have := ((HH.out.drewN nq).log.headc (k := N) (by simpa using n1)).any
    rwa [← bytes_take] at this
  have HL : Hid ((bytes (D.log.take N)).length = N) := by show (bytes (D.log.take N)).length = N; rw [length_bytes, List.length_take]; omega
  go_wp2_with fail
  refine (clone_own _ _ _ HR.out (bytes_one _) (by rw [HL.out]; omega)).mono ?_
  rintro e w1 ⟨v', rfl, ho, hown⟩
  rw [HL.out] at hown
  have HO := Lib.hid ho.undrewN
  have H1 := Lib.hid (HH.out.any ho.undrewN)
  clear ho c4 c5
  have hkeepb : ∀ k, Z.S k → k < w1.heap.size := fun k hk => H1.out.top.lt hk
  have HKB := Lib.hid hkeepb
  clear hkeepb
  have key : Hid (∀ (w2 : World) (lv' : Value), Row Zone.no w2 lv' (bytes (DS.tear D.log N D.sure tt)) → (∀ a n c, lv' = .slice (some a) n c → ¬ Z.T a.block) →
      w2.heap[d]? = some (.cells #[.pointer (some ⟨p, 0, none⟩), .int .i64 D.most, .int .i64 D.count, .int .i64 D.base, .int .i64 (N : Int), lv', .map (some o), .map (some f)] 53 (0, 0)) →
      (∀ k, Z.S k → k ≠ d → w2.heap[k]? = w1.heap[k]?) → Out Z w w2 → Disk0 Z w2 d p o f lv' { D with log := DS.tear D.log N D.sure tt, sure := N } ∧ Out Z w w2) :=
    fun w2 lv' g1 g2 g3 g4 g5 => ⟨HH.out.torn n1 g1 g2 g3 (fun k hk hkd => (g4 k hk hkd).trans (HO.out.block k (HH.out.top.lt hk) id)) g5, g5⟩
  by_cases ht : torn = true ∧ D.sure < N
  case' neg =>
    have htr : DS.tear D.log N D.sure tt = D.log.take N := by unfold DS.tear; rw [if_neg (by rw [← HT.out]; exact ht)]
    obtain ⟨A2, x2, rfl, hx2, _⟩ := (row_of_own hown HL.out).form0
    have hgd : (torn = false) ∨ (torn = true ∧ ¬ D.sure < N) := by
      cases torn
      · exact Or.inl rfl
      · exact Or.inr ⟨rfl, fun e => ht ⟨rfl, e⟩⟩
    have h1 := H1.out
    have c0 := cells_all h1.sd
    have f0 := frozen_all h1.sd
    rw [HL.out] at hown
    have H2 : Hid (_ ∧ _) := Lib.hid (key.out ((w1.setCell ⟨d, 5, none⟩ (.slice A2 N x2)).setCell ⟨d, 4, none⟩ (.int .i64 (N : Int))) (.slice A2 N x2)
      (by
        have hdb : d < (w.drewN nq).heap.size := by have h1 := HH.out.top.lt HH.out.bd; simp only [World.drewN]; omega
        have g3 := own_far (own_far hown (q := ⟨d, 5, none⟩) hdb (.slice A2 N x2)) (q := ⟨d, 4, none⟩) hdb (.int .i64 (N : Int))
        rw [htr]
        exact row_of_own g3 HL.out)
      (fun a n c hv => HH.out.top.fresh (by have := own_hi hown a n c hv; simpa only [World.drewN] using this))
      (by simpa using heap_set (heap_set h1.sd 5 (.slice A2 N x2)) 4 (.int .i64 (N : Int)))
      (fun k hk hkd => (Below.heap_setCell _ _ _ k hkd).trans (Below.heap_setCell _ _ _ k hkd))
      (((HO.out.mono0 (Z' := Z)).setCell (Or.inl h1.bd) _).setCell (Or.inl h1.bd) _))
    clear h1 hown ht htr
    rcases hgd with rfl | ⟨rfl, hns⟩
    all_goals
      go_wp2_with fail
      generalize (w1.setCell ⟨d, 5, none⟩ (.slice A2 N x2)).setCell ⟨d, 4, none⟩ (.int .i64 (N : Int)) = w2 at H2 ⊢
  case' pos =>
    obtain ⟨g, cap, rfl, hbg, hlt⟩ := World.ownsRow.form hown (by omega)
    obtain ⟨rfl, ht2⟩ := ht
    have hgd : ¬ g = d := by have h1 := HH.out.top.lt H1.out.bd; simp only [World.drewN] at hbg; omega
    have hgd' : ¬ d = g := fun e => hgd e.symm
    have hx := hown.cellAt (N - 1) (by omega)
    have hfr := hown.frozenAt (N - 1)
    obtain ⟨x, hxd⟩ : ∃ x, D.log.getD (N - 1) 0 = x := ⟨_, rfl⟩
    have htt' : tt = true := HT.out.symm
    obtain ⟨hb1, hb2⟩ := tear_one D.log N D.sure n1 ht2 x hxd
    rw [hb1] at hx
    have hxor := xor_byte x
    have h1 := H1.out
    have c0 := cells_all h1.sd
    have f0 := frozen_all h1.sd
    have HT2 := Lib.hid htt'
    have e1 : IntKind.i64.wrap ((N : Int) - 1) = ((N - 1 : Nat) : Int) := by rw [IntWalk.i64_in _ (by omega)]; omega
    have H2 : Hid (_ ∧ _) := Lib.hid (key.out (((w1.setCell ⟨d, 5, none⟩ (.slice (some ⟨g, 0, none⟩) N cap)).setCell ⟨g, N - 1, none⟩ (.int .u8 ((x.toNat ^^^ 85 : Nat) : Int))).setCell ⟨d, 4, none⟩ (.int .i64 (N : Int))) (.slice (some ⟨g, 0, none⟩) N cap)
      (by
        have hdb : d < (w.drewN nq).heap.size := by have h1 := HH.out.top.lt HH.out.bd; simp only [World.drewN]; omega
        have g1 := own_far hown (q := ⟨d, 5, none⟩) hdb (.slice (some ⟨g, 0, none⟩) N cap)
        have g2 := (g1.stored (N - 1) (.int .u8 ((x.toNat ^^^ 85 : Nat) : Int))).1
        have g3 := own_far g2 (q := ⟨d, 4, none⟩) hdb (.int .i64 (N : Int))
        rw [hb2, ← htt'] at g3
        exact row_of_own g3 (by rw [length_bytes, DS.length_tear]; omega))
      (fun a n c hv => by injection hv with hv; injection hv with hv; rw [← hv]; exact HH.out.top.fresh (show w.heap.size ≤ g from hbg))
      (by simpa using heap_set (heap_far (heap_set h1.sd 5 (.slice (some ⟨g, 0, none⟩) N cap)) (p := ⟨g, N - 1, none⟩) hgd' (.int .u8 ((x.toNat ^^^ 85 : Nat) : Int))) 4 (.int .i64 (N : Int)))
      (fun k hk hkd => ((Below.heap_setCell _ _ _ k hkd).trans (Below.heap_setCell _ _ _ k (fun e => by
        have h2 := HH.out.top.lt hk
        simp only [World.drewN] at hbg
        have : k = g := e
        omega))).trans (Below.heap_setCell _ _ _ k hkd))
      ((((HO.out.mono0 (Z' := Z)).setCell (Or.inl h1.bd) _).setCell (Or.inr (show w.heap.size ≤ g from hbg)) _).setCell (Or.inl h1.bd) _))
    clear h1 hown hb1 hb2 hxd htt'
    go_wp2_with fail
    generalize ((w1.setCell ⟨d, 5, none⟩ (.slice (some ⟨g, 0, none⟩) N cap)).setCell ⟨g, N - 1, none⟩ (.int .u8 ((x.toNat ^^^ 85 : Nat) : Int))).setCell ⟨d, 4, none⟩ (.int .i64 (N : Int)) = w2 at H2 ⊢
  all_goals
    obtain ⟨lv2, H3⟩ : ∃ lv2, Hid (Disk0 Z w2 d p o f lv2 { D with log := DS.tear D.log N D.sure tt, sure := N } ∧ Out Z w w2) := ⟨_, H2⟩
    clear H2
    obtain ⟨V, hV, hG⟩ := H3.out.1.fresh
    have HG := Lib.hid hG
    have SO := Lib.hid (sorted_own w2 f 65536 V hV (Nat.le_refl _))
    clear hV hG
    refine (keys_is _ _).mono ?_
    rintro e w3 ⟨rfl, rfl⟩
    go_wp2_with fail
    refine SO.out.mono ?_
    rintro e w4 ⟨v, ks, rfl, hk, hkl, hrow, hout⟩
    have HK := Lib.hid hk
    have HRW := Lib.hid (hrow Z H3.out.1.top)
    have HO4 := Lib.hid hout
    obtain ⟨B, cB, rfl, hB1, hB2⟩ := HRW.out.form0
    clear hk hrow hout SO
    go_wp2_with fail
    have hks : ks = D.keys := DS.rising_eq HK.out.1 (DS.keys_rising D) (fun x => (HK.out.2 x).trans (by
      have hx := HG.out x
      refine Iff.trans ?_ (DS.mem_keys HH.out.ok x).symm
      cases hv : V x with
      | none => rw [hv] at hx; rw [hx]; simp
      | some u => rw [hv] at hx; obtain ⟨L, hL, _⟩ := hx; rw [hL]; simp))
    have HKS := Lib.hid hks
    clear hks
    have HLV : Hid ((ks.map (Value.int .i64)).length = ks.length) := List.length_map _
    have HD4 := Lib.hid (H3.out.1.any HO4.out)
    have HOW := Lib.hid (H3.out.2.trans HO4.out.mono0)
    go_loopw [3, 72] (fun vF vi wr => ∃ i : Nat, vi = .int .i64 (i : Int) ∧ i ≤ ks.length ∧ Hid (Row Z wr vF ((F.drop i).map (Value.int .i64))) ∧
      Hid (Disk0 Z wr d p o f lv2 { D with log := DS.tear D.log N D.sure tt, sure := N, old := DS.crashOld D.fresh (ks.take i) F D.old }) ∧ Hid (Row Z wr (.slice B (ks.map (Value.int .i64)).length cB) (ks.map (Value.int .i64))) ∧ Hid (Out Z w wr))
      (fun _ vi _ => ks.length - (intOf vi).toNat)
    case atStart => exact ⟨0, rfl, Nat.zero_le _, by
      show Row Z w4 fv _
      exact HF.out.out HOW.out, HD4, HRW, HOW⟩
    case round =>
      obtain ⟨i, rfl, hi1, hrF, hdk, hrK, how⟩ := hrel
      obtain ⟨AF, cF, rfl, hcF, _⟩ := hrF.out.form0
      by_cases hlt : i < ks.length
      · have hfk : (D.fresh (ks.getD i 0)).isSome = true := by
          rw [← DS.mem_keys HH.out.ok, ← HKS.out, List.getD_eq_getElem?_getD, List.getElem?_eq_getElem hlt]
          exact List.getElem_mem hlt
        obtain ⟨k, hkk⟩ : ∃ k, ks.getD i 0 = k := ⟨_, rfl⟩
        rw [hkk] at hfk
        have HKK := Lib.hid hkk
        obtain ⟨L, hL⟩ := Option.isSome_iff_exists.1 hfk
        obtain ⟨hkb0, hkb1, hkb2⟩ := HH.out.ok.fresh k L hL
        have HKL := Lib.hid hkb2
        clear hkb2
        have hcb := HH.out.ok.count
        have HFK := Lib.hid hfk
        have HLL := Lib.hid hL
        have hkv : (ks.map (Value.int .i64))[i]? = some (.int .i64 k) := by
          rw [List.getElem?_map, List.getElem?_eq_getElem hlt, ← hkk, List.getD_eq_getElem?_getD, List.getElem?_eq_getElem hlt]; rfl
        obtain ⟨aB, rfl, hcB⟩ : ∃ aB, B = some aB ∧ wr.cell? (aB.add i) = some (.int .i64 k) := by
          obtain ⟨A', c', hv, _, _, g3⟩ := hrK.out
          injection hv with hv1 hv2 hv3
          obtain ⟨a, ha, _, hc⟩ := g3 i _ hkv
          exact ⟨a, hv1.trans ha, hc⟩
        have hlt2 : i < (ks.map (Value.int .i64)).length := by rw [List.length_map]; exact hlt
        clear hkk hfk hL hkv
        by_cases hFi : i < F.length
        · obtain ⟨f0, hf0⟩ : ∃ f0, F[i]'hFi = f0 := ⟨_, rfl⟩
          have hdrop : F.drop i = f0 :: F.drop (i + 1) := by rw [← hf0]; exact List.drop_eq_getElem_cons hFi
          have hfb := HFF.out f0 (by rw [← hf0]; exact List.getElem_mem hFi)
          obtain ⟨aF, rfl, hcF0⟩ : ∃ aF, AF = some aF ∧ wr.cell? aF = some (.int .i64 f0) := by
            obtain ⟨A', c', hv, _, _, g3⟩ := hrF.out
            injection hv with hv1 hv2 hv3
            obtain ⟨a, ha, _, hc⟩ := g3 0 (.int .i64 f0) (by rw [hdrop]; rfl)
            exact ⟨a, hv1.trans ha, by simpa [Addr.add] using hc⟩
          rw [List.length_map, List.length_drop] at hcF
          obtain ⟨A'', hA⟩ : ∃ A'', (if cF = 1 then some aF else some (⟨aF.block, aF.off + 1, none⟩ : Addr)) = A'' := ⟨_, rfl⟩
          have hrF2 : Row Z wr (.slice A'' (F.length - i - 1) (cF - 1)) ((F.drop (i + 1)).map (Value.int .i64)) := by
            have h9 := hrF.out
            rw [List.length_map, List.length_drop] at h9
            have h10 := h9.from_ (k := 1) (by omega)
            rw [hdrop, List.map_cons, List.drop_succ_cons, List.drop_zero] at h10
            rw [← hA]
            have e10 : aF.add 1 = ⟨aF.block, aF.off + 1, none⟩ := by simp [Addr.add]
            rw [← e10]
            exact h10
          have HF2 := Lib.hid hrF2
          have HDR := Lib.hid hdrop
          have t1 : -3 < f0.tmod 3 ∧ f0.tmod 3 < 3 := by
            have := Int.tmod_eq_emod (a := f0) (b := 3)
            have h2 := Int.emod_nonneg f0 (show (3 : Int) ≠ 0 by omega)
            have h3 := Int.emod_lt_of_pos f0 (show (0 : Int) < 3 by omega)
            rw [this]
            split <;> simp <;> omega
          have ew : IntKind.i64.wrap (f0.tmod 3 + 3) = f0.tmod 3 + 3 := IntWalk.i64_in _ (by omega)
          have HS : Hid (DS.crashOld D.fresh (ks.take (i + 1)) F D.old = DS.stepOld k ((f0.tmod 3 + 3).tmod 3) D.fresh (DS.crashOld D.fresh (ks.take i) F D.old)) := by
            show _ = _
            have e9 : ks[i] = k := by have := HKK.out; rwa [List.getD_eq_getElem?_getD, List.getElem?_eq_getElem hlt] at this
            rw [List.take_succ_eq_append_getElem hlt, DS.crashOld_snoc, List.length_take, Nat.min_eq_left (by omega), HDR.out, e9]
            rfl
          have hfc := DS.fate_cases (f0 :: F.drop (i + 1))
          have EW := Lib.hid ew
          clear hrF2 hdrop hfb hf0 t1 hrF ew
          rcases hfc with hfc | hfc | hfc <;> simp only [DS.fateOf] at hfc
          · have HFC := Lib.hid hfc
            have ew := EW.out
            go_wp2_with fail
            go_quiet (fail)
            go_wp2_with fail
            go_roundw
            case rel => exact ⟨i + 1, by go_num, by omega, (Row.drewN HF2.out _), by
              show Disk0 _ _ _ _ _ _ _ _
              rw [HS.out, HFC.out]
              exact hdk.out.drewN _, (Row.drewN hrK.out _), how.out.drewN _⟩
            case measure => simp [intOf]; omega
          · have HFC := Lib.hid hfc
            have ew := EW.out
            obtain ⟨Vf, hVf, hGf⟩ := hdk.out.fresh
            obtain ⟨Vo, hVo, hGo⟩ := hdk.out.old
            have hvk : ∃ Av cv, Vf k = some (.slice Av L.length cv) ∧ Row Z wr (.slice Av L.length cv) (bytes L) := by
              have h9 := hGf k
              cases hv : Vf k with
              | none => rw [hv] at h9; have := HLL.out; simp only at h9; rw [h9] at this; cases this
              | some v =>
                rw [hv] at h9
                obtain ⟨L2, hL2, hr2⟩ := h9
                have : L2 = L := by have h8 := HLL.out; simp only at hL2; rw [h8] at hL2; injection hL2 with h; exact h.symm
                subst this
                obtain ⟨Av, cv, rfl, _, _⟩ := hr2.form
                exact ⟨Av, cv, rfl, hr2⟩
            obtain ⟨Av, cv, hvk, hrv⟩ := hvk
            have hlk : ∀ n, (Instr.lookup 51 (.map (some f)) (.int .i64 k) false).run Try.prog (wr.drewN n) = .ok (.slice Av L.length cv) (wr.drewN n) := fun n => by
              have := (show MapV Try.prog 3 (wr.drewN n) f 65536 Vf from hVf).look1 Try.underlying3 Try.underlying51 zero22 (wf_i64 (a := k) (by omega) (by omega))
              rw [hvk] at this
              exact this
            have hup : ∀ n, ∃ w', (Instr.mapUpdate 51 (.map (some o)) (.int .i64 k) (.slice Av L.length cv)).run Try.prog (wr.drewN n) = .ok () w' ∧ MapV Try.prog 3 w' o (65536 + 1) (putV Vo k (.slice Av L.length cv)) ∧ (wr.drewN n).grownBy w' (some o) := fun n =>
              (show MapV Try.prog 3 (wr.drewN n) o 65536 Vo from hVo).update Try.underlying3 Try.underlying51 (by unfold maxLen; omega) (wf_i64 (a := k) (by omega) (by omega)) _
            obtain ⟨Wf, hWf⟩ := Classical.axiomOfChoice hup
            have hrunW := fun n => (hWf n).1
            have FIN : Hid (∀ n, Hid (Row Z (Wf n) (.slice A'' (F.length - i - 1) (cF - 1)) ((F.drop (i + 1)).map (Value.int .i64))) ∧
                Hid (Disk0 Z (Wf n) d p o f lv2 { D with log := DS.tear D.log N D.sure tt, sure := N, old := DS.crashOld D.fresh (ks.take (i + 1)) F D.old }) ∧
                Hid (Row Z (Wf n) (.slice (some aB) (ks.map (Value.int .i64)).length cB) (ks.map (Value.int .i64))) ∧ Hid (Out Z w (Wf n))) := fun n => by
              obtain ⟨_, hm9, hg9⟩ := hWf n
              obtain ⟨h9, o9⟩ := hdk.out.reold hm9 (rows_put hGo hrv) (grown_undrewN hg9) (by
                have := DS.stepOld_ok HH.out.ok (old := DS.crashOld D.fresh (ks.take i) F D.old) hdk.out.ok.old HFK.out 1
                unfold DS.stepOld at this
                rw [if_pos rfl, HLL.out] at this
                exact this)
              have e9 : DS.crashOld D.fresh (ks.take (i + 1)) F D.old = putF (DS.crashOld D.fresh (ks.take i) F D.old) k L := by
                rw [HS.out, HFC.out]
                unfold DS.stepOld
                rw [if_pos rfl, HLL.out]
                rfl
              rw [e9]
              exact ⟨HF2.out.out o9, h9, hrK.out.out o9, how.out.trans o9⟩
            have HWf := Lib.hid hWf
            have HGO := Lib.hid hGo
            have HRV := Lib.hid hrv
            have c6 := cells_all hdk.out.sd 6
            have c7 := cells_all hdk.out.sd 7
            clear hVf hGf hVo hGo hvk hrv hup hWf
            go_wp2_with fail
            go_quiet (fail)
            go_wp2_with fail
            go_region
            all_goals
              go_wp2_with fail
              go_roundw
              case rel => exact ⟨i + 1, by go_num, by omega, FIN.out _⟩
              case measure => simp [intOf]; omega
          · have HFC := Lib.hid hfc
            have ew := EW.out
            obtain ⟨Vf, hVf, hGf⟩ := hdk.out.fresh
            obtain ⟨Vo, hVo, hGo⟩ := hdk.out.old
            have hvk : ∃ Av cv, Vf k = some (.slice Av L.length cv) := by
              have h9 := hGf k
              cases hv : Vf k with
              | none => rw [hv] at h9; have := HLL.out; simp only at h9; rw [h9] at this; cases this
              | some v =>
                rw [hv] at h9
                obtain ⟨L2, hL2, hr2⟩ := h9
                have : L2 = L := by have h8 := HLL.out; simp only at hL2; rw [h8] at hL2; injection hL2 with h; exact h.symm
                subst this
                obtain ⟨Av, cv, rfl, _, _⟩ := hr2.form
                exact ⟨Av, cv, rfl⟩
            obtain ⟨Av, cv, hvk⟩ := hvk
            have hlk : ∀ n, (Instr.lookup 51 (.map (some f)) (.int .i64 k) false).run Try.prog (wr.drewN n) = .ok (.slice Av L.length cv) (wr.drewN n) := fun n => by
              have := (show MapV Try.prog 3 (wr.drewN n) f 65536 Vf from hVf).look1 Try.underlying3 Try.underlying51 zero22 (wf_i64 (a := k) (by omega) (by omega))
              rw [hvk] at this
              exact this
            have hlk2 : ∀ n, (Instr.lookup 51 (.map (some f)) (.int .i64 k) false).run Try.prog ((wr.drewN n).alloc (.cells #[.int .u8 255] 5)) = .ok (.slice Av L.length cv) ((wr.drewN n).alloc (.cells #[.int .u8 255] 5)) := fun n => by
              have := (show MapV Try.prog 3 ((wr.drewN n).alloc (.cells #[.int .u8 255] 5)) f 65536 Vf from hVf.out (((Out.refl Zone.no wr).drewN n).alloc _) (id)).look1 Try.underlying3 Try.underlying51 zero22 (wf_i64 (a := k) (by omega) (by omega))
              rw [hvk] at this
              exact this
            have HVO := Lib.hid hVo
            have HGO := Lib.hid hGo
            have c6 := cells_all hdk.out.sd 6
            have c7 := cells_all hdk.out.sd 7
            have HDT := Lib.hid hdk.out.top
            have c6a := fun n => cells_all (heap_alloc' (show (wr.drewN n).heap[d]? = _ from hdk.out.sd) (.cells #[.int .u8 255] 5)) 6
            have c7a := fun n => cells_all (heap_alloc' (show (wr.drewN n).heap[d]? = _ from hdk.out.sd) (.cells #[.int .u8 255] 5)) 7
            have HNC := Lib.hid (fun n => cells_all (heap_alloc_new (wr.drewN n) (.cells #[.int .u8 255] 5)) 0)
            have K0 : ∀ n, (wr.drewN n).cell? ⟨d, 6, none⟩ = some (.map (some o)) ∧ (wr.drewN n).cell? ⟨d, 7, none⟩ = some (.map (some f)) ∧ (Instr.lookup 51 (.map (some f)) (.int .i64 k) false).run Try.prog (wr.drewN n) = .ok (.slice Av L.length cv) (wr.drewN n) := fun n => ⟨c6, c7, hlk n⟩
            have K1 : ∀ n, ((wr.drewN n).alloc (.cells #[.int .u8 255] 5)).cell? ⟨d, 6, none⟩ = some (.map (some o)) ∧ ((wr.drewN n).alloc (.cells #[.int .u8 255] 5)).cell? ⟨d, 7, none⟩ = some (.map (some f)) ∧ (Instr.lookup 51 (.map (some f)) (.int .i64 k) false).run Try.prog ((wr.drewN n).alloc (.cells #[.int .u8 255] 5)) = .ok (.slice Av L.length cv) ((wr.drewN n).alloc (.cells #[.int .u8 255] 5)) := fun n => ⟨c6a n, c7a n, hlk2 n⟩
            have KD := fun n => (show (wr.drewN n).drew.cell? ⟨d, 6, none⟩ = some (.map (some o)) ∧ (wr.drewN n).drew.cell? ⟨d, 7, none⟩ = some (.map (some f)) ∧ (Instr.lookup 51 (.map (some f)) (.int .i64 k) false).run Try.prog (wr.drewN n).drew = .ok (.slice Av L.length cv) (wr.drewN n).drew from K0 (n + 1))
            have KE := fun n => (show ((wr.drewN n).drew.alloc (.cells #[.int .u8 255] 5)).cell? ⟨d, 6, none⟩ = some (.map (some o)) ∧ ((wr.drewN n).drew.alloc (.cells #[.int .u8 255] 5)).cell? ⟨d, 7, none⟩ = some (.map (some f)) ∧ (Instr.lookup 51 (.map (some f)) (.int .i64 k) false).run Try.prog ((wr.drewN n).drew.alloc (.cells #[.int .u8 255] 5)) = .ok (.slice Av L.length cv) ((wr.drewN n).drew.alloc (.cells #[.int .u8 255] 5)) from K1 (n + 1))
            have KW : Hid (∀ w5, Out Zone.no wr w5 → w5.cell? ⟨d, 6, none⟩ = some (.map (some o)) ∧ w5.cell? ⟨d, 7, none⟩ = some (.map (some f)) ∧ (Instr.lookup 51 (.map (some f)) (.int .i64 k) false).run Try.prog w5 = .ok (.slice Av L.length cv) w5) := fun w5 h5 => by
              have h6 := h5.get hdk.out.sd (id)
              have := (hVf.out h5 (id)).look1 Try.underlying3 Try.underlying51 zero22 (wf_i64 (a := k) (by omega) (by omega))
              rw [hvk] at this
              exact ⟨cells_all h6 6, cells_all h6 7, this⟩
            have KX : Hid (∀ w5 w6, Out Zone.no wr w5 → w5.grownBy w6 (some o) → w6.cell? ⟨d, 6, none⟩ = some (.map (some o)) ∧ w6.cell? ⟨d, 7, none⟩ = some (.map (some f)) ∧ (Instr.lookup 51 (.map (some f)) (.int .i64 k) false).run Try.prog w6 = .ok (.slice Av L.length cv) w6) := fun w5 w6 h5 hg => by
              have hm := hdk.out.map_ne
              have hne := hdk.out.ne
              have h6 := (hg.block d (by have := hdk.out.top.lt hdk.out.bd; have := h5.size; omega) (some_ne (Ne.symm hm.1))).trans (h5.get hdk.out.sd (id))
              have := ((hVf.out h5 (id)).kept hg (some_ne (Ne.symm hne))).look1 Try.underlying3 Try.underlying51 zero22 (wf_i64 (a := k) (by omega) (by omega))
              rw [hvk] at this
              exact ⟨cells_all h6 6, cells_all h6 7, this⟩
            have FIN2 : Hid (∀ w5 w6, Hid (Out Zone.no wr w5) → Hid (Row Zone.no w5 (.slice (some ⟨wr.heap.size + 1, 0, none⟩) L.length L.length) (List.replicate L.length (.int .u8 255))) →
                Hid (MapV Try.prog 3 w6 o (65536 + 1) (putV Vo k (.slice (some ⟨wr.heap.size + 1, 0, none⟩) L.length L.length))) → Hid (w5.grownBy w6 (some o)) →
                Hid (Row Z w6 (.slice A'' (F.length - i - 1) (cF - 1)) ((F.drop (i + 1)).map (Value.int .i64))) ∧
                Hid (Disk0 Z w6 d p o f lv2 { D with log := DS.tear D.log N D.sure tt, sure := N, old := DS.crashOld D.fresh (ks.take (i + 1)) F D.old }) ∧
                Hid (Row Z w6 (.slice (some aB) (ks.map (Value.int .i64)).length cB) (ks.map (Value.int .i64))) ∧ Hid (Out Z w w6)) := by
              intro w5 w6 h5 hr5 hm6 hg6
              have e5 : bytes DS.lost = List.replicate L.length (.int .u8 255) := by
                rw [HKL.out]
                unfold bytes DS.lost
                rw [List.map_replicate]
                rfl
              have hrow : Row Z w5 (.slice (some ⟨wr.heap.size + 1, 0, none⟩) L.length L.length) (bytes DS.lost) := by
                obtain ⟨A9, c9, hv9, g1, g2, g3⟩ := hr5.out
                rw [e5]
                refine ⟨A9, c9, hv9, g1, g2, fun j u hu => ?_⟩
                obtain ⟨a, ha, _, hc⟩ := g3 j u hu
                injection hv9 with hv9
                have : a.block = wr.heap.size + 1 := by rw [ha] at hv9; injection hv9 with hv9; rw [← hv9]
                exact ⟨a, ha, hdk.out.top.fresh (by omega), hc⟩
              have h5d := hdk.out.any h5.out
              obtain ⟨h9, o9⟩ := h5d.reold hm6.out (rows_put (rows_out h5.out.mono0 hGo) hrow) hg6.out (by
                have := DS.stepOld_ok HH.out.ok (old := DS.crashOld D.fresh (ks.take i) F D.old) hdk.out.ok.old HFK.out 2
                unfold DS.stepOld at this
                rw [if_neg (by omega), if_pos rfl] at this
                exact this)
              have e9 : DS.crashOld D.fresh (ks.take (i + 1)) F D.old = putF (DS.crashOld D.fresh (ks.take i) F D.old) k DS.lost := by
                rw [HS.out, HFC.out]
                unfold DS.stepOld
                rw [if_neg (by omega), if_pos rfl]
              rw [e9]
              exact ⟨(HF2.out.out h5.out.mono0).out o9, h9, (hrK.out.out h5.out.mono0).out o9, (how.out.trans h5.out.mono0).trans o9⟩
            clear hVf hGf hVo hGo hvk c6 c7 hlk hlk2 c6a c7a
            go_wp2_with fail
            go_quiet (fail)
            go_wp2_with fail
            go_region_held3 (fun W' => W'.cell? ⟨d, 6, none⟩ = some (.map (some o)) ∧ W'.cell? ⟨d, 7, none⟩ = some (.map (some f)) ∧ (Instr.lookup 51 (.map (some f)) (.int .i64 k) false).run Try.prog W' = .ok (.slice Av L.length cv) W')
              (first | exact KD _ | exact KE _ | exact K0 _ | exact K1 _ | exact KW.out _ HO5.out | exact KX.out _ _ HO5.out HG6.out | assumption)
              ((go_at_call 51; refine (repeat_at _ ⟨wr.heap.size, 0, none⟩ 1 L.length (wr.heap.size + 1) (by simp) (by exact HNC.out _) (by have := HKL.out; omega) (by have := HKL.out; omega)).mono ?_; rintro e w5 ⟨rfl, hr, ho⟩; have HO5 := Lib.hid ((((Out.refl Zone.no wr).drewN _).alloc (.cells #[.int .u8 255] 5)).trans ho); have HR5 := Lib.hid hr; clear hr ho; obtain ⟨w6, hrun, hm6, hg6⟩ := (HVO.out.out HO5.out (id)).update Try.underlying3 Try.underlying51 (by unfold maxLen; omega) (wf_i64 (a := k) (by omega) (by omega)) (.slice (some ⟨wr.heap.size + 1, 0, none⟩) L.length L.length); have HM6 := Lib.hid hm6; have HG6 := Lib.hid hg6; clear hm6 hg6))
            all_goals
              go_wp2_with fail
              go_roundw
              case rel => exact ⟨i + 1, by go_num, by omega, FIN2.out _ _ HO5 HR5 HM6 HG6⟩
              case measure => simp [intOf]; omega
        · have hnF : F.drop i = [] := List.drop_eq_nil_of_le (by omega)
          rw [hnF] at hrF
          have HNF := Lib.hid hnF
          clear hnF
          have HS : Hid (DS.crashOld D.fresh (ks.take (i + 1)) F D.old = DS.crashOld D.fresh (ks.take i) F D.old) := by
            show _ = _
            rw [List.take_succ_eq_append_getElem hlt, DS.crashOld_snoc, List.length_take, Nat.min_eq_left (by omega), HNF.out]
            rfl
          go_wp2_with fail
          go_roundw
          case rel => exact ⟨i + 1, by go_num, by omega, by
            show Row Z wr _ _
            have : F.drop (i + 1) = [] := List.drop_eq_nil_of_le (by omega)
            rw [this]
            have h9 := hrF.out
            rw [← HNF.out] at h9
            simpa [HNF.out] using h9, by
            show Disk0 _ _ _ _ _ _ _ _
            rw [HS.out]; exact hdk.out, hrK, how⟩
          case measure => simp [intOf]; omega
      · have hik : i = ks.length := by omega
        subst hik
        rw [List.take_of_length_le (Nat.le_refl _)] at hdk
        obtain ⟨U, hU, _⟩ := hdk.out.fresh
        obtain ⟨w5, hrun, hm5, hg5⟩ := hU.clear (ty := 0) Try.underlying51
        have HR5 := Lib.hid hrun
        have c7 := cells_all hdk.out.sd 7
        have hm := hdk.out.map_ne
        have hd5 : w5.heap[d]? = _ := (hg5.block d (by have := hdk.out.top.lt hdk.out.bd; omega) (some_ne (Ne.symm hm.2.2.1))).trans hdk.out.sd
        have hp5 : w5.heap[p]? = _ := (hg5.block p (by have := hdk.out.top.lt hdk.out.bp; omega) (some_ne (Ne.symm hm.2.2.2))).trans hdk.out.sp
        have c0' := cells_all hd5 0
        have cp' := cells_all hp5
        have fp' := frozen_all hp5
        have HM5 := Lib.hid hm5
        have HG5 := Lib.hid hg5
        have HD5 := Lib.hid hd5
        have HP5 := Lib.hid hp5
        clear hrun hU hm hd5 hp5 hm5 hg5
        go_wp2_with (refine wpList_clear rfl _ _ rfl HR5.out ?_)
        go_end0
        obtain ⟨h6, o6⟩ := hdk.out.freshen HM5.out (fun x => rfl) HG5.out (fun k s hs => by cases hs)
        obtain ⟨h7, o7⟩ := h6.power (w2 := (w5.setCell ⟨p, 0, none⟩ (.int .i64 (-1))).setCell ⟨p, 1, none⟩ (.bool false)) (by simpa using heap_set (heap_set HP5.out 0 (.int .i64 (-1))) 1 (.bool false)) (grown_set2 _ _ _ _ _ _)
        have e1 : D.crash keep tt F = { D with left := -1, off := false, log := DS.tear D.log N D.sure tt, sure := N, old := DS.crashOld D.fresh ks F D.old, fresh := fun _ => none } := by
          unfold DS.crash; rw [HNN.out, HKS.out]
        rw [e1]
        exact ⟨rfl, h7.at_, (how.out.trans o6).trans o7⟩

theorem crash_is (h : DiskAt Z w d D) (keep : Int) (hkeep : -9223372036854775808 ≤ keep ∧ keep ≤ 9223372036854775807) (torn : Bool) (fv : Value) (F : List Int) (hf : Row Z w fv (F.map (Value.int .i64))) (hF : ∀ x ∈ F, -9223372036854775808 ≤ x ∧ x ≤ 9223372036854775807) :
    Calls Try.prog 17 #[.pointer (some ⟨d, 0, none⟩), .int .i64 keep, .bool torn, fv] w fun e w' => e = .returned (.tuple #[]) ∧ DiskAt Z w' d (D.crash keep torn F) ∧ Out Z w w' := by
  obtain ⟨p, o, f, lv, h⟩ := h
  exact crash_ok h keep hkeep torn torn rfl fv F hf hF
end
end Go.Proofs.Ytddcojikbcbihaa
