import Derived.Test.YtlgoenimjmiapaaT46
set_option linter.unusedSimpArgs false
set_option linter.unusedVariables false
set_option linter.unusedSectionVars false
/-! Settles, plain: rounds of a tick and a rush, till all have the log. -/
namespace Go.Proofs.Ytlgoenimjmiapaa

theorem cover : ∀ (N : Nat) (gs : List Int), (∀ j : Nat, j < N → (j : Int) ∈ gs) → N ≤ gs.length
  | 0, _, _ => Nat.zero_le _
  | N + 1, gs, h => by
    have h1 := h N (by omega)
    have h2 := cover N (gs.erase (N : Int)) (fun j hj => (List.mem_erase_of_ne (by omega)).2 (h j (by omega)))
    rw [List.length_erase_of_mem h1] at h2
    have := List.length_pos_of_mem h1
    omega

def VV (t : Town) (b : Nat) (E : Int) : Prop := (t.X b).role = 2 ∨ ∀ j, j < t.n → j ≠ b → Vj b E t.X t.net j
def FF (t : Town) (b : Nat) (E : Int) : Prop := ∀ j, j < t.n → j ≠ b → Fj b E t.X t.net j
def Synced (t : Town) (b : Nat) : Prop := ∀ j, j < t.n → j ≠ b → (t.X b).acked.getD j 0 = ((t.X b).st.log.length : Int)
def Lev (b : Nat) (E : Int) (t : Town) : Nat → Prop
  | 0 => True
  | 1 => t.net = [] ∨ VV t b E
  | 2 => (t.X b).role = 2 ∧ (t.net = [] ∨ FF t b E)
  | _ + 3 => (t.X b).role = 2 ∧ t.net = [] ∧ Synced t b

section
variable {t t' : Town} {b C T L : Nat} {E : Int}
theorem VV.drained (h : VV t b E) (hs : Set2 t.n b E t.X t.net) (hn : t.net = []) (hb : b < t.n) : (t.X b).role = 2 := by
  rcases h with h | h
  · exact h
  · rcases hs.role with hr | hr
    · exfalso
      obtain ⟨c1, c2⟩ := hs.cand hr
      have := cover t.n ((t.X b).granted.getD []) (fun j hj => by
        by_cases e : j = b
        · subst e; exact c1
        · rcases h j hj e with h | ⟨x, hx, _⟩ | ⟨x, hx, _⟩
          · exact h
          · rw [hn] at hx; cases hx
          · rw [hn] at hx; cases hx)
      omega
    · exact hr
theorem FF.drained (h : FF t b E) (hn : t.net = []) : Synced t b := fun j hj hjb => by
  rcases h j hj hjb with ⟨x, hx, _⟩ | ⟨x, hx, _⟩ | ⟨x, hx, _⟩ | h
  · rw [hn] at hx; cases hx
  · rw [hn] at hx; cases hx
  · rw [hn] at hx; cases hx
  · exact h
theorem Synced.ff (h : Synced t b) : FF t b E := fun j hj hjb => Or.inr (Or.inr (Or.inr (h j hj hjb)))
/-- All have acked the log, and have it. -/
theorem Synced.gaps0 (h : Synced t b) (hF : Facts t.n T t.X t.net) (hb : b < t.n) (hr : (t.X b).role = 2) (hs : Set2 t.n b E t.X t.net) : gaps (t.X b) b t.n = 0 := by
  refine gaps_zero (fun j hj hjb => ?_)
  unfold gap
  have h1 := h j hj hjb
  obtain ⟨p1, p2, p3, p4⟩ := (hF.fit b hb).prim hr
  rw [hF.n b hb] at p1
  have := (p3 _ (List.mem_of_getElem? (getD_is (l := (t.X b).has) (j := j) (by omega)))).2
  omega
theorem Synced.phi (h : Synced t b) (hF : Facts t.n T t.X t.net) (hb : b < t.n) (hr : (t.X b).role = 2) (hs : Set2 t.n b E t.X t.net) (hn : t.net = []) : Phi L t.n b (t.X b) t.net = 0 := by
  unfold Phi
  rw [if_neg (by omega), if_pos hr, h.gaps0 hF hb hr hs, hn]
  rfl
theorem Goes.vv (h : Goes t t' b L E) (hs : Set2 t.n b E t.X t.net) (hs' : Set2 t'.n b E t'.X t'.net) (hv : VV t b E) : VV t' b E := by
  rcases hs'.role with r2 | r2
  · rcases hs.role with r1 | r1
    · right
      rcases hv with hv | hv
      · omega
      · intro j hj hjb
        exact h.vote r1 r2 j (by rw [← h.n]; exact hj) hjb (hv j (by rw [← h.n]; exact hj) hjb)
    · have := (h.prim r1).1; omega
  · exact Or.inl r2
theorem Goes.ff (h : Goes t t' b L E) (hr : (t.X b).role = 2) (hf : FF t b E) : FF t' b E := fun j hj hjb => h.log hr j (by rw [← h.n]; exact hj) hjb (hf j (by rw [← h.n]; exact hj) hjb)

/-- A tick. -/
theorem Town0.tick2 (h : Town0 t b C T) (hs : Set2 t.n b E t.X t.net) : Town0 (t.act (dT b)) b C T ∧ Set2 (t.act (dT b)).n b E (t.act (dT b)).X (t.act (dT b)).net ∧ (t.act (dT b)).X = t.X ∧ (t.act (dT b)).n = t.n ∧ Phi L t.n b (t.X b) (t.act (dT b)).net ≤ Phi L t.n b (t.X b) t.net + 35 ∧ (t.net = [] ∨ VV t b E → VV (t.act (dT b)) b E) ∧ ((t.X b).role = 2 → t.net = [] ∨ FF t b E → FF (t.act (dT b)) b E) := by
  obtain ⟨a1, a2, a3⟩ := actT_is h.hb
  have hF := h.facts
  have hle := h.le
  have hnl := h.net
  obtain ⟨k1, k2, k3, k4, k5⟩ := hs.tick (L := L) hF h.hb h.n7
  rw [k2, upd_same] at a2
  rw [← a1] at k1 k3 k4 k5
  have hsub : ∀ x ∈ t.net, x ∈ (t.act (dT b)).net := fun x hx => by rw [a1]; exact List.mem_append.2 (Or.inl hx)
  refine ⟨⟨by rw [a3]; exact h.n0, by rw [a3]; exact h.odd, by rw [a3]; exact h.n7, by rw [a3]; exact h.hb, h.ti.act2 h.hb h.n7 (by omega), by rw [a3, a2]; exact h.cap, h.lt, h.le, ?_⟩, by rw [a2, a3]; exact k1, a2, a3, k3, fun hv => ?_, fun hr hf => ?_⟩
  · rw [a1, List.length_append, List.length_take]; omega
  · unfold VV
    rw [a2, a3]
    rcases hs.role with r | r
    · right
      rcases hv with hv | hv | hv
      · exact k4 hv r
      · omega
      · intro j hj hjb
        exact (hv j hj hjb).more (fun z hz => hz) hsub
    · exact Or.inl r
  · unfold FF
    rw [a2, a3]
    rcases hf with hf | hf
    · exact k5 hf hr
    · intro j hj hjb
      rcases hf j hj hjb with ⟨x, hx, e⟩ | ⟨x, hx, e⟩ | ⟨x, hx, e⟩ | e
      · exact Or.inl ⟨x, hsub x hx, e⟩
      · exact Or.inr (Or.inl ⟨x, hsub x hx, e⟩)
      · exact Or.inr (Or.inr (Or.inl ⟨x, hsub x hx, e⟩))
      · exact Or.inr (Or.inr (Or.inr e))

/-- A tick, and all arrives. -/
def Town.round (t : Town) (b : Nat) : Town := (t.act (dT b)).rush 400
def Town.rounds (b : Nat) : Nat → Town → Town
  | 0, t => t
  | k + 1, t => Town.rounds b k (t.round b)
theorem Town0.round2 (hL : T ≤ L) (h : Town0 t b C T) (hs : Set2 t.n b E t.X t.net) : Town0 (t.round b) b C T ∧ Set2 (t.round b).n b E (t.round b).X (t.round b).net ∧ (t.round b).n = t.n ∧
    ∀ l, l ≤ 3 → Lev b E t l → ((t.round b).net = [] ∧ Lev b E (t.round b) (min (l + 1) 3) ∧ Phi L t.n b ((t.round b).X b) (t.round b).net ≤ Phi L t.n b (t.X b) t.net + 35) ∨ (l ≤ 2 ∧ Lev b E (t.round b) l ∧ Phi L t.n b ((t.round b).X b) (t.round b).net + 400 ≤ Phi L t.n b (t.X b) t.net + 35) := by
  obtain ⟨h1, s1, x1, n1, p1, v1, f1⟩ := h.tick2 (L := L) hs
  obtain ⟨h2, s2, g2, d2⟩ := h1.rush2 hL 400 s1
  have hn2 : (t.round b).n = t.n := g2.n.trans n1
  rw [n1, x1] at d2
  have hless := g2.less
  rw [n1, x1] at hless
  have hF1 := h1.facts
  refine ⟨h2, s2, hn2, fun l hl3 hlev => ?_⟩
  obtain ⟨t1, ht1⟩ : ∃ t1, t.act (dT b) = t1 := ⟨_, rfl⟩
  have e2 : t.round b = t1.rush 400 := by rw [← ht1]; rfl
  rw [ht1] at h1 s1 x1 n1 p1 v1 f1 h2 s2 g2 d2 hless hF1
  rw [e2]
  have hb1 : b < t1.n := by rw [n1]; exact h.hb
  have hb2 : b < (t1.rush 400).n := by rw [g2.n]; exact hb1
  have role1 : (t.X b).role = 2 → (t1.X b).role = 2 := fun e => by rw [x1]; exact e
  rcases d2 with d2 | d2
  ·
    left
    refine ⟨d2, ?_, by omega⟩
    match l, hl3, hlev with
    | 0, _, _ => exact Or.inl d2
    | 1, _, hlev =>
      have hv := g2.vv s1 s2 (v1 hlev)
      exact ⟨hv.drained s2 d2 hb2, Or.inl d2⟩
    | 2, _, hlev =>
      have hf := g2.ff (role1 hlev.1) (f1 hlev.1 hlev.2)
      exact ⟨(g2.prim (role1 hlev.1)).1, d2, hf.drained d2⟩
    | 3, _, hlev =>
      have hf := g2.ff (role1 hlev.1) (f1 hlev.1 (Or.inl hlev.2.1))
      exact ⟨(g2.prim (role1 hlev.1)).1, d2, hf.drained d2⟩
  · right
    have hl2 : l ≤ 2 := by
      refine Classical.byContradiction (fun e => ?_)
      obtain rfl : l = 3 := by omega
      have := Synced.phi (L := L) hlev.2.2 h.facts h.hb hlev.1 hs hlev.2.1
      omega
    refine ⟨hl2, ?_, by omega⟩
    match l, hl2, hlev with
    | 0, _, _ => exact trivial
    | 1, _, hlev => exact Or.inr (g2.vv s1 s2 (v1 hlev))
    | 2, _, hlev => exact ⟨(g2.prim (role1 hlev.1)).1, Or.inr (g2.ff (role1 hlev.1) (f1 hlev.1 hlev.2))⟩
theorem Town0.rounds2 (hL : T ≤ L) : ∀ (k l : Nat) {t : Town}, l ≤ 3 → Town0 t b C T → Set2 t.n b E t.X t.net → Lev b E t l → Phi L t.n b (t.X b) t.net + 35 * k + 400 * (3 - l) ≤ 400 * k →
    Town0 (Town.rounds b k t) b C T ∧ Set2 (Town.rounds b k t).n b E (Town.rounds b k t).X (Town.rounds b k t).net ∧ (Town.rounds b k t).n = t.n ∧ Lev b E (Town.rounds b k t) 3
  | 0, l, t, hl, h, hs, hlev, hp => by
    obtain rfl : l = 3 := by omega
    exact ⟨h, hs, rfl, hlev⟩
  | k + 1, l, t, hl, h, hs, hlev, hp => by
    obtain ⟨h1, s1, n1, r1⟩ := h.round2 hL hs
    show Town0 (Town.rounds b k (t.round b)) b C T ∧ _
    rcases r1 l hl hlev with ⟨_, k2, k3⟩ | ⟨k1, k2, k3⟩
    · have hp2 : Phi L (t.round b).n b ((t.round b).X b) (t.round b).net + 35 * k + 400 * (3 - min (l + 1) 3) ≤ 400 * k := by
        by_cases hl3 : l = 3
        · subst hl3
          have k2' : Lev b E (t.round b) 3 := k2
          have hz := Synced.phi (L := L) k2'.2.2 h1.facts h1.hb k2'.1 s1 k2'.2.1
          rw [hz]
          show 0 + 35 * k + 400 * 0 ≤ _
          omega
        · have e : min (l + 1) 3 = l + 1 := Nat.min_eq_left (by omega)
          rw [e, n1]
          omega
      obtain ⟨a1, a2, a3, a4⟩ := Town0.rounds2 hL k (min (l + 1) 3) (Nat.min_le_right _ _) h1 s1 k2 hp2
      exact ⟨a1, a2, a3.trans n1, a4⟩
    · obtain ⟨a1, a2, a3, a4⟩ := Town0.rounds2 hL k l hl h1 s1 k2 (by rw [n1]; omega)
      exact ⟨a1, a2, a3.trans n1, a4⟩

/-- Where all have acked all, all have the same log. -/
theorem Synced.logs (h : Synced t b) (h0 : Town0 t b C T) (hs : Set2 t.n b E t.X t.net) (hr : (t.X b).role = 2) {j : Nat} (hj : j < t.n) : (t.X j).st.log = (t.X b).st.log := by
  by_cases hjb : j = b
  · rw [hjb]
  · have hX := h0.ti.extra h0.hb
    have hF := h0.facts
    have hjE : (t.X j).st.ep ≤ (t.X b).st.ep := by have := hs.s0.ep j hj; rw [hs.top] at this ⊢; omega
    have hag := hX.agree hr j hj hjb hjE
    rw [h j hj hjb, Int.toNat_natCast] at hag
    have hlen := hag.len (Nat.le_refl _)
    have hlast := hs.last hr
    have hfit := hF.fit b h0.hb
    have hmax : (t.X j).st.log.length ≤ (t.X b).st.log.length := by
      refine Classical.byContradiction (fun e => ?_)
      obtain ⟨x, hx⟩ := at_len (l := (t.X j).st.log) (k := (t.X j).st.log.length - 1) (by omega)
      have hxe := hF.ents j hj x (List.mem_of_getElem? hx)
      have hm := lastAt_mono (hF.mono j hj) (fun y hy => by have := (hF.ents j hj y hy).1; omega) hlen (Nat.le_refl _)
      rw [lastAt_agree hag, hlast] at hm
      have e1 := lastAt_succ hx
      rw [Nat.sub_add_cancel (by omega)] at e1
      have ha := hX.own hr j hj _ x hx (by rw [hs.top]; rw [hs.top] at hjE; omega)
      rw [Nat.sub_add_cancel (by omega)] at ha
      have := ha.symm.len (Nat.le_refl _)
      omega
    refine List.ext_getElem? (fun k => ?_)
    by_cases hk : k < (t.X b).st.log.length
    · exact hag k hk
    · rw [List.getElem?_eq_none (by omega), List.getElem?_eq_none (by omega)]
end
end Go.Proofs.Ytlgoenimjmiapaa

/-! Settles, plain: the last entry is committed by all; how b comes to ask in the last epoch. -/
namespace Go.Proofs.Ytlgoenimjmiapaa

theorem mid_all {l : List Int} {n : Nat} {v : Int} (hl : l.length = n) (hn : 0 < n) (h : ∀ x ∈ l, x = v) : (sortI l).getD (n / 2) 0 = v := by
  have hp := sortI_perm l
  have hlen : (sortI l).length = n := by rw [hp.length_eq, hl]
  have hlt : n / 2 < (sortI l).length := by rw [hlen]; omega
  rw [List.getD_eq_getElem?_getD, List.getElem?_eq_getElem hlt]
  exact h _ (hp.mem_iff.1 (List.getElem_mem hlt))
theorem TI.commits {t : Town} {T : Nat} (h : TI t T) {i : Nat} (hi : i < t.n) : (t.X i).commit ≤ (t.X i).st.log.length := by
  obtain ⟨S, g, h1, _⟩ := h
  exact (h1.2.1 i hi).commit.1

section
variable {t t' : Town} {b C T L : Nat} {E : Int} {m : Msg} {rest : List Msg}
/-- Where all have acked all, all is committed. -/
theorem Synced.commit (h : Synced t b) (h0 : Town0 t b C T) (hs : Set2 t.n b E t.X t.net) (hr : (t.X b).role = 2) : (t.X b).commit = (t.X b).st.log.length := by
  have hF := h0.facts
  have hfit := hF.fit b h0.hb
  obtain ⟨p1, p2, p3, p4⟩ := hfit.prim hr
  have hid := hF.id b h0.hb
  have hn := hF.n b h0.hb
  rw [hn] at p2
  have hm : (t.X b).mid = ((t.X b).st.log.length : Int) := by
    unfold ND.mid
    rw [hid, hn]
    refine mid_all (by rw [List.length_set]; exact p2) h0.n0 (fun x hx => ?_)
    obtain ⟨i, hi, hix⟩ := List.getElem_of_mem hx
    rw [List.length_set] at hi
    have e := getD_set (t.X b).acked b i ((t.X b).st.log.length : Int)
    rw [List.getD_eq_getElem?_getD, List.getElem?_eq_getElem (by rw [List.length_set]; exact hi), hix] at e
    have e : x = _ := e
    rw [e]
    by_cases hb : b = i
    · rw [if_pos ⟨hb, by have := h0.hb; omega⟩]
    · rw [if_neg (fun e => hb e.1)]
      exact h i (by omega) (Ne.symm hb)
  have hle := h0.ti.commits h0.hb
  rcases hs.comm hr with e | e
  · rw [hm] at e; omega
  · exfalso
    rw [hm, Int.toNat_natCast] at e
    exact e (hs.last hr)
theorem Goes.synced (h : Goes t t' b L E) (hr : (t.X b).role = 2) (hs : Synced t b) (hF : Facts t'.n T t'.X t'.net) (hb : b < t.n) : Synced t' b := by
  obtain ⟨r1, r2⟩ := h.prim hr
  obtain ⟨p1, p2, p3, p4⟩ := (hF.fit b (by rw [h.n]; exact hb)).prim r1
  rw [hF.n b (by rw [h.n]; exact hb), h.n] at p2
  intro j hj hjb
  have h1 := hs j (by rw [← h.n]; exact hj) hjb
  have h2 := h.up hr j
  rw [h.n] at hj
  have h3 := (p4 _ (List.mem_of_getElem? (getD_is (l := (t'.X b).acked) (j := j) (by omega)))).2
  rw [r2] at h3 ⊢
  omega

/-- Node j learns that all is committed. -/
def Gj (b : Nat) (E : Int) (X : Nat → ND) (net : List Msg) (j : Nat) : Prop :=
  (X j).commit = (X b).st.log.length ∨ ∃ x ∈ net, x.kind = 3 ∧ x.frm = (b : Int) ∧ x.to = (j : Int) ∧ x.ep = E ∧ x.at_ + (x.log.length : Int) = ((X b).st.log.length : Int) ∧ x.commit = ((X b).st.log.length : Int)
theorem Gj.deliver (h : Town0 t b C T) (hL : T ≤ L) (hnet : t.net = m :: rest) (hs : Set2 t.n b E t.X t.net) (hr : (t.X b).role = 2) (hy : Synced t b) (hg : ∀ j, j < t.n → j ≠ b → Gj b E t.X t.net j) : ∀ j, j < t.n → j ≠ b → Gj b E (t.act d3).X (t.act d3).net j := by
  obtain ⟨h1, s1, g1, _⟩ := h.deliver2 hL hnet hs
  obtain ⟨a1, a2, a3⟩ := act3_is hnet
  have hy1 := g1.synced hr hy h1.facts h.hb
  obtain ⟨r1, l1⟩ := g1.prim hr
  intro j hj hjb
  have hj1 : j < (t.act d3).n := by rw [a3]; exact hj
  have hle1 := h1.ti.commits hj1
  rw [hy1.logs h1 s1 r1 hj1, l1] at hle1
  have hcom := g1.com j hj hjb
  rcases hg j hj hjb with e | ⟨x, hx, x1, x2, x3, x4, x5, x6⟩
  · left
    rw [l1]; omega
  · rw [hnet] at hx
    rcases List.mem_cons.1 hx with e | e
    · subst e
      left
      rw [l1]
      have hF := h.facts
      have hX := h.ti.extra h.hb
      rw [hnet] at hF hX
      have hright := hF.right x (List.mem_cons_self ..)
      obtain ⟨f, k, e1, e2, e3, e4, e5⟩ := hF.ends x (List.mem_cons_self ..)
      obtain rfl : k = j := by omega
      have ek : x.to.toNat = k := by omega
      have hid := hF.id k e4
      have hn := hF.n k e4
      have hlen := hF.len k e4
      have hlog := hy.logs h hs hr hj
      have hlb := hF.len b h.hb
      have hle := h.le
      have hat := right_at hright
      have hst := hs.s0.stand k hj hjb
      have hepk := hs.s0.ep k hj
      rw [hs.top] at hepk
      have hl := hX.ship hr x (List.mem_cons_self ..) x1 x2 (by rw [hs.top]; exact x4)
      have hack := (stepJ_ack hright hst (by rw [hid]; exact e2) (by rw [hid, e1]; omega) (by rw [hn, e1]; omega) x1 (by omega) (by omega) (by rw [hlog]; omega) (by rw [hlog]; exact hl.symm) (by omega)).2
      have hXk : (t.act d3).X k = ((t.X k).step x).1.q := by rw [a2, ek, upd_self]
      rw [hXk] at hle1 ⊢
      rw [hack] at hle1 ⊢
      omega
    · right
      refine ⟨x, by rw [a1]; exact List.mem_append.2 (Or.inl e), x1, x2, x3, x4, by rw [l1]; exact x5, by rw [l1]; exact x6⟩
theorem Gj.rush (hL : T ≤ L) : ∀ (k : Nat) {t : Town}, Town0 t b C T → Set2 t.n b E t.X t.net → (t.X b).role = 2 → Synced t b → (∀ j, j < t.n → j ≠ b → Gj b E t.X t.net j) → ∀ j, j < t.n → j ≠ b → Gj b E (t.rush k).X (t.rush k).net j
  | 0, t, h, hs, hr, hy, hg => hg
  | k + 1, t, h, hs, hr, hy, hg => by
    unfold Town.rush
    cases hnet : t.net with
    | nil => rw [if_pos rfl]; exact hg
    | cons m rest =>
      rw [if_neg (by simp)]
      obtain ⟨h1, s1, g1, _⟩ := h.deliver2 hL hnet hs
      have := Gj.rush hL k h1 s1 (g1.prim hr).1 (g1.synced hr hy h1.facts h.hb) (fun j hj hjb => Gj.deliver h hL hnet hs hr hy hg j (by rw [← g1.n]; exact hj) hjb)
      rw [g1.n] at this
      exact this

/-- The last entry. -/
def Town.entry (t : Town) (b : Nat) : Town := (t.act (dA b)).rush 400
theorem data_ne (t : Town) : t.data ≠ [] ∧ t.data.length ≤ 2 := ⟨by unfold Town.data; simp, by unfold Town.data; simp⟩
theorem Town0.append2 (h : Town0 t b C T) (hT : T ≤ 900) (hs : Set2 t.n b E t.X t.net) (hlev : Lev b E t 3) : Town0 (t.act (dA b)) b (C + 1) (T + 1) ∧ Set2 (t.act (dA b)).n b E (t.act (dA b)).X (t.act (dA b)).net ∧ ((t.act (dA b)).X b).role = 2 ∧ FF (t.act (dA b)) b E ∧ Phi L (t.act (dA b)).n b ((t.act (dA b)).X b) (t.act (dA b)).net ≤ 35 ∧ (t.act (dA b)).n = t.n := by
  obtain ⟨hr, hnet, hy⟩ := hlev
  obtain ⟨a1, a2, a3⟩ := actA_is h.hb
  have hF := h.facts
  have hle := h.le
  obtain ⟨hd, hd2⟩ := data_ne t
  obtain ⟨k1, k2, k3, k4, k5, k6, k7⟩ := hs.append (L := L) hF (by omega) h.hb h.n7 hr hnet hd hd2
  rw [← a1, ← a2] at k1
  have hti := (h.ti.act h.n0 h.odd h.n7 (by omega) (dA b)).1
  have hc := h.cap
  have hown := hc.own
  refine ⟨⟨by rw [a3]; exact h.n0, by rw [a3]; exact h.odd, by rw [a3]; exact h.n7, by rw [a3]; exact h.hb, hti, ?_, by have := h.lt; omega, by omega, ?_⟩, by rw [a3]; exact k1, by rw [a2, upd_self]; exact k2, ?_, ?_, a3⟩
  · rw [a3, a2]
    refine ⟨fun j hj hjb => by rw [upd_ne _ _ _ hjb]; have := hc.other j hj hjb; omega, ?_⟩
    rw [upd_self, k3, if_neg (by rw [k2]; decide)]
    simp; omega
  · rw [a1, hnet, List.nil_append, List.length_take]; simp; omega
  · unfold FF
    rw [a1, a2, a3]
    exact k7
  · rw [a1, a2, a3, upd_self]
    rw [hy.gaps0 hF h.hb hr hs] at k6
    omega
theorem Town0.entry2 (h : Town0 t b C T) (hT : T ≤ 900) (hs : Set2 t.n b E t.X t.net) (hlev : Lev b E t 3) : Town0 (t.entry b) b (C + 1) (T + 1) ∧ Set2 (t.entry b).n b E (t.entry b).X (t.entry b).net ∧ Lev b E (t.entry b) 3 ∧ (t.entry b).n = t.n := by
  obtain ⟨h1, s1, r1, f1, p1, n1⟩ := h.append2 (L := T + 1) hT hs hlev
  obtain ⟨h2, s2, g2, d2⟩ := h1.rush2 (Nat.le_refl _) 400 s1
  have hd : ((t.act (dA b)).rush 400).net = [] := by
    rcases d2 with d2 | d2
    · exact d2
    · omega
  exact ⟨h2, s2, ⟨(g2.prim r1).1, hd, (g2.ff r1 f1).drained hd⟩, g2.n.trans n1⟩
/-- .. and all know that it is committed. -/
theorem Town0.final (h : Town0 t b C T) (hs : Set2 t.n b E t.X t.net) (hlev : Lev b E t 3) : (t.round b).n = t.n ∧ Town0 (t.round b) b C T ∧ Set2 (t.round b).n b E (t.round b).X (t.round b).net ∧ ∀ i, i < t.n → ((t.round b).X i).commit = ((t.round b).X b).st.log.length ∧ ((t.round b).X i).st.log = ((t.round b).X b).st.log := by
  obtain ⟨hr, hnet, hy⟩ := hlev
  obtain ⟨h1, s1, x1, n1, p1, v1, f1⟩ := h.tick2 (L := T) hs
  have hF := h.facts
  have hcm := hy.commit h hs hr
  obtain ⟨a1, a2, a3⟩ := actT_is h.hb
  have hr1 : ((t.act (dT b)).X b).role = 2 := by rw [x1]; exact hr
  have hy1 : Synced (t.act (dT b)) b := by
    unfold Synced
    rw [x1, n1]; exact hy
  have hg1 : ∀ j, j < (t.act (dT b)).n → j ≠ b → Gj b E (t.act (dT b)).X (t.act (dT b)).net j := fun j hj hjb => by
    rw [n1] at hj
    right
    have em : (t.X b).tick.ms = (t.X b).ships (t.X b).n := by unfold ND.tick; rw [if_pos hr]; rfl
    have hid := hF.id b h.hb
    have hn := hF.n b h.hb
    have h7 := h.n7
    have et : (t.X b).tick.ms.take (300 - t.net.length) = (t.X b).tick.ms := List.take_of_length_le (by
      rw [hnet, em]
      have := ships_len (t.X b) (t.X b).n
      simp; omega)
    obtain ⟨p1, p2, p3, p4⟩ := (hF.fit b h.hb).prim hr
    have hh := p3 _ (List.mem_of_getElem? (getD_is (l := (t.X b).has) (j := j) (by omega)))
    refine ⟨shipMsg (t.X b) j ((t.X b).has.getD j 0).toNat, by rw [a1, et, em]; exact List.mem_append.2 (Or.inr (mem_ships' (by omega) (by omega))), rfl, by show ((t.X b).id : Int) = _; rw [hid], rfl, hs.top, ?_, ?_⟩
    · rw [x1]
      show ((((t.X b).has.getD j 0).toNat : Nat) : Int) + (((t.X b).st.log.drop ((t.X b).has.getD j 0).toNat).length : Int) = _
      rw [List.length_drop]; omega
    · rw [x1]
      show (((t.X b).commit : Nat) : Int) = _
      rw [hcm]
  obtain ⟨h2, s2, g2, d2⟩ := h1.rush2 (L := T) (Nat.le_refl _) 400 s1
  have hphi := Synced.phi (L := T) hy hF h.hb hr hs hnet
  have hd : ((t.act (dT b)).rush 400).net = [] := by
    rcases d2 with d2 | d2
    · exact d2
    · rw [n1, x1] at d2; omega
  have hg2 := Gj.rush (Nat.le_refl T) 400 h1 s1 hr1 hy1 hg1
  have hy2 := g2.synced hr1 hy1 h2.facts h1.hb
  obtain ⟨r2, l2⟩ := g2.prim hr1
  have hn2 : ((t.act (dT b)).rush 400).n = t.n := g2.n.trans n1
  refine ⟨hn2, h2, s2, fun i hi => ⟨?_, ?_⟩⟩
  · show (((t.act (dT b)).rush 400).X i).commit = (((t.act (dT b)).rush 400).X b).st.log.length
    by_cases hib : i = b
    · rw [hib]; exact hy2.commit h2 s2 r2
    · rcases hg2 i (by rw [n1]; exact hi) hib with e | ⟨x, hx, _⟩
      · exact e
      · rw [hd] at hx; cases hx
  · exact hy2.logs h2 s2 r2 (by rw [hn2]; exact hi)

/-- A promotion ahead of the last epoch. -/
theorem Town0.promote1 (h : Town0 t b C T) (hT : T ≤ 900) (hs : Set0 t.n b (E - 1) t.X t.net) (hep : (t.X b).st.ep ≤ E - 1) : Town0 (t.act (dP b)) b (C + 1) (T + 1) ∧ (t.act (dP b)).n = t.n ∧ ((t.act (dP b)).X b).st.ep = (t.X b).st.ep + 1 ∧
    (((t.X b).st.ep + 1 ≤ E - 1 ∧ Set0 (t.act (dP b)).n b (E - 1) (t.act (dP b)).X (t.act (dP b)).net) ∨ (t.X b).st.ep + 1 = E ∧ Set2 (t.act (dP b)).n b E (t.act (dP b)).X (t.act (dP b)).net) := by
  obtain ⟨a1, a2, a3⟩ := actP_is h.hb
  have hF := h.facts
  have hle := h.le
  have hfit := hF.fit b h.hb
  have hepT := hF.ep b h.hb
  have hid := hF.id b h.hb
  have h7 := h.n7
  have hbn := h.hb
  obtain ⟨hA, he⟩ := atB_promote (q := t.X b) hfit.ep (by omega) (by omega)
  have hti := (h.ti.act h.n0 h.odd h.n7 (by omega) (dP b)).1
  have hc := h.cap
  have hown := hc.own
  have hcap : Cap b (C + 1) t.n (upd t.X b (t.X b).promote.1.q) := by
    refine ⟨fun j hj hjb => by rw [upd_ne _ _ _ hjb]; have := hc.other j hj hjb; omega, ?_⟩
    rw [upd_self]
    have hn := note_vote (s := (t.X b).st) (t := ⟨1, (t.X b).st.ep + 1, ((t.X b).id : Int), ⟨0, []⟩⟩) rfl (vote_right ((t.X b).st.ep + 1) ((t.X b).id : Int) (by have := hfit.ep; omega) (by omega) (by omega) (by omega)) (by show (t.X b).st.ep < (t.X b).st.ep + 1; omega)
    have hq := NS.note_q (c := ⟨t.X b, [], []⟩) hn
    unfold ND.promote
    rw [if_neg (by omega)]
    have := count_len ((NS.note ⟨t.X b, [], []⟩ ⟨1, (t.X b).st.ep + 1, ((t.X b).id : Int), ⟨0, []⟩⟩).cand.asks) rfl
    have e : ((NS.note ⟨t.X b, [], []⟩ ⟨1, (t.X b).st.ep + 1, ((t.X b).id : Int), ⟨0, []⟩⟩).cand.asks).q.st.log = (t.X b).st.log := by
      show (NS.note ⟨t.X b, [], []⟩ ⟨1, (t.X b).st.ep + 1, ((t.X b).id : Int), ⟨0, []⟩⟩).q.st.log = _
      rw [hq]
    rw [e] at this
    exact Nat.le_trans this (by omega)
  have hT0 : Town0 (t.act (dP b)) b (C + 1) (T + 1) := ⟨by rw [a3]; exact h.n0, by rw [a3]; exact h.odd, by rw [a3]; exact h.n7, by rw [a3]; exact h.hb, hti, by rw [a3, a2]; exact hcap, by have := h.lt; omega, by omega, by
    rw [a1, List.length_append, List.length_take]
    have := h.net
    omega⟩
  refine ⟨hT0, a3, by rw [a2, upd_self]; exact he, ?_⟩
  by_cases hlt : (t.X b).st.ep + 1 ≤ E - 1
  · left
    refine ⟨hlt, ?_⟩
    rw [a1, a2, a3]
    exact hs.own hF h.hb hA (by rw [he]; omega)
  · right
    refine ⟨by omega, ?_⟩
    rw [a1, a2, a3]
    exact hs.last hF (by omega) h.hb h.n7 (by omega) _
/-- One round of the election: it is over, or it goes on in a later epoch. -/
def Town.elect1 (t : Town) (b : Nat) : Town := (t.act (dP b)).rush 400
theorem Town0.elect (h : Town0 t b C T) (hT : T ≤ 900) (hs : Set0 t.n b (E - 1) t.X t.net) (hep : (t.X b).st.ep ≤ E - 1) : Town0 (t.elect1 b) b (C + 1) (T + 1) ∧ (t.elect1 b).n = t.n ∧ (t.X b).st.ep + 1 ≤ ((t.elect1 b).X b).st.ep ∧
    ((Set0 (t.elect1 b).n b (E - 1) (t.elect1 b).X (t.elect1 b).net ∧ ((t.elect1 b).X b).st.ep ≤ E - 1) ∨ Set2 (t.elect1 b).n b E (t.elect1 b).X (t.elect1 b).net) := by
  obtain ⟨h1, n1, e1, s1⟩ := h.promote1 hT hs hep
  have hn : (t.elect1 b).n = t.n := (rush_n 400 _).trans n1
  rcases s1 with ⟨s1, s2⟩ | ⟨s1, s2⟩
  · obtain ⟨k1, k2, k3, k4⟩ := h1.rush 400 s2
    exact ⟨k1, hn, by show _ ≤ (((t.act (dP b)).rush 400).X b).st.ep; omega, Or.inl ⟨k2, k4 (by omega)⟩⟩
  · obtain ⟨k1, k2, _⟩ := h1.rush2 (L := T + 1) (Nat.le_refl _) 400 s2
    exact ⟨k1, hn, by show _ ≤ (((t.act (dP b)).rush 400).X b).st.ep; rw [k2.top]; omega, Or.inr k2⟩
end
end Go.Proofs.Ytlgoenimjmiapaa

/-! Settles, plain: bounds behind a deed; all fall; the best of all; the elections, the ticks. -/
namespace Go.Proofs.Ytlgoenimjmiapaa

theorem asked_after (t : Town) (i : Nat) (c : NS) (a : Deed) : (t.after i c a).asked = t.asked := by unfold Town.after; rw [asked_safe, asked_works]
theorem asked_act' (t : Town) (a : Deed) (h : a.kind ≠ 1) : (t.act a).asked = t.asked := by
  unfold Town.act
  split
  · exact asked_after _ _ _ _
  · split
    · exact asked_after _ _ _ _
    · split
      · split
        · rfl
        · unfold Town.deliver
          split
          · rfl
          · split
            · rfl
            · exact asked_after _ _ _ _
      · split
        · rw [asked_safe]; rfl
        · exact asked_after _ _ _ _

section
variable {t : Town} {b C T D L : Nat} {E0 : Int} {m : Msg} {rest : List Msg}
theorem act3_ok (h : TI t T) (hN : t.n % 2 = 1) (h7 : t.n ≤ 7) (hT : T ≤ 2048) (hl : ∀ i, i < t.n → (t.X i).st.log.length < T) (hnet : t.net = m :: rest) :
    t.act d3 = Town.after { t with net := t.net.eraseIdx 0 } m.to.toNat ((t.X m.to.toNat).step m).1 d3 ∧ m.to.toNat < t.n ∧ AfterOk { t with net := t.net.eraseIdx 0 } m.to.toNat ((t.X m.to.toNat).step m).1 d3 T := by
  obtain ⟨S, h1, h2, h3⟩ := h.ok
  have hk : modN d3.k t.net.length = 0 := modN_zero (by rw [hnet]; simp)
  have hm : t.net[modN d3.k t.net.length]? = some m := by rw [hk, hnet]; rfl
  have e : t.act d3 = Town.after { t with net := t.net.eraseIdx 0 } m.to.toNat ((t.X m.to.toNat).step m).1 d3 := by
    unfold Town.act
    rw [if_neg (by decide), if_neg (by decide), if_neg (by decide), if_pos (by decide), hm]
    show t.deliver d3 (modN d3.k t.net.length) m = _
    rw [hk]
    unfold Town.deliver
    rw [if_neg (by decide), if_neg (by decide)]
  have hSm := h2 m (by rw [hnet]; exact List.mem_cons_self ..)
  obtain ⟨g, hI, _⟩ := h1.1
  obtain ⟨f, k, e1, e2, e3, e4, e5⟩ := (hI.2.2 m hSm).ends
  have ek : m.to.toNat = k := by omega
  obtain ⟨c, hc, hr⟩ := run_step' h1 (i := k) e4 hN h7 hT (hl k e4) hSm e2
  refine ⟨e, by omega, ?_⟩
  rw [ek, hc]
  exact (TI.after (t := { t with net := t.net.eraseIdx 0 }) (a := d3) hr e4 h7 hT (fun x hx => h2 x (List.mem_of_mem_eraseIdx hx)) h3).2
theorem TB.act3 (h : TB t T D) (ht : TI t T) (hN : t.n % 2 = 1) (h7 : t.n ≤ 7) (hT : T ≤ 2048) (hl : ∀ i, i < t.n → (t.X i).st.log.length < T) (hnet : t.net = m :: rest) : TB (t.act d3) T (D + 1) := by
  obtain ⟨e, h1, h2⟩ := act3_ok ht hN h7 hT hl hnet
  have hf := ht.fine h7 hT
  have hmf := hf.net m (by rw [hnet]; exact List.mem_cons_self ..)
  have hle := List.length_eraseIdx_le t.net 0
  have hb : TB { t with net := t.net.eraseIdx 0 } T D := ⟨h.notes, h.ents, by have := h.net; show (t.net.eraseIdx _).length ≤ _; omega, h.done, h.lead⟩
  rw [e]
  exact hb.after (Nat.le_refl _) ((few_step (hf.fit _ h1).1.n7 hmf.2.2.2).up (by have := hmf.2.1; omega) (Nat.le_refl _)) h2
theorem TB.act2 (h : TB t T D) (ht : TI t T) (hb : b < t.n) (h7 : t.n ≤ 7) (hT : T ≤ 2048) : TB (t.act (dT b)) T (D + 1) := by
  obtain ⟨S, h1, h2, h3⟩ := ht.ok
  have hi : modN (dT b).i t.n = b := modN_self hb
  have e : t.act (dT b) = t.after b (t.X b).tick (dT b) := by
    unfold Town.act
    rw [if_neg (show ¬ ((dT b).kind = 0) from (by decide : ¬ ((2 : Int) = 0))), if_neg (show ¬ ((dT b).kind = 1) from (by decide : ¬ ((2 : Int) = 1))), if_pos (show (dT b).kind = 2 from rfl), hi]
  rw [e]
  exact h.after (Nat.le_refl _) ((few_tick ((ht.fine h7 hT).fit b hb).1.n7).up (by omega) (Nat.le_refl _)) (TI.after (a := dT b) (run_tick h1 hb) hb h7 hT h2 h3).2

/-- A town that is on its way to settle. -/
structure Live (t : Town) (b C T D : Nat) (E0 : Int) : Prop where
  t0 : Town0 t b C T
  tb : TB t T D
  asked : t.asked ≤ T
  sets : Set0 t.n b E0 t.X t.net ∨ Set2 t.n b (E0 + 1) t.X t.net
theorem Live.len (h : Live t b C T D E0) : ∀ i, i < t.n → (t.X i).st.log.length < T := fun i hi => by have := h.t0.cap.all hi; have := h.t0.lt; omega
theorem Live.deliver (h : Live t b C T D E0) (hn : t.net ≠ []) : Live (t.act d3) b C T (D + 1) E0 := by
  cases hnet : t.net with
  | nil => exact absurd hnet hn
  | cons m rest =>
    have hle := h.t0.le
    have hb := h.tb.act3 h.t0.ti h.t0.odd h.t0.n7 (by omega) h.len hnet
    have ha : (t.act d3).asked ≤ T := by rw [asked_act' _ _ (by decide)]; exact h.asked
    rcases h.sets with hs | hs
    · obtain ⟨k1, k2, _⟩ := h.t0.deliver hnet hs
      exact ⟨k1, hb, ha, Or.inl k2⟩
    · obtain ⟨k1, k2, _⟩ := h.t0.deliver2 (L := T) (Nat.le_refl _) hnet hs
      exact ⟨k1, hb, ha, Or.inr k2⟩
theorem Live.up (h : Live t b C T D E0) {D' : Nat} (hD : D ≤ D') : Live t b C T D' E0 := ⟨h.t0, h.tb.up (Nat.le_refl _) hD, h.asked, h.sets⟩
theorem Live.rush : ∀ (k : Nat) {t : Town} {D : Nat}, Live t b C T D E0 → Live (t.rush k) b C T (D + k) E0
  | 0, t, D, h => h
  | k + 1, t, D, h => by
    unfold Town.rush
    by_cases hn : t.net = []
    · rw [if_pos hn]; exact h.up (by omega)
    · rw [if_neg hn]
      have := Live.rush k (h.deliver hn)
      exact this.up (by omega)
theorem Live.tick (h : Live t b C T D E0) (hs : Set2 t.n b (E0 + 1) t.X t.net) : Live (t.act (dT b)) b C T (D + 1) E0 ∧ Set2 (t.act (dT b)).n b (E0 + 1) (t.act (dT b)).X (t.act (dT b)).net ∧ (t.act (dT b)).n = t.n := by
  have hle := h.t0.le
  obtain ⟨k1, k2, k3, k4, _⟩ := h.t0.tick2 (L := T) hs
  exact ⟨⟨k1, h.tb.act2 h.t0.ti h.t0.hb h.t0.n7 (by omega), by rw [asked_act' _ _ (show (2 : Int) ≠ 1 by decide)]; exact h.asked, Or.inr k2⟩, k2, k4⟩

/-- All fall, one behind another. -/
def Town.falls (t : Town) : Nat → Town
  | 0 => t
  | i + 1 => (t.falls i).crash i
theorem falls_same (t : Town) : ∀ k, (t.falls k).n = t.n ∧ (t.falls k).notes = t.notes ∧ (t.falls k).net = t.net ∧ (t.falls k).done = t.done ∧ (t.falls k).lead = t.lead ∧ (t.falls k).asked = t.asked
  | 0 => ⟨rfl, rfl, rfl, rfl, rfl, rfl⟩
  | k + 1 => falls_same t k
theorem TI.falls (h : TI t T) : ∀ k, k ≤ t.n → TI (t.falls k) T ∧ (∀ j, k ≤ j → (t.falls k).X j = t.X j) ∧ ∀ j, j < k → (t.falls k).X j = newND (t.X j).st j t.n
  | 0, _ => ⟨h, fun j _ => rfl, fun j hj => by omega⟩
  | k + 1, hk => by
    obtain ⟨h1, h2, h3⟩ := TI.falls h k (by omega)
    obtain ⟨s1, s2, s3, s4, s5, s6⟩ := falls_same t k
    obtain ⟨c1, c2⟩ := h1.crash (i := k) (by omega)
    have e : (t.falls (k + 1)).X = upd (t.falls k).X k (newND (t.X k).st k t.n) := by
      show upd (t.falls k).X k (newND ((foldFrom s00 ((t.falls k).notes k)).getD s00) k (t.falls k).n) = _
      rw [c2, s1, h2 k (Nat.le_refl _)]
      rfl
    refine ⟨c1, fun j hj => ?_, fun j hj => ?_⟩
    · rw [e, upd_ne _ _ _ (by omega)]; exact h2 j (by omega)
    · rw [e]
      by_cases hjk : j = k
      · subst hjk; rw [upd_self]
      · rw [upd_ne _ _ _ hjk]; exact h3 j (by omega)
theorem TB.falls (h : TB t T D) (k : Nat) : TB (t.falls k) T D := by
  obtain ⟨s1, s2, s3, s4, s5, s6⟩ := falls_same t k
  exact ⟨by rw [s2]; exact h.notes, by rw [s2]; exact h.ents, by rw [s3]; exact h.net, by rw [s4]; exact h.done, by rw [s5]; exact h.lead⟩
theorem TI.clear (h : TI t T) : TI { t with net := [] } T := by
  obtain ⟨S, h1, h2, h3⟩ := h.ok
  exact TI.of (t := { t with net := [] }) h1 (fun m hm => (by cases hm)) h3
theorem TB.clear (h : TB t T D) : TB { t with net := [] } T D := ⟨h.notes, h.ents, Nat.zero_le _, h.done, h.lead⟩

/-- The newest and longest log. -/
def Better (l p : List Ent) : Prop := lastAt p p.length < lastAt l l.length ∨ lastAt l l.length = lastAt p p.length ∧ p.length < l.length
instance (l p : List Ent) : Decidable (Better l p) := by unfold Better; infer_instance
def bestOf (f : Nat → List Ent) : Nat → Nat
  | 0 => 0
  | i + 1 => if Better (f i) (f (bestOf f i)) then i else bestOf f i
def epOf (f : Nat → Int) : Nat → Int
  | 0 => 0
  | i + 1 => max (epOf f i) (f i)
theorem bestOf_lt (f : Nat → List Ent) : ∀ n, 0 < n → bestOf f n < n
  | 0, h => by omega
  | n + 1, _ => by
    unfold bestOf
    split
    · omega
    · cases n with
      | zero => exact Nat.zero_lt_one
      | succ n => have := bestOf_lt f (n + 1) (by omega); omega
theorem bestOf_new (f : Nat → List Ent) : ∀ n j, j < n → Newer (f j) (f (bestOf f n))
  | 0, j, h => by omega
  | n + 1, j, h => by
    unfold bestOf
    by_cases hj : j = n
    · subst hj
      split
      · exact Or.inr ⟨rfl, Nat.le_refl _⟩
      · next hb => unfold Better at hb; unfold Newer; omega
    · have := bestOf_new f n j (by omega)
      split
      · next hb => unfold Better at hb; unfold Newer at this ⊢; omega
      · exact this
theorem epOf_ge (f : Nat → Int) : ∀ n j, j < n → f j ≤ epOf f n
  | 0, j, h => by omega
  | n + 1, j, h => by
    unfold epOf
    by_cases hj : j = n
    · subst hj; omega
    · have := epOf_ge f n j (by omega); omega
theorem epOf_le (f : Nat → Int) {T : Int} (h0 : 0 ≤ T) : ∀ n, (∀ j, j < n → f j ≤ T) → 0 ≤ epOf f n ∧ epOf f n ≤ T
  | 0, h => ⟨Int.le_refl _, h0⟩
  | n + 1, h => by
    have := epOf_le f h0 n (fun j hj => h j (by omega))
    have := h n (by omega)
    unfold epOf
    omega
/-- Where all fell, and nothing is on its way. -/
theorem TI.start (h : TI t T) (hb : TB t T D) (ha : t.asked ≤ T) (h0 : 0 < t.n) (hN : t.n % 2 = 1) (h7 : t.n ≤ 7) (hT : T ≤ 900) :
    Live (Town.falls { t with net := [] } t.n) (bestOf (fun j => (t.X j).st.log) t.n) T (T + 1) D (epOf (fun j => (t.X j).st.ep) t.n) ∧ Set0 t.n (bestOf (fun j => (t.X j).st.log) t.n) (epOf (fun j => (t.X j).st.ep) t.n) (Town.falls { t with net := [] } t.n).X [] ∧
    ((Town.falls { t with net := [] } t.n).X (bestOf (fun j => (t.X j).st.log) t.n)).st.ep ≤ epOf (fun j => (t.X j).st.ep) t.n := by
  have hF := h.facts h7 (by omega)
  obtain ⟨c1, _, c3⟩ := h.clear.falls t.n (Nat.le_refl _)
  obtain ⟨s1, s2, s3, s4, s5, s6⟩ := falls_same { t with net := [] } t.n
  have c3 : ∀ j, j < t.n → (Town.falls { t with net := [] } t.n).X j = newND (t.X j).st j t.n := c3
  have hbl := bestOf_lt (fun j => (t.X j).st.log) t.n h0
  have hnw := bestOf_new (fun j => (t.X j).st.log) t.n
  have hep := epOf_ge (fun j => (t.X j).st.ep) t.n
  obtain ⟨B, hB⟩ : ∃ B, bestOf (fun j => (t.X j).st.log) t.n = B := ⟨_, rfl⟩
  obtain ⟨E, hE⟩ : ∃ E, epOf (fun j => (t.X j).st.ep) t.n = E := ⟨_, rfl⟩
  rw [hB] at hbl hnw ⊢
  rw [hE] at hep ⊢
  have hep : ∀ j, j < t.n → (t.X j).st.ep ≤ E := hep
  have s1 : (Town.falls { t with net := [] } t.n).n = t.n := s1
  have s3 : (Town.falls { t with net := [] } t.n).net = [] := s3
  have s6 : (Town.falls { t with net := [] } t.n).asked = t.asked := s6
  have hS : Set0 t.n B E (Town.falls { t with net := [] } t.n).X [] := by
    refine ⟨fun j hj _ => by rw [c3 j hj]; rfl, fun j hj _ => by rw [c3 j hj, c3 B hbl]; exact hnw j hj, fun m hm => (by cases hm), fun m hm => (by cases hm), fun j hj => ?_, fun m hm => (by cases hm), ?_⟩
    · rw [c3 j hj]; show (t.X j).st.ep ≤ _; have := hep j hj; omega
    · rw [c3 B hbl]; show (t.X B).st.ep ≤ _; have := hep B hbl; omega
  refine ⟨⟨⟨by omega, by rw [s1]; exact hN, by omega, by omega, c1.up (Nat.le_succ T), ⟨fun j hj _ => ?_, ?_⟩, Nat.lt_succ_self _, by omega, by rw [s3]; exact Nat.zero_le _⟩, (hb.clear.falls t.n).up (Nat.le_succ T) (Nat.le_refl _), by omega, Or.inl (by rw [s1, s3]; exact hS)⟩, hS, ?_⟩
  · rw [s1] at hj; rw [c3 j hj]; exact hF.len j hj
  · rw [c3 B hbl]; exact hF.len B hbl
  · rw [c3 B hbl]; exact hep B hbl

/-- A promotion, and all arrives. -/
theorem Live.promote (h : Live t b C T D E0) (hT : T ≤ 900) (hs : Set0 t.n b E0 t.X t.net) (hep : (t.X b).st.ep ≤ E0) : Live (t.act (dP b)) b (C + 1) (T + 1) (D + 1) E0 := by
  have hs' : Set0 t.n b (E0 + 1 - 1) t.X t.net := by rw [Int.add_sub_cancel]; exact hs
  obtain ⟨k1, k2, k3, k4⟩ := h.t0.promote1 (E := E0 + 1) hT hs' (by omega)
  refine ⟨k1, h.tb.act h.t0.ti h.t0.n0 h.t0.odd h.t0.n7 (by omega) _, by rw [asked_act' _ _ (show (0 : Int) ≠ 1 by decide)]; have := h.asked; omega, ?_⟩
  rcases k4 with ⟨_, k4⟩ | ⟨_, k4⟩
  · left; rw [Int.add_sub_cancel] at k4; exact k4
  · exact Or.inr k4
theorem Live.elect (h : Live t b C T D E0) (hT : T ≤ 900) (hs : Set0 t.n b E0 t.X t.net) (hep : (t.X b).st.ep ≤ E0) : Live (t.elect1 b) b (C + 1) (T + 1) (D + 401) E0 ∧ (t.elect1 b).n = t.n ∧ (t.X b).st.ep + 1 ≤ ((t.elect1 b).X b).st.ep ∧
    ((Set0 (t.elect1 b).n b E0 (t.elect1 b).X (t.elect1 b).net ∧ ((t.elect1 b).X b).st.ep ≤ E0) ∨ Set2 (t.elect1 b).n b (E0 + 1) (t.elect1 b).X (t.elect1 b).net) := by
  have hs' : Set0 t.n b (E0 + 1 - 1) t.X t.net := by rw [Int.add_sub_cancel]; exact hs
  obtain ⟨k1, k2, k3, k4⟩ := h.t0.elect (E := E0 + 1) hT hs' (by omega)
  refine ⟨((h.promote hT hs hep).rush 400).up (by omega), k2, k3, ?_⟩
  rw [Int.add_sub_cancel] at k4
  exact k4
theorem Live.round (h : Live t b C T D E0) (hs : Set2 t.n b (E0 + 1) t.X t.net) : Live (t.round b) b C T (D + 401) E0 ∧ Set2 (t.round b).n b (E0 + 1) (t.round b).X (t.round b).net ∧ (t.round b).n = t.n := by
  obtain ⟨k1, k2, k3⟩ := h.tick hs
  obtain ⟨r1, r2, _⟩ := k1.t0.rush2 (L := T) (Nat.le_refl _) 400 k2
  exact ⟨(k1.rush 400).up (by omega), r2, (rush_n 400 _).trans k3⟩
theorem Live.phi (h : Live t b C T D E0) (hs : Set2 t.n b (E0 + 1) t.X t.net) : Phi T t.n b (t.X b) t.net ≤ 1536 + 28 * T := by
  have hF := h.t0.facts
  have h1 := wsum_bound (t.X b) t.net
  have h2 := h.t0.net
  have h7 := h.t0.n7
  unfold Phi
  split
  · omega
  · split
    · next hr =>
      obtain ⟨p1, p2, p3, p4⟩ := (hF.fit b h.t0.hb).prim hr
      have hl := hF.len b h.t0.hb
      have hg : ∀ j, gap (t.X b) j ≤ T := fun j => by
        unfold gap
        have hn := hF.n b h.t0.hb
        by_cases hj : j < t.n
        · have := p3 _ (List.mem_of_getElem? (getD_is (l := (t.X b).has) (j := j) (by omega)))
          have := p4 _ (List.mem_of_getElem? (getD_is (l := (t.X b).acked) (j := j) (by omega)))
          omega
        · have e1 : (t.X b).has.getD j 0 = 0 := by rw [List.getD_eq_getElem?_getD, List.getElem?_eq_none (by omega)]; rfl
          have e2 : (t.X b).acked.getD j 0 = 0 := by rw [List.getD_eq_getElem?_getD, List.getElem?_eq_none (by omega)]; rfl
          omega
      have h3 := gaps_bound (b := b) hg t.n
      have h4 : t.n * (4 * T) ≤ 7 * (4 * T) := Nat.mul_le_mul_right _ h7
      omega
    · omega
/-- Behind sixty ticks all have all. -/
theorem Live.settled (h : Live t b C T D E0) (hT : T ≤ 400) (hs : Set2 t.n b (E0 + 1) t.X t.net) : Lev b (E0 + 1) (Town.rounds b 60 t) 3 := by
  have hp := h.phi hs
  exact (h.t0.rounds2 (L := T) (Nat.le_refl _) 60 0 (by omega) hs trivial (by omega)).2.2.2
theorem Live.append (h : Live t b C T D E0) (hT : T ≤ 900) (hs : Set2 t.n b (E0 + 1) t.X t.net) (hlev : Lev b (E0 + 1) t 3) : Live (t.act (dA b)) b (C + 1) (T + 1) (D + 1) E0 := by
  obtain ⟨k1, k2, _⟩ := h.t0.append2 (L := T) hT hs hlev
  exact ⟨k1, h.tb.act h.t0.ti h.t0.n0 h.t0.odd h.t0.n7 (by omega) _, by have := asked_act t (dA b); have := h.asked; omega, Or.inr k2⟩
end
end Go.Proofs.Ytlgoenimjmiapaa
