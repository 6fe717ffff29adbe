import Derived.Test.YtlgoenimjmiapaaT21
set_option linter.unusedSimpArgs false
set_option linter.unusedVariables false
set_option linter.unusedSectionVars false
/-! The protocol, plain: ghosts, the invariant, the small steps. -/
namespace Go.Proofs.Ytlgoenimjmiapaa

def lastAt (l : List Ent) (n : Nat) : Int := if n = 0 then 0 else ((l[n - 1]?).map Ent.ep).getD 0
theorem lastAt_zero (l : List Ent) : lastAt l 0 = 0 := rfl
theorem lastAt_succ {l : List Ent} {n : Nat} {x : Ent} (h : l[n]? = some x) : lastAt l (n + 1) = x.ep := by
  unfold lastAt; rw [if_neg (by omega), Nat.add_sub_cancel, h]; rfl

/-- The first m entries are the same. -/
def Agree (l p : List Ent) (m : Nat) : Prop := ∀ k, k < m → l[k]? = p[k]?
def Conf (p q : List Ent) (m : Nat) : Prop := ∃ k a b, k < m ∧ p[k]? = some a ∧ q[k]? = some b ∧ a ≠ b
def Ext (p q : List Ent) : Prop := ∀ (k : Nat) (x : Ent), p[k]? = some x → q[k]? = some x
def Mono (l : List Ent) : Prop := ∀ (i j : Nat) (x y : Ent), i ≤ j → l[i]? = some x → l[j]? = some y → x.ep ≤ y.ep

theorem Agree.zero (l p : List Ent) : Agree l p 0 := fun k h => by omega
theorem Agree.refl (l : List Ent) (m : Nat) : Agree l l m := fun _ _ => rfl
theorem Agree.symm {l p : List Ent} {m : Nat} (h : Agree l p m) : Agree p l m := fun k hk => (h k hk).symm
theorem Agree.trans {l p q : List Ent} {m : Nat} (h : Agree l p m) (h2 : Agree p q m) : Agree l q m := fun k hk => (h k hk).trans (h2 k hk)
theorem Agree.le {l p : List Ent} {m n : Nat} (h : Agree l p m) (hn : n ≤ m) : Agree l p n := fun k hk => h k (by omega)
theorem Ext.refl (p : List Ent) : Ext p p := fun _ _ h => h
theorem Ext.trans {p q r : List Ent} (h : Ext p q) (h2 : Ext q r) : Ext p r := fun k x hx => h2 k x (h k x hx)
theorem Ext.nil (q : List Ent) : Ext [] q := fun k x h => by simp at h
theorem Ext.app (p r : List Ent) : Ext p (p ++ r) := fun k x h => by
  have := (List.getElem?_eq_some_iff.1 h).1
  rw [List.getElem?_append_left this]; exact h
theorem Ext.len {p q : List Ent} (h : Ext p q) : p.length ≤ q.length := by
  by_cases h0 : p.length = 0
  · omega
  · have := h (p.length - 1) _ (List.getElem?_eq_getElem (by omega))
    have := (List.getElem?_eq_some_iff.1 this).1
    omega
theorem Ext.agree {p q : List Ent} (h : Ext p q) {m : Nat} (hm : m ≤ p.length) : Agree p q m := fun k hk => by
  have e := List.getElem?_eq_getElem (show k < p.length by omega)
  rw [e, h k _ e]
theorem Agree.ext {l p q : List Ent} {m : Nat} (h : Agree l p m) (he : Ext p q) (hm : m ≤ p.length) : Agree l q m := h.trans (he.agree hm)
theorem Agree.len {l p : List Ent} {m : Nat} (h : Agree l p m) (hm : m ≤ p.length) : m ≤ l.length := by
  by_cases h0 : m = 0
  · omega
  · have e := List.getElem?_eq_getElem (show m - 1 < p.length by omega)
    have := h (m - 1) (by omega)
    rw [e] at this
    have := (List.getElem?_eq_some_iff.1 this).1
    omega
theorem lt_len {l : List Ent} {k : Nat} {x : Ent} (h : l[k]? = some x) : k < l.length := (List.getElem?_eq_some_iff.1 h).1
theorem at_len {l : List Ent} {k : Nat} (h : k < l.length) : ∃ x, l[k]? = some x := ⟨_, List.getElem?_eq_getElem h⟩
theorem Conf.mono {p p' q q' : List Ent} {m : Nat} (h : Conf p q m) (hp : Ext p p') (hq : Ext q q') : Conf p' q' m := by
  obtain ⟨k, a, b, h1, h2, h3, h4⟩ := h
  exact ⟨k, a, b, h1, hp _ _ h2, hq _ _ h3, h4⟩
theorem Conf.not {p q : List Ent} {m : Nat} (h : Conf p q m) (ha : Agree p q m) : False := by
  obtain ⟨k, a, b, h1, h2, h3, h4⟩ := h
  have := ha k h1
  rw [h2, h3] at this
  injection this with this
  exact h4 this
theorem Mono.take {l : List Ent} (h : Mono l) (n : Nat) : Mono (l.take n) := fun i j x y hij hx hy => by
  rw [List.getElem?_take] at hx hy
  split at hx
  · split at hy
    · exact h i j x y hij hx hy
    · cases hy
  · cases hx
theorem Mono.app {l : List Ent} (h : Mono l) {z : Ent} (hz : ∀ x ∈ l, x.ep ≤ z.ep) : Mono (l ++ [z]) := fun i j x y hij hx hy => by
  have hi := lt_len hx
  have hj := lt_len hy
  simp at hi hj
  by_cases h1 : j < l.length
  · rw [List.getElem?_append_left h1] at hy
    rw [List.getElem?_append_left (by omega)] at hx
    exact h i j x y hij hx hy
  · rw [List.getElem?_append_right (by omega), show j - l.length = 0 by omega] at hy
    simp at hy
    subst hy
    by_cases h2 : i < l.length
    · rw [List.getElem?_append_left h2] at hx
      exact hz x (List.mem_of_getElem? hx)
    · rw [List.getElem?_append_right (by omega), show i - l.length = 0 by omega] at hx
      simp at hx
      subst hx
      exact Int.le_refl _

structure Gh where
  pl : Int → List Ent
  ld : Int → Option Nat
  qu : Int → List Nat
  cl : Int → Nat → List Ent
  cd : Int → Nat → Prop
  vt : Nat → Int → Option Nat
  ac : Nat → Int → Nat

def Good (g : Gh) (l : List Ent) : Prop := ∀ k x, l[k]? = some x → Agree l (g.pl x.ep) (k + 1)
def Maj (N : Nat) (Q : List Nat) : Prop := Q.Nodup ∧ (∀ v ∈ Q, v < N) ∧ N < 2 * Q.length
/-- Entry m of the primary of e is one of its own. -/
def Own (g : Gh) (e : Int) (m : Nat) : Prop := 0 < m ∧ ∃ x, (g.pl e)[m - 1]? = some x ∧ x.ep = e
def Chosen (g : Gh) (N : Nat) (e : Int) (m : Nat) : Prop := Own g e m ∧ ∃ Q, Maj N Q ∧ ∀ v ∈ Q, m ≤ g.ac v e
def Obl (g : Gh) (v : Nat) (e' : Int) (l : List Ent) : Prop :=
  ∀ e, e < e' → ∀ m, m ≤ g.ac v e → Own g e m → Agree l (g.pl e) m ∨ ∃ e2, e < e2 ∧ e2 < e' ∧ Conf (g.pl e2) (g.pl e) m
def Comm (g : Gh) (N : Nat) (E : Int) (l : List Ent) (c : Nat) : Prop := c = 0 ∨ ∃ e m, e ≤ E ∧ Chosen g N e m ∧ c ≤ m ∧ Agree l (g.pl e) c

structure GhInv (g : Gh) (N : Nat) : Prop where
  plep : ∀ e, ∀ x ∈ g.pl e, 1 ≤ x.ep ∧ x.ep ≤ e
  plmono : ∀ e, Mono (g.pl e)
  plgood : ∀ e, Good g (g.pl e)
  pl0 : ∀ e, g.ld e = none → g.pl e = []
  clep : ∀ e c, g.cd e c → ∀ x ∈ g.cl e c, 1 ≤ x.ep ∧ x.ep < e
  clmono : ∀ e c, g.cd e c → Mono (g.cl e c)
  clgood : ∀ e c, g.cd e c → Good g (g.cl e c)
  cd0 : ∀ e c, g.cd e c → c < N ∧ 1 ≤ e
  vote : ∀ v e c, g.vt v e = some c → v < N ∧ g.cd e c
  lead : ∀ e c, g.ld e = some c → g.cd e c ∧ Maj N (g.qu e) ∧ (∀ v ∈ g.qu e, g.vt v e = some c ∧ Obl g v e (g.cl e c)) ∧ ∃ r, g.pl e = g.cl e c ++ r ∧ r ≠ [] ∧ ∀ x ∈ r, x.ep = e
  pre : ∀ v e c, g.ld e = none → g.vt v e = some c → Obl g v e (g.cl e c)
  acok : ∀ v e, g.ac v e ≤ (g.pl e).length

structure NodeInv (g : Gh) (N i : Nat) (q : ND) : Prop where
  ids : q.id = i ∧ q.n = N
  ep0 : 0 ≤ q.st.ep
  ents : ∀ x ∈ q.st.log, 1 ≤ x.ep ∧ x.ep ≤ q.st.ep
  mono : Mono q.st.log
  good : Good g q.st.log
  cdep : ∀ e, g.cd e i → e ≤ q.st.ep
  vote : (q.st.voted = -1 ∧ g.vt i q.st.ep = none) ∨ ∃ c : Nat, q.st.voted = (c : Int) ∧ g.vt i q.st.ep = some c
  fut : ∀ e, q.st.ep < e → g.vt i e = none
  role : q.role = 0 ∨ q.role = 1 ∨ q.role = 2
  cand : q.role = 1 → g.cd q.st.ep i ∧ g.cl q.st.ep i = q.st.log ∧ g.ld q.st.ep ≠ some i ∧ q.st.voted = (i : Int) ∧ ∃ gs, q.granted = some gs ∧ gs.Nodup ∧ ∀ z ∈ gs, ∃ v : Nat, v < N ∧ z = (v : Int) ∧ g.vt v q.st.ep = some i
  prim : q.role = 2 → g.ld q.st.ep = some i ∧ g.pl q.st.ep = q.st.log ∧ g.ac i q.st.ep = q.st.log.length ∧ (∃ gs, q.granted = some gs ∧ gs.Nodup ∧ ∀ z ∈ gs, ∃ v : Nat, v < N ∧ z = (v : Int)) ∧ q.has.length = N ∧ q.acked.length = N ∧
    (∀ j a, q.acked[j]? = some a → 0 ≤ a ∧ a ≤ (q.st.log.length : Int) ∧ (j ≠ i → a ≤ (g.ac j q.st.ep : Int))) ∧ (∀ a ∈ q.has, 0 ≤ a ∧ a ≤ (q.st.log.length : Int))
  acep : ∀ e, 0 < g.ac i e → e ≤ q.st.ep
  keep : ∀ e m, m ≤ g.ac i e → Agree q.st.log (g.pl e) m ∨ ∃ e2, e < e2 ∧ e2 ≤ q.st.ep ∧ Conf (g.pl e2) (g.pl e) m
  commit : q.commit ≤ q.st.log.length ∧ Comm g N q.st.ep q.st.log q.commit

structure MsgInv (g : Gh) (N : Nat) (m : Msg) : Prop where
  ends : ∃ f t : Nat, m.frm = (f : Int) ∧ m.to = (t : Int) ∧ f < N ∧ t < N ∧ f ≠ t
  ask : m.kind = 1 → g.cd m.ep m.frm.toNat ∧ m.at_ = ((g.cl m.ep m.frm.toNat).length : Int) ∧ m.last = lastAt (g.cl m.ep m.frm.toNat) (g.cl m.ep m.frm.toNat).length
  grant : m.kind = 2 → g.vt m.frm.toNat m.ep = some m.to.toNat
  ship : m.kind = 3 → g.ld m.ep = some m.frm.toNat ∧ (∃ a c : Nat, m.at_ = (a : Int) ∧ m.commit = (c : Int) ∧ a ≤ (g.pl m.ep).length ∧ (∀ k x, m.log[k]? = some x → (g.pl m.ep)[a + k]? = some x) ∧ m.last = lastAt (g.pl m.ep) a ∧ c ≤ (g.pl m.ep).length ∧ Comm g N m.ep (g.pl m.ep) c)
  ack : m.kind = 4 → g.ld m.ep = some m.to.toNat ∧ ∃ a : Nat, m.at_ = (a : Int) ∧ a ≤ g.ac m.frm.toNat m.ep

def Inv (N : Nat) (g : Gh) (X : Nat → ND) (S : Msg → Prop) : Prop := GhInv g N ∧ (∀ i, i < N → NodeInv g N i (X i)) ∧ ∀ m, S m → MsgInv g N m

/-- What a step of node i may do to the ghosts. -/
structure Le (i : Nat) (g h : Gh) : Prop where
  pl : ∀ e, Ext (g.pl e) (h.pl e)
  plo : ∀ e j, j ≠ i → g.ld e = some j → h.pl e = g.pl e
  ld : ∀ e c, g.ld e = some c → h.ld e = some c
  ldo : ∀ e j, j ≠ i → h.ld e = some j → g.ld e = some j
  cd : ∀ e c, g.cd e c → h.cd e c ∧ h.cl e c = g.cl e c
  cdo : ∀ e c, c ≠ i → h.cd e c → g.cd e c
  vt : ∀ v e c, g.vt v e = some c → h.vt v e = some c
  vto : ∀ v e, v ≠ i → h.vt v e = g.vt v e
  ac : ∀ v e, g.ac v e ≤ h.ac v e
  aco : ∀ v e, v ≠ i → h.ac v e = g.ac v e

theorem Le.refl (i : Nat) (g : Gh) : Le i g g := ⟨fun _ => Ext.refl _, fun _ _ _ _ => rfl, fun _ _ h => h, fun _ _ _ h => h, fun _ _ h => ⟨h, rfl⟩, fun _ _ _ h => h, fun _ _ _ h => h, fun _ _ _ => rfl, fun _ _ => Nat.le_refl _, fun _ _ _ => rfl⟩

section
variable {g h : Gh} {N i : Nat}
theorem Good.le {l : List Ent} (hg : Good g l) (hl : Le i g h) : Good h l := fun k x hx => by
  have h1 := hg k x hx
  have e := h1 k (by omega)
  rw [hx] at e
  have := lt_len e.symm
  exact h1.ext (hl.pl _) (by omega)
theorem Own.le {e : Int} {m : Nat} (ho : Own g e m) (hl : Le i g h) : Own h e m := by
  obtain ⟨h0, x, h1, h2⟩ := ho
  exact ⟨h0, x, hl.pl _ _ _ h1, h2⟩
theorem Own.len {e : Int} {m : Nat} (ho : Own g e m) : m ≤ (g.pl e).length := by
  obtain ⟨h0, x, h1, h2⟩ := ho
  have := lt_len h1
  omega
theorem Chosen.le {e : Int} {m : Nat} (hc : Chosen g N e m) (hl : Le i g h) : Chosen h N e m := by
  obtain ⟨h1, Q, h2, h3⟩ := hc
  exact ⟨h1.le hl, Q, h2, fun v hv => Nat.le_trans (h3 v hv) (hl.ac v e)⟩
theorem Comm.le {E : Int} {l : List Ent} {c : Nat} (hc : Comm g N E l c) (hl : Le i g h) : Comm h N E l c := by
  rcases hc with h0 | ⟨e, m, h1, h2, h3, h4⟩
  · exact Or.inl h0
  · have := h2.1.len
    exact Or.inr ⟨e, m, h1, h2.le hl, h3, h4.ext (hl.pl _) (by omega)⟩
theorem Comm.up {E E' : Int} {l : List Ent} {c : Nat} (hc : Comm g N E l c) (hE : E ≤ E') : Comm g N E' l c := by
  rcases hc with h0 | ⟨e, m, h1, h2, h3, h4⟩
  · exact Or.inl h0
  · exact Or.inr ⟨e, m, by omega, h2, h3, h4⟩
theorem Comm.agree {E : Int} {l l' : List Ent} {c : Nat} (hc : Comm g N E l c) (ha : Agree l' l c) : Comm g N E l' c := by
  rcases hc with h0 | ⟨e, m, h1, h2, h3, h4⟩
  · exact Or.inl h0
  · exact Or.inr ⟨e, m, h1, h2, h3, ha.trans h4⟩
theorem Comm.less {E : Int} {l : List Ent} {c c' : Nat} (hc : Comm g N E l c) (hle : c' ≤ c) : Comm g N E l c' := by
  rcases hc with h0 | ⟨e, m, h1, h2, h3, h4⟩
  · exact Or.inl (by omega)
  · exact Or.inr ⟨e, m, h1, h2, by omega, h4.le hle⟩
theorem Obl.le {v : Nat} {e' : Int} {l : List Ent} (ho : Obl g v e' l) (hl : Le i g h) (ha : ∀ e, e < e' → h.ac v e = g.ac v e) (hok : ∀ e, g.ac v e ≤ (g.pl e).length) : Obl h v e' l := fun e he m hm hw => by
  rw [ha e he] at hm
  have hm2 := hok e
  have hw' : Own g e m := by
    obtain ⟨h0, x, h1, h2⟩ := hw
    refine ⟨h0, x, ?_, h2⟩
    rw [← h1]
    exact (hl.pl e).agree (Nat.le_refl _) (m - 1) (by omega)
  rcases ho e he m hm hw' with h1 | ⟨e2, h1, h2, h3⟩
  · exact Or.inl (h1.ext (hl.pl e) (by omega))
  · exact Or.inr ⟨e2, h1, h2, h3.mono (hl.pl _) (hl.pl _)⟩

theorem NodeInv.other {j : Nat} {q : ND} (hq : NodeInv g N j q) (hg : GhInv g N) (hl : Le i g h) (hj : j ≠ i) : NodeInv h N j q where
  ids := hq.ids
  ep0 := hq.ep0
  ents := hq.ents
  mono := hq.mono
  good := hq.good.le hl
  cdep := fun e he => hq.cdep e (hl.cdo e j hj he)
  vote := by rw [hl.vto _ _ hj]; exact hq.vote
  fut := fun e he => by rw [hl.vto _ _ hj]; exact hq.fut e he
  role := hq.role
  cand := fun h1 => by
    obtain ⟨h2, h3, h4, h5, gs, h6, h7, h8⟩ := hq.cand h1
    have h9 := hl.cd _ _ h2
    refine ⟨h9.1, by rw [h9.2, h3], fun e => h4 (hl.ldo _ _ hj e), h5, gs, h6, h7, fun z hz => ?_⟩
    obtain ⟨v, k1, k2, k3⟩ := h8 z hz
    exact ⟨v, k1, k2, hl.vt _ _ _ k3⟩
  prim := fun h1 => by
    obtain ⟨h2, h3, h4, h5, h6, h7, h8, h9⟩ := hq.prim h1
    refine ⟨hl.ld _ _ h2, by rw [hl.plo _ _ hj h2, h3], by rw [hl.aco _ _ hj, h4], h5, h6, h7, fun k a hk => ?_, h9⟩
    obtain ⟨k1, k2, k3⟩ := h8 k a hk
    exact ⟨k1, k2, fun hne => Int.le_trans (k3 hne) (by have := hl.ac k q.st.ep; omega)⟩
  acep := fun e he => hq.acep e (by rw [hl.aco _ _ hj] at he; exact he)
  keep := fun e m hm => by
    rw [hl.aco _ _ hj] at hm
    have := hg.acok j e
    rcases hq.keep e m hm with h1 | ⟨e2, h1, h2, h3⟩
    · exact Or.inl (h1.ext (hl.pl e) (by omega))
    · exact Or.inr ⟨e2, h1, h2, h3.mono (hl.pl _) (hl.pl _)⟩
  commit := ⟨hq.commit.1, hq.commit.2.le hl⟩

theorem lastAt_agree {l p : List Ent} {n : Nat} (h : Agree l p n) : lastAt l n = lastAt p n := by
  unfold lastAt
  by_cases h0 : n = 0
  · rw [if_pos h0, if_pos h0]
  · rw [if_neg h0, if_neg h0, h (n - 1) (by omega)]
theorem MsgInv.le {m : Msg} (hm : MsgInv g N m) (hl : Le i g h) : MsgInv h N m where
  ends := hm.ends
  ask := fun h1 => by
    obtain ⟨h2, h3, h4⟩ := hm.ask h1
    have h5 := hl.cd _ _ h2
    rw [h5.2]
    exact ⟨h5.1, h3, h4⟩
  grant := fun h1 => hl.vt _ _ _ (hm.grant h1)
  ship := fun h1 => by
    obtain ⟨h2, a, c, h3, h4, h5, h6, h7, h8, h9⟩ := hm.ship h1
    have he := hl.pl m.ep
    have hle := he.len
    exact ⟨hl.ld _ _ h2, a, c, h3, h4, by omega, fun k x hk => he _ _ (h6 k x hk), by rw [h7]; exact lastAt_agree (he.agree h5), by omega, (h9.le hl).agree (he.agree h8).symm⟩
  ack := fun h1 => by
    obtain ⟨h2, a, h3, h4⟩ := hm.ack h1
    exact ⟨hl.ld _ _ h2, a, h3, Nat.le_trans h4 (hl.ac _ _)⟩
end

theorem nodup_len : ∀ {N : Nat} {l : List Nat}, l.Nodup → (∀ v ∈ l, v < N) → l.length ≤ N := by
  intro N
  induction N with
  | zero =>
    intro l _ h
    cases l with
    | nil => exact Nat.le_refl _
    | cons a r => exact absurd (h a (List.mem_cons_self ..)) (by omega)
  | succ N ih =>
    intro l hn h
    by_cases hm : N ∈ l
    · have h1 := ih (l := l.erase N) (hn.erase N) (fun v hv => by
        have h2 := h v (List.mem_of_mem_erase hv)
        have h3 : v ≠ N := fun e => by subst e; exact (List.Nodup.not_mem_erase hn) hv
        omega)
      rw [List.length_erase_of_mem hm] at h1
      have := List.length_pos_of_mem hm
      omega
    · have := ih hn (fun v hv => by
        have h2 := h v hv
        have h3 : v ≠ N := fun e => by subst e; exact hm hv
        omega)
      omega
/-- Two majorities meet. -/
theorem meet {N : Nat} {P Q : List Nat} (hP : Maj N P) (hQ : Maj N Q) : ∃ v, v ∈ P ∧ v ∈ Q := by
  apply Classical.byContradiction
  intro hno
  have hnd : (P ++ Q).Nodup := List.nodup_append.2 ⟨hP.1, hQ.1, fun a ha b hb e => hno ⟨a, ha, e ▸ hb⟩⟩
  have hle : (P ++ Q).length ≤ N := by
    refine nodup_len hnd fun v hv => ?_
    rcases List.mem_append.1 hv with h | h
    · exact hP.2.1 v h
    · exact hQ.2.1 v h
  have := hP.2.2
  have := hQ.2.2
  rw [List.length_append] at hle
  omega

/-- What is chosen is in all later primaries. -/
theorem complete {g : Gh} {N : Nat} (hg : GhInv g N) {e : Int} {m : Nat} (hc : Chosen g N e m) : ∀ (d : Nat) (e' : Int), e < e' → (e' - e).toNat ≤ d → g.ld e' ≠ none → Agree (g.pl e') (g.pl e) m := by
  intro d
  induction d with
  | zero => intro e' h1 h2; omega
  | succ d ih =>
    intro e' h1 h2 h3
    obtain ⟨c, hld⟩ := Option.ne_none_iff_exists'.1 h3
    obtain ⟨k1, k2, k3, r, k4, k5, k6⟩ := hg.lead e' c hld
    obtain ⟨ho, Q, hQ, hQa⟩ := hc
    obtain ⟨v, v1, v2⟩ := meet hQ k2
    rcases (k3 v v2).2 e h1 m (hQa v v1) ho with h5 | ⟨e2, p1, p2, p3⟩
    · rw [k4]
      have hl := h5.len ho.len
      intro k hk
      rw [List.getElem?_append_left (by omega)]
      exact h5 k hk
    · exfalso
      have h6 : g.ld e2 ≠ none := fun h => by
        rw [hg.pl0 e2 h] at p3
        obtain ⟨k, a, b, _, q, _⟩ := p3
        simp at q
      exact p3.not (ih e2 p1 (by omega) h6)

theorem complete' {g : Gh} {N : Nat} (hg : GhInv g N) {e e' : Int} {m : Nat} (hc : Chosen g N e m) (h1 : e ≤ e') (h2 : g.ld e' ≠ none) : Agree (g.pl e') (g.pl e) m := by
  by_cases h : e = e'
  · subst h; exact Agree.refl _ _
  · exact complete hg hc _ e' (by omega) (Nat.le_refl _) h2
theorem Own.ld {g : Gh} {N : Nat} (hg : GhInv g N) {e : Int} {m : Nat} (ho : Own g e m) : g.ld e ≠ none := fun h => by
  obtain ⟨_, x, h1, _⟩ := ho
  rw [hg.pl0 e h] at h1
  simp at h1
/-- What is committed here and there is the same. -/
theorem comm_agree {g : Gh} {N : Nat} (hg : GhInv g N) {E E' : Int} {l l' : List Ent} {c c' : Nat} (h : Comm g N E l c) (h' : Comm g N E' l' c') : Agree l l' (min c c') := by
  rcases h with h0 | ⟨e, m, h1, h2, h3, h4⟩
  · rw [h0, Nat.zero_min]; exact Agree.zero _ _
  rcases h' with h0 | ⟨e', m', h1', h2', h3', h4'⟩
  · rw [h0, Nat.min_zero]; exact Agree.zero _ _
  rcases Int.le_total e e' with hle | hle
  · have := complete' hg h2 hle (h2'.1.ld hg)
    exact (h4.le (Nat.min_le_left _ _)).trans ((this.symm.le (by omega)).trans (h4'.symm.le (Nat.min_le_right _ _)))
  · have := complete' hg h2' hle (h2.1.ld hg)
    exact (h4.le (Nat.min_le_left _ _)).trans ((this.le (by omega)).trans (h4'.symm.le (Nat.min_le_right _ _)))

def upd (X : Nat → ND) (i : Nat) (q : ND) : Nat → ND := fun j => if j = i then q else X j
theorem upd_self (X : Nat → ND) (i : Nat) (q : ND) : upd X i q i = q := if_pos rfl
theorem upd_ne (X : Nat → ND) (i : Nat) (q : ND) {j : Nat} (h : j ≠ i) : upd X i q j = X j := if_neg h
theorem upd_upd (X : Nat → ND) (i : Nat) (q r : ND) : upd (upd X i q) i r = upd X i r := by
  funext j; unfold upd; split <;> rfl
theorem upd_same (X : Nat → ND) (i : Nat) : upd X i (X i) = X := by
  funext j; unfold upd; split
  · next h => rw [h]
  · rfl

section
variable {g h : Gh} {N i : Nat} {X : Nat → ND} {S S' : Msg → Prop} {q : ND}

theorem Inv.step (hI : Inv N g X S) (hl : Le i g h) (hg : GhInv h N) (hq : NodeInv h N i q) (hS : ∀ m, S' m → S m ∨ MsgInv h N m) : Inv N h (upd X i q) S' := by
  refine ⟨hg, fun j hj => ?_, fun m hm => ?_⟩
  · by_cases hji : j = i
    · subst hji; rw [upd_self]; exact hq
    · rw [upd_ne _ _ _ hji]; exact (hI.2.1 j hj).other hI.1 hl hji
  · rcases hS m hm with h1 | h1
    · exact (hI.2.2 m h1).le hl
    · exact h1
theorem Inv.less (hI : Inv N g X S) (hS : ∀ m, S' m → S m) : Inv N g X S' := ⟨hI.1, hI.2.1, fun m hm => hI.2.2 m (hS m hm)⟩

/-- A crash. -/
theorem NodeInv.crash (hq : NodeInv g N i q) : NodeInv g N i (newND q.st i N) where
  ids := ⟨rfl, rfl⟩
  ep0 := hq.ep0
  ents := hq.ents
  mono := hq.mono
  good := hq.good
  cdep := hq.cdep
  vote := hq.vote
  fut := hq.fut
  role := Or.inl rfl
  cand := fun h => by cases h
  prim := fun h => by cases h
  acep := hq.acep
  keep := hq.keep
  commit := ⟨Nat.zero_le _, Or.inl rfl⟩
theorem NodeInv.stand (hq : NodeInv g N i q) : NodeInv g N i { q with role := 0 } where
  ids := hq.ids
  ep0 := hq.ep0
  ents := hq.ents
  mono := hq.mono
  good := hq.good
  cdep := hq.cdep
  vote := hq.vote
  fut := hq.fut
  role := Or.inl rfl
  cand := fun h => by cases h
  prim := fun h => by cases h
  acep := hq.acep
  keep := hq.keep
  commit := hq.commit
/-- A greater epoch. -/
theorem NodeInv.epoch (hq : NodeInv g N i q) {E : Int} (hE : q.st.ep < E) : NodeInv g N i { q with st := { q.st with ep := E, voted := -1 }, role := 0 } where
  ids := hq.ids
  ep0 := by have := hq.ep0; show 0 ≤ E; omega
  ents := fun x hx => by have := hq.ents x hx; exact ⟨this.1, by show x.ep ≤ E; omega⟩
  mono := hq.mono
  good := hq.good
  cdep := fun e he => by have := hq.cdep e he; show e ≤ E; omega
  vote := Or.inl ⟨rfl, hq.fut E hE⟩
  fut := fun e he => hq.fut e (by have : E < e := he; omega)
  role := Or.inl rfl
  cand := fun h => by cases h
  prim := fun h => by cases h
  acep := fun e he => by have := hq.acep e he; show e ≤ E; omega
  keep := fun e m hm => by
    rcases hq.keep e m hm with h1 | ⟨e2, h1, h2, h3⟩
    · exact Or.inl h1
    · exact Or.inr ⟨e2, h1, by show e2 ≤ E; omega, h3⟩
  commit := ⟨hq.commit.1, hq.commit.2.up (by show q.st.ep ≤ E; omega)⟩

/-- Promoted. -/
def Gh.promote (g : Gh) (i : Nat) (E : Int) (l : List Ent) : Gh :=
  { g with cd := fun e c => g.cd e c ∨ (e = E ∧ c = i), cl := fun e c => if e = E ∧ c = i then l else g.cl e c, vt := fun v e => if v = i ∧ e = E then some i else g.vt v e }
theorem Le.promote {E : Int} {l : List Ent} (hc : ¬ g.cd E i) (hv : g.vt i E = none) : Le i g (g.promote i E l) where
  pl := fun _ => Ext.refl _
  plo := fun _ _ _ _ => rfl
  ld := fun _ _ h => h
  ldo := fun _ _ _ h => h
  cd := fun e c he => ⟨Or.inl he, by
    show (if e = E ∧ c = i then l else g.cl e c) = _
    rw [if_neg]
    rintro ⟨rfl, rfl⟩
    exact hc he⟩
  cdo := fun e c hne he => by
    rcases he with he | he
    · exact he
    · exact absurd he.2 hne
  vt := fun v e c he => by
    show (if v = i ∧ e = E then some i else g.vt v e) = _
    rw [if_neg]
    · exact he
    · rintro ⟨rfl, rfl⟩; rw [hv] at he; cases he
  vto := fun v e hne => by
    show (if v = i ∧ e = E then some i else g.vt v e) = _
    rw [if_neg]
    rintro ⟨rfl, _⟩; exact hne rfl
  ac := fun _ _ => Nat.le_refl _
  aco := fun _ _ _ => rfl
theorem GhInv.promote (hg : GhInv g N) (hq : NodeInv g N i q) (hi : i < N) : GhInv (g.promote i (q.st.ep + 1) q.st.log) N := by
  have hc : ¬ g.cd (q.st.ep + 1) i := fun e => by have := hq.cdep _ e; omega
  have hv : g.vt i (q.st.ep + 1) = none := hq.fut _ (by omega)
  have hl : Le i g (g.promote i (q.st.ep + 1) q.st.log) := Le.promote hc hv
  have hcl : (g.promote i (q.st.ep + 1) q.st.log).cl (q.st.ep + 1) i = q.st.log := if_pos ⟨rfl, rfl⟩
  refine ⟨hg.plep, hg.plmono, hg.plgood, hg.pl0, fun e c he => ?_, fun e c he => ?_, fun e c he => ?_, fun e c he => ?_, fun v e c he => ?_, fun e c he => ?_, fun v e c hld he => ?_, hg.acok⟩
  · rcases he with he | ⟨rfl, rfl⟩
    · rw [(hl.cd e c he).2]; exact hg.clep e c he
    · rw [hcl]
      intro x hx
      have := hq.ents x hx
      exact ⟨this.1, by omega⟩
  · rcases he with he | ⟨rfl, rfl⟩
    · rw [(hl.cd e c he).2]; exact hg.clmono e c he
    · rw [hcl]; exact hq.mono
  · rcases he with he | ⟨rfl, rfl⟩
    · rw [(hl.cd e c he).2]; exact hg.clgood e c he
    · rw [hcl]; exact hq.good
  · rcases he with he | ⟨rfl, rfl⟩
    · exact hg.cd0 e c he
    · have := hq.ep0; exact ⟨hi, by omega⟩
  · have he' : (if v = i ∧ e = q.st.ep + 1 then some i else g.vt v e) = some c := he
    by_cases hp : v = i ∧ e = q.st.ep + 1
    · rw [if_pos hp] at he'
      injection he' with he'
      subst he'
      exact ⟨by rw [hp.1]; exact hi, Or.inr ⟨hp.2, rfl⟩⟩
    · rw [if_neg hp] at he'
      have := hg.vote v e c he'
      exact ⟨this.1, Or.inl this.2⟩
  · obtain ⟨h1, h2, h3, h4⟩ := hg.lead e c he
    have h5 := hl.cd e c h1
    rw [h5.2]
    exact ⟨h5.1, h2, fun v hv2 => ⟨hl.vt _ _ _ (h3 v hv2).1, (h3 v hv2).2.le hl (fun _ _ => rfl) (hg.acok v)⟩, h4⟩
  · have he' : (if v = i ∧ e = q.st.ep + 1 then some i else g.vt v e) = some c := he
    by_cases hp : v = i ∧ e = q.st.ep + 1
    · rw [if_pos hp] at he'
      injection he' with he'
      subst he'
      obtain ⟨rfl, rfl⟩ := hp
      rw [hcl]
      intro e0 h0 m hm hw
      rcases hq.keep e0 m hm with k1 | ⟨e2, k1, k2, k3⟩
      · exact Or.inl k1
      · exact Or.inr ⟨e2, k1, by omega, k3⟩
    · rw [if_neg hp] at he'
      rw [(hl.cd e c (hg.vote v e c he').2).2]
      exact (hg.pre v e c hld he').le hl (fun _ _ => rfl) (hg.acok v)
theorem NodeInv.promote (hg : GhInv g N) (hq : NodeInv g N i q) (hi : i < N) : NodeInv (g.promote i (q.st.ep + 1) q.st.log) N i { q with st := { q.st with ep := q.st.ep + 1, voted := (i : Int) }, role := 1, granted := some [(i : Int)] } := by
  have hc : ¬ g.cd (q.st.ep + 1) i := fun e => by have := hq.cdep _ e; omega
  have hv : g.vt i (q.st.ep + 1) = none := hq.fut _ (by omega)
  have hl : Le i g (g.promote i (q.st.ep + 1) q.st.log) := Le.promote hc hv
  have hvt : (g.promote i (q.st.ep + 1) q.st.log).vt i (q.st.ep + 1) = some i := if_pos ⟨rfl, rfl⟩
  exact {
    ids := hq.ids
    ep0 := by have := hq.ep0; show 0 ≤ q.st.ep + 1; omega
    ents := fun x hx => by have := hq.ents x hx; exact ⟨this.1, by show x.ep ≤ q.st.ep + 1; omega⟩
    mono := hq.mono
    good := hq.good.le hl
    cdep := fun e he => by
      rcases he with he | he
      · have := hq.cdep e he; show e ≤ q.st.ep + 1; omega
      · rw [he.1]; exact Int.le_refl _
    vote := Or.inr ⟨i, rfl, hvt⟩
    fut := fun e he => by
      have he : q.st.ep + 1 < e := he
      show (if i = i ∧ e = q.st.ep + 1 then some i else g.vt i e) = none
      rw [if_neg (by omega)]
      exact hq.fut e (by omega)
    role := Or.inr (Or.inl rfl)
    cand := fun _ => ⟨Or.inr ⟨rfl, rfl⟩, if_pos ⟨rfl, rfl⟩, fun e => by have := hq.cdep _ (hg.lead _ _ e).1; have : q.st.ep + 1 ≤ q.st.ep := this; omega, rfl, [(i : Int)], rfl, by simp, fun z hz => ⟨i, hi, List.mem_singleton.1 hz, hvt⟩⟩
    prim := fun h => by cases h
    acep := fun e he => by have := hq.acep e he; show e ≤ q.st.ep + 1; omega
    keep := fun e m hm => by
      rcases hq.keep e m hm with h1 | ⟨e2, h1, h2, h3⟩
      · exact Or.inl h1
      · exact Or.inr ⟨e2, h1, by show e2 ≤ q.st.ep + 1; omega, h3⟩
    commit := ⟨hq.commit.1, (hq.commit.2.le hl).up (by show q.st.ep ≤ q.st.ep + 1; omega)⟩ }

/-- A vote. -/
def Gh.give (g : Gh) (i : Nat) (E : Int) (c : Nat) : Gh := { g with vt := fun v e => if v = i ∧ e = E then some c else g.vt v e }
theorem Le.give {E : Int} {c : Nat} (hv : g.vt i E = none) : Le i g (g.give i E c) where
  pl := fun _ => Ext.refl _
  plo := fun _ _ _ _ => rfl
  ld := fun _ _ h => h
  ldo := fun _ _ _ h => h
  cd := fun e c he => ⟨he, rfl⟩
  cdo := fun e c hne he => he
  vt := fun v e c' he => by
    show (if v = i ∧ e = E then some c else g.vt v e) = _
    rw [if_neg]
    · exact he
    · rintro ⟨rfl, rfl⟩; rw [hv] at he; cases he
  vto := fun v e hne => by
    show (if v = i ∧ e = E then some c else g.vt v e) = _
    rw [if_neg]
    rintro ⟨rfl, _⟩; exact hne rfl
  ac := fun _ _ => Nat.le_refl _
  aco := fun _ _ _ => rfl

/-- What a voter owes. -/
theorem vote_obl (hg : GhInv g N) (hq : NodeInv g N i q) {c : Nat} (hc : g.cd q.st.ep c) (hld : g.ld q.st.ep = none)
    (hn : lastAt q.st.log q.st.log.length < lastAt (g.cl q.st.ep c) (g.cl q.st.ep c).length ∨ lastAt (g.cl q.st.ep c) (g.cl q.st.ep c).length = lastAt q.st.log q.st.log.length ∧ q.st.log.length ≤ (g.cl q.st.ep c).length) : Obl g i q.st.ep (g.cl q.st.ep c) := by
  intro e he m hm hw
  rcases hq.keep e m hm with k1 | ⟨e2, k1, k2, k3⟩
  · have hml := k1.len hw.len
    obtain ⟨h0, x, hx, hxe⟩ := hw
    have hlx : q.st.log[m - 1]? = some x := (k1 (m - 1) (by omega)).trans hx
    obtain ⟨y, hy⟩ := at_len (l := q.st.log) (k := q.st.log.length - 1) (by omega)
    have hly : lastAt q.st.log q.st.log.length = y.ep := by
      have := lastAt_succ hy
      rwa [Nat.sub_add_cancel (by omega)] at this
    have hye : e ≤ y.ep := by
      have := hq.mono (m - 1) (q.st.log.length - 1) x y (by omega) hlx hy
      omega
    have hx1 := (hg.plep e x (List.mem_of_getElem? hx)).1
    generalize hcl : g.cl q.st.ep c = cl at *
    have hcne : 0 < cl.length := by
      apply Classical.byContradiction
      intro hz
      have : lastAt cl cl.length = 0 := by rw [show cl.length = 0 by omega]; rfl
      omega
    obtain ⟨z, hz⟩ := at_len (l := cl) (k := cl.length - 1) (by omega)
    have hlz : lastAt cl cl.length = z.ep := by
      have := lastAt_succ hz
      rwa [Nat.sub_add_cancel (by omega)] at this
    have hgz := hg.clgood _ _ hc (cl.length - 1) z (by rw [hcl]; exact hz)
    rw [hcl, Nat.sub_add_cancel (by omega)] at hgz
    have hzE := (hg.clep _ _ hc z (by rw [hcl]; exact List.mem_of_getElem? hz)).2
    by_cases hze : z.ep = e
    · rw [hze] at hgz
      exact Or.inl (hgz.le (by omega))
    · apply Classical.byContradiction
      intro hno
      have hno1 : ¬ Agree cl (g.pl e) m := fun h => hno (Or.inl h)
      have hno2 : ¬ Conf (g.pl z.ep) (g.pl e) m := fun h => hno (Or.inr ⟨z.ep, by omega, hzE, h⟩)
      apply hno1
      have hpl : ∀ k, k < m → ∃ b, (g.pl e)[k]? = some b := fun k hk => at_len (by have := lt_len hx; omega)
      have hlen : m ≤ cl.length := by
        apply Classical.byContradiction
        intro hlt
        obtain ⟨b, hb⟩ := hpl (cl.length - 1) (by omega)
        have hbe := (hg.plep e b (List.mem_of_getElem? hb)).2
        exact hno2 ⟨cl.length - 1, z, b, by omega, (hgz _ (by omega)).symm.trans hz, hb, fun h => by rw [h] at hze hlz; omega⟩
      intro k hk
      obtain ⟨b, hb⟩ := hpl k hk
      obtain ⟨a, ha⟩ := at_len (l := cl) (k := k) (by omega)
      by_cases hab : a = b
      · rw [ha, hb, hab]
      · exact absurd ⟨k, a, b, hk, (hgz k (by omega)).symm.trans ha, hb, hab⟩ hno2
  · have hne : e2 ≠ q.st.ep := fun h => by
      rw [h, hg.pl0 _ hld] at k3
      obtain ⟨k, a, b, _, p, _⟩ := k3
      simp at p
    exact Or.inr ⟨e2, k1, by omega, k3⟩
theorem GhInv.give (hg : GhInv g N) (hq : NodeInv g N i q) (hi : i < N) {c : Nat} (hc : g.cd q.st.ep c) (hv : g.vt i q.st.ep = none)
    (hn : lastAt q.st.log q.st.log.length < lastAt (g.cl q.st.ep c) (g.cl q.st.ep c).length ∨ lastAt (g.cl q.st.ep c) (g.cl q.st.ep c).length = lastAt q.st.log q.st.log.length ∧ q.st.log.length ≤ (g.cl q.st.ep c).length) : GhInv (g.give i q.st.ep c) N := by
  have hl : Le i g (g.give i q.st.ep c) := Le.give hv
  refine ⟨hg.plep, hg.plmono, hg.plgood, hg.pl0, hg.clep, hg.clmono, hg.clgood, hg.cd0, fun v e c' he => ?_, fun e c' he => ?_, fun v e c' hld he => ?_, hg.acok⟩
  · have he' : (if v = i ∧ e = q.st.ep then some c else g.vt v e) = some c' := he
    by_cases hp : v = i ∧ e = q.st.ep
    · rw [if_pos hp] at he'
      injection he' with he'
      subst he'
      exact ⟨by rw [hp.1]; exact hi, by rw [hp.2]; exact hc⟩
    · rw [if_neg hp] at he'
      exact hg.vote v e c' he'
  · obtain ⟨h1, h2, h3, h4⟩ := hg.lead e c' he
    exact ⟨h1, h2, fun v hv2 => ⟨hl.vt _ _ _ (h3 v hv2).1, (h3 v hv2).2.le hl (fun _ _ => rfl) (hg.acok v)⟩, h4⟩
  · have he' : (if v = i ∧ e = q.st.ep then some c else g.vt v e) = some c' := he
    by_cases hp : v = i ∧ e = q.st.ep
    · rw [if_pos hp] at he'
      injection he' with he'
      subst he'
      obtain ⟨rfl, rfl⟩ := hp
      exact (vote_obl hg hq hc hld hn).le hl (fun _ _ => rfl) (hg.acok v)
    · rw [if_neg hp] at he'
      exact (hg.pre v e c' hld he').le hl (fun _ _ => rfl) (hg.acok v)
theorem NodeInv.give (hg : GhInv g N) (hq : NodeInv g N i q) {c : Nat} (hv : g.vt i q.st.ep = none) (hne : c ≠ i) : NodeInv (g.give i q.st.ep c) N i { q with st := { q.st with voted := (c : Int) } } := by
  have hl : Le i g (g.give i q.st.ep c) := Le.give hv
  exact {
    ids := hq.ids
    ep0 := hq.ep0
    ents := hq.ents
    mono := hq.mono
    good := hq.good.le hl
    cdep := hq.cdep
    vote := Or.inr ⟨c, rfl, if_pos ⟨rfl, rfl⟩⟩
    fut := fun e he => by
      have he : q.st.ep < e := he
      show (if i = i ∧ e = q.st.ep then some c else g.vt i e) = none
      rw [if_neg (by omega)]
      exact hq.fut e he
    role := hq.role
    cand := fun h1 => by
      exfalso
      obtain ⟨_, _, _, h5, _⟩ := hq.cand h1
      rcases hq.vote with h6 | ⟨c', _, h6⟩
      · omega
      · rw [hv] at h6; cases h6
    prim := fun h1 => hq.prim h1
    acep := hq.acep
    keep := hq.keep
    commit := ⟨hq.commit.1, hq.commit.2.le hl⟩ }
end

section
variable {g h : Gh} {N i : Nat} {X : Nat → ND} {S S' : Msg → Prop} {q : ND}

/-- The primary's log has become l. -/
def Gh.grow (g : Gh) (i : Nat) (E : Int) (l : List Ent) (Q : List Nat) : Gh :=
  { g with pl := fun e => if e = E then l else g.pl e, ld := fun e => if e = E then some i else g.ld e, qu := fun e => if e = E then Q else g.qu e, ac := fun v e => if v = i ∧ e = E then l.length else g.ac v e }
theorem grow_pl {E : Int} {l : List Ent} {Q : List Nat} : (g.grow i E l Q).pl E = l := if_pos rfl
theorem grow_pl' {E e : Int} {l : List Ent} {Q : List Nat} (h : e ≠ E) : (g.grow i E l Q).pl e = g.pl e := if_neg h
theorem grow_ac' {E e : Int} {v : Nat} {l : List Ent} {Q : List Nat} (h : ¬ (v = i ∧ e = E)) : (g.grow i E l Q).ac v e = g.ac v e := if_neg h
theorem Le.grow {E : Int} {l : List Ent} {Q : List Nat} (hx : Ext (g.pl E) l) (hld : g.ld E = none ∨ g.ld E = some i) (hac : g.ac i E ≤ l.length) : Le i g (g.grow i E l Q) where
  pl := fun e => by
    by_cases he : e = E
    · subst he; rw [grow_pl]; exact hx
    · rw [grow_pl' he]; exact Ext.refl _
  plo := fun e j hne hj => by
    by_cases he : e = E
    · subst he
      rcases hld with h1 | h1
      · rw [h1] at hj; cases hj
      · rw [h1] at hj; injection hj with hj; exact absurd hj.symm hne
    · exact grow_pl' he
  ld := fun e c hc => by
    show (if e = E then some i else g.ld e) = some c
    by_cases he : e = E
    · subst he
      rw [if_pos rfl]
      rcases hld with h1 | h1
      · rw [h1] at hc; cases hc
      · rw [← h1]; exact hc
    · rw [if_neg he]; exact hc
  ldo := fun e j hne hj => by
    have hj : (if e = E then some i else g.ld e) = some j := hj
    by_cases he : e = E
    · rw [if_pos he] at hj; injection hj with hj; exact absurd hj.symm hne
    · rw [if_neg he] at hj; exact hj
  cd := fun _ _ h => ⟨h, rfl⟩
  cdo := fun _ _ _ h => h
  vt := fun _ _ _ h => h
  vto := fun _ _ _ => rfl
  ac := fun v e => by
    by_cases he : v = i ∧ e = E
    · obtain ⟨rfl, rfl⟩ := he
      show g.ac v e ≤ (if v = v ∧ e = e then l.length else g.ac v e)
      rw [if_pos ⟨rfl, rfl⟩]; exact hac
    · rw [grow_ac' he]; exact Nat.le_refl _
  aco := fun v e hne => grow_ac' (fun h => hne h.1)
theorem GhInv.grow (hg : GhInv g N) {E : Int} {l : List Ent} {Q : List Nat} (hx : Ext (g.pl E) l) (hld : g.ld E = none ∨ g.ld E = some i) (hac : g.ac i E ≤ l.length)
    (hfut : ∀ e, E < e → g.vt i e = none) (hents : ∀ x ∈ l, 1 ≤ x.ep ∧ x.ep ≤ E) (hmono : Mono l) (hgood : Good (g.grow i E l Q) l)
    (hcd : g.cd E i) (hQ : Maj N Q) (hv : ∀ v ∈ Q, g.vt v E = some i ∧ Obl g v E (g.cl E i)) (hr : ∃ r, l = g.cl E i ++ r ∧ r ≠ [] ∧ ∀ x ∈ r, x.ep = E) : GhInv (g.grow i E l Q) N := by
  have hl : Le i g (g.grow i E l Q) := Le.grow hx hld hac
  have hob : ∀ v e c l', g.vt v e = some c → Obl g v e l' → Obl (g.grow i E l Q) v e l' := fun v e c l' hvt ho => by
    refine ho.le hl (fun e0 he0 => grow_ac' ?_) (hg.acok v)
    rintro ⟨rfl, rfl⟩
    rw [hfut e he0] at hvt
    cases hvt
  refine ⟨fun e => ?_, fun e => ?_, fun e => ?_, fun e he => ?_, hg.clep, hg.clmono, fun e c hc => (hg.clgood e c hc).le hl, hg.cd0, hg.vote, fun e c he => ?_, fun v e c he hvt => ?_, fun v e => ?_⟩
  · by_cases he : e = E
    · subst he; rw [grow_pl]; exact hents
    · rw [grow_pl' he]; exact hg.plep e
  · by_cases he : e = E
    · subst he; rw [grow_pl]; exact hmono
    · rw [grow_pl' he]; exact hg.plmono e
  · by_cases he : e = E
    · subst he; rw [grow_pl]; exact hgood
    · rw [grow_pl' he]; exact (hg.plgood e).le hl
  · have he' : (if e = E then some i else g.ld e) = none := he
    by_cases h2 : e = E
    · rw [if_pos h2] at he'; cases he'
    · rw [if_neg h2] at he'; rw [grow_pl' h2]; exact hg.pl0 e he'
  · have he' : (if e = E then some i else g.ld e) = some c := he
    by_cases h2 : e = E
    · rw [if_pos h2] at he'
      injection he' with he'
      subst he'
      subst h2
      refine ⟨hcd, by show Maj N (if e = e then Q else g.qu e); rw [if_pos rfl]; exact hQ, fun v hv2 => ?_, by rw [grow_pl]; exact hr⟩
      have hv2 : v ∈ (if e = e then Q else g.qu e) := hv2
      rw [if_pos rfl] at hv2
      exact ⟨(hv v hv2).1, hob _ _ _ _ (hv v hv2).1 (hv v hv2).2⟩
    · rw [if_neg h2] at he'
      obtain ⟨h3, h4, h5, h6⟩ := hg.lead e c he'
      refine ⟨h3, by show Maj N (if e = E then Q else g.qu e); rw [if_neg h2]; exact h4, fun v hv2 => ?_, by rw [grow_pl' h2]; exact h6⟩
      have hv2 : v ∈ (if e = E then Q else g.qu e) := hv2
      rw [if_neg h2] at hv2
      exact ⟨(h5 v hv2).1, hob _ _ _ _ (h5 v hv2).1 (h5 v hv2).2⟩
  · have he' : (if e = E then some i else g.ld e) = none := he
    by_cases h2 : e = E
    · rw [if_pos h2] at he'; cases he'
    · rw [if_neg h2] at he'
      exact hob _ _ _ _ hvt (hg.pre v e c he' hvt)
  · by_cases h2 : v = i ∧ e = E
    · obtain ⟨rfl, rfl⟩ := h2
      rw [grow_pl]
      show (if v = v ∧ e = e then l.length else g.ac v e) ≤ _
      rw [if_pos ⟨rfl, rfl⟩]
      exact Nat.le_refl _
    · rw [grow_ac' h2]
      exact Nat.le_trans (hg.acok v e) (hl.pl e).len
/-- An entry of the primary's own. -/
theorem good_grow (hq : NodeInv g N i q) {d : List UInt8} {Q : List Nat} (hl : Le i g (g.grow i q.st.ep (q.st.log ++ [⟨q.st.ep, d⟩]) Q)) : Good (g.grow i q.st.ep (q.st.log ++ [⟨q.st.ep, d⟩]) Q) (q.st.log ++ [⟨q.st.ep, d⟩]) := by
  intro k x hx
  by_cases hk : k < q.st.log.length
  · rw [List.getElem?_append_left hk] at hx
    have h1 := (hq.good.le hl) k x hx
    intro j hj
    rw [List.getElem?_append_left (by omega)]
    exact h1 j hj
  · have h2 := lt_len hx
    simp at h2
    obtain rfl : k = q.st.log.length := by omega
    rw [List.getElem?_append_right (Nat.le_refl _), Nat.sub_self] at hx
    simp at hx
    subst hx
    rw [grow_pl]
    exact Agree.refl _ _
theorem NodeInv.grow (hg : GhInv g N) (hq : NodeInv g N i q) {d : List UInt8} {Q : List Nat} (hl : Le i g (g.grow i q.st.ep (q.st.log ++ [⟨q.st.ep, d⟩]) Q)) (hE : 1 ≤ q.st.ep) (has acked : List Int) (gs : List Int) (r : Int)
    (hx : Ext (g.pl q.st.ep) (q.st.log ++ [⟨q.st.ep, d⟩])) (hr : r = 2)
    (hgs : q.granted = some gs ∧ gs.Nodup ∧ ∀ z ∈ gs, ∃ v : Nat, v < N ∧ z = (v : Int)) (h1 : has.length = N) (h2 : acked.length = N)
    (h3 : ∀ j a, acked[j]? = some a → 0 ≤ a ∧ a ≤ (q.st.log.length : Int) ∧ (j ≠ i → a ≤ (g.ac j q.st.ep : Int))) (h4 : ∀ a ∈ has, 0 ≤ a ∧ a ≤ (q.st.log.length : Int)) :
    NodeInv (g.grow i q.st.ep (q.st.log ++ [⟨q.st.ep, d⟩]) Q) N i { q with st := { q.st with log := q.st.log ++ [⟨q.st.ep, d⟩] }, role := r, has := has, acked := acked } where
  ids := hq.ids
  ep0 := hq.ep0
  ents := fun x hx => by
    have hx : x ∈ q.st.log ++ [⟨q.st.ep, d⟩] := hx
    rcases List.mem_append.1 hx with h | h
    · exact hq.ents x h
    · rw [List.mem_singleton.1 h]; exact ⟨hE, Int.le_refl _⟩
  mono := hq.mono.app (fun x hx => (hq.ents x hx).2)
  good := good_grow hq hl
  cdep := hq.cdep
  vote := hq.vote
  fut := hq.fut
  role := Or.inr (Or.inr hr)
  cand := fun h => by have h : r = 1 := h; omega
  prim := fun _ => by
    refine ⟨if_pos rfl, if_pos rfl, if_pos ⟨rfl, rfl⟩, ⟨gs, hgs⟩, h1, h2, fun j a hj => ?_, fun a ha => ?_⟩
    · obtain ⟨k1, k2, k3⟩ := h3 j a hj
      refine ⟨k1, by show a ≤ ((q.st.log ++ [_]).length : Int); simp; omega, fun hne => ?_⟩
      have := k3 hne
      have := hl.ac j q.st.ep
      show a ≤ ((g.grow i q.st.ep (q.st.log ++ [⟨q.st.ep, d⟩]) Q).ac j q.st.ep : Int)
      omega
    · have := h4 a ha
      exact ⟨this.1, by show a ≤ ((q.st.log ++ [_]).length : Int); simp; omega⟩
  acep := fun e he => by
    by_cases h5 : e = q.st.ep
    · rw [h5]; exact Int.le_refl _
    · rw [grow_ac' (fun h => h5 h.2)] at he
      exact hq.acep e he
  keep := fun e m hm => by
    by_cases h5 : e = q.st.ep
    · subst h5
      left
      rw [grow_pl]
      exact Agree.refl _ _
    · rw [grow_ac' (fun h => h5 h.2)] at hm
      have hle := hg.acok i e
      rcases hq.keep e m hm with k1 | ⟨e2, k1, k2, k3⟩
      · left
        have hml := k1.len (by omega)
        intro k hk
        show (q.st.log ++ [_])[k]? = _
        rw [List.getElem?_append_left (by omega), grow_pl' h5]
        exact k1 k hk
      · exact Or.inr ⟨e2, k1, k2, k3.mono (hl.pl _) (hl.pl _)⟩
  commit := ⟨by show q.commit ≤ (q.st.log ++ [_]).length; have := hq.commit.1; simp; omega, (hq.commit.2.le hl).agree (fun k hk => by
    have := hq.commit.1
    show (q.st.log ++ [_])[k]? = _
    rw [List.getElem?_append_left (by omega)])⟩

/-- What a node has of the primary's. -/
def Gh.ack (g : Gh) (i : Nat) (E : Int) (a : Nat) : Gh := { g with ac := fun v e => if v = i ∧ e = E then max (g.ac i E) a else g.ac v e }
theorem ack_ac' {E e : Int} {v a : Nat} (h : ¬ (v = i ∧ e = E)) : (g.ack i E a).ac v e = g.ac v e := if_neg h
theorem ack_ac {E : Int} {a : Nat} : (g.ack i E a).ac i E = max (g.ac i E) a := if_pos ⟨rfl, rfl⟩
theorem Le.ack {E : Int} {a : Nat} : Le i g (g.ack i E a) where
  pl := fun _ => Ext.refl _
  plo := fun _ _ _ _ => rfl
  ld := fun _ _ h => h
  ldo := fun _ _ _ h => h
  cd := fun _ _ h => ⟨h, rfl⟩
  cdo := fun _ _ _ h => h
  vt := fun _ _ _ h => h
  vto := fun _ _ _ => rfl
  ac := fun v e => by
    by_cases he : v = i ∧ e = E
    · obtain ⟨rfl, rfl⟩ := he
      rw [ack_ac]; exact Nat.le_max_left _ _
    · rw [ack_ac' he]; exact Nat.le_refl _
  aco := fun v e hne => ack_ac' (fun h => hne h.1)
theorem GhInv.ack (hg : GhInv g N) {E : Int} {a : Nat} (ha : a ≤ (g.pl E).length) (hfut : ∀ e, E < e → g.vt i e = none) : GhInv (g.ack i E a) N := by
  have hl : Le i g (g.ack i E a) := Le.ack
  have hob : ∀ v e c l', g.vt v e = some c → Obl g v e l' → Obl (g.ack i E a) v e l' := fun v e c l' hvt ho => by
    refine ho.le hl (fun e0 he0 => ack_ac' ?_) (hg.acok v)
    rintro ⟨rfl, rfl⟩
    rw [hfut e he0] at hvt
    cases hvt
  refine ⟨hg.plep, hg.plmono, hg.plgood, hg.pl0, hg.clep, hg.clmono, hg.clgood, hg.cd0, hg.vote, fun e c he => ?_, fun v e c he hvt => hob _ _ _ _ hvt (hg.pre v e c he hvt), fun v e => ?_⟩
  · obtain ⟨h3, h4, h5, h6⟩ := hg.lead e c he
    exact ⟨h3, h4, fun v hv2 => ⟨(h5 v hv2).1, hob _ _ _ _ (h5 v hv2).1 (h5 v hv2).2⟩, h6⟩
  · by_cases h2 : v = i ∧ e = E
    · obtain ⟨rfl, rfl⟩ := h2
      rw [ack_ac]
      exact Nat.max_le.2 ⟨hg.acok v e, ha⟩
    · rw [ack_ac' h2]; exact hg.acok v e
theorem NodeInv.ack (hq : NodeInv g N i q) {a : Nat} (hr : q.role ≠ 2) (ha : Agree q.st.log (g.pl q.st.ep) a) (hap : a ≤ (g.pl q.st.ep).length) : NodeInv (g.ack i q.st.ep a) N i q where
  ids := hq.ids
  ep0 := hq.ep0
  ents := hq.ents
  mono := hq.mono
  good := hq.good
  cdep := hq.cdep
  vote := hq.vote
  fut := hq.fut
  role := hq.role
  cand := hq.cand
  prim := fun h => absurd h hr
  acep := fun e he => by
    by_cases h5 : e = q.st.ep
    · rw [h5]; exact Int.le_refl _
    · rw [ack_ac' (fun h => h5 h.2)] at he; exact hq.acep e he
  keep := fun e m hm => by
    by_cases h5 : e = q.st.ep
    · subst h5
      rw [ack_ac] at hm
      by_cases h6 : m ≤ g.ac i q.st.ep
      · exact hq.keep q.st.ep m h6
      · exact Or.inl (ha.le (by omega))
    · rw [ack_ac' (fun h => h5 h.2)] at hm; exact hq.keep e m hm
  commit := ⟨hq.commit.1, hq.commit.2.le (Le.ack (i := i))⟩

/-- A log that is cut at a place where the primary's is other. -/
theorem NodeInv.cut (hg : GhInv g N) (hq : NodeInv g N i q) {p : Nat} (hr : q.role = 0) {a b : Ent} (hp : (g.pl q.st.ep)[p]? = some a) (hb : q.st.log[p]? = some b) (hab : a.ep ≠ b.ep) : NodeInv g N i { q with st := { q.st with log := q.st.log.take p } } := by
  have hlen := lt_len hb
  have hca : ∀ k, k < p → (q.st.log.take p)[k]? = q.st.log[k]? := fun k hk => by rw [List.getElem?_take, if_pos hk]
  exact {
    ids := hq.ids
    ep0 := hq.ep0
    ents := fun x hx => hq.ents x (List.mem_of_mem_take hx)
    mono := hq.mono.take p
    good := fun k x hx => by
      have hx : (q.st.log.take p)[k]? = some x := hx
      have hk := lt_len hx
      rw [List.length_take] at hk
      rw [hca k (by omega)] at hx
      intro j hj
      show (q.st.log.take p)[j]? = _
      rw [hca j (by omega)]
      exact hq.good k x hx j hj
    cdep := hq.cdep
    vote := hq.vote
    fut := hq.fut
    role := hq.role
    cand := fun h => by have h : q.role = 1 := h; omega
    prim := fun h => by have h : q.role = 2 := h; omega
    acep := hq.acep
    keep := fun e m hm => by
      rcases hq.keep e m hm with k1 | ⟨e2, k1, k2, k3⟩
      · by_cases hmp : m ≤ p
        · left
          intro k hk
          show (q.st.log.take p)[k]? = _
          rw [hca k (by omega)]
          exact k1 k hk
        · right
          have hpe := (k1 p (by omega)).symm.trans hb
          have hee : e ≠ q.st.ep := fun h => by rw [h, hp] at hpe; injection hpe with hpe; exact hab (by rw [hpe])
          have := hq.acep e (by omega)
          exact ⟨q.st.ep, by omega, Int.le_refl _, p, a, b, by omega, hp, hpe, fun h => hab (by rw [h])⟩
      · exact Or.inr ⟨e2, k1, k2, k3⟩
    commit := by
      have hcp : q.commit ≤ p := by
        apply Classical.byContradiction
        intro hlt
        rcases hq.commit.2 with h0 | ⟨e, m, h1, h2, h3, h4⟩
        · omega
        · have hpe := (h4 p (by omega)).symm.trans hb
          have hld : g.ld q.st.ep ≠ none := fun h => by rw [hg.pl0 _ h] at hp; simp at hp
          have := complete' hg h2 h1 hld p (by omega)
          rw [hp, hpe] at this
          injection this with this
          exact hab (by rw [this])
      refine ⟨by show q.commit ≤ (q.st.log.take p).length; rw [List.length_take]; omega, hq.commit.2.agree (fun k hk => ?_)⟩
      show (q.st.log.take p)[k]? = _
      exact hca k (by omega) }
/-- An entry of the primary's. -/
theorem NodeInv.put (hg : GhInv g N) (hq : NodeInv g N i q) {x : Ent} (hr : q.role = 0) (ha : Agree q.st.log (g.pl q.st.ep) q.st.log.length) (hx : (g.pl q.st.ep)[q.st.log.length]? = some x) : NodeInv g N i { q with st := { q.st with log := q.st.log ++ [x] } } := by
  have hca : ∀ k, k < q.st.log.length → (q.st.log ++ [x])[k]? = q.st.log[k]? := fun k hk => List.getElem?_append_left hk
  have hall : Agree (q.st.log ++ [x]) (g.pl q.st.ep) (q.st.log.length + 1) := fun k hk => by
    by_cases h : k < q.st.log.length
    · rw [hca k h]; exact ha k h
    · obtain rfl : k = q.st.log.length := by omega
      rw [List.getElem?_append_right (Nat.le_refl _), Nat.sub_self, hx]
      rfl
  have hxe := hg.plep _ x (List.mem_of_getElem? hx)
  exact {
    ids := hq.ids
    ep0 := hq.ep0
    ents := fun y hy => by
      have hy : y ∈ q.st.log ++ [x] := hy
      rcases List.mem_append.1 hy with h | h
      · exact hq.ents y h
      · rw [List.mem_singleton.1 h]; exact hxe
    mono := fun j k y z hjk hy hz => by
      have hy : (q.st.log ++ [x])[j]? = some y := hy
      have hz : (q.st.log ++ [x])[k]? = some z := hz
      have hk := lt_len hz
      simp at hk
      rw [hall k (by omega)] at hz
      rw [hall j (by omega)] at hy
      exact hg.plmono _ j k y z hjk hy hz
    good := fun k y hy => by
      have hy : (q.st.log ++ [x])[k]? = some y := hy
      have hk := lt_len hy
      simp at hk
      have hy2 := hy
      rw [hall k (by omega)] at hy2
      exact (hall.le (by omega)).trans (hg.plgood _ k y hy2)
    cdep := hq.cdep
    vote := hq.vote
    fut := hq.fut
    role := hq.role
    cand := fun h => by have h : q.role = 1 := h; omega
    prim := fun h => by have h : q.role = 2 := h; omega
    acep := hq.acep
    keep := fun e m hm => by
      have hle := hg.acok i e
      rcases hq.keep e m hm with k1 | ⟨e2, k1, k2, k3⟩
      · left
        have := k1.len (by omega)
        intro k hk
        show (q.st.log ++ [x])[k]? = _
        rw [hca k (by omega)]
        exact k1 k hk
      · exact Or.inr ⟨e2, k1, k2, k3⟩
    commit := ⟨by show q.commit ≤ (q.st.log ++ [x]).length; have := hq.commit.1; simp; omega, hq.commit.2.agree (fun k hk => by
      have := hq.commit.1
      show (q.st.log ++ [x])[k]? = _
      exact hca k (by omega))⟩ }
/-- A standby learns what is committed. -/
theorem NodeInv.learn (hq : NodeInv g N i q) {c : Nat} (hr : q.role = 0) (hc : c ≤ q.st.log.length) (hcm : Comm g N q.st.ep q.st.log c) : NodeInv g N i { q with commit := c } where
  ids := hq.ids
  ep0 := hq.ep0
  ents := hq.ents
  mono := hq.mono
  good := hq.good
  cdep := hq.cdep
  vote := hq.vote
  fut := hq.fut
  role := hq.role
  cand := fun h => by have h : q.role = 1 := h; omega
  prim := fun h => by have h : q.role = 2 := h; omega
  acep := hq.acep
  keep := hq.keep
  commit := ⟨hc, hcm⟩
/-- A vote has come. -/
theorem NodeInv.granted (hq : NodeInv g N i q) {v : Nat} (hv : v < N) (hvt : g.vt v q.st.ep = some i) (hr : q.role = 1) : NodeInv g N i { q with granted := some (addV (q.granted.getD []) (v : Int)) } where
  ids := hq.ids
  ep0 := hq.ep0
  ents := hq.ents
  mono := hq.mono
  good := hq.good
  cdep := hq.cdep
  vote := hq.vote
  fut := hq.fut
  role := hq.role
  cand := fun h => by
    obtain ⟨h2, h3, h4, h5, gs, h6, h7, h8⟩ := hq.cand h
    refine ⟨h2, h3, h4, h5, addV gs (v : Int), by rw [h6]; rfl, ?_, ?_⟩
    · unfold addV
      split
      · exact h7
      · next hn => exact List.nodup_append.2 ⟨h7, by simp, fun a ha b hb e => by rw [List.mem_singleton.1 hb] at e; exact hn (e ▸ ha)⟩
    · intro z hz
      unfold addV at hz
      split at hz
      · exact h8 z hz
      · rcases List.mem_append.1 hz with hz | hz
        · exact h8 z hz
        · exact ⟨v, hv, List.mem_singleton.1 hz, hvt⟩
  prim := fun h => by have h : q.role = 2 := h; omega
  acep := hq.acep
  keep := hq.keep
  commit := hq.commit
/-- The primary's numbers. -/
theorem NodeInv.nums (hq : NodeInv g N i q) {has acked : List Int} (hr : q.role = 2) (h1 : has.length = N) (h2 : acked.length = N)
    (h3 : ∀ j a, acked[j]? = some a → 0 ≤ a ∧ a ≤ (q.st.log.length : Int) ∧ (j ≠ i → a ≤ (g.ac j q.st.ep : Int))) (h4 : ∀ a ∈ has, 0 ≤ a ∧ a ≤ (q.st.log.length : Int)) : NodeInv g N i { q with has := has, acked := acked } where
  ids := hq.ids
  ep0 := hq.ep0
  ents := hq.ents
  mono := hq.mono
  good := hq.good
  cdep := hq.cdep
  vote := hq.vote
  fut := hq.fut
  role := hq.role
  cand := fun h => by have h : q.role = 1 := h; omega
  prim := fun h => by
    obtain ⟨k1, k2, k3, k4, _⟩ := hq.prim h
    exact ⟨k1, k2, k3, k4, h1, h2, h3, h4⟩
  acep := hq.acep
  keep := hq.keep
  commit := hq.commit
/-- The primary commits. -/
theorem NodeInv.commits (hq : NodeInv g N i q) {c : Nat} (hr : q.role = 2) (hc : c ≤ q.st.log.length) (hcm : Comm g N q.st.ep q.st.log c) : NodeInv g N i { q with commit := c } where
  ids := hq.ids
  ep0 := hq.ep0
  ents := hq.ents
  mono := hq.mono
  good := hq.good
  cdep := hq.cdep
  vote := hq.vote
  fut := hq.fut
  role := hq.role
  cand := fun h => by have h : q.role = 1 := h; omega
  prim := hq.prim
  acep := hq.acep
  keep := hq.keep
  commit := ⟨hc, hcm⟩
end
end Go.Proofs.Ytlgoenimjmiapaa

/-! The protocol, plain: what a node does. -/
namespace Go.Proofs.Ytlgoenimjmiapaa

theorem sortI_perm (l : List Int) : (sortI l).Perm l := List.mergeSort_perm l _
theorem sortI_le (l : List Int) : ∀ (i j : Nat) (hi : i < (sortI l).length) (hj : j < (sortI l).length), i ≤ j → (sortI l)[i] ≤ (sortI l)[j] := by
  intro i j hi hj hij
  have h := List.pairwise_mergeSort (le := fun (x y : Int) => decide (x ≤ y)) (by simp; omega) (by simp; omega) l
  by_cases h2 : i = j
  · subst h2; exact Int.le_refl _
  · have := List.pairwise_iff_getElem.1 h i j hi hj (by omega)
    exact of_decide_eq_true this
/-- More than half are at or above the middle. -/
theorem mid_count (l : List Int) (n : Nat) (hn : l.length = n) (h1 : n % 2 = 1) : n < 2 * ((List.range n).filter (fun j => decide ((sortI l).getD (n / 2) 0 ≤ l.getD j 0))).length := by
  have hlen : (sortI l).length = n := by rw [(sortI_perm l).length_eq, hn]
  generalize hm : (sortI l).getD (n / 2) 0 = m
  have hm2 : n / 2 < (sortI l).length := by omega
  have hmv : (sortI l)[n / 2] = m := by rw [← hm, List.getD_eq_getElem?_getD, List.getElem?_eq_getElem hm2]; rfl
  have e1 : (List.range n).map (fun j => l.getD j 0) = l := by
    apply List.ext_getElem
    · simp [hn]
    · intro i h2 h3
      simp [List.getD_eq_getElem?_getD, List.getElem?_eq_getElem h3]
  have e2 : ((List.range n).filter (fun j => decide (m ≤ l.getD j 0))).length = l.countP (fun x => decide (m ≤ x)) := by
    rw [← List.countP_eq_length_filter]
    conv => rhs; rw [← e1]
    rw [List.countP_map]
    rfl
  rw [e2, ← (sortI_perm l).countP_eq]
  have e3 : (sortI l).countP (fun x => decide (m ≤ x)) = ((sortI l).take (n / 2)).countP (fun x => decide (m ≤ x)) + ((sortI l).drop (n / 2)).countP (fun x => decide (m ≤ x)) := by
    rw [← List.countP_append, List.take_append_drop]
  have e4 : ((sortI l).drop (n / 2)).countP (fun x => decide (m ≤ x)) = ((sortI l).drop (n / 2)).length := by
    rw [List.countP_eq_length]
    intro a ha
    obtain ⟨k, hk, rfl⟩ := List.mem_iff_getElem.1 ha
    rw [List.getElem_drop, decide_eq_true_eq, ← hmv]
    rw [List.length_drop] at hk
    exact sortI_le l _ _ _ _ (by omega)
  rw [e3, e4, List.length_drop, hlen]
  omega

section
variable {g h : Gh} {N i : Nat} {X : Nat → ND} {S S' : Msg → Prop} {q : ND}
theorem last_lastAt (s : St) (n : Nat) : s.last n = lastAt s.log n := rfl
theorem lastAt_own {l : List Ent} {n : Nat} {e : Int} (hn : 0 < n) (he : 1 ≤ e) (h : lastAt l n = e) : ∃ x, l[n - 1]? = some x ∧ x.ep = e := by
  unfold lastAt at h
  rw [if_neg (by omega)] at h
  cases hx : l[n - 1]? with
  | none => rw [hx] at h; simp at h; omega
  | some x => rw [hx] at h; simp at h; exact ⟨x, rfl, h⟩
theorem getD_is {l : List Int} {j : Nat} (h : j < l.length) : l[j]? = some (l.getD j 0) := by
  rw [List.getD_eq_getElem?_getD, List.getElem?_eq_getElem h]; rfl
theorem NodeInv.rise (hg : GhInv g N) (hq : NodeInv g N i q) (hi : i < N) (hN : N % 2 = 1) (hr : q.role = 2) : NodeInv g N i q.risen := by
  unfold ND.risen
  split
  · next hc =>
    obtain ⟨k1, k2, k3, _, _, k6, k7, _⟩ := hq.prim hr
    obtain ⟨hid, hn⟩ := hq.ids
    have hE : 1 ≤ q.st.ep := (hg.cd0 _ _ (hg.lead _ _ k1).1).2
    have hmid : q.mid = (sortI (q.acked.set i (q.st.log.length : Int))).getD (N / 2) 0 := by unfold ND.mid; rw [hid, hn]
    generalize hl : q.acked.set i (q.st.log.length : Int) = l at hmid
    have hll : l.length = N := by rw [← hl, List.length_set, k6]
    have hcnt := mid_count l N hll hN
    rw [← hmid] at hcnt
    have hmem : q.mid ∈ l := by
      rw [hmid]
      have h1 : N / 2 < (sortI l).length := by rw [(sortI_perm l).length_eq]; omega
      rw [List.getD_eq_getElem?_getD, List.getElem?_eq_getElem h1]
      exact (sortI_perm l).mem_iff.1 (List.getElem_mem h1)
    have hat : ∀ j a, l[j]? = some a → 0 ≤ a ∧ a ≤ (q.st.log.length : Int) ∧ a ≤ (g.ac j q.st.ep : Int) := by
      intro j a hj
      rw [← hl, List.getElem?_set] at hj
      split at hj
      · next he =>
        subst he
        split at hj
        · injection hj with hj; subst hj; rw [k3]; omega
        · cases hj
      · next he =>
        obtain ⟨p1, p2, p3⟩ := k7 j a hj
        exact ⟨p1, p2, p3 (fun e => he e.symm)⟩
    obtain ⟨j0, hj0⟩ := List.mem_iff_getElem?.1 hmem
    have hb := hat j0 _ hj0
    have hm1 : 0 < q.mid.toNat := by omega
    have hlast : lastAt q.st.log q.mid.toNat = q.st.ep := hc.2
    obtain ⟨x, hx, hxe⟩ := lastAt_own hm1 hE hlast
    refine NodeInv.commits hq hr (by omega) (Or.inr ⟨q.st.ep, q.mid.toNat, Int.le_refl _, ⟨⟨hm1, x, by rw [k2]; exact hx, hxe⟩, _, ⟨(List.nodup_range).filter _, fun v hv => List.mem_range.1 (List.mem_filter.1 hv).1, hcnt⟩, fun v hv => ?_⟩, Nat.le_refl _, by rw [k2]; exact Agree.refl _ _⟩)
    obtain ⟨hv1, hv2⟩ := List.mem_filter.1 hv
    have hv1 := List.mem_range.1 hv1
    rw [decide_eq_true_eq] at hv2
    have := hat v _ (getD_is (by omega))
    omega
  · exact hq
end

/-- What is small. -/
structure NB (T : Nat) (q : ND) : Prop where
  ep : q.st.ep ≤ (T : Int)
  log : q.st.log.length ≤ T
  data : ∀ x ∈ q.st.log, x.data.length ≤ 2
structure MB (T : Nat) (m : Msg) : Prop where
  kind : 1 ≤ m.kind ∧ m.kind ≤ 5
  ep : 0 ≤ m.ep ∧ m.ep ≤ (T : Int)
  at_ : 0 ≤ m.at_ ∧ m.at_ + (m.log.length : Int) ≤ (T : Int)
  last : 0 ≤ m.last ∧ m.last ≤ (T : Int)
  commit : 0 ≤ m.commit ∧ m.commit ≤ (T : Int)
  log : m.kind = 3 ∨ m.log = []
  ents : ∀ x ∈ m.log, (0 ≤ x.ep ∧ x.ep ≤ (T : Int)) ∧ x.data.length ≤ 2
theorem NB.up {T T' : Nat} {q : ND} (h : NB T q) (ht : T ≤ T') : NB T' q := ⟨by have := h.ep; omega, by have := h.log; omega, h.data⟩
theorem MB.up {T T' : Nat} {m : Msg} (h : MB T m) (ht : T ≤ T') : MB T' m :=
  ⟨h.kind, by have := h.ep; omega, by have := h.at_; omega, by have := h.last; omega, by have := h.commit; omega, h.log, fun x hx => by have := h.ents x hx; exact ⟨by omega, this.2⟩⟩

/-- What is remembered. -/
structure Mem where
  D : Gh → Prop
  up : ∀ {i : Nat} {g h : Gh}, Le i g h → D g → D h
def Ok (D : Mem) (N T : Nat) (X : Nat → ND) (S : Msg → Prop) : Prop := (∃ g, Inv N g X S ∧ D.D g) ∧ (∀ i, i < N → NB T (X i)) ∧ ∀ m, S m → MB T m

def foldFrom : St → List Nt → Option St
  | s, [] => some s
  | s, t :: r => match s.note t with
    | none => none
    | some s' => foldFrom s' r
theorem foldFrom_app {s s' : St} {l r : List Nt} (h : foldFrom s l = some s') : foldFrom s (l ++ r) = foldFrom s' r := by
  induction l generalizing s with
  | nil => injection h with h; subst h; rfl
  | cons t l ih =>
    show (match s.note t with | none => none | some s' => foldFrom s' (l ++ r)) = _
    have h : (match s.note t with | none => none | some s' => foldFrom s' l) = some s' := h
    cases hn : s.note t with
    | none => rw [hn] at h; cases h
    | some s1 => rw [hn] at h; exact ih h
theorem foldFrom_one {s s' : St} {t : Nt} (h : s.note t = some s') : foldFrom s [t] = some s' := by
  show (match s.note t with | none => none | some s' => foldFrom s' []) = _
  rw [h]; rfl

/-- A node on its way: c. -/
structure Run (D : Mem) (N T : Nat) (X : Nat → ND) (S : Msg → Prop) (i : Nat) (c : NS) : Prop where
  ok : Ok D N T (upd X i c.q) (fun m => S m ∨ m ∈ c.ms)
  fold : foldFrom (X i).st c.ns = some c.q.st
  pre : ∀ k, k ≤ c.ns.length → ∃ s, foldFrom (X i).st (c.ns.take k) = some s ∧ Ok D N T (upd X i (newND s i N)) S

section
variable {D : Mem} {N T i : Nat} {X : Nat → ND} {S S' : Msg → Prop} {c c' : NS} {q : ND}
theorem Ok.less (h : Ok D N T X S) (hS : ∀ m, S' m → S m) : Ok D N T X S' := by
  obtain ⟨⟨g, h1, hd⟩, h2, h3⟩ := h
  exact ⟨⟨g, h1.less hS, hd⟩, h2, fun m hm => h3 m (hS m hm)⟩
theorem Ok.up {T' : Nat} (h : Ok D N T X S) (hT : T ≤ T') : Ok D N T' X S := ⟨h.1, fun i hi => (h.2.1 i hi).up hT, fun m hm => (h.2.2 m hm).up hT⟩
theorem Ok.crash (h : Ok D N T X S) (hi : i < N) : Ok D N T (upd X i (newND (X i).st i N)) S := by
  obtain ⟨⟨g, h1, hd⟩, h2, h3⟩ := h
  refine ⟨⟨g, h1.step (Le.refl i g) h1.1 (h1.2.1 i hi).crash (fun m hm => Or.inl hm), hd⟩, fun j hj => ?_, h3⟩
  by_cases hji : j = i
  · subst hji; rw [upd_self]; exact ⟨(h2 j hj).ep, (h2 j hj).log, (h2 j hj).data⟩
  · rw [upd_ne _ _ _ hji]; exact h2 j hj
theorem Run.start (h : Ok D N T X S) (hi : i < N) : Run D N T X S i ⟨X i, [], []⟩ := by
  refine ⟨by rw [upd_same]; exact h.less (fun m hm => hm.elim id (fun h => by cases h)), rfl, fun k hk => ⟨(X i).st, by rw [show k = 0 from Nat.le_zero.1 hk]; rfl, h.crash hi⟩⟩
theorem Run.quiet (h : Run D N T X S i c) (hns : c'.ns = c.ns) (hst : c'.q.st = c.q.st) (hok : Ok D N T (upd X i c.q) (fun m => S m ∨ m ∈ c.ms) → Ok D N T (upd X i c'.q) (fun m => S m ∨ m ∈ c'.ms)) : Run D N T X S i c' :=
  ⟨hok h.ok, by rw [hns, hst]; exact h.fold, by rw [hns]; exact h.pre⟩
theorem Run.noted (h : Run D N T X S i c) (hi : i < N) {t : Nt} (hns : c'.ns = c.ns ++ [t]) (hn : c.q.st.note t = some c'.q.st) (hok : Ok D N T (upd X i c.q) (fun m => S m ∨ m ∈ c.ms) → Ok D N T (upd X i c'.q) (fun m => S m ∨ m ∈ c'.ms)) : Run D N T X S i c' := by
  have hk := hok h.ok
  have hf : foldFrom (X i).st c'.ns = some c'.q.st := by rw [hns, foldFrom_app h.fold]; exact foldFrom_one hn
  refine ⟨hk, hf, fun k hk2 => ?_⟩
  by_cases hle : k ≤ c.ns.length
  · rw [hns, List.take_append_of_le_length hle]; exact h.pre k hle
  · refine ⟨c'.q.st, ?_, ?_⟩
    · rw [List.take_of_length_le (by rw [hns] at hk2 ⊢; simp at hk2 ⊢; omega)]; exact hf
    · have := (hk.less (S' := S) (fun m hm => Or.inl hm)).crash hi
      rw [upd_self, upd_upd] at this
      exact this

/-- A step of the invariant with a node's. -/
theorem Ok.step (h : Ok D N T (upd X i q) S) (hi : i < N) {q' : ND} (hn : ∀ g, Inv N g (upd X i q) S → NodeInv g N i q → NB T q → ∃ h', Le i g h' ∧ GhInv h' N ∧ NodeInv h' N i q' ∧ NB T q' ∧ ∀ m, S' m → S m ∨ MsgInv h' N m ∧ MB T m) : Ok D N T (upd X i q') S' := by
  obtain ⟨⟨g, h1, hd⟩, h2, h3⟩ := h
  have hq := h1.2.1 i hi
  rw [upd_self] at hq
  have hbi := h2 i hi
  rw [upd_self] at hbi
  obtain ⟨h', k1, k2, k3, k4, k5⟩ := hn g h1 hq hbi
  have := h1.step k1 k2 k3 (fun m hm => (k5 m hm).imp id And.left)
  rw [upd_upd] at this
  refine ⟨⟨h', this, D.up k1 hd⟩, fun j hj => ?_, fun m hm => (k5 m hm).elim (h3 m) And.right⟩
  by_cases hji : j = i
  · subst hji; rw [upd_self]; exact k4
  · have := h2 j hj
    rw [upd_ne _ _ _ hji] at this ⊢
    exact this
/-- A step that leaves the ghosts and sends nothing. -/
theorem Ok.local (h : Ok D N T (upd X i q) S) (hi : i < N) {q' : ND} (hn : ∀ g, Inv N g (upd X i q) S → NodeInv g N i q → NodeInv g N i q') (hb : NB T q → NB T q') : Ok D N T (upd X i q') S :=
  h.step hi (fun g hg hq hb' => ⟨g, Le.refl i g, hg.1, hn g hg hq, hb hb', fun m hm => Or.inl hm⟩)
/-- Messages that may be sent. -/
theorem Ok.sends (h : Ok D N T (upd X i q) S) (hi : i < N) (hn : ∀ g, Inv N g (upd X i q) S → NodeInv g N i q → NB T q → ∀ m, S' m → S m ∨ MsgInv g N m ∧ MB T m) : Ok D N T (upd X i q) S' :=
  h.step hi (fun g hg hq hb' => ⟨g, Le.refl i g, hg.1, hq, hb', hn g hg hq hb'⟩)
end

section
variable {D : Mem} {g : Gh} {N T i : Nat} {X : Nat → ND} {S S' : Msg → Prop} {c c' : NS} {q : ND}

theorem NodeInv.last_bound (hq : NodeInv g N i q) (hb : NB T q) (n : Nat) : 0 ≤ lastAt q.st.log n ∧ lastAt q.st.log n ≤ (T : Int) := by
  have := hb.ep
  have := hq.ep0
  unfold lastAt
  by_cases h : n = 0
  · rw [if_pos h]; omega
  · rw [if_neg h]
    cases hx : q.st.log[n - 1]? with
    | none => simp; 
    | some x =>
      have := hq.ents x (List.mem_of_getElem? hx)
      simp
      omega
theorem NodeInv.ship_msg (hg : GhInv g N) (hq : NodeInv g N i q) (hb : NB T q) (hi : i < N) (hr : q.role = 2) {j n : Nat} (hj : j < N) (hji : j ≠ i) (hn : n ≤ q.st.log.length) : MsgInv g N (shipMsg q j n) ∧ MB T (shipMsg q j n) := by
  obtain ⟨k1, k2, _⟩ := hq.prim hr
  obtain ⟨hid, hnn⟩ := hq.ids
  refine ⟨⟨⟨i, j, by show (q.id : Int) = _; rw [hid], rfl, hi, hj, fun e => hji e.symm⟩, fun h => (by cases h), fun h => (by cases h), fun _ => ⟨?_, n, q.commit, rfl, rfl, ?_, ?_, ?_, ?_, ?_⟩, fun h => (by cases h)⟩, ⟨by show (1 : Int) ≤ 3 ∧ (3 : Int) ≤ 5; omega, ⟨hq.ep0, hb.ep⟩, ?_, hq.last_bound hb n, ?_, Or.inl rfl, ?_⟩⟩
  · show g.ld q.st.ep = some (Int.toNat (q.id : Int)); rw [hid]; exact k1
  · show n ≤ (g.pl q.st.ep).length; rw [k2]; exact hn
  · intro k x hx
    show (g.pl q.st.ep)[n + k]? = some x
    rw [k2]
    have hx : (q.st.log.drop n)[k]? = some x := hx
    rw [List.getElem?_drop] at hx
    exact hx
  · show q.st.last n = lastAt (g.pl q.st.ep) n; rw [k2]; rfl
  · show q.commit ≤ (g.pl q.st.ep).length; rw [k2]; exact hq.commit.1
  · show Comm g N q.st.ep (g.pl q.st.ep) q.commit; rw [k2]; exact hq.commit.2
  · show (0 : Int) ≤ (n : Int) ∧ (n : Int) + ((q.st.log.drop n).length : Int) ≤ T
    rw [List.length_drop]
    have := hb.log
    omega
  · show (0 : Int) ≤ (q.commit : Int) ∧ (q.commit : Int) ≤ T
    have := hb.log
    have := hq.commit.1
    omega
  · intro x hx
    have hx : x ∈ q.st.log := List.mem_of_mem_drop hx
    have h1 := hq.ents x hx
    have h2 := hb.ep
    exact ⟨by omega, hb.data x hx⟩
theorem NodeInv.ask_msg (hg : GhInv g N) (hq : NodeInv g N i q) (hb : NB T q) (hi : i < N) (hr : q.role = 1) {j : Nat} (hj : j < N) (hji : j ≠ i) : MsgInv g N (askMsg q j) ∧ MB T (askMsg q j) := by
  obtain ⟨k1, k2, _⟩ := hq.cand hr
  obtain ⟨hid, hnn⟩ := hq.ids
  refine ⟨⟨⟨i, j, by show (q.id : Int) = _; rw [hid], rfl, hi, hj, fun e => hji e.symm⟩, fun _ => ?_, fun h => (by cases h), fun h => (by cases h), fun h => (by cases h)⟩, ⟨by show (1 : Int) ≤ 1 ∧ (1 : Int) ≤ 5; omega, ⟨hq.ep0, hb.ep⟩, ?_, hq.last_bound hb _, ?_, Or.inr rfl, fun x hx => (by cases hx)⟩⟩
  · show g.cd q.st.ep (Int.toNat (q.id : Int)) ∧ (q.st.log.length : Int) = ((g.cl q.st.ep (Int.toNat (q.id : Int))).length : Int) ∧ q.st.last q.st.log.length = lastAt (g.cl q.st.ep (Int.toNat (q.id : Int))) (g.cl q.st.ep (Int.toNat (q.id : Int))).length
    rw [hid, Int.toNat_natCast, k2]
    exact ⟨k1, rfl, rfl⟩
  · show (0 : Int) ≤ (q.st.log.length : Int) ∧ (q.st.log.length : Int) + ((0 : Nat) : Int) ≤ T
    have := hb.log
    omega
  · show (0 : Int) ≤ 0 ∧ (0 : Int) ≤ T; omega
/-- A message without a log, of a kind that says nothing. -/
theorem NodeInv.small_msg (hq : NodeInv g N i q) (hb : NB T q) (hi : i < N) {k a : Int} {j : Nat} (hj : j < N) (hji : j ≠ i) (hk : k = 2 ∨ k = 4 ∨ k = 5) (ha : 0 ≤ a ∧ a ≤ (T : Int))
    (h2 : k = 2 → g.vt i q.st.ep = some j) (h4 : k = 4 → g.ld q.st.ep = some j ∧ ∃ a' : Nat, a = (a' : Int) ∧ a' ≤ g.ac i q.st.ep) : MsgInv g N ⟨k, (q.id : Int), (j : Int), q.st.ep, a, 0, 0, []⟩ ∧ MB T ⟨k, (q.id : Int), (j : Int), q.st.ep, a, 0, 0, []⟩ := by
  obtain ⟨hid, hnn⟩ := hq.ids
  refine ⟨⟨⟨i, j, by show (q.id : Int) = _; rw [hid], rfl, hi, hj, fun e => hji e.symm⟩, fun h => by have h : k = 1 := h; omega, fun h => ?_, fun h => by have h : k = 3 := h; omega, fun h => ?_⟩, ⟨by clear h2 h4; show (1 : Int) ≤ k ∧ k ≤ 5; omega, ⟨hq.ep0, hb.ep⟩, ?_, ?_, ?_, Or.inr rfl, fun x hx => (by cases hx)⟩⟩
  · show g.vt (Int.toNat (q.id : Int)) q.st.ep = some (Int.toNat (j : Int)); rw [hid]; exact h2 h
  · show g.ld q.st.ep = some (Int.toNat (j : Int)) ∧ ∃ a' : Nat, a = (a' : Int) ∧ a' ≤ g.ac (Int.toNat (q.id : Int)) q.st.ep; rw [hid]; exact h4 h
  · show (0 : Int) ≤ a ∧ a + ((0 : Nat) : Int) ≤ T; omega
  · show (0 : Int) ≤ 0 ∧ (0 : Int) ≤ T; omega
  · show (0 : Int) ≤ 0 ∧ (0 : Int) ≤ T; omega

theorem mem_ships {q : ND} {n : Nat} {m : Msg} (h : m ∈ q.ships n) : ∃ j, j < n ∧ j ≠ q.id ∧ m = shipMsg q j (q.has.getD j 0).toNat := by
  unfold ND.ships at h
  obtain ⟨j, hj, rfl⟩ := List.mem_map.1 h
  obtain ⟨h1, h2⟩ := List.mem_filter.1 hj
  exact ⟨j, List.mem_range.1 h1, by simpa using h2, rfl⟩
theorem mem_asks {q : ND} {gs : List Int} {n : Nat} {m : Msg} (h : m ∈ q.asks gs n) : ∃ j, j < n ∧ j ≠ q.id ∧ m = askMsg q j := by
  unfold ND.asks at h
  obtain ⟨j, hj, rfl⟩ := List.mem_map.1 h
  obtain ⟨h1, h2⟩ := List.mem_filter.1 hj
  rw [decide_eq_true_eq] at h2
  exact ⟨j, List.mem_range.1 h1, h2.1, rfl⟩
theorem NodeInv.has_le (hq : NodeInv g N i q) (hr : q.role = 2) (j : Nat) : (q.has.getD j 0).toNat ≤ q.st.log.length := by
  obtain ⟨_, _, _, _, k5, _, _, k8⟩ := hq.prim hr
  by_cases hj : j < q.has.length
  · have := k8 _ (List.mem_of_getElem? (getD_is hj))
    omega
  · rw [List.getD_eq_getElem?_getD, List.getElem?_eq_none (by omega)]
    simp
theorem Run.ships (h : Run D N T X S i c) (hi : i < N) (hr : c.q.role = 2) : Run D N T X S i c.ships := by
  refine h.quiet rfl rfl (fun ho => ho.sends hi (fun g hg hq hb m hm => ?_))
  rcases hm with hm | hm
  · exact Or.inl (Or.inl hm)
  · have hm : m ∈ c.ms ++ c.q.ships c.q.n := hm
    rcases List.mem_append.1 hm with hm | hm
    · exact Or.inl (Or.inr hm)
    · obtain ⟨j, h1, h2, rfl⟩ := mem_ships hm
      obtain ⟨hid, hn⟩ := hq.ids
      exact Or.inr (hq.ship_msg hg.1 hb hi hr (by omega) (by omega) (hq.has_le hr j))
theorem Run.ship (h : Run D N T X S i c) (hi : i < N) (hr : c.q.role = 2) {j : Nat} (hj : j < N) (hji : j ≠ i) : Run D N T X S i (c.ship j) := by
  refine h.quiet rfl rfl (fun ho => ho.sends hi (fun g hg hq hb m hm => ?_))
  rcases hm with hm | hm
  · exact Or.inl (Or.inl hm)
  · have hm : m ∈ c.ms ++ [shipMsg c.q j (c.q.has.getD j 0).toNat] := hm
    rcases List.mem_append.1 hm with hm | hm
    · exact Or.inl (Or.inr hm)
    · rw [List.mem_singleton.1 hm]
      exact Or.inr (hq.ship_msg hg.1 hb hi hr hj hji (hq.has_le hr j))
theorem Run.asks (h : Run D N T X S i c) (hi : i < N) (hr : c.q.role = 1) : Run D N T X S i c.asks := by
  refine h.quiet rfl rfl (fun ho => ho.sends hi (fun g hg hq hb m hm => ?_))
  rcases hm with hm | hm
  · exact Or.inl (Or.inl hm)
  · have hm : m ∈ c.ms ++ c.q.asks (c.q.granted.getD []) c.q.n := hm
    rcases List.mem_append.1 hm with hm | hm
    · exact Or.inl (Or.inr hm)
    · obtain ⟨j, h1, h2, rfl⟩ := mem_asks hm
      obtain ⟨hid, hn⟩ := hq.ids
      exact Or.inr (hq.ask_msg hg.1 hb hi hr (by omega) (by omega))
theorem risen_log (q : ND) : q.risen.st = q.st ∧ q.risen.role = q.role := by unfold ND.risen; split <;> exact ⟨rfl, rfl⟩
theorem Run.rise (h : Run D N T X S i c) (hi : i < N) (hN : N % 2 = 1) (hr : c.q.role = 2) : Run D N T X S i c.rise := by
  refine h.quiet rfl (risen_log c.q).1 (fun ho => ho.local hi (fun g hg hq => hq.rise hg.1 hi hN hr) (fun hb => ⟨?_, ?_, ?_⟩))
  · show c.q.risen.st.ep ≤ _; rw [(risen_log c.q).1]; exact hb.ep
  · show c.q.risen.st.log.length ≤ _; rw [(risen_log c.q).1]; exact hb.log
  · show ∀ x ∈ c.q.risen.st.log, _; rw [(risen_log c.q).1]; exact hb.data

/-- A note of an entry of one's own epoch. -/
theorem note_put {s : St} {d : List UInt8} (h1 : 0 ≤ s.ep) (h2 : s.ep ≤ 1099511627776) (h3 : d.length ≤ 65536) (hl : s.last s.log.length ≤ s.ep) : s.note ⟨3, 0, 0, ⟨s.ep, d⟩⟩ = some { s with log := s.log ++ [⟨s.ep, d⟩] } := by
  have hr : Nt.right ⟨3, 0, 0, ⟨s.ep, d⟩⟩ = true := by
    unfold Nt.right Ent.right inB
    simp
    omega
  unfold St.note
  rw [hr]
  simp
  omega
theorem NodeInv.last_le (hq : NodeInv g N i q) : q.st.last q.st.log.length ≤ q.st.ep := by
  show lastAt _ _ ≤ _
  have := hq.ep0
  unfold lastAt
  by_cases h : q.st.log.length = 0
  · rw [if_pos h]; omega
  · rw [if_neg h]
    cases hx : q.st.log[q.st.log.length - 1]? with
    | none => simp; omega
    | some x =>
      have := hq.ents x (List.mem_of_getElem? hx)
      simp
      omega
theorem NB.put (hb : NB T q) {x : Ent} (hl : q.st.log.length < T) (hd : x.data.length ≤ 2) {q' : ND} (h1 : q'.st.ep = q.st.ep) (h2 : q'.st.log = q.st.log ++ [x]) : NB T q' := by
  refine ⟨by rw [h1]; exact hb.ep, by rw [h2]; simp; omega, ?_⟩
  rw [h2]
  intro y hy
  rcases List.mem_append.1 hy with hy | hy
  · exact hb.data y hy
  · rw [List.mem_singleton.1 hy]; exact hd
/-- A node's facts, when a run is at it. -/
theorem Run.facts (h : Run D N T X S i c) (hi : i < N) : ∃ g, Inv N g (upd X i c.q) (fun m => S m ∨ m ∈ c.ms) ∧ NodeInv g N i c.q ∧ NB T c.q := by
  obtain ⟨⟨g, h1, _⟩, h2, h3⟩ := h.ok
  have hq := h1.2.1 i hi
  have hb := h2 i hi
  rw [upd_self] at hq hb
  exact ⟨g, h1, hq, hb⟩
/-- An entry of the primary's. -/
theorem Run.put (h : Run D N T X S i c) (hi : i < N) (hr : c.q.role = 2) (hT : T ≤ 1000000) (hl : c.q.st.log.length < T) {d : List UInt8} (hd : d.length ≤ 2) : Run D N T X S i (c.note ⟨3, 0, 0, ⟨c.q.st.ep, d⟩⟩) ∧ (c.note ⟨3, 0, 0, ⟨c.q.st.ep, d⟩⟩).q.role = 2 := by
  obtain ⟨g0, h1, h2, h3⟩ := h.facts hi
  have hn := note_put (s := c.q.st) (d := d) h2.ep0 (by have := h3.ep; omega) (by omega) h2.last_le
  have hst : (c.note ⟨3, 0, 0, ⟨c.q.st.ep, d⟩⟩).q = { c.q with st := { c.q.st with log := c.q.st.log ++ [⟨c.q.st.ep, d⟩] } } := by
    unfold NS.note
    simp only
    rw [hn]
    rfl
  refine ⟨h.noted hi (t := ⟨3, 0, 0, ⟨c.q.st.ep, d⟩⟩) rfl (by rw [hst]; exact hn) (fun ho => ?_), by rw [hst]; exact hr⟩
  rw [hst]
  refine ho.step hi (fun g hg hq hb => ?_)
  obtain ⟨k1, k2, k3, ⟨gs, k4⟩, k5, k6, k7, k8⟩ := hq.prim hr
  have hx : Ext (g.pl c.q.st.ep) (c.q.st.log ++ [⟨c.q.st.ep, d⟩]) := by rw [k2]; exact Ext.app _ _
  have hac : g.ac i c.q.st.ep ≤ (c.q.st.log ++ [(⟨c.q.st.ep, d⟩ : Ent)]).length := by rw [k3]; simp
  have hl' : Le i g (g.grow i c.q.st.ep (c.q.st.log ++ [⟨c.q.st.ep, d⟩]) (g.qu c.q.st.ep)) := Le.grow hx (Or.inr k1) hac
  obtain ⟨j1, j2, j3, r, j4, j5, j6⟩ := hg.1.lead _ _ k1
  have hE : 1 ≤ c.q.st.ep := (hg.1.cd0 _ _ j1).2
  refine ⟨_, hl', hg.1.grow hx (Or.inr k1) hac hq.fut ?_ (hq.mono.app (fun x hx => (hq.ents x hx).2)) (good_grow hq hl') j1 j2 j3 ⟨r ++ [⟨c.q.st.ep, d⟩], by rw [← List.append_assoc, ← j4, k2], by simp, ?_⟩, hq.grow hg.1 hl' hE c.q.has c.q.acked gs c.q.role hx hr k4 k5 k6 k7 k8, hb.put hl hd rfl rfl, fun m hm => Or.inl hm⟩
  · intro x hx
    rcases List.mem_append.1 hx with hx | hx
    · exact hq.ents x hx
    · rw [List.mem_singleton.1 hx]; exact ⟨hE, Int.le_refl _⟩
  · intro x hx
    rcases List.mem_append.1 hx with hx | hx
    · exact j6 x hx
    · rw [List.mem_singleton.1 hx]
/-- It leads. -/
theorem Run.lead (h : Run D N T X S i c) (hi : i < N) (hr : c.q.role = 1) (hT : T ≤ 1000000) (hl : c.q.st.log.length < T) (hm : ¬ 2 * (c.q.granted.getD []).length ≤ c.q.n) : Run D N T X S i (c.lead.note ⟨3, 0, 0, ⟨c.q.st.ep, []⟩⟩) ∧ (c.lead.note ⟨3, 0, 0, ⟨c.q.st.ep, []⟩⟩).q.role = 2 := by
  obtain ⟨g0, h1, h2, h3⟩ := h.facts hi
  have hn := note_put (s := c.q.st) (d := []) h2.ep0 (by have := h3.ep; omega) (by simp) h2.last_le
  have hst : (c.lead.note ⟨3, 0, 0, ⟨c.q.st.ep, []⟩⟩).q = { c.q with st := { c.q.st with log := c.q.st.log ++ [⟨c.q.st.ep, []⟩] }, role := 2, has := List.replicate c.q.n (c.q.st.log.length : Int), acked := List.replicate c.q.n 0 } := by
    unfold NS.lead NS.note
    simp only
    rw [hn]
    rfl
  refine ⟨h.noted hi (t := ⟨3, 0, 0, ⟨c.q.st.ep, []⟩⟩) rfl (by rw [hst]; exact hn) (fun ho => ?_), by rw [hst]⟩
  rw [hst]
  refine ho.step hi (fun g hg hq hb => ?_)
  obtain ⟨k1, k2, k3, k4, gs, k5, k6, k7⟩ := hq.cand hr
  obtain ⟨hid, hnn⟩ := hq.ids
  rw [k5, hnn] at hm
  have hm : N < 2 * gs.length := by simpa using hm
  have hQ : Maj N (gs.map Int.toNat) := by
    refine ⟨?_, ?_, by rw [List.length_map]; exact hm⟩
    · unfold List.Nodup
      rw [List.pairwise_map]
      refine List.Pairwise.imp_of_mem ?_ k6
      intro a b ha hb hne he
      obtain ⟨va, _, rfl, _⟩ := k7 a ha
      obtain ⟨vb, _, rfl, _⟩ := k7 b hb
      rw [Int.toNat_natCast, Int.toNat_natCast] at he
      exact hne (by rw [he])
    · intro v hv
      obtain ⟨a, ha, rfl⟩ := List.mem_map.1 hv
      obtain ⟨va, h1, rfl, _⟩ := k7 a ha
      exact h1
  have hQv : ∀ v ∈ gs.map Int.toNat, g.vt v c.q.st.ep = some i := fun v hv => by
    obtain ⟨a, ha, rfl⟩ := List.mem_map.1 hv
    obtain ⟨va, _, rfl, h2⟩ := k7 a ha
    exact h2
  have hld : g.ld c.q.st.ep = none := by
    cases hx : g.ld c.q.st.ep with
    | none => rfl
    | some c0 =>
      exfalso
      obtain ⟨_, j2, j3, _⟩ := hg.1.lead _ _ hx
      obtain ⟨v, v1, v2⟩ := meet hQ j2
      have e1 := hQv v v1
      rw [(j3 v v2).1] at e1
      injection e1 with e1
      subst e1
      exact k3 hx
  have hx : Ext (g.pl c.q.st.ep) (c.q.st.log ++ [⟨c.q.st.ep, []⟩]) := by rw [hg.1.pl0 _ hld]; exact Ext.nil _
  have hac : g.ac i c.q.st.ep ≤ (c.q.st.log ++ [(⟨c.q.st.ep, []⟩ : Ent)]).length := by have := hg.1.acok i c.q.st.ep; rw [hg.1.pl0 _ hld] at this; simp at this; omega
  have hl' : Le i g (g.grow i c.q.st.ep (c.q.st.log ++ [⟨c.q.st.ep, []⟩]) (gs.map Int.toNat)) := Le.grow hx (Or.inl hld) hac
  have hE : 1 ≤ c.q.st.ep := (hg.1.cd0 _ _ k1).2
  refine ⟨_, hl', hg.1.grow hx (Or.inl hld) hac hq.fut ?_ (hq.mono.app (fun x hx => (hq.ents x hx).2)) (good_grow hq hl') k1 hQ (fun v hv => ⟨hQv v hv, hg.1.pre v _ _ hld (hQv v hv)⟩) ⟨[⟨c.q.st.ep, []⟩], by rw [k2], by simp, ?_⟩, hq.grow hg.1 hl' hE _ _ gs 2 hx rfl ⟨k5, k6, fun z hz => ?_⟩ (by rw [List.length_replicate, hnn]) (by rw [List.length_replicate, hnn]) ?_ ?_, hb.put hl (by show (0 : Nat) ≤ 2; omega) rfl rfl, fun m hm => Or.inl hm⟩
  · intro x hx
    rcases List.mem_append.1 hx with hx | hx
    · exact hq.ents x hx
    · rw [List.mem_singleton.1 hx]; exact ⟨hE, Int.le_refl _⟩
  · intro x hx
    rw [List.mem_singleton.1 hx]
  · obtain ⟨v, j1, j2, _⟩ := k7 z hz
    exact ⟨v, j1, j2⟩
  · intro j a hj
    rw [List.getElem?_replicate] at hj
    split at hj
    · injection hj with hj; subst hj; exact ⟨Int.le_refl _, by omega, fun _ => by omega⟩
    · cases hj
  · intro a ha
    rw [(List.mem_replicate.1 ha).2]
    omega
theorem Run.count (h : Run D N T X S i c) (hi : i < N) (hN : N % 2 = 1) (hr : c.q.role = 1) (hT : T ≤ 1000000) (hl : c.q.st.log.length < T) : Run D N T X S i c.count := by
  unfold NS.count
  split
  · exact h
  · next hc =>
    obtain ⟨h1, h2⟩ := h.lead hi hr hT hl (fun e => hc (Or.inl e))
    exact (h1.ships hi h2).rise hi hN h2
end

section
variable {D : Mem} {g : Gh} {N T i : Nat} {X : Nat → ND} {S S' : Msg → Prop} {c c' : NS} {q : ND} {m : Msg}

theorem NS.note_q {c : NS} {t : Nt} {s : St} (h : c.q.st.note t = some s) : (c.note t).q = { c.q with st := s } := by
  unfold NS.note
  simp only
  rw [h]
  rfl
theorem NB.ep' (hb : NB T q) {q' : ND} (h1 : q'.st.ep ≤ (T : Int)) (h2 : q'.st.log = q.st.log) : NB T q' := ⟨h1, by rw [h2]; exact hb.log, by rw [h2]; exact hb.data⟩
theorem Run.front (h : Ok D N T X S) (hi : i < N) (hT : T ≤ 1000000) (hm : MB T m) : Run D N T X S i ((X i).front m) := by
  have h0 := Run.start h hi
  unfold ND.front
  split
  · next hlt =>
    have := hm.ep
    have hn := note_vote (s := (X i).st) (t := ⟨1, m.ep, -1, ⟨0, []⟩⟩) rfl (vote_right m.ep (-1) (by omega) (by omega) (by omega) (by omega)) hlt
    have hq := NS.note_q (c := ⟨X i, [], []⟩) hn
    refine h0.noted hi (t := ⟨1, m.ep, -1, ⟨0, []⟩⟩) rfl ?_ (fun ho => ?_)
    · show (X i).st.note _ = some (NS.note ⟨X i, [], []⟩ _).q.st
      rw [hq]; exact hn
    · show Ok D N T (upd X i { (NS.note ⟨X i, [], []⟩ ⟨1, m.ep, -1, ⟨0, []⟩⟩).q with role := 0 }) _
      rw [hq]
      exact ho.local hi (fun g hg hq' => hq'.epoch hlt) (fun hb => hb.ep' hm.ep.2 rfl)
  · exact h0
theorem Run.up (h : Run D N T X S i c) {T' : Nat} (ht : T ≤ T') : Run D N T' X S i c := ⟨h.ok.up ht, h.fold, fun k hk => by obtain ⟨s, h1, h2⟩ := h.pre k hk; exact ⟨s, h1, h2.up ht⟩⟩

/-- Promote. -/
theorem run_promote (h : Ok D N T X S) (hi : i < N) (hT : T < 1000000) (hN : N % 2 = 1) (h7 : N ≤ 7) : ∃ c, (X i).promote = (c, 0) ∧ Run D N (T + 1) X S i c := by
  obtain ⟨⟨g0, h1, hd⟩, h2, h3⟩ := h
  have hq0 := h1.2.1 i hi
  have hb0 := h2 i hi
  have hep := hb0.ep
  have hep0 := hq0.ep0
  obtain ⟨hid, hnn⟩ := hq0.ids
  refine ⟨_, by unfold ND.promote; rw [if_neg (by omega)], ?_⟩
  have hn := note_vote (s := (X i).st) (t := ⟨1, (X i).st.ep + 1, ((X i).id : Int), ⟨0, []⟩⟩) rfl (vote_right ((X i).st.ep + 1) ((X i).id : Int) (by omega) (by omega) (by omega) (by omega)) (by show (X i).st.ep < (X i).st.ep + 1; omega)
  have hq := NS.note_q (c := ⟨X i, [], []⟩) hn
  have hcand : (NS.note ⟨X i, [], []⟩ ⟨1, (X i).st.ep + 1, ((X i).id : Int), ⟨0, []⟩⟩).cand.q = { X i with st := { (X i).st with ep := (X i).st.ep + 1, voted := (i : Int) }, role := 1, granted := some [(i : Int)] } := by
    unfold NS.cand
    simp only
    rw [hq]
    simp only
    rw [hid]
  have r1 : Run D N (T + 1) X S i (NS.note ⟨X i, [], []⟩ ⟨1, (X i).st.ep + 1, ((X i).id : Int), ⟨0, []⟩⟩).cand := by
    refine (Run.start (Ok.up ⟨⟨g0, h1, hd⟩, h2, h3⟩ (Nat.le_succ T)) hi).noted hi (t := ⟨1, (X i).st.ep + 1, ((X i).id : Int), ⟨0, []⟩⟩) rfl ?_ (fun ho => ?_)
    · rw [hcand]; show (X i).st.note _ = _; rw [hn, hid]
    · rw [hcand]
      refine ho.step hi (fun g hg hq' hb => ?_)
      have hc : ¬ g.cd ((X i).st.ep + 1) i := fun e => by have := hq'.cdep _ e; have : (X i).st.ep + 1 ≤ (X i).st.ep := this; omega
      have hv : g.vt i ((X i).st.ep + 1) = none := hq'.fut _ (by show (X i).st.ep < _; omega)
      exact ⟨_, Le.promote hc hv, hg.1.promote hq' hi, hq'.promote hg.1 hi, hb.ep' (by show (X i).st.ep + 1 ≤ ((T + 1 : Nat) : Int); omega) rfl, fun m hm => Or.inl hm⟩
  have hr : (NS.note ⟨X i, [], []⟩ ⟨1, (X i).st.ep + 1, ((X i).id : Int), ⟨0, []⟩⟩).cand.q.role = 1 := rfl
  refine (r1.asks hi hr).count hi hN hr (by omega) ?_
  show (NS.note ⟨X i, [], []⟩ ⟨1, (X i).st.ep + 1, ((X i).id : Int), ⟨0, []⟩⟩).cand.q.st.log.length < T + 1
  rw [hcand]
  have := hb0.log
  show (X i).st.log.length < T + 1
  omega
/-- Append. -/
theorem run_append (h : Ok D N T X S) (hi : i < N) (hT : T < 2048) (hN : N % 2 = 1) {d : List UInt8} (hd : d ≠ []) (hd2 : d.length ≤ 2) : ∃ c n k, (X i).append d = (c, n, k) ∧ Run D N (T + 1) X S i c ∧ (k = 0 ∨ k = 52 ∧ n = 0 ∧ (X i).role ≠ 2) := by
  have hb0 := h.2.1 i hi
  have hlog := hb0.log
  have r0 := Run.start (h.up (Nat.le_succ T)) hi
  unfold ND.append
  rw [if_neg (by intro e; rcases e with e | e; exact hd e; omega)]
  by_cases hr : (X i).role = 2
  · rw [if_neg (fun e => e hr), if_neg (by omega)]
    obtain ⟨r1, hr1⟩ := r0.put hi hr (by omega) (by show (X i).st.log.length < T + 1; omega) hd2
    exact ⟨_, _, _, rfl, (r1.ships hi hr1).rise hi hN hr1, Or.inl rfl⟩
  · rw [if_pos hr]
    exact ⟨_, _, _, rfl, r0, Or.inr ⟨rfl, rfl, hr⟩⟩
/-- Tick. -/
def ND.tick (q : ND) : NS := if q.role = 2 then NS.ships ⟨q, [], []⟩ else if q.role = 1 then NS.asks ⟨q, [], []⟩ else ⟨q, [], []⟩
theorem run_tick (h : Ok D N T X S) (hi : i < N) : Run D N T X S i (X i).tick := by
  have r0 := Run.start h hi
  unfold ND.tick
  split
  · next hr => exact r0.ships hi hr
  · split
    · next hr => exact r0.asks hi hr
    · exact r0

/-- A message without a log. -/
theorem Run.small (h : Run D N T X S i c) (hi : i < N) {k a : Int} {j : Nat} (hj : j < N) (hji : j ≠ i) (hk : k = 2 ∨ k = 4 ∨ k = 5) (ha : 0 ≤ a ∧ a ≤ (T : Int))
    (h2 : k = 2 → c.q.st.voted = (j : Int)) (h4 : k ≠ 4) : Run D N T X S i (c.sent ⟨k, 0, (j : Int), 0, a, 0, 0, []⟩) := by
  refine h.quiet rfl rfl (fun ho => ho.sends hi (fun g hg hq hb m hm => ?_))
  rcases hm with hm | hm
  · exact Or.inl (Or.inl hm)
  · have hm : m ∈ c.ms ++ [⟨k, (c.q.id : Int), (j : Int), c.q.st.ep, a, 0, 0, []⟩] := hm
    rcases List.mem_append.1 hm with hm | hm
    · exact Or.inl (Or.inr hm)
    · rw [List.mem_singleton.1 hm]
      refine Or.inr (hq.small_msg hb hi hj hji hk ha (fun hk2 => ?_) (fun hk4 => absurd hk4 h4))
      have hv := h2 hk2
      rcases hq.vote with ⟨e, _⟩ | ⟨c', e1, e2⟩
      · omega
      · rw [e2]; congr 1; omega

/-- A message that came. -/
structure Came (N T i : Nat) (S : Msg → Prop) (c : NS) (m : Msg) : Prop where
  s : S m
  too : m.to = (i : Int)
  ep : m.ep = c.q.st.ep
  mb : MB T m
theorem Came.ends (hc : Came N T i S c m) (hI : Inv N g X (fun m => S m ∨ m ∈ c.ms)) : ∃ f : Nat, m.frm = (f : Int) ∧ f < N ∧ f ≠ i := by
  obtain ⟨f, t, h1, h2, h3, h4, h5⟩ := (hI.2.2 m (Or.inl hc.s)).ends
  have := hc.too
  exact ⟨f, h1, h3, fun e => h5 (by omega)⟩

theorem run_asked (h : Run D N T X S i c) (hi : i < N) (h7 : N ≤ 7) (hT : T ≤ 1000000) (hc : Came N T i S c m) (hk : m.kind = 1) : Run D N T X S i (c.asked m) := by
  obtain ⟨g0, hI, hq0, hb0⟩ := h.facts hi
  obtain ⟨f, hf, hfN, hfi⟩ := hc.ends hI
  unfold NS.asked
  split
  · exact h
  · next hnw =>
    split
    · next hv =>
      have hep := hb0.ep
      have hn : c.q.st.note ⟨1, c.q.st.ep, m.frm, ⟨0, []⟩⟩ = some { c.q.st with ep := c.q.st.ep, voted := m.frm } := by
        unfold St.note
        rw [vote_right c.q.st.ep m.frm hq0.ep0 (by omega) (by omega) (by omega)]
        simp [hv]
      have hq1 := NS.note_q hn
      have r1 : Run D N T X S i (c.note ⟨1, c.q.st.ep, m.frm, ⟨0, []⟩⟩) := by
        refine h.noted hi (t := ⟨1, c.q.st.ep, m.frm, ⟨0, []⟩⟩) rfl (by rw [hq1]; exact hn) (fun ho => ?_)
        rw [hq1]
        refine ho.step hi (fun g hg hq hb => ?_)
        have hvt : g.vt i c.q.st.ep = none := by
          rcases hq.vote with ⟨_, e⟩ | ⟨c', e1, e2⟩
          · exact e
          · omega
        obtain ⟨k1, k2, k3⟩ := (hg.2.2 m (Or.inl hc.s)).ask hk
        rw [hc.ep, hf, Int.toNat_natCast] at k1 k2 k3
        have hnew : c.q.st.last c.q.st.log.length < m.last ∨ m.last = c.q.st.last c.q.st.log.length ∧ (c.q.st.log.length : Int) ≤ m.at_ := by
          have : c.q.newer m = true := by
            cases hx : c.q.newer m with
            | false => exact absurd hx hnw
            | true => rfl
          unfold ND.newer at this
          simpa using this
        have hn2 : lastAt c.q.st.log c.q.st.log.length < lastAt (g.cl c.q.st.ep f) (g.cl c.q.st.ep f).length ∨ lastAt (g.cl c.q.st.ep f) (g.cl c.q.st.ep f).length = lastAt c.q.st.log c.q.st.log.length ∧ c.q.st.log.length ≤ (g.cl c.q.st.ep f).length := by
          rcases hnew with e | ⟨e1, e2⟩
          · exact Or.inl (by rw [← k3]; exact e)
          · exact Or.inr ⟨by rw [← k3]; exact e1, by omega⟩
        have hgive := hq.give hg.1 (c := f) hvt hfi
        rw [← hf] at hgive
        exact ⟨_, Le.give hvt, hg.1.give hq hi k1 hvt hn2, hgive, hb.ep' hb.ep rfl, fun m hm => Or.inl hm⟩
      have := r1.small hi (k := 2) (a := 0) hfN hfi (Or.inl rfl) ⟨by omega, by omega⟩ (fun _ => by rw [hq1]; exact hf) (by omega)
      rw [← hf] at this
      exact this
    · split
      · next hv =>
        have := h.small hi (k := 2) (a := 0) hfN hfi (Or.inl rfl) ⟨by omega, by omega⟩ (fun _ => by rw [hv]; exact hf) (by omega)
        rw [← hf] at this
        exact this
      · exact h
theorem run_grants (h : Run D N T X S i c) (hi : i < N) (hN : N % 2 = 1) (hT : T ≤ 1000000) (hc : Came N T i S c m) (hk : m.kind = 2) (hl : c.q.st.log.length < T) : Run D N T X S i (c.grants m) := by
  obtain ⟨g0, hI, hq0, hb0⟩ := h.facts hi
  obtain ⟨f, hf, hfN, hfi⟩ := hc.ends hI
  unfold NS.grants
  split
  · next hr =>
    have r1 : Run D N T X S i (c.vote m.frm) := by
      refine h.quiet rfl rfl (fun ho => ho.local hi (fun g hg hq => ?_) (fun hb => ⟨hb.ep, hb.log, hb.data⟩))
      have k := (hg.2.2 m (Or.inl hc.s)).grant hk
      rw [hc.ep, hf, hc.too, Int.toNat_natCast, Int.toNat_natCast] at k
      have := hq.granted hfN k hr
      rw [← hf] at this
      exact this
    exact r1.count hi hN hr hT hl
  · exact h
theorem run_acks (h : Run D N T X S i c) (hi : i < N) (hN : N % 2 = 1) (hc : Came N T i S c m) (hk : m.kind = 4) : Run D N T X S i (c.acks m) := by
  obtain ⟨g0, hI, hq0, hb0⟩ := h.facts hi
  obtain ⟨f, hf, hfN, hfi⟩ := hc.ends hI
  unfold NS.acks
  split
  · next hr =>
    refine Run.rise ?_ hi hN hr
    refine h.quiet rfl rfl (fun ho => ho.local hi (fun g hg hq => ?_) (fun hb => ⟨hb.ep, hb.log, hb.data⟩))
    obtain ⟨_, a, k1, k2⟩ := (hg.2.2 m (Or.inl hc.s)).ack hk
    rw [hf, Int.toNat_natCast, hc.ep] at k2
    obtain ⟨_, _, _, _, p5, p6, p7, p8⟩ := hq.prim hr
    rw [hf, Int.toNat_natCast]
    have ha := p7 f _ (getD_is (by omega))
    have hh := p8 _ (List.mem_of_getElem? (getD_is (l := c.q.has) (j := f) (by omega)))
    refine hq.nums hr (by show (c.q.has.set f _).length = N; rw [List.length_set]; exact p5) (by show (c.q.acked.set f _).length = N; rw [List.length_set]; exact p6) (fun j b hj0 => ?_) (fun b hb => ?_)
    · have hj : (c.q.acked.set f (max (c.q.acked.getD f 0) (min m.at_ (c.q.st.log.length : Int))))[j]? = some b := hj0
      clear hj0
      rw [List.getElem?_set] at hj
      split at hj
      · next e =>
        subst e
        split at hj
        · injection hj with hj
          have h3 := ha.2.2
          exact ⟨by omega, by omega, fun hne => by have := h3 hne; omega⟩
        · cases hj
      · exact p7 j b hj
    · rcases List.mem_or_eq_of_mem_set hb with e | e
      · exact p8 b e
      · have e : b = max (c.q.has.getD f 0) (min m.at_ (c.q.st.log.length : Int)) := e
        omega
  · exact h
theorem run_nacks (h : Run D N T X S i c) (hi : i < N) (hc : Came N T i S c m) : Run D N T X S i (c.nacks m) := by
  obtain ⟨g0, hI, hq0, hb0⟩ := h.facts hi
  obtain ⟨f, hf, hfN, hfi⟩ := hc.ends hI
  unfold NS.nacks
  split
  · next hr =>
    rw [hf, Int.toNat_natCast] at hr ⊢
    refine Run.ship (c := c.setHas f (max m.at_ (c.q.acked.getD f 0))) ?_ hi hr.1 hfN hfi
    refine h.quiet rfl rfl (fun ho => ho.local hi (fun g hg hq => ?_) (fun hb => ⟨hb.ep, hb.log, hb.data⟩))
    obtain ⟨_, _, _, _, p5, p6, p7, p8⟩ := hq.prim hr.1
    have ha := p7 f _ (getD_is (by omega))
    have hh := p8 _ (List.mem_of_getElem? (getD_is (l := c.q.has) (j := f) (by omega)))
    have hat := hc.mb.at_
    refine hq.nums hr.1 (by show (c.q.has.set f _).length = N; rw [List.length_set]; exact p5) p6 p7 (fun b hb => ?_)
    rcases List.mem_or_eq_of_mem_set hb with e | e
    · exact p8 b e
    · have e : b = max m.at_ (c.q.acked.getD f 0) := e
      omega
  · exact h
end

/-- The log is the same as the primary's, as far as the message shows: its first a entries, and k of the message's. -/
structure Meets (l : List Ent) (m : Msg) (a k : Nat) : Prop where
  at_ : m.at_ = (a : Int)
  le : a ≤ l.length
  last : lastAt l a = m.last
  same : ∀ j, j < k → ∃ x y, l[a + j]? = some x ∧ m.log[j]? = some y ∧ x.ep = y.ep

section
variable {D : Mem} {g : Gh} {N T i : Nat} {X : Nat → ND} {S S' : Msg → Prop} {c c' : NS} {q : ND} {m : Msg}

theorem good_agree {l p : List Ent} (hl : Good g l) (hp : Good g p) {k : Nat} {x y : Ent} (hx : l[k]? = some x) (hy : p[k]? = some y) (he : x.ep = y.ep) : Agree l p (k + 1) := by
  have h1 := hl k x hx
  have h2 := hp k y hy
  rw [he] at h1
  exact h1.trans h2.symm
theorem Meets.agree (hg : GhInv g N) (hq : NodeInv g N i q) (hm : MsgInv g N m) (hk : m.kind = 3) {e : Int} (he : m.ep = e) {a k : Nat} (h : Meets q.st.log m a k) : a + k ≤ (g.pl e).length ∧ Agree q.st.log (g.pl e) (a + k) := by
  obtain ⟨_, a', c, h1, h2, h3, h4, h5, h6, h7⟩ := hm.ship hk
  subst he
  obtain rfl : a' = a := by have := h.at_; omega
  have hlast : lastAt q.st.log a' = lastAt (g.pl m.ep) a' := by rw [h.last, h5]
  have ha : Agree q.st.log (g.pl m.ep) a' := by
    by_cases h0 : a' = 0
    · rw [h0]; exact Agree.zero _ _
    · obtain ⟨x, hx⟩ := at_len (l := q.st.log) (k := a' - 1) (by have := h.le; omega)
      obtain ⟨y, hy⟩ := at_len (l := g.pl m.ep) (k := a' - 1) (by omega)
      have e1 := lastAt_succ hx
      have e2 := lastAt_succ hy
      rw [Nat.sub_add_cancel (by omega)] at e1 e2
      have := good_agree hq.good (hg.plgood m.ep) hx hy (by omega)
      rwa [Nat.sub_add_cancel (by omega)] at this
  cases k with
  | zero => exact ⟨h3, ha⟩
  | succ k =>
    obtain ⟨x, y, hx, hy, hxy⟩ := h.same k (by omega)
    have hy' := h4 k y hy
    exact ⟨by have := lt_len hy'; omega, good_agree hq.good (hg.plgood m.ep) hx hy' hxy⟩

theorem sameN_spec : ∀ (l r : List Ent), (∀ j, j < sameN l r → ∃ x y, l[j]? = some x ∧ r[j]? = some y ∧ x.ep = y.ep) ∧ (∀ x y, l[sameN l r]? = some x → r[sameN l r]? = some y → x.ep ≠ y.ep)
  | [], r => by
    have : sameN [] r = 0 := by cases r <;> rfl
    rw [this]
    exact ⟨fun j h => by omega, fun x y h => by simp at h⟩
  | a :: l, [] => ⟨fun j h => by have : sameN (a :: l) [] = 0 := rfl; omega, fun x y h1 h2 => by simp at h2⟩
  | a :: l, b :: r => by
    by_cases h : a.ep = b.ep
    · have e : sameN (a :: l) (b :: r) = sameN l r + 1 := if_pos h
      obtain ⟨h1, h2⟩ := sameN_spec l r
      rw [e]
      refine ⟨fun j hj => ?_, fun x y hx hy => h2 x y (by simpa using hx) (by simpa using hy)⟩
      cases j with
      | zero => exact ⟨a, b, rfl, rfl, h⟩
      | succ j =>
        obtain ⟨x, y, hx, hy, hxy⟩ := h1 j (by omega)
        exact ⟨x, y, by simpa using hx, by simpa using hy, hxy⟩
    · have e : sameN (a :: l) (b :: r) = 0 := if_neg h
      rw [e]
      refine ⟨fun j hj => by omega, fun x y hx hy => ?_⟩
      simp at hx hy
      subst hx hy
      exact h
theorem sameN_le (l r : List Ent) : sameN l r ≤ l.length ∧ sameN l r ≤ r.length := by
  have h := (sameN_spec l r).1
  by_cases h0 : sameN l r = 0
  · omega
  · obtain ⟨x, y, hx, hy, _⟩ := h (sameN l r - 1) (by omega)
    have := lt_len hx
    have := lt_len hy
    omega

theorem note_entry {s : St} {y : Ent} (h1 : 0 ≤ y.ep) (h2 : y.ep ≤ 1099511627776) (h3 : y.data.length ≤ 65536) (hl : s.last s.log.length ≤ y.ep) (he : y.ep ≤ s.ep) : s.note ⟨3, 0, 0, y⟩ = some { s with log := s.log ++ [y] } := by
  have hr : Nt.right ⟨3, 0, 0, y⟩ = true := by
    unfold Nt.right Ent.right inB
    simp
    omega
  unfold St.note
  rw [hr]
  simp
  omega
theorem note_cut {s : St} {p : Nat} (h : p ≤ s.log.length) (h2 : (p : Int) ≤ 1099511627776) : s.note ⟨2, 0, (p : Int), ⟨0, []⟩⟩ = some { s with log := s.log.take p } := by
  have hr : Nt.right ⟨2, 0, (p : Int), ⟨0, []⟩⟩ = true := by
    unfold Nt.right inB
    simp
    omega
  unfold St.note
  rw [hr]
  simp
  omega

/-- An entry of the message is put behind the log. -/
theorem run_put (h : Run D N T X S i c) (hi : i < N) (hT : T ≤ 1000000) (hc : Came N T i S c m) (hk : m.kind = 3) (hr : c.q.role = 0) {a k : Nat} (hm : Meets c.q.st.log m a k) (hlen : c.q.st.log.length = a + k) {y : Ent} (hy : m.log[k]? = some y) :
    Run D N T X S i (c.note ⟨3, 0, 0, y⟩) ∧ Came N T i S (c.note ⟨3, 0, 0, y⟩) m ∧ (c.note ⟨3, 0, 0, y⟩).q.role = 0 ∧ Meets (c.note ⟨3, 0, 0, y⟩).q.st.log m a (k + 1) ∧ (c.note ⟨3, 0, 0, y⟩).q.st.log.length = a + (k + 1) := by
  have key : ∀ g, Inv N g (upd X i c.q) (fun m => S m ∨ m ∈ c.ms) → NodeInv g N i c.q → Agree c.q.st.log (g.pl c.q.st.ep) c.q.st.log.length ∧ (g.pl c.q.st.ep)[c.q.st.log.length]? = some y := fun g hg hq => by
    have hM := hg.2.2 m (Or.inl hc.s)
    have h1 := hm.agree hg.1 hq hM hk hc.ep
    obtain ⟨_, a', c', h2, _, _, h4, _⟩ := hM.ship hk
    have := hm.at_
    obtain rfl : a' = a := by omega
    rw [hlen, ← hc.ep]
    rw [← hc.ep] at h1
    exact ⟨h1.2, h4 k y hy⟩
  obtain ⟨g0, hI, hq0, hb0⟩ := h.facts hi
  obtain ⟨k1, k2⟩ := key g0 hI hq0
  have hye := hI.1.plep _ y (List.mem_of_getElem? k2)
  have hyd := hc.mb.ents y (List.mem_of_getElem? hy)
  have hlast : c.q.st.last c.q.st.log.length ≤ y.ep := by
    show lastAt _ _ ≤ _
    by_cases h0 : c.q.st.log.length = 0
    · rw [h0, lastAt_zero]; omega
    · obtain ⟨x, hx⟩ := at_len (l := c.q.st.log) (k := c.q.st.log.length - 1) (by omega)
      have e1 := lastAt_succ hx
      rw [Nat.sub_add_cancel (by omega)] at e1
      rw [e1]
      exact hI.1.plmono _ (c.q.st.log.length - 1) c.q.st.log.length x y (by omega) ((k1 _ (by omega)).symm.trans hx) k2
  have hn := note_entry (s := c.q.st) (y := y) (by omega) (by omega) (by omega) hlast hye.2
  have hq1 := NS.note_q hn
  refine ⟨?_, ⟨hc.s, hc.too, by rw [hq1]; exact hc.ep, hc.mb⟩, by rw [hq1]; exact hr, ?_, by rw [hq1]; show (c.q.st.log ++ [y]).length = _; simp; omega⟩
  · refine h.noted hi (t := ⟨3, 0, 0, y⟩) rfl (by rw [hq1]; exact hn) (fun ho => ?_)
    rw [hq1]
    have hmat := hc.mb.at_
    have hma := hm.at_
    have hyl := lt_len hy
    exact ho.local hi (fun g hg hq => hq.put hg.1 hr (key g hg hq).1 (key g hg hq).2) (fun hb => hb.put (by omega) hyd.2 rfl rfl)
  · rw [hq1]
    have hap : ∀ j, j < c.q.st.log.length → (c.q.st.log ++ [y])[j]? = c.q.st.log[j]? := fun j hj => List.getElem?_append_left hj
    refine ⟨hm.at_, by show a ≤ (c.q.st.log ++ [y]).length; simp; omega, ?_, fun j hj => ?_⟩
    · show lastAt (c.q.st.log ++ [y]) a = m.last
      rw [← hm.last]
      exact lastAt_agree (fun j hj => hap j (by omega))
    · by_cases hjk : j < k
      · obtain ⟨x, z, hx, hz, hxz⟩ := hm.same j hjk
        exact ⟨x, z, by rw [hap _ (by omega)]; exact hx, hz, hxz⟩
      · obtain rfl : j = k := by omega
        refine ⟨y, y, ?_, hy, rfl⟩
        show (c.q.st.log ++ [y])[a + j]? = some y
        rw [← hlen, List.getElem?_append_right (Nat.le_refl _), Nat.sub_self]
        rfl
theorem run_puts : ∀ (r : List Ent) {c : NS} {k : Nat}, Run D N T X S i c → i < N → T ≤ 1000000 → Came N T i S c m → m.kind = 3 → c.q.role = 0 → ∀ {a : Nat}, Meets c.q.st.log m a k → c.q.st.log.length = a + k → m.log.drop k = r →
    Run D N T X S i (c.puts r) ∧ Came N T i S (c.puts r) m ∧ (c.puts r).q.role = 0 ∧ Meets (c.puts r).q.st.log m a m.log.length ∧ (c.puts r).ms = c.ms
  | [], c, k, h, hi, hT, hc, hk, hr, a, hm, hlen, hd => by
    refine ⟨h, hc, hr, ⟨hm.at_, hm.le, hm.last, fun j hj => hm.same j ?_⟩, rfl⟩
    have := congrArg List.length hd
    rw [List.length_drop] at this
    simp at this
    omega
  | y :: r, c, k, h, hi, hT, hc, hk, hr, a, hm, hlen, hd => by
    have hy : m.log[k]? = some y := by
      have := List.getElem?_drop (xs := m.log) (i := k) (j := 0)
      rw [hd] at this
      simpa using this.symm
    have hd2 : m.log.drop (k + 1) = r := by
      rw [← List.drop_drop, hd]
      rfl
    obtain ⟨h1, h2, h3, h4, h5⟩ := run_put h hi hT hc hk hr hm hlen hy
    exact run_puts r h1 hi hT h2 hk h3 h4 h5 hd2

theorem stands_q (c : NS) : c.stands.ns = c.ns ∧ c.stands.ms = c.ms ∧ c.stands.q.st = c.q.st ∧ (c.q.role = 2 → c.stands = c) := by
  unfold NS.stands
  split
  · next h => exact ⟨rfl, rfl, rfl, fun h2 => by omega⟩
  · exact ⟨rfl, rfl, rfl, fun _ => rfl⟩
theorem run_stands (h : Run D N T X S i c) (hi : i < N) : Run D N T X S i c.stands := by
  unfold NS.stands
  split
  · exact h.quiet rfl rfl (fun ho => ho.local hi (fun g hg hq => hq.stand) (fun hb => ⟨hb.ep, hb.log, hb.data⟩))
  · exact h

theorem run_takes (h : Run D N T X S i c) (hi : i < N) (hT : T ≤ 1000000) (hc : Came N T i S c m) (hk : m.kind = 3) (hr : c.q.role = 0) (hle : ¬ (c.q.st.log.length : Int) < m.at_) (hlast : c.q.st.last m.at_.toNat = m.last) : Run D N T X S i (c.takes m) := by
  obtain ⟨g0, hI, hq0, hb0⟩ := h.facts hi
  obtain ⟨f, hf, hfN, hfi⟩ := hc.ends hI
  obtain ⟨a, ha⟩ : ∃ a : Nat, m.at_ = (a : Int) := ⟨m.at_.toNat, by have := hc.mb.at_; omega⟩
  have hmat := hc.mb.at_
  have hb := hb0.log
  unfold NS.takes
  obtain ⟨i0, hi0⟩ : ∃ i0, sameN (c.q.st.log.drop m.at_.toNat) m.log = i0 := ⟨_, rfl⟩
  simp only [hi0]
  rw [ha, Int.toNat_natCast] at hi0 hlast
  have hsp := sameN_spec (c.q.st.log.drop a) m.log
  have hsl := sameN_le (c.q.st.log.drop a) m.log
  rw [hi0] at hsp hsl
  rw [List.length_drop] at hsl
  have hm0 : Meets c.q.st.log m a i0 := ⟨ha, by omega, hlast, fun j hj => by
    obtain ⟨x, y, hx, hy, hxy⟩ := hsp.1 j hj
    rw [List.getElem?_drop] at hx
    exact ⟨x, y, hx, hy, hxy⟩⟩
  obtain ⟨c2, hc2⟩ : ∃ c2, (if i0 < m.log.length ∧ m.at_ + (i0 : Int) < (c.q.st.log.length : Int) then c.note ⟨2, 0, m.at_ + (i0 : Int), ⟨0, []⟩⟩ else c) = c2 := ⟨_, rfl⟩
  rw [hc2]
  have hR2 : Run D N T X S i c2 ∧ Came N T i S c2 m ∧ c2.q.role = 0 ∧ Meets c2.q.st.log m a i0 ∧ (i0 = m.log.length ∨ c2.q.st.log.length = a + i0) := by
    rw [← hc2]
    split
    · next hcut =>
      obtain ⟨x, hx⟩ := at_len (l := c.q.st.log) (k := a + i0) (by omega)
      obtain ⟨y, hy⟩ := at_len (l := m.log) (k := i0) hcut.1
      have hxy := hsp.2 x y (by rw [List.getElem?_drop]; exact hx) hy
      have hn := note_cut (s := c.q.st) (p := a + i0) (by omega) (by omega)
      have hpe : (m.at_ + (i0 : Int)) = ((a + i0 : Nat) : Int) := by omega
      rw [hpe]
      have hq1 := NS.note_q hn
      have htk : ∀ j, j < a + i0 → (c.q.st.log.take (a + i0))[j]? = c.q.st.log[j]? := fun j hj => by rw [List.getElem?_take, if_pos hj]
      refine ⟨?_, ⟨hc.s, hc.too, by rw [hq1]; exact hc.ep, hc.mb⟩, by rw [hq1]; exact hr, ?_, Or.inr (by rw [hq1]; show (c.q.st.log.take (a + i0)).length = _; rw [List.length_take]; omega)⟩
      · refine h.noted hi (t := ⟨2, 0, ((a + i0 : Nat) : Int), ⟨0, []⟩⟩) rfl (by rw [hq1]; exact hn) (fun ho => ?_)
        rw [hq1]
        refine ho.local hi (fun g hg hq => ?_) (fun hb => ⟨hb.ep, by show (c.q.st.log.take (a + i0)).length ≤ T; rw [List.length_take]; have := hb.log; omega, fun x hx => hb.data x (List.mem_of_mem_take hx)⟩)
        have hM := hg.2.2 m (Or.inl hc.s)
        obtain ⟨_, a', c', h2, _, _, h4, _⟩ := hM.ship hk
        obtain rfl : a' = a := by omega
        have := h4 i0 y hy
        rw [hc.ep] at this
        exact hq.cut hg.1 hr this hx (fun e => hxy e.symm)
      · rw [hq1]
        refine ⟨ha, by show a ≤ (c.q.st.log.take (a + i0)).length; rw [List.length_take]; omega, ?_, fun j hj => ?_⟩
        · show lastAt (c.q.st.log.take (a + i0)) a = m.last
          rw [← hm0.last]
          exact lastAt_agree (fun j hj => htk j (by omega))
        · obtain ⟨x, y, hx, hy, hxy⟩ := hm0.same j hj
          exact ⟨x, y, by rw [htk _ (by omega)]; exact hx, hy, hxy⟩
    · next hno =>
      refine ⟨h, hc, hr, hm0, ?_⟩
      by_cases h1 : i0 = m.log.length
      · exact Or.inl h1
      · right; omega
  obtain ⟨r2, hc2', hr2, hm2, hend⟩ := hR2
  have hR3 : Run D N T X S i (c2.puts (m.log.drop i0)) ∧ Came N T i S (c2.puts (m.log.drop i0)) m ∧ (c2.puts (m.log.drop i0)).q.role = 0 ∧ Meets (c2.puts (m.log.drop i0)).q.st.log m a m.log.length := by
    rcases hend with h1 | h1
    · rw [h1, List.drop_length]
      exact ⟨r2, hc2', hr2, by rw [← h1]; exact hm2⟩
    · obtain ⟨k1, k2, k3, k4, _⟩ := run_puts _ r2 hi hT hc2' hk hr2 hm2 h1 rfl
      exact ⟨k1, k2, k3, k4⟩
  obtain ⟨c3, hc3⟩ : ∃ c3, c2.puts (m.log.drop i0) = c3 := ⟨_, rfl⟩
  rw [hc3] at hR3 ⊢
  obtain ⟨r3, hc3', hr3, hm3⟩ := hR3
  have hlen3 : a + m.log.length ≤ c3.q.st.log.length := by
    by_cases h0 : m.log.length = 0
    · have := hm3.le; omega
    · obtain ⟨x, y, hx, _⟩ := hm3.same (m.log.length - 1) (by omega)
      have := lt_len hx
      omega
  have hep3 : 0 ≤ m.commit := hc.mb.commit.1
  have r4 : Run D N T X S i (c3.rises (min m.commit (m.at_ + (m.log.length : Int)))) := by
    refine r3.quiet rfl rfl (fun ho => ho.local hi (fun g hg hq => ?_) (fun hb => ⟨hb.ep, hb.log, hb.data⟩))
    have hM := hg.2.2 m (Or.inl hc.s)
    have hag := hm3.agree hg.1 hq hM hk hc3'.ep
    obtain ⟨_, a', cc, h1, h2, _, _, _, h6, h7⟩ := hM.ship hk
    obtain rfl : a' = a := by omega
    by_cases hle2 : (min m.commit (m.at_ + (m.log.length : Int))) ≤ (c3.q.commit : Int)
    · have e : (max (c3.q.commit : Int) (min m.commit (m.at_ + (m.log.length : Int)))).toNat = c3.q.commit := by omega
      show NodeInv g N i { c3.q with commit := _ }
      rw [e]
      exact hq.learn hr3 hq.commit.1 hq.commit.2
    · have e : (max (c3.q.commit : Int) (min m.commit (m.at_ + (m.log.length : Int)))).toNat = min cc (a' + m.log.length) := by omega
      show NodeInv g N i { c3.q with commit := _ }
      rw [e]
      refine hq.learn hr3 (by omega) ?_
      rw [hc3'.ep] at h7
      exact (h7.less (Nat.min_le_left _ _)).agree (hag.2.le (Nat.min_le_right _ _))
  have := hm3.le
  refine r4.quiet rfl rfl (fun ho => ho.step hi (fun g hg hq hb => ?_))
  have hM := hg.2.2 m (Or.inl hc.s)
  have hag := hm3.agree hg.1 (q := (c3.rises (min m.commit (m.at_ + (m.log.length : Int)))).q) hq hM hk hc3'.ep
  have hq' := hq.ack (a := a + m.log.length) (by show c3.q.role ≠ 2; omega) hag.2 hag.1
  have hgk := hg.1.ack (i := i) (E := c3.q.st.ep) (a := a + m.log.length) hag.1 hq.fut
  refine ⟨_, Le.ack, hgk, hq', hb, fun m' hm' => ?_⟩
  rcases hm' with hm' | hm'
  · exact Or.inl (Or.inl hm')
  · have hm' : m' ∈ (c3.rises (min m.commit (m.at_ + (m.log.length : Int)))).ms ++ [⟨4, ((c3.rises (min m.commit (m.at_ + (m.log.length : Int)))).q.id : Int), m.frm, c3.q.st.ep, m.at_ + (m.log.length : Int), 0, 0, []⟩] := hm'
    rcases List.mem_append.1 hm' with hm' | hm'
    · exact Or.inl (Or.inr hm')
    · rw [List.mem_singleton.1 hm', hf]
      refine Or.inr (hq'.small_msg hb hi hfN hfi (Or.inr (Or.inl rfl)) (by have := hb.log; have : c3.q.st.log.length ≤ T := this; omega) (fun h => by omega) (fun _ => ?_))
      obtain ⟨h1, _⟩ := hM.ship hk
      rw [hc3'.ep, hf, Int.toNat_natCast] at h1
      refine ⟨h1, a + m.log.length, by omega, ?_⟩
      show a + m.log.length ≤ (g.ack i c3.q.st.ep (a + m.log.length)).ac i c3.q.st.ep
      rw [ack_ac]
      exact Nat.le_max_right _ _
theorem run_shipped (h : Run D N T X S i c) (hi : i < N) (hT : T ≤ 1000000) (hc : Came N T i S c m) (hk : m.kind = 3) : Run D N T X S i (c.shipped m) := by
  obtain ⟨g0, hI, hq0, hb0⟩ := h.facts hi
  obtain ⟨f, hf, hfN, hfi⟩ := hc.ends hI
  obtain ⟨s1, s2, s3, s4⟩ := stands_q c
  have hst := run_stands h hi
  have hb := hb0.log
  have hmat := hc.mb.at_
  unfold NS.shipped
  split
  · have := hst.small hi (k := 5) (a := max 0 (min (c.q.st.log.length : Int) (m.at_ - 1))) hfN hfi (Or.inr (Or.inr rfl)) (by omega) (fun h => by omega) (by omega)
    rw [← hf] at this
    exact this
  · next h1 =>
    split
    · exact hst
    · next h2 =>
      have hr : c.stands.q.role = 0 := by
        have := hq0.role
        unfold NS.stands
        split
        · rfl
        · next h3 => have : c.q.role ≠ 2 := fun e => h2 (Or.inr e); omega
      refine run_takes hst hi hT ⟨hc.s, hc.too, by rw [s3]; exact hc.ep, hc.mb⟩ hk hr (by rw [s3]; exact fun e => h1 (Or.inl e)) ?_
      rw [s3]
      apply Classical.byContradiction
      intro e
      exact h1 (Or.inr e)
end

section
variable {D : Mem} {g : Gh} {N T i : Nat} {X : Nat → ND} {S S' : Msg → Prop} {c c' : NS} {q : ND} {m : Msg}

theorem NodeInv.fit (hq : NodeInv g N i q) (hb : NB T q) (hi : i < N) (h7 : N ≤ 7) (hT : T ≤ 2048) : q.Fit := by
  obtain ⟨h1, h2⟩ := hq.ids
  have := hb.log
  refine ⟨by omega, by omega, by omega, by omega, hq.ep0, hq.role, fun h => ?_, fun h => ?_⟩
  · rcases hq.role with h3 | h3 | h3
    · exact absurd h3 h
    · obtain ⟨_, _, _, _, gs, k1, k2, k3⟩ := hq.cand h3
      refine ⟨gs, k1, k2, fun z hz => ?_⟩
      obtain ⟨v, v1, v2, _⟩ := k3 z hz
      rw [h2]; omega
    · obtain ⟨_, _, _, ⟨gs, k1, k2, k3⟩, _⟩ := hq.prim h3
      refine ⟨gs, k1, k2, fun z hz => ?_⟩
      obtain ⟨v, v1, v2⟩ := k3 z hz
      rw [h2]; omega
  · obtain ⟨_, _, _, _, k5, k6, k7, k8⟩ := hq.prim h
    refine ⟨by rw [h2]; exact k5, by rw [h2]; exact k6, k8, fun a ha => ?_⟩
    obtain ⟨j, hj⟩ := List.mem_iff_getElem?.1 ha
    have := k7 j a hj
    exact ⟨this.1, this.2.1⟩
theorem NodeInv.good' (hg : GhInv g N) (hq : NodeInv g N i q) (hb : NB T q) (h7 : N ≤ 7) (hT : T ≤ 2048) : q.st.Good := by
  have h1 := hb.log
  have h2 := hb.ep
  refine ⟨⟨hq.ep0, by omega⟩, ?_, by omega, fun x hx => ?_, fun j x y hx hy => hq.mono j (j + 1) x y (by omega) hx hy⟩
  · rcases hq.vote with ⟨h3, _⟩ | ⟨c, h3, h4⟩
    · omega
    · have := (hg.cd0 _ _ (hg.vote _ _ _ h4).2).1
      omega
  · have h3 := hq.ents x hx
    have h4 := hb.data x hx
    refine ⟨?_, h3.2⟩
    unfold Ent.right inB
    simp
    omega
theorem MsgInv.right' (hm : MsgInv g N m) (hb : MB T m) (h7 : N ≤ 7) (hT : T ≤ 2048) : m.right = true := by
  obtain ⟨f, t, h1, h2, h3, h4, h5⟩ := hm.ends
  have k1 := hb.kind
  have k2 := hb.ep
  have k3 := hb.at_
  have k4 := hb.last
  have k5 := hb.commit
  have e1 : idB m.frm = true := by unfold idB; simp; omega
  have e2 : idB m.to = true := by unfold idB; simp; omega
  have e3 : m.nums = true := by unfold Msg.nums inB; simp; omega
  have e4 : m.shape = true := by
    unfold Msg.shape
    rcases hb.log with h | h
    · simp [h]
    · simp [h]
  have e5 : m.log.all Ent.right = true := by
    rw [List.all_eq_true]
    intro x hx
    have := hb.ents x hx
    unfold Ent.right inB
    simp
    omega
  unfold Msg.right
  rw [e1, e2, e3, e4, e5]
  simp
  omega

/-- A message arrives. -/
theorem run_step (h : Ok D N T X S) (hi : i < N) (hN : N % 2 = 1) (h7 : N ≤ 7) (hT : T < 2048) (hs : S m) (hto : m.to = (i : Int)) : ∃ c, (X i).step m = (c, 0) ∧ Run D N (T + 1) X S i c := by
  obtain ⟨⟨g0, h1, hd⟩, h2, h3⟩ := id h
  have hM := h1.2.2 m hs
  have hmb := h3 m hs
  obtain ⟨f, t, hf, ht, hfN, htN, hft⟩ := hM.ends
  have hr := hM.right' hmb h7 (by omega : T ≤ 2048)
  have hq0 := h1.2.1 i hi
  obtain ⟨hid, hnn⟩ := hq0.ids
  have hfi : f ≠ i := fun e => hft (by omega)
  have h' := h.up (Nat.le_succ T)
  have hmb' := hmb.up (Nat.le_succ T)
  have r0 := Run.front h' hi (by omega) hmb'
  have hfr := (front_is (q := X i) hr).1
  have hlog := (front_id (q := X i) hr).2.2
  have hbl := (h2 i hi).log
  unfold ND.step
  rw [if_neg (by rw [hid, hnn]; rintro (e | e | e | e); exact absurd e (by rw [hr]; decide); exact e hto; omega; omega)]
  by_cases hlow : m.ep < ((X i).front m).q.st.ep
  · rw [if_pos hlow]
    refine ⟨_, rfl, ?_⟩
    split
    · have := r0.small hi (k := 5) (a := 0) hfN hfi (Or.inr (Or.inr rfl)) ⟨by omega, by omega⟩ (fun h => by omega) (by omega)
      rw [← hf] at this
      exact this
    · exact r0
  · rw [if_neg hlow]
    refine ⟨_, rfl, ?_⟩
    have hep : m.ep = ((X i).front m).q.st.ep := by
      rw [hfr] at hlow ⊢
      split at hlow
      · next h4 => rw [if_pos h4]
      · next h4 => rw [if_neg h4]; omega
    have hc : Came N (T + 1) i S ((X i).front m) m := ⟨hs, hto, hep, hmb'⟩
    have hl : ((X i).front m).q.st.log.length < T + 1 := by rw [hlog]; omega
    unfold NS.act
    split
    · next hk => exact run_asked r0 hi h7 (by omega) hc hk
    · split
      · next hk => exact run_grants r0 hi hN (by omega) hc hk hl
      · split
        · next hk => exact run_shipped r0 hi (by omega) hc hk
        · split
          · next hk => exact run_acks r0 hi hN hc hk
          · split
            · exact run_nacks r0 hi hc
            · exact r0
end
end Go.Proofs.Ytlgoenimjmiapaa

/-! A town of nodes, plain: what is done stays right. -/
namespace Go.Proofs.Ytlgoenimjmiapaa

structure Deed where
  kind : Int
  i : Int
  k : Int
  cut : Int
  falls : Bool
/-- A town. -/
structure Town where
  n : Nat
  X : Nat → ND
  notes : Nat → List Nt
  net : List Msg
  done : List Ent
  lead : Int → Option Int
  asked : Nat

def modN (a : Int) (n : Nat) : Nat := ((a.tmod n + n).tmod n).toNat
theorem modN_lt (a : Int) {n : Nat} (h : 0 < n) : modN a n < n := by
  unfold modN
  have := Int.tmod_lt_of_pos (a.tmod n + n) (show (0 : Int) < n by omega)
  omega
def updN (f : Nat → List Nt) (i : Nat) (l : List Nt) : Nat → List Nt := fun j => if j = i then l else f j
def setL (f : Int → Option Int) (e i : Int) : Int → Option Int := fun x => if x = e then some i else f x
def s00 : St := ⟨0, -1, []⟩

def Town.crash (t : Town) (i : Nat) : Town := { t with X := upd t.X i (newND ((foldFrom s00 (t.notes i)).getD s00) i t.n) }
/-- How many notes last. -/
def Deed.kept (a : Deed) (c : NS) : Nat := modN a.cut (c.ns.length + 1)
def Town.works (t : Town) (i : Nat) (c : NS) (a : Deed) : Town :=
  if a.falls = true then Town.crash { t with X := upd t.X i c.q, notes := updN t.notes i (t.notes i ++ c.ns.take (a.kept c)) } i
  else { t with X := upd t.X i c.q, notes := updN t.notes i (t.notes i ++ c.ns), net := t.net ++ c.ms.take (300 - t.net.length) }
def Town.seen (t : Town) (i : Nat) : Town :=
  { t with done := if t.done.length < (t.X i).commit then (t.X i).st.log.take (t.X i).commit else t.done,
           lead := if (t.X i).role = 2 then setL t.lead (t.X i).st.ep (i : Int) else t.lead }
def Town.safe (t : Town) : Nat → Town
  | 0 => t
  | i + 1 => (Town.safe t i).seen i
def Town.data (t : Town) : List UInt8 := [UInt8.ofNat (97 + t.asked % 26), UInt8.ofNat (t.asked / 26)]

/-- What is right of a town behind T deeds. -/
def TI (t : Town) (T : Nat) : Prop := ∃ (S : Msg → Prop) (g : Gh), Inv t.n g t.X S ∧ (∀ i, i < t.n → NB T (t.X i)) ∧ (∀ m, S m → MB T m) ∧ (∀ m ∈ t.net, S m) ∧
  (∀ i, i < t.n → foldFrom s00 (t.notes i) = some (t.X i).st) ∧ (∃ E, Comm g t.n E t.done t.done.length) ∧ (∀ e i, t.lead e = some i → ∃ j : Nat, i = (j : Int) ∧ g.ld e = some j)

/-- What is done and who led, remembered. -/
def memD (N : Nat) (done : List Ent) (lead : Int → Option Int) : Mem :=
  ⟨fun g => (∃ E, Comm g N E done done.length) ∧ ∀ e i, lead e = some i → ∃ j : Nat, i = (j : Int) ∧ g.ld e = some j, fun {i g h} hl hd => by
    obtain ⟨⟨E, h1⟩, h2⟩ := hd
    refine ⟨⟨E, h1.le hl⟩, fun e i hi => ?_⟩
    obtain ⟨j, h3, h4⟩ := h2 e i hi
    exact ⟨j, h3, hl.ld _ _ h4⟩⟩
theorem TI.ok {t : Town} {T : Nat} (h : TI t T) : ∃ S, Ok (memD t.n t.done t.lead) t.n T t.X S ∧ (∀ m ∈ t.net, S m) ∧ (∀ i, i < t.n → foldFrom s00 (t.notes i) = some (t.X i).st) := by
  obtain ⟨S, g, h1, h2, h3, h4, h5, h6, h7⟩ := h
  exact ⟨S, ⟨⟨g, h1, h6, h7⟩, h2, h3⟩, h4, h5⟩
theorem TI.of {t : Town} {T : Nat} {S : Msg → Prop} (h : Ok (memD t.n t.done t.lead) t.n T t.X S) (h4 : ∀ m ∈ t.net, S m) (h5 : ∀ i, i < t.n → foldFrom s00 (t.notes i) = some (t.X i).st) : TI t T := by
  obtain ⟨⟨g, h1, h6, h7⟩, h2, h3⟩ := h
  exact ⟨S, g, h1, h2, h3, h4, h5, h6, h7⟩
theorem TI.up {t : Town} {T T' : Nat} (h : TI t T) (hT : T ≤ T') : TI t T' := by
  obtain ⟨S, h1, h2, h3⟩ := h.ok
  exact TI.of (h1.up hT) h2 h3

section
variable {t : Town} {T i : Nat} {c : NS} {a : Deed}
/-- What a crash leaves. -/
theorem TI.crash (h : TI t T) (hi : i < t.n) : TI (t.crash i) T ∧ foldFrom s00 (t.notes i) = some (t.X i).st := by
  obtain ⟨S, h1, h2, h3⟩ := h.ok
  have hf := h3 i hi
  refine ⟨?_, hf⟩
  have e : t.crash i = { t with X := upd t.X i (newND (t.X i).st i t.n) } := by unfold Town.crash; rw [hf]; rfl
  rw [e]
  refine TI.of (S := S) (h1.crash hi) h2 (fun j hj => ?_)
  show foldFrom s00 (t.notes j) = some (upd t.X i (newND (t.X i).st i t.n) j).st
  by_cases hji : j = i
  · subst hji; rw [upd_self]; exact hf
  · rw [upd_ne _ _ _ hji]; exact h3 j hj

/-- Work is done, or the node falls. -/
theorem TI.works {S : Msg → Prop} (hr : Run (memD t.n t.done t.lead) t.n T t.X S i c) (hi : i < t.n) (h2 : ∀ m ∈ t.net, S m) (h3 : ∀ i, i < t.n → foldFrom s00 (t.notes i) = some (t.X i).st) : TI (t.works i c a) T ∧ ∃ s, foldFrom s00 (t.notes i ++ c.ns.take (a.kept c)) = some s ∧ (a.falls = true → ((t.works i c a).X i) = newND s i t.n) := by
  have hk : a.kept c ≤ c.ns.length := by have := modN_lt a.cut (n := c.ns.length + 1) (by omega); unfold Deed.kept; omega
  obtain ⟨s, hs, hok⟩ := hr.pre _ hk
  have hf : foldFrom s00 (t.notes i ++ c.ns.take (a.kept c)) = some s := by rw [foldFrom_app (h3 i hi)]; exact hs
  refine ⟨?_, s, hf, fun ha => ?_⟩
  · unfold Town.works
    by_cases ha : a.falls = true
    · rw [if_pos ha]
      have e : Town.crash { t with X := upd t.X i c.q, notes := updN t.notes i (t.notes i ++ c.ns.take (a.kept c)) } i = { t with X := upd t.X i (newND s i t.n), notes := updN t.notes i (t.notes i ++ c.ns.take (a.kept c)) } := by
        unfold Town.crash
        have : (updN t.notes i (t.notes i ++ c.ns.take (a.kept c))) i = t.notes i ++ c.ns.take (a.kept c) := if_pos rfl
        simp only [this, hf, upd_upd]
        rfl
      rw [e]
      refine TI.of (S := S) hok h2 (fun j hj => ?_)
      show foldFrom s00 (updN t.notes i _ j) = some (upd t.X i (newND s i t.n) j).st
      by_cases hji : j = i
      · subst hji; rw [upd_self]; unfold updN; rw [if_pos rfl]; exact hf
      · rw [upd_ne _ _ _ hji]; unfold updN; rw [if_neg hji]; exact h3 j hj
    · rw [if_neg ha]
      refine TI.of (S := fun m => S m ∨ m ∈ c.ms) hr.ok (fun m hm => ?_) (fun j hj => ?_)
      · have hm : m ∈ t.net ++ c.ms.take (300 - t.net.length) := hm
        rcases List.mem_append.1 hm with hm | hm
        · exact Or.inl (h2 m hm)
        · exact Or.inr (List.mem_of_mem_take hm)
      · show foldFrom s00 (updN t.notes i _ j) = some (upd t.X i c.q j).st
        by_cases hji : j = i
        · subst hji; rw [upd_self]; unfold updN; rw [if_pos rfl, foldFrom_app (h3 j hj)]; exact hr.fold
        · rw [upd_ne _ _ _ hji]; unfold updN; rw [if_neg hji]; exact h3 j hj
  · unfold Town.works
    rw [if_pos ha]
    unfold Town.crash
    have : (updN t.notes i (t.notes i ++ c.ns.take (a.kept c))) i = t.notes i ++ c.ns.take (a.kept c) := if_pos rfl
    simp only [this, hf]
    exact upd_self _ _ _

/-- What the walk of safe wants at node i. -/
structure SafeAt (t : Town) (i : Nat) : Prop where
  commit : (t.X i).commit ≤ (t.X i).st.log.length
  same : ∀ k, k < (t.X i).commit → k < t.done.length → t.done[k]? = (t.X i).st.log[k]?
  lead : (t.X i).role = 2 → t.lead (t.X i).st.ep = none ∨ t.lead (t.X i).st.ep = some (i : Int)
  fold : foldFrom s00 (t.notes i) = some (t.X i).st
theorem TI.seen (h : TI t T) (hi : i < t.n) : SafeAt t i ∧ TI (t.seen i) T := by
  obtain ⟨S, g, h1, h2, h3, h4, h5, ⟨E, h6⟩, h7⟩ := h
  have hq := h1.2.1 i hi
  have hag := comm_agree h1.1 h6 hq.commit.2
  have hld : (t.X i).role = 2 → g.ld (t.X i).st.ep = some i := fun hr => (hq.prim hr).1
  refine ⟨⟨hq.commit.1, fun k k1 k2 => hag k (by omega), fun hr => ?_, h5 i hi⟩, S, g, h1, h2, h3, h4, h5, ?_, ?_⟩
  · cases hx : t.lead (t.X i).st.ep with
    | none => exact Or.inl rfl
    | some j =>
      obtain ⟨j', k1, k2⟩ := h7 _ _ hx
      rw [hld hr] at k2
      injection k2 with k2
      right
      rw [k1, k2]
  · show ∃ E, Comm g t.n E (if t.done.length < (t.X i).commit then _ else _) (if t.done.length < (t.X i).commit then _ else _ : List Ent).length
    split
    · refine ⟨(t.X i).st.ep, ?_⟩
      have hl := hq.commit.1
      rw [List.length_take, Nat.min_eq_left hl]
      exact hq.commit.2.agree (fun k hk => by rw [List.getElem?_take, if_pos hk])
    · exact ⟨E, h6⟩
  · intro e j hj
    have hj : (if (t.X i).role = 2 then setL t.lead (t.X i).st.ep (i : Int) else t.lead) e = some j := hj
    split at hj
    · next hr =>
      unfold setL at hj
      split at hj
      · next he =>
        injection hj with hj
        exact ⟨i, hj.symm, by rw [he]; exact hld hr⟩
      · exact h7 e j hj
    · exact h7 e j hj
theorem safe_n (t : Town) : ∀ k, (t.safe k).n = t.n ∧ (t.safe k).X = t.X ∧ (t.safe k).notes = t.notes ∧ (t.safe k).net = t.net ∧ (t.safe k).asked = t.asked
  | 0 => ⟨rfl, rfl, rfl, rfl, rfl⟩
  | k + 1 => safe_n t k
theorem TI.safe (h : TI t T) : ∀ k, k ≤ t.n → TI (t.safe k) T ∧ ∀ i, i < k → SafeAt (t.safe i) i
  | 0, _ => ⟨h, fun i hi => by omega⟩
  | k + 1, hk => by
    obtain ⟨h1, h2⟩ := TI.safe h k (by omega)
    have h3 := h1.seen (i := k) (by rw [(safe_n t k).1]; omega)
    refine ⟨h3.2, fun i hi => ?_⟩
    by_cases hik : i = k
    · subst hik; exact h3.1
    · exact h2 i (by omega)

/-- The newest primary has all that was done. -/
theorem TI.newest (h : TI t T) {b : Nat} (hb : b < t.n) (hr : (t.X b).role = 2) (hmax : ∀ i, i < t.n → (t.X i).st.ep ≤ (t.X b).st.ep) : t.done.length ≤ (t.X b).st.log.length ∧ (t.X b).st.log.take t.done.length = t.done := by
  obtain ⟨S, g, h1, h2, h3, h4, h5, ⟨E, h6⟩, h7⟩ := h
  have hq := h1.2.1 b hb
  obtain ⟨k1, k2, _⟩ := hq.prim hr
  have key : Agree (t.X b).st.log t.done t.done.length := by
    rcases h6 with h0 | ⟨e, m, e1, e2, e3, e4⟩
    · rw [h0]; exact Agree.zero _ _
    · obtain ⟨ho, Q, hQ, hQa⟩ := id e2
      obtain ⟨v, hv⟩ : ∃ v, v ∈ Q := by
        cases Q with
        | nil => have := hQ.2.2; simp at this
        | cons a r => exact ⟨a, List.mem_cons_self ..⟩
      have hvN := hQ.2.1 v hv
      have hm0 : 0 < m := ho.1
      have hep := (h1.2.1 v hvN).acep e (by have := hQa v hv; omega)
      have hle := hmax v hvN
      have := complete' h1.1 e2 (show e ≤ (t.X b).st.ep by omega) (by rw [k1]; simp)
      rw [k2] at this
      exact (this.le e3).trans e4.symm
  have hl := key.len (Nat.le_refl _)
  refine ⟨hl, List.ext_getElem? (fun k => ?_)⟩
  rw [List.getElem?_take]
  split
  · next hk => exact key k hk
  · next hk => rw [List.getElem?_eq_none (by omega)]
end

/-- Behind a node's answer. -/
def Town.after (t : Town) (i : Nat) (c : NS) (a : Deed) : Town := (t.works i c a).safe t.n
def Town.deliver (t : Town) (a : Deed) (k : Nat) (m : Msg) : Town :=
  if a.kind = 5 then { t with net := t.net ++ [m] }
  else if a.kind = 4 then { t with net := t.net.eraseIdx k }
  else Town.after { t with net := t.net.eraseIdx k } m.to.toNat ((t.X m.to.toNat).step m).1 a
def Town.act (t : Town) (a : Deed) : Town :=
  if a.kind = 0 then t.after (modN a.i t.n) ((t.X (modN a.i t.n)).promote).1 a
  else if a.kind = 1 then Town.after { t with asked := t.asked + 1 } (modN a.i t.n) ((t.X (modN a.i t.n)).append t.data).1 a
  else if a.kind = 2 then t.after (modN a.i t.n) (t.X (modN a.i t.n)).tick a
  else if a.kind = 3 ∨ a.kind = 4 ∨ a.kind = 5 then
    match t.net[modN a.k t.net.length]? with
    | none => t
    | some m => t.deliver a (modN a.k t.net.length) m
  else if a.kind = 6 then (t.crash (modN a.i t.n)).safe t.n
  else t.after (modN a.i t.n) ⟨t.X (modN a.i t.n), [], []⟩ a

/-- What the walk wants of a town: each node may be asked, each message may be stepped. -/
structure Fine (t : Town) (T : Nat) : Prop where
  fit : ∀ i, i < t.n → (t.X i).Fit ∧ (t.X i).id = i ∧ (t.X i).n = t.n ∧ (t.X i).st.Good ∧ (t.X i).st.ep ≤ (T : Int) ∧ (t.X i).st.log.length ≤ T
  net : ∀ m ∈ t.net, m.right = true ∧ m.log.length ≤ T ∧ (∃ f k : Nat, m.frm = (f : Int) ∧ m.to = (k : Int) ∧ f < t.n ∧ k < t.n ∧ f ≠ k) ∧ ∀ y ∈ m.log, y.data.length ≤ 2
  notes : ∀ i, i < t.n → foldFrom s00 (t.notes i) = some (t.X i).st
theorem TI.fine {t : Town} {T : Nat} (h : TI t T) (h7 : t.n ≤ 7) (hT : T ≤ 2048) : Fine t T := by
  obtain ⟨S, g, h1, h2, h3, h4, h5, _, _⟩ := h
  refine ⟨fun i hi => ?_, fun m hm => ?_, h5⟩
  · have hq := h1.2.1 i hi
    have hb := h2 i hi
    exact ⟨hq.fit hb hi h7 hT, hq.ids.1, hq.ids.2, hq.good' h1.1 hb h7 hT, hb.ep, hb.log⟩
  · have hM := h1.2.2 m (h4 m hm)
    have hb := h3 m (h4 m hm)
    exact ⟨hM.right' hb h7 hT, by have := hb.at_; omega, hM.ends, fun y hy => (hb.ents y hy).2⟩

section
variable {t : Town} {T i : Nat} {c : NS} {a : Deed}
theorem works_n (t : Town) (i : Nat) (c : NS) (a : Deed) : (t.works i c a).n = t.n := by
  unfold Town.works
  split <;> rfl
/-- What the walk wants behind an answer. -/
structure AfterOk (t : Town) (i : Nat) (c : NS) (a : Deed) (T : Nat) : Prop where
  fold : ∃ s, foldFrom s00 (t.notes i ++ c.ns.take (a.kept c)) = some s ∧ (a.falls = true → s.Good)
  safe : ∀ j, j < t.n → SafeAt ((t.works i c a).safe j) j
  fine : Fine (t.after i c a) T
  newest : ∀ b, b < t.n → ((t.after i c a).X b).role = 2 → (∀ j, j < t.n → ((t.after i c a).X j).st.ep ≤ ((t.after i c a).X b).st.ep) → (t.after i c a).done.length ≤ ((t.after i c a).X b).st.log.length ∧ ((t.after i c a).X b).st.log.take (t.after i c a).done.length = (t.after i c a).done
theorem TI.after {S : Msg → Prop} (hr : Run (memD t.n t.done t.lead) t.n T t.X S i c) (hi : i < t.n) (h7 : t.n ≤ 7) (hT : T ≤ 2048) (h2 : ∀ m ∈ t.net, S m) (h3 : ∀ i, i < t.n → foldFrom s00 (t.notes i) = some (t.X i).st) : TI (t.after i c a) T ∧ AfterOk t i c a T := by
  obtain ⟨h4, s, h5, h6⟩ := TI.works (a := a) hr hi h2 h3
  obtain ⟨h8, h9⟩ := h4.safe t.n (by rw [works_n]; exact Nat.le_refl _)
  have hn : (t.after i c a).n = t.n := by unfold Town.after; rw [(safe_n _ _).1, works_n]
  refine ⟨h8, ⟨s, h5, fun ha => ?_⟩, h9, h8.fine (by show (t.after i c a).n ≤ 7; omega) hT, fun b hb hrb hmx => TI.newest h8 (by show b < (t.after i c a).n; omega) hrb (fun j hj => hmx j (by have : j < (t.after i c a).n := hj; omega))⟩
  have := (h4.fine (by rw [works_n]; exact h7) hT).fit i (by rw [works_n]; exact hi)
  rw [h6 ha] at this
  exact this.2.2.2.1
theorem act_n (t : Town) (a : Deed) : (t.act a).n = t.n := by
  have ha : ∀ (t : Town) i c a, (t.after i c a).n = t.n := fun t i c a => by unfold Town.after; rw [(safe_n _ _).1, works_n]
  unfold Town.act
  split
  · exact ha _ _ _ _
  · split
    · exact ha _ _ _ _
    · split
      · exact ha _ _ _ _
      · split
        · split
          · rfl
          · unfold Town.deliver
            split
            · rfl
            · split
              · rfl
              · exact ha _ _ _ _
        · split
          · rw [(safe_n _ _).1]; rfl
          · exact ha _ _ _ _

/-- What the walk wants of a deed. -/
structure ActOk (t : Town) (a : Deed) (T : Nat) : Prop where
  promote : a.kind = 0 → (t.X (modN a.i t.n)).promote.2 = 0 ∧ AfterOk t (modN a.i t.n) (t.X (modN a.i t.n)).promote.1 a T
  append : a.kind = 1 → (((t.X (modN a.i t.n)).append t.data).2.2 = 0 ∨ ((t.X (modN a.i t.n)).append t.data).2.2 = 52 ∧ ((t.X (modN a.i t.n)).append t.data).2.1 = 0 ∧ (t.X (modN a.i t.n)).role ≠ 2) ∧ AfterOk { t with asked := t.asked + 1 } (modN a.i t.n) ((t.X (modN a.i t.n)).append t.data).1 a T
  tick : a.kind = 2 → AfterOk t (modN a.i t.n) (t.X (modN a.i t.n)).tick a T
  step : a.kind = 3 → ∀ m, t.net[modN a.k t.net.length]? = some m → m.to.toNat < t.n ∧ m.to = (m.to.toNat : Int) ∧ ((t.X m.to.toNat).step m).2 = 0 ∧ AfterOk { t with net := t.net.eraseIdx (modN a.k t.net.length) } m.to.toNat ((t.X m.to.toNat).step m).1 a T
  crash : a.kind = 6 → (∀ j, j < t.n → SafeAt ((t.crash (modN a.i t.n)).safe j) j)
  none : a.kind ≠ 0 → a.kind ≠ 1 → a.kind ≠ 2 → a.kind ≠ 3 → a.kind ≠ 4 → a.kind ≠ 5 → a.kind ≠ 6 → AfterOk t (modN a.i t.n) ⟨t.X (modN a.i t.n), [], []⟩ a T
theorem TI.act (h : TI t T) (h0 : 0 < t.n) (hN : t.n % 2 = 1) (h7 : t.n ≤ 7) (hT : T < 2048) (a : Deed) : TI (t.act a) (T + 1) ∧ ActOk t a (T + 1) := by
  obtain ⟨S, h1, h2, h3⟩ := h.ok
  have hi := modN_lt a.i h0
  have hT1 : T + 1 ≤ 2048 := by omega
  have kP := fun (_ : a.kind = 0) => run_promote h1 hi (by omega) hN h7
  have kA := fun (_ : a.kind = 1) => run_append h1 hi hT hN (d := t.data) (by simp [Town.data]) (by simp [Town.data])
  have kS : ∀ (m : Msg), m ∈ t.net → ∃ k : Nat, m.to = (k : Int) ∧ k < t.n ∧ ∃ c, (t.X k).step m = (c, 0) ∧ Run (memD t.n t.done t.lead) t.n (T + 1) t.X S k c := fun (m : Msg) (hm : m ∈ t.net) => by
    obtain ⟨g, hI, _⟩ := h1.1
    obtain ⟨f, k, e1, e2, e3, e4, e5⟩ := (hI.2.2 m (h2 m hm)).ends
    obtain ⟨c, hc, hr⟩ := run_step h1 (i := k) e4 hN h7 hT (h2 m hm) e2
    exact ⟨k, e2, e4, c, hc, hr⟩
  have net' : ∀ k, ∀ m ∈ t.net.eraseIdx k, S m := fun k m hm => h2 m (List.mem_of_mem_eraseIdx hm)
  have pP : a.kind = 0 → TI (t.after (modN a.i t.n) ((t.X (modN a.i t.n)).promote).1 a) (T + 1) ∧ (t.X (modN a.i t.n)).promote.2 = 0 ∧ AfterOk t (modN a.i t.n) (t.X (modN a.i t.n)).promote.1 a (T + 1) := fun (hk : a.kind = 0) => by
    obtain ⟨c, hc, hr⟩ := kP hk
    have := TI.after (a := a) hr hi h7 hT1 h2 h3
    exact ⟨by rw [hc]; exact this.1, by rw [hc], by rw [hc]; exact this.2⟩
  have pA : a.kind = 1 → TI (Town.after { t with asked := t.asked + 1 } (modN a.i t.n) ((t.X (modN a.i t.n)).append t.data).1 a) (T + 1) ∧ (((t.X (modN a.i t.n)).append t.data).2.2 = 0 ∨ ((t.X (modN a.i t.n)).append t.data).2.2 = 52 ∧ ((t.X (modN a.i t.n)).append t.data).2.1 = 0 ∧ (t.X (modN a.i t.n)).role ≠ 2) ∧ AfterOk { t with asked := t.asked + 1 } (modN a.i t.n) ((t.X (modN a.i t.n)).append t.data).1 a (T + 1) := fun (hk : a.kind = 1) => by
    obtain ⟨c, n, k, hc, hr, hk2⟩ := kA hk
    have := TI.after (t := { t with asked := t.asked + 1 }) (a := a) hr hi h7 hT1 h2 h3
    exact ⟨by rw [hc]; exact this.1, by rw [hc]; exact hk2, by rw [hc]; exact this.2⟩
  have pT := TI.after (a := a) (run_tick (h1.up (Nat.le_succ T)) hi) hi h7 hT1 h2 h3
  have p0 := TI.after (a := a) (Run.start (h1.up (Nat.le_succ T)) hi) hi h7 hT1 h2 h3
  have pS : ∀ (m : Msg), m ∈ t.net → ∀ (k : Nat), TI (Town.after { t with net := t.net.eraseIdx k } m.to.toNat ((t.X m.to.toNat).step m).1 a) (T + 1) ∧ m.to.toNat < t.n ∧ m.to = (m.to.toNat : Int) ∧ ((t.X m.to.toNat).step m).2 = 0 ∧ AfterOk { t with net := t.net.eraseIdx k } m.to.toNat ((t.X m.to.toNat).step m).1 a (T + 1) := fun (m : Msg) (hm : m ∈ t.net) (k : Nat) => by
    obtain ⟨j, e1, e2, c, hc, hr⟩ := kS m hm
    have := TI.after (t := { t with net := t.net.eraseIdx k }) (a := a) hr e2 h7 hT1 (net' k) h3
    have ej : m.to.toNat = j := by omega
    exact ⟨by rw [ej, hc]; exact this.1, by rw [ej]; exact e2, by omega, by rw [ej, hc], by rw [ej, hc]; exact this.2⟩
  have pC := ((h.up (Nat.le_succ T)).crash hi).1.safe t.n (Nat.le_refl _)
  have hup : ∀ (net : List Msg), (∀ m ∈ net, S m) → TI { t with net := net } (T + 1) := fun net hnet => TI.of (S := S) (h1.up (Nat.le_succ T)) hnet h3
  refine ⟨?_, ⟨fun hk => (pP hk).2, fun hk => (pA hk).2, fun hk => pT.2, fun hk m hm => (pS m (List.mem_of_getElem? hm) _).2, fun hk => pC.2, fun _ _ _ _ _ _ _ => p0.2⟩⟩
  unfold Town.act
  split
  · next hk => exact (pP hk).1
  · split
    · next hk => exact (pA hk).1
    · split
      · exact pT.1
      · split
        · split
          · exact h.up (Nat.le_succ T)
          · next m hm =>
            have hmem := List.mem_of_getElem? hm
            unfold Town.deliver
            split
            · refine hup _ (fun m' hm' => ?_)
              rcases List.mem_append.1 hm' with e | e
              · exact h2 m' e
              · rw [List.mem_singleton.1 e]; exact h2 m hmem
            · split
              · exact hup _ (net' _)
              · exact (pS m hmem _).1
        · split
          · exact pC.1
          · exact p0.1
end

/-- A new town. -/
def Town.new (n : Nat) : Town := ⟨n, fun i => newND s00 i n, fun _ => [], [], [], fun _ => none, 0⟩
theorem TI.new (n : Nat) : TI (Town.new n) 0 := by
  refine ⟨fun _ => False, ⟨fun _ => [], fun _ => none, fun _ => [], fun _ _ => [], fun _ _ => False, fun _ _ => none, fun _ _ => 0⟩, ⟨?_, fun i hi => ?_, fun m hm => hm.elim⟩, fun i hi => ⟨Int.le_refl _, Nat.le_refl _, fun x hx => (by cases hx)⟩, fun m hm => hm.elim, fun m hm => (by cases hm), fun i hi => rfl, ⟨0, Or.inl rfl⟩, fun e i he => (by cases he)⟩
  · refine ⟨fun e x hx => (by cases hx), fun e i j x y hij hx hy => (by simp at hx), fun e k x hx => (by simp at hx), fun e h => rfl, fun e c h => h.elim, fun e c h => h.elim, fun e c h => h.elim, fun e c h => h.elim, fun v e c h => (by cases h), fun e c h => (by cases h), fun v e c h h2 => (by cases h2), fun v e => Nat.le_refl _⟩
  · exact {
      ids := ⟨rfl, rfl⟩
      ep0 := Int.le_refl _
      ents := fun x hx => by cases hx
      mono := fun i j x y hij hx hy => by simp [newND, s00, Town.new] at hx
      good := fun k x hx => by simp [newND, s00, Town.new] at hx
      cdep := fun e h => h.elim
      vote := Or.inl ⟨rfl, rfl⟩
      fut := fun e h => rfl
      role := Or.inl rfl
      cand := fun h => by cases h
      prim := fun h => by cases h
      acep := fun e h => by cases h
      keep := fun e m hm => Or.inl (by obtain rfl : m = 0 := by have : m ≤ 0 := hm; omega
                                       exact Agree.zero _ _)
      commit := ⟨Nat.zero_le _, Or.inl rfl⟩ }

end Go.Proofs.Ytlgoenimjmiapaa

/-! A town's bounds. -/
namespace Go.Proofs.Ytlgoenimjmiapaa

/-- Few notes, few messages, short entries. -/
structure NS.Few (c : NS) (a b : Nat) : Prop where
  ns : c.ns.length ≤ a
  ms : c.ms.length ≤ b
  data : ∀ y ∈ c.ns, y.ent.data.length ≤ 2
section
variable {c : NS} {a b : Nat} {q : ND}
theorem NS.Few.start (q : ND) : NS.Few ⟨q, [], []⟩ 0 0 := ⟨Nat.le_refl _, Nat.le_refl _, fun y h => by cases h⟩
theorem NS.Few.note (h : c.Few a b) {t : Nt} (ht : t.ent.data.length ≤ 2) : (c.note t).Few (a + 1) b := by
  refine ⟨?_, h.ms, fun y hy => ?_⟩
  · show (c.ns ++ [t]).length ≤ _
    have := h.ns
    simp; omega
  · have hy : y ∈ c.ns ++ [t] := hy
    rcases List.mem_append.1 hy with e | e
    · exact h.data y e
    · rw [List.mem_singleton.1 e]; exact ht
theorem NS.Few.sent (h : c.Few a b) (m : Msg) : (c.sent m).Few a (b + 1) := by
  refine ⟨h.ns, ?_, h.data⟩
  have := h.ms
  simp [NS.sent]; omega
theorem NS.Few.ship (h : c.Few a b) (i : Nat) : (c.ship i).Few a (b + 1) := by
  refine ⟨h.ns, ?_, h.data⟩
  have := h.ms
  simp [NS.ship]; omega
theorem NS.Few.ships (h : c.Few a b) (hn : c.q.n ≤ 7) : c.ships.Few a (b + 7) := by
  refine ⟨h.ns, ?_, h.data⟩
  have := h.ms
  have := ships_len c.q c.q.n
  simp [NS.ships]; omega
theorem NS.Few.asks (h : c.Few a b) (hn : c.q.n ≤ 7) : c.asks.Few a (b + 7) := by
  refine ⟨h.ns, ?_, h.data⟩
  have := h.ms
  have := asks_len c.q (c.q.granted.getD []) c.q.n
  simp [NS.asks]; omega
theorem NS.Few.of (h : c.Few a b) {c' : NS} (h1 : c'.ns = c.ns) (h2 : c'.ms = c.ms) : c'.Few a b := ⟨by rw [h1]; exact h.ns, by rw [h2]; exact h.ms, by rw [h1]; exact h.data⟩
theorem NS.Few.up (h : c.Few a b) {a' b' : Nat} (h1 : a ≤ a') (h2 : b ≤ b') : c.Few a' b' := ⟨Nat.le_trans h.ns h1, Nat.le_trans h.ms h2, h.data⟩
theorem NS.Few.count (h : c.Few a b) (hn : c.q.n ≤ 7) : c.count.Few (a + 1) (b + 7) := by
  unfold NS.count
  split
  · exact h.up (by omega) (by omega)
  · have h1 : (c.lead).Few a b := h.of rfl rfl
    have h2 := (h1.note (t := ⟨3, 0, 0, ⟨c.q.st.ep, []⟩⟩) (by simp)).ships (by exact hn)
    exact h2.of rfl rfl
theorem few_promote (hn : q.n ≤ 7) : q.promote.1.Few 2 14 := by
  unfold ND.promote
  split
  · exact (NS.Few.start q).up (by omega) (by omega)
  · have h1 := (NS.Few.start q).note (t := ⟨1, q.st.ep + 1, (q.id : Int), ⟨0, []⟩⟩) (by simp)
    have h2 : (NS.note ⟨q, [], []⟩ ⟨1, q.st.ep + 1, (q.id : Int), ⟨0, []⟩⟩).cand.Few 1 0 := h1.of rfl rfl
    exact (h2.asks (by exact hn)).count (by exact hn)
theorem few_append (hn : q.n ≤ 7) {d : List UInt8} (hd : d.length ≤ 2) : (q.append d).1.Few 2 14 := by
  have h0 : NS.Few ⟨q, [], []⟩ 2 14 := (NS.Few.start q).up (by omega) (by omega)
  unfold ND.append
  split
  · exact h0
  · split
    · exact h0
    · split
      · exact h0
      · have h1 := ((NS.Few.start q).note (t := ⟨3, 0, 0, ⟨q.st.ep, d⟩⟩) hd).ships (by exact hn)
        exact (h1.of (c' := ((NS.note ⟨q, [], []⟩ ⟨3, 0, 0, ⟨q.st.ep, d⟩⟩).ships).rise) rfl rfl).up (by omega) (by omega)
theorem few_tick (hn : q.n ≤ 7) : q.tick.Few 2 14 := by
  unfold ND.tick
  split
  · exact ((NS.Few.start q).ships (by exact hn)).up (by omega) (by omega)
  · split
    · exact ((NS.Few.start q).asks (by exact hn)).up (by omega) (by omega)
    · exact (NS.Few.start q).up (by omega) (by omega)
theorem NS.Few.puts (l : List Ent) (hl : ∀ y ∈ l, y.data.length ≤ 2) : ∀ {c : NS} {a b : Nat}, c.Few a b → (c.puts l).Few (a + l.length) b := by
  induction l with
  | nil => intro c a b h; exact h
  | cons y r ih =>
    intro c a b h
    have h1 := ih (fun z hz => hl z (List.mem_cons_of_mem _ hz)) (h.note (t := ⟨3, 0, 0, y⟩) (hl y (List.mem_cons_self ..)))
    have e : c.puts (y :: r) = (c.note ⟨3, 0, 0, y⟩).puts r := rfl
    rw [e]
    exact h1.up (by simp; omega) (Nat.le_refl _)
theorem few_takes (h : c.Few a b) {m : Msg} (hm : ∀ y ∈ m.log, y.data.length ≤ 2) : (c.takes m).Few (a + 1 + m.log.length) (b + 1) := by
  unfold NS.takes
  simp only
  generalize hi : sameN (c.q.st.log.drop m.at_.toNat) m.log = i
  have h2 : (if i < m.log.length ∧ m.at_ + (i : Int) < (c.q.st.log.length : Int) then c.note ⟨2, 0, m.at_ + (i : Int), ⟨0, []⟩⟩ else c).Few (a + 1) b := by
    split
    · exact h.note (by simp)
    · exact h.up (by omega) (by omega)
  have h3 := NS.Few.puts (m.log.drop i) (fun y hy => hm y (List.mem_of_mem_drop hy)) h2
  have h4 := (h3.of (c' := (NS.puts (if i < m.log.length ∧ m.at_ + (i : Int) < (c.q.st.log.length : Int) then c.note ⟨2, 0, m.at_ + (i : Int), ⟨0, []⟩⟩ else c) (m.log.drop i)).rises (min m.commit (m.at_ + (m.log.length : Int)))) rfl rfl).sent ⟨4, 0, m.frm, 0, m.at_ + (m.log.length : Int), 0, 0, []⟩
  exact h4.up (by simp) (Nat.le_refl _)
theorem few_step (hn : q.n ≤ 7) {m : Msg} (hm : ∀ y ∈ m.log, y.data.length ≤ 2) : (q.step m).1.Few (3 + m.log.length) 14 := by
  have h0 : NS.Few ⟨q, [], []⟩ (3 + m.log.length) 14 := (NS.Few.start q).up (by omega) (by omega)
  have hfn : (q.front m).q.n = q.n := by unfold ND.front; split <;> rfl
  have h1 : (q.front m).Few 1 0 := by
    unfold ND.front
    split
    · have := (NS.Few.start q).note (t := ⟨1, m.ep, -1, ⟨0, []⟩⟩) (by simp)
      exact this.of rfl rfl
    · exact (NS.Few.start q).up (by omega) (by omega)
  unfold ND.step
  split
  · exact h0
  · generalize hc : q.front m = c at *
    split
    · show (if m.kind = 1 ∨ m.kind = 3 then c.sent (nackMsg m) else c).Few _ _
      split
      · exact (h1.sent _).up (by omega) (by omega)
      · exact h1.up (by omega) (by omega)
    · show (c.act m).Few _ _
      have hst : c.stands.Few 1 0 := by
        unfold NS.stands
        split
        · exact h1.of rfl rfl
        · exact h1
      unfold NS.act
      split
      · unfold NS.asked
        split
        · exact h1.up (by omega) (by omega)
        · split
          · exact ((h1.note (by simp)).sent _).up (by omega) (by omega)
          · split
            · exact (h1.sent _).up (by omega) (by omega)
            · exact h1.up (by omega) (by omega)
      · split
        · unfold NS.grants
          split
          · have h2 : (c.vote m.frm).Few 1 0 := h1.of rfl rfl
            exact (h2.count (by show c.q.n ≤ 7; omega)).up (by omega) (by omega)
          · exact h1.up (by omega) (by omega)
        · split
          · unfold NS.shipped
            split
            · exact (hst.sent _).up (by omega) (by omega)
            · split
              · exact hst.up (by omega) (by omega)
              · exact (few_takes hst hm).up (by omega) (by omega)
          · split
            · unfold NS.acks
              split
              · exact ⟨Nat.le_trans (show _ ≤ 1 from h1.ns) (Nat.le_trans (by decide : 1 ≤ 3) (Nat.le_add_right _ _)), Nat.le_trans (show _ ≤ 0 from h1.ms) (Nat.zero_le _), h1.data⟩
              · exact h1.up (by omega) (by omega)
            · split
              · unfold NS.nacks
                split
                · have h2 : (c.setHas m.frm.toNat (max m.at_ (c.q.acked.getD m.frm.toNat 0))).Few 1 0 := h1.of rfl rfl
                  exact (h2.ship _).up (by omega) (by omega)
                · exact h1.up (by omega) (by omega)
              · exact h1.up (by omega) (by omega)
end

/-- A town's bounds: behind D deeds, its epochs and logs within T. -/
structure TB (t : Town) (T D : Nat) : Prop where
  notes : ∀ i, (t.notes i).length ≤ D * 2060
  ents : ∀ i, ∀ y ∈ t.notes i, y.ent.data.length ≤ 2
  net : t.net.length ≤ 300 + T
  done : t.done.length ≤ T
  lead : ∀ e j, t.lead e = some j → 0 ≤ e ∧ e ≤ (T : Int)

section
variable {t : Town} {T D i : Nat} {c : NS} {a : Deed}
theorem TB.new (n : Nat) : TB (Town.new n) 0 0 := ⟨fun i => Nat.zero_le _, fun i y hy => (by cases hy), Nat.zero_le _, Nat.le_refl _, fun e j h => (by cases h)⟩
theorem TB.up (h : TB t T D) {T' D' : Nat} (hT : T ≤ T') (hD : D ≤ D') : TB t T' D' := ⟨fun i => Nat.le_trans (h.notes i) (Nat.mul_le_mul_right _ hD), h.ents, by have := h.net; omega, by have := h.done; omega, fun e j he => by have := h.lead e j he; omega⟩
theorem TB.works (h : TB t T D) {b : Nat} (hc : c.Few 2060 b) : TB (t.works i c a) T (D + 1) := by
  have key : ∀ l : List Nt, (∀ y ∈ l, y ∈ c.ns) → l.length ≤ 2060 → (∀ j, (updN t.notes i (t.notes i ++ l) j).length ≤ (D + 1) * 2060) ∧ ∀ j, ∀ y ∈ updN t.notes i (t.notes i ++ l) j, y.ent.data.length ≤ 2 := fun l hl hl2 => by
    refine ⟨fun j => ?_, fun j y hy => ?_⟩
    · unfold updN
      have h1 := h.notes i
      have h2 := h.notes j
      have h3 : (D + 1) * 2060 = D * 2060 + 2060 := Nat.succ_mul D 2060
      rw [h3]
      split
      · rw [List.length_append]; exact Nat.add_le_add h1 hl2
      · exact Nat.le_trans h2 (Nat.le_add_right _ _)
    · unfold updN at hy
      split at hy
      · rcases List.mem_append.1 hy with e | e
        · exact h.ents i y e
        · exact hc.data y (hl y e)
      · exact h.ents j y hy
  unfold Town.works
  split
  · obtain ⟨k1, k2⟩ := key (c.ns.take (a.kept c)) (fun y hy => List.mem_of_mem_take hy) (by have := hc.ns; rw [List.length_take]; omega)
    exact ⟨k1, k2, h.net, h.done, h.lead⟩
  · obtain ⟨k1, k2⟩ := key c.ns (fun y hy => hy) hc.ns
    refine ⟨k1, k2, ?_, h.done, h.lead⟩
    show (t.net ++ c.ms.take (300 - t.net.length)).length ≤ _
    have := h.net
    rw [List.length_append, List.length_take]
    omega
theorem TB.safe (h : TB t T D) (hq : ∀ i, i < t.n → 0 ≤ (t.X i).st.ep ∧ (t.X i).st.ep ≤ (T : Int) ∧ (t.X i).st.log.length ≤ T) : ∀ k, k ≤ t.n → TB (t.safe k) T D
  | 0, _ => h
  | k + 1, hk => by
    have h1 := TB.safe h hq k (by omega)
    have hk1 := hq k (by omega)
    have hX : (t.safe k).X = t.X := (safe_n t k).2.1
    refine ⟨h1.notes, h1.ents, h1.net, ?_, fun e j he => ?_⟩
    · show (if (t.safe k).done.length < ((t.safe k).X k).commit then ((t.safe k).X k).st.log.take ((t.safe k).X k).commit else (t.safe k).done).length ≤ T
      split
      · rw [List.length_take, hX]; omega
      · exact h1.done
    · have he : (if ((t.safe k).X k).role = 2 then setL (t.safe k).lead ((t.safe k).X k).st.ep (k : Int) else (t.safe k).lead) e = some j := he
      split at he
      · unfold setL at he
        split at he
        · next hx => rw [hx, hX]; exact ⟨hk1.1, hk1.2.1⟩
        · exact h1.lead e j he
      · exact h1.lead e j he
theorem TB.after (h : TB t T D) {b T' : Nat} (hT : T ≤ T') (hc : c.Few 2060 b) (ho : AfterOk t i c a T') : TB (t.after i c a) T' (D + 1) := by
  refine ((h.up hT (Nat.le_refl _)).works hc).safe (fun j hj => ?_) _ (by rw [works_n]; exact Nat.le_refl _)
  have := ho.fine.fit j (by show j < (t.after i c a).n; unfold Town.after; rw [(safe_n _ _).1]; exact hj)
  have hX : (t.after i c a).X = (t.works i c a).X := by unfold Town.after; rw [(safe_n _ _).2.1]
  rw [hX] at this
  exact ⟨this.1.ep, this.2.2.2.2.1, this.2.2.2.2.2⟩
theorem TB.act (h : TB t T D) (ht : TI t T) (h0 : 0 < t.n) (hN : t.n % 2 = 1) (h7 : t.n ≤ 7) (hT : T < 2048) (a : Deed) : TB (t.act a) (T + 1) (D + 1) := by
  obtain ⟨h1, ho⟩ := ht.act h0 hN h7 hT a
  have hf := ht.fine h7 (by omega)
  have hi := modN_lt a.i h0
  have hu := h.up (Nat.le_succ T) (Nat.le_succ D)
  have hle : T ≤ T + 1 := Nat.le_succ T
  unfold Town.act
  split
  · next hk => exact h.after hle ((few_promote (hf.fit _ hi).1.n7).up (by omega) (Nat.le_refl _)) (ho.promote hk).2
  · split
    · next hk =>
      have hb : TB { t with asked := t.asked + 1 } T D := ⟨h.notes, h.ents, h.net, h.done, h.lead⟩
      exact hb.after hle ((few_append (hf.fit _ hi).1.n7 (d := t.data) (by simp [Town.data])).up (by omega) (Nat.le_refl _)) (ho.append hk).2
    · split
      · next hk => exact h.after hle ((few_tick (hf.fit _ hi).1.n7).up (by omega) (Nat.le_refl _)) (ho.tick hk)
      · split
        · split
          · exact hu
          · next m hm =>
            unfold Town.deliver
            split
            · refine ⟨hu.notes, hu.ents, ?_, hu.done, hu.lead⟩
              have := h.net
              show (t.net ++ [m]).length ≤ _
              simp; omega
            · have hle2 := List.length_eraseIdx_le t.net (modN a.k t.net.length)
              have hb : TB { t with net := t.net.eraseIdx (modN a.k t.net.length) } T D := ⟨h.notes, h.ents, by have := h.net; show (t.net.eraseIdx _).length ≤ _; omega, h.done, h.lead⟩
              split
              · exact hb.up (Nat.le_succ T) (Nat.le_succ D)
              · next h5 h4 =>
                have hk3 : a.kind = 3 := by omega
                obtain ⟨e1, e2, e3, e4⟩ := ho.step hk3 m hm
                have hmf := hf.net m (List.mem_of_getElem? hm)
                exact hb.after hle ((few_step (hf.fit _ e1).1.n7 hmf.2.2.2).up (by have := hmf.2.1; omega) (Nat.le_refl _)) e4
        · split
          · have hc : TB (t.crash (modN a.i t.n)) (T + 1) (D + 1) := ⟨hu.notes, hu.ents, hu.net, hu.done, hu.lead⟩
            refine hc.safe (fun j hj => ?_) _ (Nat.le_refl _)
            have := ((ht.crash hi).1.fine h7 (by omega)).fit j hj
            exact ⟨this.1.ep, by have := this.2.2.2.2.1; omega, by have := this.2.2.2.2.2; omega⟩
          · next h0' h1' h2' h3' h6' => exact h.after hle ((NS.Few.start _).up (by omega) (Nat.le_refl 0)) (ho.none h0' h1' h2' (by omega) (by omega) (by omega) h6')
theorem asked_safe (t : Town) (k : Nat) : (t.safe k).asked = t.asked := (safe_n t k).2.2.2.2
theorem asked_works (t : Town) (i : Nat) (c : NS) (a : Deed) : (t.works i c a).asked = t.asked := by
  unfold Town.works
  split <;> rfl
theorem asked_act (t : Town) (a : Deed) : (t.act a).asked ≤ t.asked + 1 := by
  have ha : ∀ (t : Town) i c a, (t.after i c a).asked = t.asked := fun t i c a => by unfold Town.after; rw [asked_safe, asked_works]
  unfold Town.act
  split
  · rw [ha]; omega
  · split
    · rw [ha]; exact Nat.le_refl _
    · split
      · rw [ha]; omega
      · split
        · split
          · omega
          · unfold Town.deliver
            split
            · exact Nat.le_succ _
            · split
              · exact Nat.le_succ _
              · rw [ha]; exact Nat.le_succ _
        · split
          · rw [asked_safe]; exact Nat.le_succ _
          · rw [ha]; omega
end
end Go.Proofs.Ytlgoenimjmiapaa
