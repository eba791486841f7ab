/- Operations that may come in any order: what an operation asks and what it brings about, told apart; what it looks at. -/
import Derived.Test.YtcmhpndhloplpaaPalI
namespace Go.Pal
open Go.RowKit

abbrev HU := List (Nat × Option OB)
abbrev PO := Option (Hp → Prop)

def PK (p : PO) (G : Hp) (k : Hp → Prop) : Prop := match p with
  | none => k G
  | some q => ∀ G', Grow G G' → q G' → k G'

def FE (sv sv' : SV) : Prop := match sv with
  | .c (.sb b) => (b = true ∧ sv' = tt) ∨ (b = false ∧ sv' = ff)
  | sv => sv' = sv

theorem fork_iff {sv : SV} {K : SV → Prop} : fork sv K ↔ ∀ sv', FE sv sv' → K sv' := by
  unfold fork FE
  split
  · rename_i b
    constructor
    · rintro h sv' (⟨e, rfl⟩ | ⟨e, rfl⟩)
      · exact (h.t e).out
      · exact (h.f e).out
    · intro h
      exact ⟨fun e => ⟨h _ (.inl ⟨e, rfl⟩)⟩, fun e => ⟨h _ (.inr ⟨e, rfl⟩)⟩⟩
  · rename_i hne
    constructor
    · intro h sv' e
      split at e
      · exact absurd rfl (hne _)
      · subst e; exact h
    · intro h
      refine h _ ?_
      split
      · exact absurd rfl (hne _)
      · rfl

theorem pur_uniq {P : Program} {s : Sem Value} {r r' : Value} (h : ∀ w, s.run P w = .ok r w) (h' : ∀ w, s.run P w = .ok r' w) : r = r' := by
  have := (h default).symm.trans (h' default)
  injection this

theorem keyFind_uniq {P : Program} {kt : TypeId} {kv : Value} {es : Array MapEntry} {r r' : Option Nat} (h : KeyFind P kt kv es r) (h' : KeyFind P kt kv es r') : r = r' := by
  have := (h.find default).symm.trans (h'.find default)
  cases r <;> cases r' <;> simp_all [mapAt]

/-! ### What is asked, and what comes of it -/

def ObC (Gr : Hp) (args : List Value) : PSpec → Prop
  | .fn pre _ => pre args Gr
  | .sca pre _ => pre args Gr
  | .rel pre _ => pre args Gr
  | .own _ _ pre _ => pre args Gr
  | .st _ _ => False
  | .seq _ _ => False
def EfC (hid : Nat) (Gr : Hp) (args : List Value) : PSpec → SV → HU → PO → Prop
  | .fn _ val, sv, hu, p => FE (SV.of (val args)) sv ∧ hu = [] ∧ p = none
  | .sca _ post, sv, hu, p => ∃ v, post args Gr v ∧ FE (SV.of v) sv ∧ hu = [] ∧ p = none
  | .rel _ post, sv, hu, p => ∃ v, FE (SV.of v) sv ∧ hu = [] ∧ p = some (post args v)
  | .own t k _ post, sv, hu, p => ∃ n vs, sv = .c (.row hid n) ∧ hu = [(hid, some (.row none n vs t k))] ∧ p = some (post args n vs)
  | .st _ _, _, _, _ => False
  | .seq _ _, _, _, _ => False

def Ob (P : Program) (Gr : Hp) : Res → Prop
  | .ok _ => True
  | .obl φ r => φ ∧ Ob P Gr r
  | .ite φ r s => (φ → Ob P Gr r) ∧ (¬ φ → Ob P Gr s)
  | .rdk b off n cont => ∃ cs : List Value, cs.length = n ∧ CellsAt Gr b off cs ∧ Ob P Gr (cont cs)
  | .eqk l n cont => ∃ cs : List Value, l = cs ∧ cs.length = n ∧ Ob P Gr (cont cs)
  | .eqs l n cont => ∃ cs : List S1, l = cs ∧ cs.length = n ∧ Ob P Gr (cont cs)
  | .keyk kt kv es cont => ∃ r, KeyFind P kt kv es r ∧ Ob P Gr (cont r)
  | .pur s cont => ∃ r, (∀ w, s.run P w = .ok r w) ∧ Ob P Gr (cont r)
  | .new _ _ => True
  | .set _ _ _ => True
  | .app .. => True
  | .call s args => ObC Gr args s
  | .callv _ _ _ => False
  | .bad => False
def Ef (P : Program) (hid : Nat) (Gr : Hp) : Res → SV → HU → PO → Prop
  | .ok sv, sv', hu, p => FE sv sv' ∧ hu = [] ∧ p = none
  | .obl _ r, sv', hu, p => Ef P hid Gr r sv' hu p
  | .ite φ r s, sv', hu, p => (φ ∧ Ef P hid Gr r sv' hu p) ∨ (¬ φ ∧ Ef P hid Gr s sv' hu p)
  | .rdk b off n cont, sv', hu, p => ∃ cs : List Value, cs.length = n ∧ CellsAt Gr b off cs ∧ Ef P hid Gr (cont cs) sv' hu p
  | .eqk l n cont, sv', hu, p => ∃ cs : List Value, l = cs ∧ cs.length = n ∧ Ef P hid Gr (cont cs) sv' hu p
  | .eqs l n cont, sv', hu, p => ∃ cs : List S1, l = cs ∧ cs.length = n ∧ Ef P hid Gr (cont cs) sv' hu p
  | .keyk kt kv es cont, sv', hu, p => ∃ r, KeyFind P kt kv es r ∧ Ef P hid Gr (cont r) sv' hu p
  | .pur s cont, sv', hu, p => ∃ r, (∀ w, s.run P w = .ok r w) ∧ Ef P hid Gr (cont r) sv' hu p
  | .new ob sv, sv', hu, p => sv' = sv ∧ hu = [(hid, some ob)] ∧ p = none
  | .set h ob sv, sv', hu, p => sv' = sv ∧ hu = [(h, some ob)] ∧ p = none
  | .app hs n vs t k, sv', hu, p => sv' = .c (.row hid n) ∧ p = none ∧ match hs with
    | some h => hu = [(h, none), (hid, some (.row none n vs t k))]
    | none => hu = [(hid, some (.row none n vs t k))]
  | .call s args, sv', hu, p => EfC hid Gr args s sv' hu p
  | .callv _ _ _, _, _, _ => False
  | .bad, _, _, _ => False

/-- No call of a value; what is called keeps its results as more is published. -/
def MonoS (args : List Value) : PSpec → Prop
  | .rel _ post => ∀ v G G', Grow G G' → post args v G → post args v G'
  | .own _ _ _ post => ∀ n vs G G', Grow G G' → post args n vs G → post args n vs G'
  | _ => True
def Rok : Res → Prop
  | .obl _ r => Rok r
  | .ite _ r s => Rok r ∧ Rok s
  | .rdk _ _ _ cont => ∀ cs, Rok (cont cs)
  | .eqk _ _ cont => ∀ cs, Rok (cont cs)
  | .eqs _ _ cont => ∀ cs, Rok (cont cs)
  | .keyk _ _ _ cont => ∀ r, Rok (cont r)
  | .pur _ cont => ∀ r, Rok (cont r)
  | .call s args => MonoS args s
  | .callv _ _ _ => False
  | _ => True
/-- The own blocks that turn. -/
def Keys (S : Nat → Prop) (hid : Nat) : Res → Prop
  | .obl _ r => Keys S hid r
  | .ite _ r s => Keys S hid r ∧ Keys S hid s
  | .rdk _ _ _ cont => ∀ cs, Keys S hid (cont cs)
  | .eqk _ _ cont => ∀ cs, Keys S hid (cont cs)
  | .eqs _ _ cont => ∀ cs, Keys S hid (cont cs)
  | .keyk _ _ _ cont => ∀ r, Keys S hid (cont r)
  | .pur _ cont => ∀ r, Keys S hid (cont r)
  | .set h _ _ => S h
  | .app hs _ _ _ _ => ∀ h, hs = some h → S h
  | _ => True
/-- No call. -/
def Still : Res → Prop
  | .obl _ r => Still r
  | .ite _ r s => Still r ∧ Still s
  | .rdk _ _ _ cont => ∀ cs, Still (cont cs)
  | .eqk _ _ cont => ∀ cs, Still (cont cs)
  | .eqs _ _ cont => ∀ cs, Still (cont cs)
  | .keyk _ _ _ cont => ∀ r, Still (cont r)
  | .pur _ cont => ∀ r, Still (cont r)
  | .call _ _ => False
  | .callv _ _ _ => False
  | _ => True

section
variable {P : Program} {hid : Nat} {Gr G : Hp} {K : SV → HU → Hp → Prop}

theorem denCall_iff {args : List Value} {s : PSpec} : denCall hid Gr G K args s ↔ ObC Gr args s ∧ ∀ sv hu p, EfC hid Gr args s sv hu p → PK p G (K sv hu) := by
  cases s with
  | st pre post => exact ⟨fun h => h.elim, fun h => h.1.elim⟩
  | seq pre post => exact ⟨fun h => h.elim, fun h => h.1.elim⟩
  | fn pre val =>
    constructor
    · rintro ⟨h, ⟨k⟩⟩
      refine ⟨h, ?_⟩
      rintro sv hu p ⟨h1, rfl, rfl⟩
      exact fork_iff.1 k sv h1
    · rintro ⟨h, k⟩
      exact ⟨h, ⟨fork_iff.2 fun sv hsv => k sv [] none ⟨hsv, rfl, rfl⟩⟩⟩
  | sca pre post =>
    constructor
    · rintro ⟨h, k⟩
      refine ⟨h, ?_⟩
      rintro sv hu p ⟨v, hv, h1, rfl, rfl⟩
      exact fork_iff.1 (k v hv).out sv h1
    · rintro ⟨h, k⟩
      exact ⟨h, fun v hv => ⟨fork_iff.2 fun sv hsv => k sv [] none ⟨v, hv, hsv, rfl, rfl⟩⟩⟩
  | rel pre post =>
    constructor
    · rintro ⟨h, k⟩
      refine ⟨h, ?_⟩
      rintro sv hu p ⟨v, h1, rfl, rfl⟩ G' hg hv
      exact fork_iff.1 (k v G' hg hv).out sv h1
    · rintro ⟨h, k⟩
      exact ⟨h, fun v G' hg hv => ⟨fork_iff.2 fun sv hsv => k sv [] _ ⟨v, hsv, rfl, rfl⟩ G' hg hv⟩⟩
  | own t kk pre post =>
    constructor
    · rintro ⟨h, k⟩
      refine ⟨h, ?_⟩
      rintro sv hu p ⟨n, vs, rfl, rfl, rfl⟩ G' hg hv
      exact (k n vs G' hg hv).out
    · rintro ⟨h, k⟩
      exact ⟨h, fun n vs G' hg hv => ⟨k _ _ _ ⟨n, vs, rfl, rfl, rfl⟩ G' hg hv⟩⟩

theorem den_iff {r : Res} (hr : Rok r) : r.den P hid Gr G K ↔ Ob P Gr r ∧ ∀ sv hu p, Ef P hid Gr r sv hu p → PK p G (K sv hu) := by
  induction r with
  | ok sv =>
    constructor
    · intro h
      refine ⟨trivial, ?_⟩
      rintro sv' hu p ⟨h1, rfl, rfl⟩
      exact fork_iff.1 h sv' h1
    · rintro ⟨_, h⟩
      exact fork_iff.2 fun sv' h1 => h sv' [] none ⟨h1, rfl, rfl⟩
  | obl φ r ih =>
    have ih := ih hr
    constructor
    · rintro ⟨h, ⟨k⟩⟩
      exact ⟨⟨h, (ih.1 k).1⟩, (ih.1 k).2⟩
    · rintro ⟨⟨h, k⟩, k2⟩
      exact ⟨h, ⟨ih.2 ⟨k, k2⟩⟩⟩
  | ite φ r s ih1 ih2 =>
    have ih1 := ih1 hr.1
    have ih2 := ih2 hr.2
    constructor
    · rintro ⟨h1, h2⟩
      refine ⟨⟨fun e => (ih1.1 (h1 e).out).1, fun e => (ih2.1 (h2 e).out).1⟩, ?_⟩
      rintro sv hu p (⟨e, k⟩ | ⟨e, k⟩)
      · exact (ih1.1 (h1 e).out).2 _ _ _ k
      · exact (ih2.1 (h2 e).out).2 _ _ _ k
    · rintro ⟨⟨h1, h2⟩, k⟩
      exact ⟨fun e => ⟨ih1.2 ⟨h1 e, fun sv hu p h => k sv hu p (.inl ⟨e, h⟩)⟩⟩, fun e => ⟨ih2.2 ⟨h2 e, fun sv hu p h => k sv hu p (.inr ⟨e, h⟩)⟩⟩⟩
  | rdk b off n cont ih =>
    constructor
    · rintro ⟨cs, h1, h2, ⟨k⟩⟩
      have k := (ih cs (hr cs)).1 k
      refine ⟨⟨cs, h1, h2, k.1⟩, ?_⟩
      rintro sv hu p ⟨cs', h1', h2', k'⟩
      have : cs' = cs := h2'.eq h2 (by omega)
      subst this
      exact k.2 _ _ _ k'
    · rintro ⟨⟨cs, h1, h2, k⟩, k2⟩
      exact ⟨cs, h1, h2, ⟨(ih cs (hr cs)).2 ⟨k, fun sv hu p h => k2 sv hu p ⟨cs, h1, h2, h⟩⟩⟩⟩
  | eqk l n cont ih =>
    constructor
    · rintro ⟨cs, h1, h2, ⟨k⟩⟩
      have k := (ih cs (hr cs)).1 k
      refine ⟨⟨cs, h1, h2, k.1⟩, ?_⟩
      rintro sv hu p ⟨cs', h1', h2', k'⟩
      have : cs' = cs := h1'.symm.trans h1
      subst this
      exact k.2 _ _ _ k'
    · rintro ⟨⟨cs, h1, h2, k⟩, k2⟩
      exact ⟨cs, h1, h2, ⟨(ih cs (hr cs)).2 ⟨k, fun sv hu p h => k2 sv hu p ⟨cs, h1, h2, h⟩⟩⟩⟩
  | eqs l n cont ih =>
    constructor
    · rintro ⟨cs, h1, h2, ⟨k⟩⟩
      have k := (ih cs (hr cs)).1 k
      refine ⟨⟨cs, h1, h2, k.1⟩, ?_⟩
      rintro sv hu p ⟨cs', h1', h2', k'⟩
      have : cs' = cs := h1'.symm.trans h1
      subst this
      exact k.2 _ _ _ k'
    · rintro ⟨⟨cs, h1, h2, k⟩, k2⟩
      exact ⟨cs, h1, h2, ⟨(ih cs (hr cs)).2 ⟨k, fun sv hu p h => k2 sv hu p ⟨cs, h1, h2, h⟩⟩⟩⟩
  | keyk kt kv es cont ih =>
    constructor
    · rintro ⟨r, h1, ⟨k⟩⟩
      have k := (ih r (hr r)).1 k
      refine ⟨⟨r, h1, k.1⟩, ?_⟩
      rintro sv hu p ⟨r', h1', k'⟩
      have := keyFind_uniq h1' h1
      subst this
      exact k.2 _ _ _ k'
    · rintro ⟨⟨r, h1, k⟩, k2⟩
      exact ⟨r, h1, ⟨(ih r (hr r)).2 ⟨k, fun sv hu p h => k2 sv hu p ⟨r, h1, h⟩⟩⟩⟩
  | pur s cont ih =>
    constructor
    · rintro ⟨r, h1, ⟨k⟩⟩
      have k := (ih r (hr r)).1 k
      refine ⟨⟨r, h1, k.1⟩, ?_⟩
      rintro sv hu p ⟨r', h1', k'⟩
      have := pur_uniq h1' h1
      subst this
      exact k.2 _ _ _ k'
    · rintro ⟨⟨r, h1, k⟩, k2⟩
      exact ⟨r, h1, ⟨(ih r (hr r)).2 ⟨k, fun sv hu p h => k2 sv hu p ⟨r, h1, h⟩⟩⟩⟩
  | new ob sv =>
    constructor
    · intro h
      refine ⟨trivial, ?_⟩
      rintro sv' hu p ⟨rfl, rfl, rfl⟩
      exact h
    · rintro ⟨_, h⟩
      exact h sv _ none ⟨rfl, rfl, rfl⟩
  | set h' ob sv =>
    constructor
    · intro h
      refine ⟨trivial, ?_⟩
      rintro sv' hu p ⟨rfl, rfl, rfl⟩
      exact h
    · rintro ⟨_, h⟩
      exact h sv _ none ⟨rfl, rfl, rfl⟩
  | app hs n vs t k =>
    cases hs with
    | none =>
      constructor
      · intro h
        refine ⟨trivial, ?_⟩
        rintro sv' hu p ⟨rfl, rfl, rfl⟩
        exact h
      · rintro ⟨_, h⟩
        exact h _ _ none ⟨rfl, rfl, rfl⟩
    | some h' =>
      constructor
      · intro h
        refine ⟨trivial, ?_⟩
        rintro sv' hu p ⟨rfl, rfl, rfl⟩
        exact h
      · rintro ⟨_, h⟩
        exact h _ _ none ⟨rfl, rfl, rfl⟩
  | call s args => exact denCall_iff
  | callv H v args => exact hr.elim
  | bad => exact ⟨fun h => h.elim, fun h => h.1.elim⟩

theorem EfC_mono {args : List Value} {s : PSpec} (hs : MonoS args s) {sv : SV} {hu : HU} {q : Hp → Prop} (h : EfC hid Gr args s sv hu (some q)) : ∀ G G', Grow G G' → q G → q G' := by
  cases s with
  | fn pre val => obtain ⟨_, _, e⟩ := h; cases e
  | sca pre post => obtain ⟨_, _, _, _, e⟩ := h; cases e
  | rel pre post => obtain ⟨v, _, _, e⟩ := h; cases e; exact hs v
  | own t k pre post => obtain ⟨n, vs, _, _, e⟩ := h; cases e; exact hs n vs
  | st pre post => exact h.elim
  | seq pre post => exact h.elim
theorem Ef_mono {r : Res} (hr : Rok r) {sv : SV} {hu : HU} {q : Hp → Prop} (h : Ef P hid Gr r sv hu (some q)) : ∀ G G', Grow G G' → q G → q G' := by
  induction r with
  | ok sv => cases h.2.2
  | obl φ r ih => exact ih hr h
  | ite φ r s ih1 ih2 => exact h.elim (fun h => ih1 hr.1 h.2) (fun h => ih2 hr.2 h.2)
  | rdk b off n cont ih => obtain ⟨cs, _, _, h⟩ := h; exact ih cs (hr cs) h
  | eqk l n cont ih => obtain ⟨cs, _, _, h⟩ := h; exact ih cs (hr cs) h
  | eqs l n cont ih => obtain ⟨cs, _, _, h⟩ := h; exact ih cs (hr cs) h
  | keyk kt kv es cont ih => obtain ⟨r, _, h⟩ := h; exact ih r (hr r) h
  | pur s cont ih => obtain ⟨r, _, h⟩ := h; exact ih r (hr r) h
  | new ob sv => cases h.2.2
  | set h' ob sv => cases h.2.2
  | app hs n vs t k => cases h.2.1
  | call s args => exact EfC_mono hr h
  | callv H v args => exact hr.elim
  | bad => exact h.elim

theorem Ef_keys {S : Nat → Prop} {r : Res} (hr : Keys S hid r) {sv : SV} {hu : HU} {p : PO} (h : Ef P hid Gr r sv hu p) : ∀ q ∈ hu, q.1 = hid ∨ S q.1 := by
  induction r with
  | ok sv => obtain ⟨_, rfl, _⟩ := h; intro q hq; cases hq
  | obl φ r ih => exact ih hr h
  | ite φ r s ih1 ih2 => exact h.elim (fun h => ih1 hr.1 h.2) (fun h => ih2 hr.2 h.2)
  | rdk b off n cont ih => obtain ⟨cs, _, _, h⟩ := h; exact ih cs (hr cs) h
  | eqk l n cont ih => obtain ⟨cs, _, _, h⟩ := h; exact ih cs (hr cs) h
  | eqs l n cont ih => obtain ⟨cs, _, _, h⟩ := h; exact ih cs (hr cs) h
  | keyk kt kv es cont ih => obtain ⟨r, _, h⟩ := h; exact ih r (hr r) h
  | pur s cont ih => obtain ⟨r, _, h⟩ := h; exact ih r (hr r) h
  | new ob sv => obtain ⟨_, rfl, _⟩ := h; intro q hq; simp only [List.mem_singleton] at hq; subst hq; exact .inl rfl
  | set h' ob sv => obtain ⟨_, rfl, _⟩ := h; intro q hq; simp only [List.mem_singleton] at hq; subst hq; exact .inr hr
  | app hs n vs t k =>
    obtain ⟨_, _, e⟩ := h
    cases hs with
    | none => subst e; intro q hq; simp only [List.mem_singleton] at hq; subst hq; exact .inl rfl
    | some h' =>
      simp only at e
      subst e; intro q hq
      simp only [List.mem_cons, List.not_mem_nil, or_false] at hq
      rcases hq with rfl | rfl
      · exact .inr (hr h' rfl)
      · exact .inl rfl
  | call s args =>
    cases s with
    | fn pre val => obtain ⟨_, rfl, _⟩ := h; intro q hq; cases hq
    | sca pre post => obtain ⟨_, _, _, rfl, _⟩ := h; intro q hq; cases hq
    | rel pre post => obtain ⟨_, _, rfl, _⟩ := h; intro q hq; cases hq
    | own t k pre post => obtain ⟨n, vs, _, rfl, _⟩ := h; intro q hq; simp only [List.mem_singleton] at hq; subst hq; exact .inl rfl
    | st pre post => exact h.elim
    | seq pre post => exact h.elim
  | callv H v args => exact h.elim
  | bad => exact h.elim

theorem Ef_still {r : Res} (hr : Still r) {sv : SV} {hu : HU} {p : PO} (h : Ef P hid Gr r sv hu p) : p = none := by
  induction r with
  | ok sv => exact h.2.2
  | obl φ r ih => exact ih hr h
  | ite φ r s ih1 ih2 => exact h.elim (fun h => ih1 hr.1 h.2) (fun h => ih2 hr.2 h.2)
  | rdk b off n cont ih => obtain ⟨cs, _, _, h⟩ := h; exact ih cs (hr cs) h
  | eqk l n cont ih => obtain ⟨cs, _, _, h⟩ := h; exact ih cs (hr cs) h
  | eqs l n cont ih => obtain ⟨cs, _, _, h⟩ := h; exact ih cs (hr cs) h
  | keyk kt kv es cont ih => obtain ⟨r, _, h⟩ := h; exact ih r (hr r) h
  | pur s cont ih => obtain ⟨r, _, h⟩ := h; exact ih r (hr r) h
  | new ob sv => exact h.2.2
  | set h' ob sv => exact h.2.2
  | app hs n vs t k => exact h.2.1
  | call s args => exact hr.elim
  | callv H v args => exact hr.elim
  | bad => exact h.elim

/-- What is read as more is published is what was read. -/
theorem still_grow {r : Res} (hr : Still r) {Gr' : Hp} (hg : Grow Gr Gr') (ho : Ob P Gr r) : Ob P Gr' r ∧ ∀ sv hu p, Ef P hid Gr' r sv hu p → Ef P hid Gr r sv hu p := by
  induction r with
  | obl φ r ih => exact ⟨⟨ho.1, (ih hr ho.2).1⟩, (ih hr ho.2).2⟩
  | ite φ r s ih1 ih2 =>
    refine ⟨⟨fun e => (ih1 hr.1 (ho.1 e)).1, fun e => (ih2 hr.2 (ho.2 e)).1⟩, ?_⟩
    rintro sv hu p (⟨e, h⟩ | ⟨e, h⟩)
    · exact .inl ⟨e, (ih1 hr.1 (ho.1 e)).2 _ _ _ h⟩
    · exact .inr ⟨e, (ih2 hr.2 (ho.2 e)).2 _ _ _ h⟩
  | rdk b off n cont ih =>
    obtain ⟨cs, h1, h2, h3⟩ := ho
    have ih := ih cs (hr cs) h3
    refine ⟨⟨cs, h1, h2.grow hg, ih.1⟩, ?_⟩
    rintro sv hu p ⟨cs', h1', h2', h⟩
    have : cs' = cs := h2'.eq (h2.grow hg) (by omega)
    subst this
    exact ⟨cs', h1, h2, ih.2 _ _ _ h⟩
  | eqk l n cont ih =>
    obtain ⟨cs, h1, h2, h3⟩ := ho
    have ih := ih cs (hr cs) h3
    refine ⟨⟨cs, h1, h2, ih.1⟩, ?_⟩
    rintro sv hu p ⟨cs', h1', h2', h⟩
    have : cs' = cs := h1'.symm.trans h1
    subst this
    exact ⟨cs', h1, h2, ih.2 _ _ _ h⟩
  | eqs l n cont ih =>
    obtain ⟨cs, h1, h2, h3⟩ := ho
    have ih := ih cs (hr cs) h3
    refine ⟨⟨cs, h1, h2, ih.1⟩, ?_⟩
    rintro sv hu p ⟨cs', h1', h2', h⟩
    have : cs' = cs := h1'.symm.trans h1
    subst this
    exact ⟨cs', h1, h2, ih.2 _ _ _ h⟩
  | keyk kt kv es cont ih =>
    obtain ⟨r, h1, h2⟩ := ho
    have ih := ih r (hr r) h2
    refine ⟨⟨r, h1, ih.1⟩, ?_⟩
    rintro sv hu p ⟨r', h1', h⟩
    have := keyFind_uniq h1' h1
    subst this
    exact ⟨r', h1, ih.2 _ _ _ h⟩
  | pur s cont ih =>
    obtain ⟨r, h1, h2⟩ := ho
    have ih := ih r (hr r) h2
    refine ⟨⟨r, h1, ih.1⟩, ?_⟩
    rintro sv hu p ⟨r', h1', h⟩
    have := pur_uniq h1' h1
    subst this
    exact ⟨r', h1, ih.2 _ _ _ h⟩
  | call s args => exact hr.elim
  | callv H v args => exact hr.elim
  | _ => exact ⟨ho, fun _ _ _ h => h⟩
end

/-! ### What an operation looks at -/

def looksP : List (Nat × Opd) → List Nat
  | [] => []
  | (_, x) :: r => x.looks ++ looksP r
def looksO : Option Opd → List Nat
  | none => []
  | some x => x.looks
def IOp.looks : IOp → List Nat
  | .mv x => x.looks
  | .pick c a b => c.looks ++ a.looks ++ b.looks
  | .bin _ x y => x.looks ++ y.looks
  | .un _ x => x.looks
  | .conv _ x => x.looks
  | .box _ x => x.looks
  | .alloc _ _ => []
  | .load _ _ x => x.looks
  | .store _ x v => x.looks ++ v.looks
  | .faddr _ x => x.looks
  | .iaddr _ x i => x.looks ++ i.looks
  | .fld _ _ _ x => x.looks
  | .bld _ _ parts => looksP parts
  | .bsl _ _ _ _ parts => looksP parts
  | .bslp _ _ _ _ parts => looksP parts
  | .len x => x.looks
  | .lenS x => x.looks
  | .app _ _ _ s x => s.looks ++ x.looks
  | .nilc x => x.looks
  | .ext x _ => x.looks
  | .call _ args => looksL args
  | .callv x args => x.looks ++ looksL args
  | .mm _ x y => x.looks ++ y.looks
  | .slc _ x lo hi top => x.looks ++ looksO lo ++ looksO hi ++ looksO top
  | .mks _ _ _ _ n => n.looks
  | .aaddr _ _ x i => x.looks ++ i.looks
  | .mkf _ first caps => looksL first ++ looksL caps
  | .mkm => []
  | .lkp _ _ _ x key => x.looks ++ key.looks
  | .mup _ m key v => m.looks ++ key.looks ++ v.looks
  | .pur _ xs => looksL xs
def IOp.isCall : IOp → Bool
  | .call .. => true
  | .callv .. => true
  | .bslp .. => true
  | _ => false
def IOp.mod : IOp → Bool
  | .store .. => true
  | .app .. => true
  | .mup .. => true
  | _ => false
def IOp.noH : IOp → Bool
  | .load .. => false
  | .store .. => false
  | .iaddr .. => false
  | .app .. => false
  | .call .. => false
  | .callv .. => false
  | .slc .. => false
  | .mkf .. => false
  | .lkp .. => false
  | .mup .. => false
  | .pur .. => false
  | _ => true

section
variable {tab : FuncId → Option PSpec} {fr fr' : Nat → SV} {H H' : Nat → Option OB} {hid : Nat}

theorem opd_congr {x : Opd} (h : ∀ t ∈ x.looks, fr t = fr' t) : x.ev fr = x.ev fr' := by
  cases x with
  | t i => exact h i (by simp [Opd.looks])
  | k v => rfl
  | f g => rfl
theorem evArgs_congr : ∀ {l : List Opd}, (∀ t ∈ looksL l, fr t = fr' t) → evArgs fr l = evArgs fr' l
  | [], _ => rfl
  | x :: r, h => by
    simp only [evArgs, opd_congr (x := x) (fun t ht => h t (by simp [looksL, ht])), evArgs_congr (l := r) (fun t ht => h t (by simp [looksL, ht]))]
theorem evParts_congr : ∀ {l : List (Nat × Opd)}, (∀ t ∈ looksP l, fr t = fr' t) → evParts fr l = evParts fr' l
  | [], _ => rfl
  | (i, x) :: r, h => by
    simp only [evParts, opd_congr (x := x) (fun t ht => h t (by simp [looksP, ht])), evParts_congr (l := r) (fun t ht => h t (by simp [looksP, ht]))]

theorem bndR_congr {x : Option Opd} {d : Nat} {cont : Int → Res} (h : ∀ t ∈ looksO x, fr t = fr' t) : bndR fr x d cont = bndR fr' x d cont := by
  cases x with
  | none => rfl
  | some y => simp only [bndR, opd_congr (x := y) h]

theorem ev_congr {op : IOp} (h : ∀ t ∈ op.looks, fr t = fr' t) : ev tab fr H hid op = ev tab fr' H hid op := by
  cases op with
  | mv x => simp only [ev, opd_congr (x := x) h]
  | pick c a b => simp only [ev, opd_congr (x := c) (fun t ht => h t (by simp [IOp.looks, ht])), opd_congr (x := a) (fun t ht => h t (by simp [IOp.looks, ht])), opd_congr (x := b) (fun t ht => h t (by simp [IOp.looks, ht]))]
  | bin _ x y => simp only [ev, opd_congr (x := x) (fun t ht => h t (by simp [IOp.looks, ht])), opd_congr (x := y) (fun t ht => h t (by simp [IOp.looks, ht]))]
  | un _ x => simp only [ev, opd_congr (x := x) h]
  | conv _ x => simp only [ev, opd_congr (x := x) h]
  | box _ x => simp only [ev, opd_congr (x := x) h]
  | alloc _ _ => rfl
  | load _ _ x => simp only [ev, opd_congr (x := x) h]
  | store _ x y => simp only [ev, opd_congr (x := x) (fun t ht => h t (by simp [IOp.looks, ht])), opd_congr (x := y) (fun t ht => h t (by simp [IOp.looks, ht]))]
  | faddr _ x => simp only [ev, opd_congr (x := x) h]
  | iaddr _ x y => simp only [ev, opd_congr (x := x) (fun t ht => h t (by simp [IOp.looks, ht])), opd_congr (x := y) (fun t ht => h t (by simp [IOp.looks, ht]))]
  | fld _ _ _ x => simp only [ev, opd_congr (x := x) h]
  | bld _ _ parts => simp only [ev, evParts_congr (l := parts) h]
  | bsl _ _ _ _ parts => simp only [ev, evParts_congr (l := parts) h]
  | bslp _ _ _ _ parts => simp only [ev, evParts_congr (l := parts) h]
  | len x => simp only [ev, opd_congr (x := x) h]
  | lenS x => simp only [ev, opd_congr (x := x) h]
  | app _ _ _ x y => simp only [ev, opd_congr (x := x) (fun t ht => h t (by simp [IOp.looks, ht])), opd_congr (x := y) (fun t ht => h t (by simp [IOp.looks, ht]))]
  | nilc x => simp only [ev, opd_congr (x := x) h]
  | ext x _ => simp only [ev, opd_congr (x := x) h]
  | call _ args => simp only [ev, evArgs_congr (l := args) h]
  | callv x args => simp only [ev, opd_congr (x := x) (fun t ht => h t (by simp [IOp.looks, ht])), evArgs_congr (l := args) (fun t ht => h t (by simp [IOp.looks, ht]))]

  | mm _ x y => simp only [ev, opd_congr (x := x) (fun t ht => h t (by simp [IOp.looks, ht])), opd_congr (x := y) (fun t ht => h t (by simp [IOp.looks, ht]))]
  | slc k x lo hi top => simp only [ev, opd_congr (x := x) (fun t ht => h t (by simp [IOp.looks, ht])), bndR_congr (x := lo) (fun t ht => h t (by simp [IOp.looks, ht])), bndR_congr (x := hi) (fun t ht => h t (by simp [IOp.looks, ht])), bndR_congr (x := top) (fun t ht => h t (by simp [IOp.looks, ht]))]
  | mks _ _ _ _ n => simp only [ev, opd_congr (x := n) h]
  | aaddr _ _ x y => simp only [ev, opd_congr (x := x) (fun t ht => h t (by simp [IOp.looks, ht])), opd_congr (x := y) (fun t ht => h t (by simp [IOp.looks, ht]))]
  | mkf f first caps => simp only [ev, evArgs_congr (l := first) (fun t ht => h t (by simp [IOp.looks, ht])), evArgs_congr (l := caps) (fun t ht => h t (by simp [IOp.looks, ht]))]

  | mkm => rfl
  | pur _ xs => simp only [ev, evArgs_congr (l := xs) h]
  | lkp _ _ _ x y => simp only [ev, opd_congr (x := x) (fun t ht => h t (by simp [IOp.looks, ht])), opd_congr (x := y) (fun t ht => h t (by simp [IOp.looks, ht]))]
  | mup _ x y z => simp only [ev, opd_congr (x := x) (fun t ht => h t (by simp [IOp.looks, ht])), opd_congr (x := y) (fun t ht => h t (by simp [IOp.looks, ht])), opd_congr (x := z) (fun t ht => h t (by simp [IOp.looks, ht]))]

theorem ev_noH {op : IOp} (h : op.noH = true) : ev tab fr H hid op = ev tab fr H' hid op := by
  cases op <;> first | rfl | (simp [IOp.noH] at h)

theorem srcR_all {k : Nat} {x : SV} {cont : Nat → List Value → Res} {Z : Res → Prop} (hb : Z .bad) (ho : ∀ φ r, Z r → Z (.obl φ r)) (hr : ∀ b off n c, (∀ cs, Z (c cs)) → Z (.rdk b off n c)) (hc : ∀ m us, Z (cont m us)) : Z (srcR H k x cont) := by
  unfold srcR
  split
  · split
    · cases Nat.beq _ k with
      | true => exact ho _ _ (hc _ _)
      | false => exact hb
    · exact hb
  · exact ho _ _ (hr _ _ _ _ fun cs => ho _ _ (hc _ _))
  · exact hb

theorem binR_all {op : BinOp} {x y : S1} {Z : Res → Prop} (hb : Z .bad) (ho : ∀ φ r, Z r → Z (.obl φ r)) (hi : ∀ φ r s, Z r → Z s → Z (.ite φ r s)) (hk : ∀ sv, Z (.ok sv)) : Z (binR op x y) := by
  unfold binR
  split
  · rename_i k a k' b
    cases decide (k = k') with
    | true =>
      simp only [cond_true]
      split <;> first | exact hb | exact ho _ _ (hk _) | exact hi _ _ _ (hk _) (hk _)
    | false => exact hb
  · exact hb

theorem ev_all {op : IOp} {Z : Res → Prop} (hb : Z .bad) (ho : ∀ φ r, Z r → Z (.obl φ r)) (hi : ∀ φ r s, Z r → Z s → Z (.ite φ r s)) (hk : ∀ sv, Z (.ok sv)) (hr : ∀ b off n c, (∀ cs, Z (c cs)) → Z (.rdk b off n c)) (he : ∀ l n c, (∀ cs, Z (c cs)) → Z (.eqk l n c)) (hes : ∀ l n c, (∀ cs, Z (c cs)) → Z (.eqs l n c)) (hky : ∀ kt kv es c, (∀ r, Z (c r)) → Z (.keyk kt kv es c)) (hpu : ∀ s c, (∀ r, Z (c r)) → Z (.pur s c))
    (hn : ∀ ob sv, Z (.new ob sv)) (hs : ∀ h ob ob' sv, op.mod = true → H h = some ob' → Z (.set h ob sv)) (ha : ∀ hs n vs t k, (∀ h, hs = some h → op.mod = true ∧ ∃ ob, H h = some ob) → Z (.app hs n vs t k)) (hc : ∀ f s args, op.isCall = true → tab f = some s → Z (.call s args)) (hv : ∀ H v args, op.isCallv = true → Z (.callv H v args)) (hbp : ∀ n vs, op.isCall = true → Z (.call (rowS n vs) [])) : Z (ev tab fr H hid op) := by
  cases op with
  | bin op x y => simp only [ev]; split <;> first | exact hb | exact binR_all hb ho hi hk
  | app t k bytes s x =>
    simp only [ev]
    split
    · split
      · rename_i hH
        cases (Nat.beq _ k && Nat.beq _ t) with
        | true => exact srcR_all hb ho hr fun m us => ho _ _ (ho _ _ (ha _ _ _ _ _ (fun h e => by cases e; exact ⟨rfl, _, hH⟩)))
        | false => exact hb
      · exact hb
    · exact srcR_all hb ho hr fun m us => ho _ _ (ha _ _ _ _ _ (fun h e => by cases e))
    · exact hb
  | load n agg x =>
    simp only [ev]
    split
    · split
      · cases Nat.beq _ n with
        | true => exact hk _
        | false => exact hb
      · exact hb
    · split
      · exact he _ _ _ fun cs => hk _
      · exact hb
    · split
      · exact hes _ _ _ fun cs => hk _
      · exact hb
    · exact hr _ _ _ _ fun cs => hk _
    · exact hb
  | store n x v =>
    simp only [ev]
    split
    · split
      · rename_i hH
        cases (Nm.own _ && allOne _ && Nat.beq _ n && Nat.ble _ _) with
        | true => exact hs _ _ _ _ rfl hH
        | false => exact hb
      · exact hb
    · split
      · rename_i hH
        cases (Nm.own _ && allOne _ && Nat.beq _ n) with
        | true => exact ho _ _ (hs _ _ _ _ rfl hH)
        | false => exact hb
      · exact hb
    · split
      · rename_i hH
        split
        · cases (allOne _ && Nat.beq _ n) with
          | true => exact ho _ _ (hs _ _ _ _ rfl hH)
          | false => exact hb
        · exact hb
      · exact hb
    · exact hb
  | iaddr k x i =>
    simp only [ev]
    split
    · split
      · exact ho _ _ (ho _ _ (hk _))
      · split
        · cases Nat.beq _ k with
          | true => exact ho _ _ (ho _ _ (hk _))
          | false => exact hb
        · exact hb
      · exact hb
    · exact hb
  | call f args =>
    simp only [ev]
    split
    · split
      · exact hc _ _ _ rfl ‹_›
      · exact hb
    · exact hb
  | callv x args =>
    simp only [ev]
    split
    · split
      · exact hv _ _ _ rfl
      · exact hb
    · exact hb
  | box t x =>
    simp only [ev]
    cases allOne _ with
    | true => exact hn _ _
    | false => exact hb
  | fld off n agg x =>
    simp only [ev]
    split
    · cases Nat.beq _ n with
      | true => exact hk _
      | false => exact hb
    · exact hb
  | bsl t k len zs parts =>
    simp only [ev]
    split
    · split
      · cases allOne _ with
        | true => exact hn _ _
        | false => exact hb
      · exact hb
    · exact hb
  | bslp t k len zs parts =>
    simp only [ev]
    split
    · split
      · cases allOne _ with
        | true => exact hbp _ _ rfl
        | false => exact hb
      · exact hb
    · exact hb
  | slc k x lo hi top =>
    simp only [ev]
    have bnd : ∀ {y : Option Opd} {d : Nat} {cont : Int → Res}, (∀ i, Z (cont i)) → Z (bndR fr y d cont) := fun {y d cont} h => by
      cases y with
      | none => exact h _
      | some z =>
        simp only [bndR]
        split
        · exact h _
        · exact hb
    split
    · exact bnd fun l => bnd fun h => bnd fun m => ho _ _ (hk _)
    · exact hb
  | mks t k bytes zs n =>
    simp only [ev]
    split
    · exact ho _ _ (hn _ _)
    · exact hb
  | lkp kt z ok x key =>
    simp only [ev]
    split
    · split
      · split
        · exact hky _ _ _ _ fun r => hk _
        · exact hb
      · exact hky _ _ _ _ fun r => hk _
      · exact hb
    · exact hb
  | mup kt m key v =>
    simp only [ev]
    split
    · split
      · split
        · split
          · rename_i hH
            exact hky _ _ _ _ fun r => hs _ _ _ _ rfl hH
          · exact hb
        · exact hb
      · exact hb
    · exact hb
  | mkm => exact hn _ _
  | pur p xs =>
    simp only [ev]
    split
    · exact hpu _ _ fun r => hk _
    · exact hb
  | _ =>
    simp only [ev]
    repeat' split
    all_goals first | exact hb | exact hk _ | exact ho _ _ (hk _) | exact hn _ _

theorem ev_rok {P : Program} (T : Tab P) {op : IOp} (h : op.isCallv = false) : Rok (ev T.get fr H hid op) :=
  ev_all (Z := Rok) trivial (fun _ _ h => h) (fun _ _ _ h h' => ⟨h, h'⟩) (fun _ => trivial) (fun _ _ _ _ h => h) (fun _ _ _ h => h) (fun _ _ _ h => h) (fun _ _ _ _ h => h) (fun _ _ h => h) (fun _ _ => trivial) (fun _ _ _ _ _ _ => trivial) (fun _ _ _ _ _ _ => trivial)
    (fun f s args _ hf => by
      have := (T.ok f s hf).1
      cases s with
      | fn => trivial
      | sca => trivial
      | rel pre post => exact this.1 args
      | own t k pre post => exact this.1 args
      | st pre post => trivial
      | seq pre post => trivial) (fun _ _ _ e => by rw [h] at e; cases e) (fun _ _ _ => fun _ _ _ hg ⟨a, c, e, hp⟩ => ⟨a, c, e, hp.grow hg⟩)
theorem ev_keys {op : IOp} : Keys (fun k => op.mod = true ∧ (H k).isSome) hid (ev tab fr H hid op) :=
  ev_all (Z := Keys (fun k => op.mod = true ∧ (H k).isSome) hid) trivial (fun _ _ h => h) (fun _ _ _ h h' => ⟨h, h'⟩) (fun _ => trivial) (fun _ _ _ _ h => h) (fun _ _ _ h => h) (fun _ _ _ h => h) (fun _ _ _ _ h => h) (fun _ _ h => h) (fun _ _ => trivial)
    (fun h ob ob' sv hm e => ⟨hm, by rw [e]; rfl⟩) (fun hs n vs t k h h1 e => let ⟨hm, ob, e2⟩ := h h1 e; ⟨hm, by rw [e2]; rfl⟩) (fun _ _ _ _ _ => trivial) (fun _ _ _ _ => trivial) (fun _ _ _ => trivial)
theorem ev_still {op : IOp} (h : op.isCall = false) : Still (ev tab fr H hid op) :=
  ev_all (Z := Still) trivial (fun _ _ h => h) (fun _ _ _ h h' => ⟨h, h'⟩) (fun _ => trivial) (fun _ _ _ _ h => h) (fun _ _ _ h => h) (fun _ _ _ h => h) (fun _ _ _ _ h => h) (fun _ _ h => h) (fun _ _ => trivial) (fun _ _ _ _ _ _ => trivial) (fun _ _ _ _ _ _ => trivial)
    (fun _ _ _ e _ => by rw [h] at e; cases e) (fun _ _ _ e => by cases op <;> simp_all [IOp.isCall, IOp.isCallv]) (fun _ _ e => by rw [h] at e; cases e)
end
end Go.Pal
