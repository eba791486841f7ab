/- A region that draws its order: what is asked in the order of the text is enough. -/
import Derived.Test.YtcmhpndhloplpaaPalL
namespace Go.Pal
open Go.RowKit

/-! ### One operation with its guard -/

def grd (g : Option (Nat × Bool)) (fr : Nat → SV) : Option Bool := match g with
  | none => some true
  | some (i, w) => match fr i with
    | .c (.val (.bool true)) => some w
    | .c (.val (.bool false)) => some (!w)
    | .c (.val (.tuple _)) => some false
    | _ => none
theorem guardK_iff {o : IOper} {σ : St} {f : Bool → Prop} : guardK o σ f ↔ ∃ b, grd o.guard σ.fr = some b ∧ f b := by
  unfold guardK grd
  cases o.guard with
  | none => simp
  | some p =>
    obtain ⟨i, w⟩ := p
    simp only
    generalize σ.fr i = x
    constructor
    · intro h
      split at h
      · exact ⟨w, rfl, h⟩
      · exact ⟨!w, rfl, h⟩
      · exact ⟨false, rfl, h⟩
      · exact h.elim
    · rintro ⟨b, hb, h⟩
      split at hb
      · cases hb; exact h
      · cases hb; exact h
      · cases hb; exact h
      · cases hb

def baseOf (o : IOper) (B G : Hp) : Hp := cond o.early B G

def TOb (P : Program) (tab : FuncId → Option PSpec) (bd : Nat) (B : Hp) (o : IOper) (σ : St) : Prop :=
  ∃ b, grd o.guard σ.fr = some b ∧ (b = true → Ob P (baseOf o B σ.G) (ev tab σ.fr (view bd o σ.H) o.hid o.op))
def TEf (P : Program) (tab : FuncId → Option PSpec) (bd : Nat) (B : Hp) (o : IOper) (σ : St) (sv : SV) (hu : HU) (p : PO) : Prop :=
  ∃ b, grd o.guard σ.fr = some b ∧ match b with
    | true => Ef P o.hid (baseOf o B σ.G) (ev tab σ.fr (view bd o σ.H) o.hid o.op) sv hu p
    | false => sv = undefSV ∧ hu = [] ∧ p = none

def vis (bd : Nat) (o : IOper) (k : Nat) : Bool := match o.al with
  | none => true
  | some l => (!o.loc && Nat.blt k bd) || memN k l

def IOper.looks (o : IOper) : List Nat := o.op.looks ++ (match o.guard with
  | some (g, _) => [g]
  | none => [])

section
variable {P : Program} {bd : Nat} {B : Hp}

theorem TI_iff (T : Tab P) {o : IOper} {σ : St} {K : St → Prop} (h : o.op.isCallv = false) :
    TI P T.get bd B o σ K ↔ TOb P T.get bd B o σ ∧ ∀ sv hu p, TEf P T.get bd B o σ sv hu p → PK p σ.G fun G' => K (σ.app o.dst sv hu G') := by
  unfold TI
  rw [guardK_iff]
  constructor
  · rintro ⟨b, hb, h1⟩
    cases b with
    | true =>
      have h2 := (den_iff (ev_rok T h)).1 h1
      refine ⟨⟨true, hb, fun _ => h2.1⟩, ?_⟩
      rintro sv hu p ⟨b', hb', h3⟩
      rw [hb] at hb'; cases hb'
      exact h2.2 _ _ _ h3
    | false =>
      refine ⟨⟨false, hb, fun e => by cases e⟩, ?_⟩
      rintro sv hu p ⟨b', hb', h3⟩
      rw [hb] at hb'; cases hb'
      obtain ⟨rfl, rfl, rfl⟩ := h3
      exact h1
  · rintro ⟨⟨b, hb, h1⟩, h2⟩
    refine ⟨b, hb, ?_⟩
    cases b with
    | true => exact (den_iff (ev_rok T h)).2 ⟨h1 rfl, fun sv hu p h3 => h2 sv hu p ⟨true, hb, h3⟩⟩
    | false => exact h2 undefSV [] none ⟨false, hb, rfl, rfl, rfl⟩

theorem view_vis {o : IOper} {H : Nat → Option OB} {k : Nat} : view bd o H k = cond (vis bd o k) (H k) none := by
  unfold view vis
  cases o.al <;> rfl

/-- Two states that an operation cannot tell apart. -/
theorem T_congr {tab : FuncId → Option PSpec} {o : IOper} {σ σ' : St} (hl : ∀ t ∈ o.looks, σ.fr t = σ'.fr t) (hv : o.op.noH = true ∨ view bd o σ.H = view bd o σ'.H) :
    grd o.guard σ.fr = grd o.guard σ'.fr ∧ ev tab σ.fr (view bd o σ.H) o.hid o.op = ev tab σ'.fr (view bd o σ'.H) o.hid o.op := by
  constructor
  · unfold grd
    cases hg : o.guard with
    | none => rfl
    | some p =>
      obtain ⟨i, w⟩ := p
      have := hl i (by simp [IOper.looks, hg])
      simp only [this]
  · rw [ev_congr (fun t ht => hl t (by simp [IOper.looks, ht]))]
    rcases hv with h | h
    · exact ev_noH h
    · rw [h]

theorem TEf_keys {tab : FuncId → Option PSpec} {o : IOper} {σ : St} {sv : SV} {hu : HU} {p : PO} (h : TEf P tab bd B o σ sv hu p) : ∀ q ∈ hu, q.1 = o.hid ∨ (o.op.mod = true ∧ vis bd o q.1 = true) := by
  obtain ⟨b, _, h⟩ := h
  cases b with
  | true =>
    intro q hq
    rcases Ef_keys ev_keys h q hq with h | ⟨hm, h⟩
    · exact .inl h
    · refine .inr ⟨hm, ?_⟩
      rw [view_vis] at h
      cases hv : vis bd o q.1 with
      | true => rfl
      | false => rw [hv] at h; cases h
  | false => obtain ⟨_, rfl, _⟩ := h; intro q hq; cases hq

theorem TEf_mono (T : Tab P) {o : IOper} (ho : o.op.isCallv = false) {σ : St} {sv : SV} {hu : HU} {q : Hp → Prop} (h : TEf P T.get bd B o σ sv hu (some q)) : ∀ G G', Grow G G' → q G → q G' := by
  obtain ⟨b, _, h⟩ := h
  cases b with
  | true => exact Ef_mono (ev_rok T ho) h
  | false => cases h.2.2

theorem TEf_still {tab : FuncId → Option PSpec} {o : IOper} (ho : o.op.isCall = false) {σ : St} {sv : SV} {hu : HU} {p : PO} (h : TEf P tab bd B o σ sv hu p) : p = none := by
  obtain ⟨b, _, h⟩ := h
  cases b with
  | true => exact Ef_still (ev_still ho) h
  | false => exact h.2.2

/-! ### Own blocks turned in another order -/

def lookU : HU → Nat → Option (Option OB)
  | [], _ => none
  | (h, ob) :: r, k => match lookU r k with
    | some x => some x
    | none => if k = h then some ob else none
theorem updH_look : ∀ {hu : HU} {H : Nat → Option OB} {k : Nat}, updH H hu k = (lookU hu k).getD (H k)
  | [], _, _ => rfl
  | (h, ob) :: r, H, k => by
    simp only [updH, lookU, updH_look (hu := r)]
    cases lookU r k with
    | some x => rfl
    | none =>
      by_cases e : k = h
      · subst e; simp [upd_same]
      · simp [upd_other _ _ e, e]
theorem lookU_none : ∀ {hu : HU} {k : Nat}, (∀ q ∈ hu, q.1 ≠ k) → lookU hu k = none
  | [], _, _ => rfl
  | (h, ob) :: r, k, hk => by
    have h1 := hk (h, ob) (by simp)
    simp only [lookU, lookU_none (hu := r) (fun q hq => hk q (by simp [hq]))]
    rw [if_neg (fun e => h1 e.symm)]
theorem updH_comm {a b : HU} {H : Nat → Option OB} (h : ∀ p ∈ a, ∀ q ∈ b, p.1 ≠ q.1) : updH (updH H a) b = updH (updH H b) a := by
  funext k
  rw [updH_look, updH_look, updH_look, updH_look]
  by_cases ha : ∃ p ∈ a, p.1 = k
  · obtain ⟨p, hp, rfl⟩ := ha
    rw [lookU_none (hu := b) (fun q hq e => h p hp q hq e.symm)]
    rfl
  · rw [lookU_none (hu := a) (fun q hq e => ha ⟨q, hq, e⟩)]
    rfl
theorem view_updH {o : IOper} {H : Nat → Option OB} {hu : HU} (h : ∀ q ∈ hu, vis bd o q.1 = false) : view bd o (updH H hu) = view bd o H := by
  funext k
  rw [view_vis, view_vis, updH_look]
  cases hv : vis bd o k with
  | false => rfl
  | true =>
    rw [lookU_none (fun q hq e => by have := h q hq; rw [e, hv] at this; cases this)]
    rfl

/-! ### Two operations that do not touch each other -/

def dstIn : Option Nat → List Nat → Bool
  | none, _ => false
  | some d, l => memN d l
def dstEq : Option Nat → Option Nat → Bool
  | some a, some b => Nat.beq a b
  | _, _ => false

/-- What x may change lies in its own ancestors' handles, and y sees none of them. -/
def hidden (bd : Nat) (x y : IOper) : Bool := x.loc && match x.al with
  | some l => l.all fun k => !vis bd y k
  | none => false
theorem hidden_spec {bd : Nat} {x y : IOper} (h : hidden bd x y = true) {k : Nat} (hk : vis bd x k = true) : vis bd y k = false := by
  unfold hidden at h
  rw [Bool.and_eq_true] at h
  obtain ⟨h1, h2⟩ := h
  unfold vis at hk
  cases ha : x.al with
  | none => rw [ha] at h2; cases h2
  | some l =>
    rw [ha] at h2 hk
    simp only [h1, Bool.not_true, Bool.false_and, Bool.false_or] at hk
    simp only [List.all_eq_true, Bool.not_eq_true'] at h2
    exact h2 k (memN_iff.1 hk)

/-- x stands ahead of y in the text, and either may come first. -/
def indep (bd : Nat) (x y : IOper) : Bool :=
  !x.op.isCallv && !y.op.isCallv && !dstIn x.dst y.looks && !dstIn y.dst x.looks && !dstEq x.dst y.dst && !vis bd y x.hid && !vis bd x y.hid && !Nat.beq x.hid y.hid &&
    (!x.op.mod || y.op.noH || hidden bd x y) && (!y.op.mod || x.op.noH || hidden bd y x) && (x.early || !y.op.isCall || !x.op.isCall) && (y.early || !x.op.isCall)

structure Indep (bd : Nat) (x y : IOper) : Prop where
  vx : x.op.isCallv = false
  vy : y.op.isCallv = false
  xy : ∀ d, x.dst = some d → d ∉ y.looks
  yx : ∀ d, y.dst = some d → d ∉ x.looks
  dd : ∀ d, x.dst = some d → y.dst ≠ some d
  hx : vis bd y x.hid = false
  hy : vis bd x y.hid = false
  hh : x.hid ≠ y.hid
  mx : x.op.mod = true → y.op.noH = true ∨ hidden bd x y = true
  my : y.op.mod = true → x.op.noH = true ∨ hidden bd y x = true
  gx : x.early = true ∨ y.op.isCall = false ∨ x.op.isCall = false
  gy : y.early = true ∨ x.op.isCall = false

theorem indep_spec {x y : IOper} (h : indep bd x y = true) : Indep bd x y := by
  simp only [indep, Bool.and_eq_true, Bool.not_eq_true', Bool.or_eq_true] at h
  obtain ⟨⟨⟨⟨⟨⟨⟨⟨⟨⟨⟨h1, h2⟩, h3⟩, h4⟩, h5⟩, h6⟩, h7⟩, h8⟩, h9⟩, h10⟩, h11⟩, h12⟩ := h
  refine ⟨h1, h2, ?_, ?_, ?_, h6, h7, ?_, ?_, ?_, ?_, h12⟩
  · intro d e hm
    rw [e] at h3
    have := memN_iff.2 hm
    simp only [dstIn] at h3
    rw [this] at h3; cases h3
  · intro d e hm
    rw [e] at h4
    have := memN_iff.2 hm
    simp only [dstIn] at h4
    rw [this] at h4; cases h4
  · intro d e e2
    rw [e, e2] at h5
    simp only [dstEq, Nat.beq_refl] at h5
    cases h5
  · intro e; rw [e, Nat.beq_refl] at h8; cases h8
  · intro e; rcases h9 with (h | h) | h
    · rw [e] at h; cases h
    · exact .inl h
    · exact .inr h
  · intro e; rcases h10 with (h | h) | h
    · rw [e] at h; cases h
    · exact .inl h
    · exact .inr h
  · rcases h11 with (h | h) | h
    · exact .inl h
    · exact .inr (.inl h)
    · exact .inr (.inr h)

theorem fr_app {σ : St} {dst : Option Nat} {sv : SV} {hu : HU} {G' : Hp} {t : Nat} (h : ∀ d, dst = some d → d ≠ t) : (σ.app dst sv hu G').fr t = σ.fr t := by
  cases dst with
  | none => rfl
  | some d => exact upd_other _ _ (Ne.symm (h d rfl))

/-- What y sees behind x's effect. -/
theorem seen_y {tab : FuncId → Option PSpec} {x y : IOper} (I : Indep bd x y) {σ : St} {sv : SV} {hu : HU} {p : PO} {G' : Hp} (he : TEf P tab bd B x σ sv hu p) :
    grd y.guard (σ.app x.dst sv hu G').fr = grd y.guard σ.fr ∧ ev tab (σ.app x.dst sv hu G').fr (view bd y (σ.app x.dst sv hu G').H) y.hid y.op = ev tab σ.fr (view bd y σ.H) y.hid y.op := by
  refine T_congr (fun t ht => fr_app fun d e e2 => I.xy d e (e2 ▸ ht)) ?_
  by_cases hm : x.op.mod = true ∧ y.op.noH = true
  · exact .inl hm.2
  · refine .inr (view_updH fun q hq => ?_)
    rcases TEf_keys he q hq with h | h
    · rw [h]; exact I.hx
    · rcases I.mx h.1 with h2 | h2
      · exact absurd ⟨h.1, h2⟩ hm
      · exact hidden_spec h2 h.2
theorem seen_x {tab : FuncId → Option PSpec} {x y : IOper} (I : Indep bd x y) {σ : St} {sv : SV} {hu : HU} {p : PO} {G' : Hp} (he : TEf P tab bd B y σ sv hu p) :
    grd x.guard (σ.app y.dst sv hu G').fr = grd x.guard σ.fr ∧ ev tab (σ.app y.dst sv hu G').fr (view bd x (σ.app y.dst sv hu G').H) x.hid x.op = ev tab σ.fr (view bd x σ.H) x.hid x.op := by
  refine T_congr (fun t ht => fr_app fun d e e2 => I.yx d e (e2 ▸ ht)) ?_
  by_cases hm : y.op.mod = true ∧ x.op.noH = true
  · exact .inl hm.2
  · refine .inr (view_updH fun q hq => ?_)
    rcases TEf_keys he q hq with h | h
    · rw [h]; exact I.hy
    · rcases I.my h.1 with h2 | h2
      · exact absurd ⟨h.1, h2⟩ hm
      · exact hidden_spec h2 h.2

theorem app_comm {tab : FuncId → Option PSpec} {x y : IOper} (I : Indep bd x y) {σ : St} {sv sv' : SV} {hu hu' : HU} {p p' : PO} {Ga Gb Gc : Hp} (hx : TEf P tab bd B x σ sv hu p) (hy : TEf P tab bd B y σ sv' hu' p') :
    (σ.app y.dst sv' hu' Ga).app x.dst sv hu Gc = (σ.app x.dst sv hu Gb).app y.dst sv' hu' Gc := by
  have hk : ∀ a ∈ hu', ∀ b ∈ hu, a.1 ≠ b.1 := by
    intro a ha b hb e
    rcases TEf_keys hx b hb with h1 | ⟨m1, v1⟩ <;> rcases TEf_keys hy a ha with h2 | ⟨m2, v2⟩
    · exact I.hh (by rw [← h1, ← h2, e])
    · rw [e, h1] at v2; rw [I.hx] at v2; cases v2
    · rw [← e, h2] at v1; rw [I.hy] at v1; cases v1
    · rcases I.mx m1 with h | h
      · revert h m2
        cases y.op <;> simp [IOp.mod, IOp.noH]
      · rw [← e, ] at v1
        have := hidden_spec h v1
        rw [v2] at this; cases this
  have hH := updH_comm (H := σ.H) hk
  have hfr : ∀ d d' : Nat, x.dst = some d → y.dst = some d' → d ≠ d' := fun d d' e e' h => I.dd d e (h ▸ e')
  unfold St.app
  simp only [hH]
  cases hdx : x.dst with
  | none => cases y.dst <;> rfl
  | some d =>
    cases hdy : y.dst with
    | none => rfl
    | some d' =>
      simp only
      rw [upd_comm _ _ _ (Ne.symm (hfr d d' hdx hdy))]

theorem TEf_seen {tab : FuncId → Option PSpec} {y : IOper} {σ σ' : St} (hs : grd y.guard σ'.fr = grd y.guard σ.fr ∧ ev tab σ'.fr (view bd y σ'.H) y.hid y.op = ev tab σ.fr (view bd y σ.H) y.hid y.op) (hg : y.early = true ∨ σ'.G = σ.G) {sv : SV} {hu : HU} {p : PO} :
    (TEf P tab bd B y σ' sv hu p ↔ TEf P tab bd B y σ sv hu p) ∧ (TOb P tab bd B y σ' ↔ TOb P tab bd B y σ) := by
  have hb : baseOf y B σ'.G = baseOf y B σ.G := by
    rcases hg with h | h
    · simp [baseOf, h]
    · rw [h]
  unfold TEf TOb
  rw [hs.1, hs.2, hb]
  exact ⟨Iff.rfl, Iff.rfl⟩

/-- An operation is done ahead of those that stand ahead of it. -/
theorem pull (T : Tab P) {y : IOper} {post : List IOper} {K : St → Prop} : ∀ {pre : List IOper} {σ : St}, (∀ x ∈ pre, indep bd x y = true) → y.op.isCallv = false → vcOps P T.get bd B (pre ++ y :: post) σ K → TOb P T.get bd B y σ →
    ∀ sv hu p, TEf P T.get bd B y σ sv hu p → PK p σ.G fun G1 => vcOps P T.get bd B (pre ++ post) (σ.app y.dst sv hu G1) K
  | [], σ, _, hy, hv, _, sv, hu, p, he => by
    simp only [List.nil_append, vcOps, TF_eq, pubO_no hy] at hv
    exact ((TI_iff T hy).1 hv).2 sv hu p he
  | x :: pre, σ, hin, hyv, hv, hob, sv, hu, p, he => by
    have I := indep_spec (hin x (by simp))
    simp only [List.cons_append, vcOps, TF_eq, pubO_no I.vx] at hv ⊢
    obtain ⟨obx, hx⟩ := (TI_iff T I.vx).1 hv
    -- behind x's effect, y may be pulled
    have key : ∀ svx hux px, TEf P T.get bd B x σ svx hux px → PK px σ.G fun G' => PK p G' fun G1 => vcOps P T.get bd B (pre ++ post) ((σ.app x.dst svx hux G').app y.dst sv hu G1) K := by
      intro svx hux px hex
      have h1 := hx svx hux px hex
      have go : ∀ G', (y.early = true ∨ G' = σ.G) → vcOps P T.get bd B (pre ++ y :: post) (σ.app x.dst svx hux G') K → PK p G' fun G1 => vcOps P T.get bd B (pre ++ post) ((σ.app x.dst svx hux G').app y.dst sv hu G1) K := by
        intro G' hg hvc
        have hs := TEf_seen (P := P) (B := B) (seen_y I hex (G' := G')) hg (sv := sv) (hu := hu) (p := p)
        exact pull T (fun x hx => hin x (by simp [hx])) hyv hvc (hs.2.2 hob) sv hu p (hs.1.2 he)
      cases px with
      | none => exact go σ.G (.inr rfl) h1
      | some q =>
        intro G' hg hq
        refine go G' ?_ (h1 G' hg hq)
        rcases I.gy with h | h
        · exact .inl h
        · have := TEf_still h hex; cases this
    -- what x asks, and what comes of it, behind y's effect
    have back : ∀ G1, Grow σ.G G1 → (p = none → G1 = σ.G) → TOb P T.get bd B x (σ.app y.dst sv hu G1) ∧ ∀ svx hux px, TEf P T.get bd B x (σ.app y.dst sv hu G1) svx hux px → TEf P T.get bd B x σ svx hux px := by
      intro G1 hg hp
      have hs := seen_x I he (G' := G1)
      by_cases hsame : x.early = true ∨ G1 = σ.G
      · have := fun svx hux px => TEf_seen (P := P) (B := B) hs hsame (sv := svx) (hu := hux) (p := px)
        exact ⟨(this undefSV [] none).2.2 obx, fun svx hux px h => (this svx hux px).1.1 h⟩
      · have hxs : x.op.isCall = false := by
          rcases I.gx with h | h | h
          · exact absurd (.inl h) hsame
          · exact absurd (.inr (hp (TEf_still h he))) hsame
          · exact h
        have hne : x.early = false := by
          cases he : x.early with
          | false => rfl
          | true => exact absurd (.inl he) hsame
        unfold TOb TEf
        rw [hs.1, hs.2]
        obtain ⟨b, hb, hob1⟩ := obx
        simp only [baseOf, hne, cond_false] at hob1 ⊢
        have hgr : Grow σ.G (σ.app y.dst sv hu G1).G := hg
        refine ⟨⟨b, hb, fun e => (still_grow (hid := x.hid) (ev_still hxs) hgr (hob1 e)).1⟩, ?_⟩
        rintro svx hux px ⟨b', hb', h⟩
        rw [hb] at hb'; cases hb'
        refine ⟨b, hb, ?_⟩
        cases b with
        | true => exact (still_grow (hid := x.hid) (ev_still hxs) hgr (hob1 rfl)).2 _ _ _ h
        | false => exact h
    cases p with
    | none =>
      have hb := back σ.G (Grow.refl _) (fun _ => rfl)
      simp only [PK]
      refine (TI_iff T I.vx).2 ⟨hb.1, fun svx hux px hex => ?_⟩
      have hex' := hb.2 _ _ _ hex
      have h1 := key svx hux px hex'
      cases px with
      | none =>
        show vcOps P T.get bd B (pre ++ post) ((σ.app y.dst sv hu σ.G).app x.dst svx hux σ.G) K
        rw [app_comm I hex' he (Ga := σ.G) (Gb := σ.G) (Gc := σ.G)]
        exact h1
      | some q =>
        intro G' hg hq
        rw [app_comm I hex' he (Ga := σ.G) (Gb := G') (Gc := G')]
        exact h1 G' hg hq
    | some q =>
      intro G1 hg hq
      have hb := back G1 hg (fun e => by cases e)
      refine (TI_iff T I.vx).2 ⟨hb.1, fun svx hux px hex => ?_⟩
      have hex' := hb.2 _ _ _ hex
      have h1 := key svx hux px hex'
      cases px with
      | none =>
        show vcOps P T.get bd B (pre ++ post) ((σ.app y.dst sv hu G1).app x.dst svx hux G1) K
        rw [app_comm I hex' he (Ga := G1) (Gb := σ.G) (Gc := G1)]
        exact h1 G1 hg hq
      | some qx =>
        intro G2 hg2 hq2
        rw [app_comm I hex' he (Ga := G1) (Gb := G2) (Gc := G2)]
        exact (h1 G2 (hg.trans hg2) hq2 G2 (Grow.refl _) (TEf_mono T hyv he G1 G2 hg2 hq))
end
end Go.Pal
