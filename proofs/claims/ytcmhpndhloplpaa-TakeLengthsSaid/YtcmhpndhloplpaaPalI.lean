/- One operation of a region in a symbolic state; the intermediate form of regions; a region in the order of the text. -/
import Derived.Test.YtcmhpndhloplpaaPalO
import Derived.TacticsIn
namespace Go.Pal
open Go.RowKit

structure IOper where
  dst : Option Nat
  op : IOp
  guard : Option (Nat × Bool)
  hid : Nat
  /-- the handles of the region that it may look at (none: every handle) -/
  al : Option (List Nat)
  early : Bool
  deps : List Nat
  /-- it looks at handles of its region alone -/
  loc : Bool

def memN (x : Nat) : List Nat → Bool
  | [] => false
  | y :: ys => cond (Nat.beq x y) true (memN x ys)

def view (bd : Nat) (o : IOper) (H : Nat → Option OB) : Nat → Option OB := match o.al with
  | none => H
  | some l => fun h => cond ((!o.loc && Nat.blt h bd) || memN h l) (H h) none

def St.app (σ : St) (dst : Option Nat) (sv : SV) (hu : List (Nat × Option OB)) (G' : Hp) : St :=
  ⟨match dst with
    | some d => upd σ.fr d sv
    | none => σ.fr, updH σ.H hu, G'⟩

def guardK (o : IOper) (σ : St) (f : Bool → Prop) : Prop := match o.guard with
  | none => f true
  | some (g, w) => match σ.fr g with
    | .c (.val (.bool true)) => f w
    | .c (.val (.bool false)) => f (!w)
    | .c (.val (.tuple _)) => f false
    | _ => False

def undefSV : SV := .v undef

def TI (P : Program) (tab : FuncId → Option PSpec) (bd : Nat) (B : Hp) (o : IOper) (σ : St) (K : St → Prop) : Prop :=
  guardK o σ fun run => match run with
    | true => (ev tab σ.fr (view bd o σ.H) o.hid o.op).den P o.hid (cond o.early B σ.G) σ.G fun sv hu G' => K (σ.app o.dst sv hu G')
    | false => K (σ.app o.dst undefSV [] σ.G)

/-- The same, its parts matched at once. -/
def guardF (g : Option (Nat × Bool)) (fr : Nat → SV) (f : Bool → Prop) : Prop := match g with
  | none => f true
  | some (g, w) => match fr g with
    | .c (.val (.bool true)) => f w
    | .c (.val (.bool false)) => f (!w)
    | .c (.val (.tuple _)) => f false
    | _ => False
def appK (dst : Option Nat) (fr : Nat → SV) (H : Nat → Option OB) (K : St → Prop) (sv : SV) (hu : List (Nat × Option OB)) (G' : Hp) : Prop :=
  match dst, hu with
  | some d, [] => K ⟨upd fr d sv, H, G'⟩
  | none, [] => K ⟨fr, H, G'⟩
  | some d, [(h, ob)] => K ⟨upd fr d sv, upd H h ob, G'⟩
  | none, [(h, ob)] => K ⟨fr, upd H h ob, G'⟩
  | some d, hu => K ⟨upd fr d sv, updH H hu, G'⟩
  | none, hu => K ⟨fr, updH H hu, G'⟩
def TF (P : Program) (tab : FuncId → Option PSpec) (bd : Nat) (B : Hp) (o : IOper) (σ : St) (K : St → Prop) : Prop :=
  match o, σ with
  | ⟨dst, op, g, hid, none, false, _, _⟩, ⟨fr, H, G⟩ => guardF g fr fun run => match run with
    | true => (ev tab fr H hid op).den P hid G G (appK dst fr H K)
    | false => appK dst fr H K undefSV [] G
  | ⟨dst, op, g, hid, some l, false, _, lc⟩, ⟨fr, H, G⟩ => guardF g fr fun run => match run with
    | true => (ev tab fr (fun h => cond ((!lc && Nat.blt h bd) || memN h l) (H h) none) hid op).den P hid G G (appK dst fr H K)
    | false => appK dst fr H K undefSV [] G
  | ⟨dst, op, g, hid, some l, true, _, lc⟩, ⟨fr, H, G⟩ => guardF g fr fun run => match run with
    | true => (ev tab fr (fun h => cond ((!lc && Nat.blt h bd) || memN h l) (H h) none) hid op).den P hid B G (appK dst fr H K)
    | false => appK dst fr H K undefSV [] G
  | ⟨dst, op, g, hid, none, true, _, _⟩, ⟨fr, H, G⟩ => guardF g fr fun run => match run with
    | true => (ev tab fr H hid op).den P hid B G (appK dst fr H K)
    | false => appK dst fr H K undefSV [] G

theorem appK_eq (dst : Option Nat) (σ : St) (K : St → Prop) : appK dst σ.fr σ.H K = fun sv hu G' => K (σ.app dst sv hu G') := by
  funext sv hu G'
  cases dst <;> rcases hu with _ | ⟨⟨h, ob⟩, _ | ⟨p, r⟩⟩ <;> rfl
theorem TF_eq (P : Program) (tab : FuncId → Option PSpec) (bd : Nat) (B : Hp) (o : IOper) (σ : St) (K : St → Prop) : TF P tab bd B o σ K = TI P tab bd B o σ K := by
  obtain ⟨dst, op, g, hid, al, early, deps, lc⟩ := o
  have h := appK_eq dst σ K
  obtain ⟨fr, H, G⟩ := σ
  unfold TI
  simp only [← h]
  have hg : ∀ f, guardF g fr f = guardK ⟨dst, op, g, hid, al, early, deps, lc⟩ ⟨fr, H, G⟩ f := fun f => rfl
  rw [← hg]
  have hs : appK dst fr H K undefSV [] G = K (St.app ⟨fr, H, G⟩ dst undefSV [] G) := congrFun (congrFun (congrFun h undefSV) []) G
  simp only [← hs]
  cases al <;> cases early <;> rfl

/-- What a call of a function value is given is published ahead of it. -/
def pubO (op : IOp) (σ : St) (K : St → Prop) : Prop := match σ with
  | ⟨fr, H, G⟩ => cond op.isCallv (pubS fr H G (callLooks op) fun H' G' => K ⟨fr, H', G'⟩) (K ⟨fr, H, G⟩)
theorem pubO_no {op : IOp} {σ : St} {K : St → Prop} (h : op.isCallv = false) : pubO op σ K = K σ := by
  obtain ⟨fr, H, G⟩ := σ
  unfold pubO; rw [h]; rfl
theorem pubO_mono {op : IOp} {σ : St} {K K' : St → Prop} (hk : ∀ σ, K σ → K' σ) (h : pubO op σ K) : pubO op σ K' := by
  obtain ⟨fr, H, G⟩ := σ
  unfold pubO at *
  cases hc : op.isCallv with
  | true => rw [hc] at h; exact pubS_mono (fun H G h => hk _ h) h
  | false => rw [hc] at h; exact hk _ h
theorem pubO_sound {op : IOp} {w0 : Root} {G0 : Hp} {n : Nat} {M : Nat → Prop} {E : Nat → Value} {σ : St} {a : Act} {W : World} {K : St → Prop} (hs : Sat w0 G0 n M E σ a W) (h : pubO op σ K) : ∃ σ', K σ' ∧ Grow σ.G σ'.G ∧ σ'.fr = σ.fr ∧ Sat w0 G0 n M E σ' a W := by
  obtain ⟨fr, H, G⟩ := σ
  unfold pubO at h
  cases hc : op.isCallv with
  | true =>
    rw [hc] at h
    obtain ⟨H1, G1, k1, k2, k3⟩ := pubS_sound ⟨hs.sim, hs.mH⟩ h
    exact ⟨_, k1, k2, rfl, hs.pub k3⟩
  | false => rw [hc] at h; exact ⟨_, h, Grow.refl _, rfl, hs⟩

def vcOps (P : Program) (tab : FuncId → Option PSpec) (bd : Nat) (B : Hp) : List IOper → St → (St → Prop) → Prop
  | [], σ, K => K σ
  | o :: r, σ, K => pubO o.op σ fun σ => TF P tab bd B o σ fun σ' => vcOps P tab bd B r σ' K

/-! ### From the model's regions -/

def depsOf (o : Oper) : List Nat := (o.after.toList.filter (Region.binds .any ·)).map (·.on)

def compGuard (ops : Array Oper) (o : Oper) : Option (Option (Nat × Bool)) := match o.guard with
  | none => some none
  | some (j, w) => match ops[j]? with
    | some oj => match oj.dst with
      | some g => some (some (g, w))
      | none => none
    | none => none

def dstOk (nt : Nat) : Option Nat → Bool
  | none => true
  | some d => Nat.blt d nt && Nat.blt d 1000000

def compOper (P : Program) (nt : Nat) (ops : Array Oper) (o : Oper) (hid : Nat) : Option IOper := match compOp P o.op, compGuard ops o with
  | some io, some g => cond (dstOk nt o.dst) (some { dst := o.dst, op := io, guard := g, hid := hid, al := none, early := false, deps := [], loc := false }) none
  | _, _ => none

def compList (P : Program) (nt : Nat) (ops : Array Oper) : List Oper → Nat → Option (List IOper)
  | [], _ => some []
  | o :: r, hid => match compOper P nt ops o hid, compList P nt ops r (hid + 1) with
    | some x, some xs => some (x :: xs)
    | _, _ => none

/-- What is published only grows. -/
theorem op_grow {P : Program} {hid : Nat} {Gr G : Hp} {K : SV → List (Nat × Option OB) → Hp → Prop} {r : Res} (h : r.den P hid Gr G K) : r.den P hid Gr G fun sv hu G' => Grow G G' ∧ K sv hu G' := by
  have fk : ∀ {sv : SV} {L : SV → Prop}, fork sv L → ∀ {L' : SV → Prop}, (∀ s, L s → L' s) → fork sv L' := fun {sv L} h {L'} hl => by
    unfold fork at *
    split
    · exact ⟨fun e => ⟨hl _ (h.t e).out⟩, fun e => ⟨hl _ (h.f e).out⟩⟩
    · rename_i hne
      split at h
      · exact absurd rfl (hne _)
      · exact hl _ h
  have cl : ∀ {args s}, denCall hid Gr G K args s → denCall hid Gr G (fun sv hu G' => Grow G G' ∧ K sv hu G') args s := fun {args s} h => by
    cases s with
    | fn pre val => exact ⟨h.h, ⟨fk h.k.out fun s h => ⟨Grow.refl _, h⟩⟩⟩
    | sca pre post => exact ⟨h.h, fun v hv => ⟨fk (h.k v hv).out fun s h => ⟨Grow.refl _, h⟩⟩⟩
    | rel pre post => exact ⟨h.h, fun v G' hg hv => ⟨fk (h.k v G' hg hv).out fun s h => ⟨hg, h⟩⟩⟩
    | own t k pre post => exact ⟨h.h, fun n vs G' hg hv => ⟨⟨hg, (h.k n vs G' hg hv).out⟩⟩⟩
    | st pre post => exact h.elim
    | seq pre post => exact h.elim
  have clv : ∀ {H args s}, denCallv H hid Gr G K args s → denCallv H hid Gr G (fun sv hu G' => Grow G G' ∧ K sv hu G') args s := fun {H args s} h => by
    cases s with
    | st pre post =>
      obtain ⟨hs, h1, h2, h3, h4⟩ := h
      exact ⟨hs, h1, h2, h3, fun v ns G' hg hp => ⟨fk (h4 v ns G' hg hp).out fun s h => ⟨hg, h⟩⟩⟩
    | fn pre val => exact cl (s := .fn pre val) h
    | sca pre post => exact cl (s := .sca pre post) h
    | rel pre post => exact cl (s := .rel pre post) h
    | own t k pre post => exact cl (s := .own t k pre post) h
    | seq pre post => exact h.elim
  induction r with
  | ok sv => exact fk h fun s h => ⟨Grow.refl _, h⟩
  | obl φ r ih => exact ⟨h.h, ⟨ih h.k.out⟩⟩
  | ite φ r s ih1 ih2 => exact ⟨fun e => ⟨ih1 (h.t e).out⟩, fun e => ⟨ih2 (h.f e).out⟩⟩
  | rdk b off n cont ih => obtain ⟨cs, h1, h2, h3⟩ := h; exact ⟨cs, h1, h2, ⟨ih cs h3.out⟩⟩
  | eqk l n cont ih => obtain ⟨cs, h1, h2, h3⟩ := h; exact ⟨cs, h1, h2, ⟨ih cs h3.out⟩⟩
  | eqs l n cont ih => obtain ⟨cs, h1, h2, h3⟩ := h; exact ⟨cs, h1, h2, ⟨ih cs h3.out⟩⟩
  | keyk kt kv es cont ih => obtain ⟨r, h1, h2⟩ := h; exact ⟨r, h1, ⟨ih r h2.out⟩⟩
  | pur s cont ih => obtain ⟨r, h1, h2⟩ := h; exact ⟨r, h1, ⟨ih r h2.out⟩⟩
  | new ob sv => exact ⟨Grow.refl _, h⟩
  | set h' ob sv => exact ⟨Grow.refl _, h⟩
  | app hs n vs t k => cases hs <;> exact ⟨Grow.refl _, h⟩
  | call s args => exact cl h
  | callv H v args => obtain ⟨s, h1, h2⟩ := h; exact ⟨s, h1, ⟨clv h2.out⟩⟩
  | bad => exact h

theorem den_mono {P : Program} {hid : Nat} {Gr G : Hp} {K K' : SV → List (Nat × Option OB) → Hp → Prop} (hk : ∀ sv hu G', K sv hu G' → K' sv hu G') {r : Res} (h : r.den P hid Gr G K) : r.den P hid Gr G K' := by
  have fk : ∀ {sv : SV} {L : SV → Prop}, fork sv L → ∀ {L' : SV → Prop}, (∀ s, L s → L' s) → fork sv L' := fun {sv L} h {L'} hl => by
    unfold fork at *
    split
    · exact ⟨fun e => ⟨hl _ (h.t e).out⟩, fun e => ⟨hl _ (h.f e).out⟩⟩
    · rename_i hne
      split at h
      · exact absurd rfl (hne _)
      · exact hl _ h
  have cl : ∀ {args s}, denCall hid Gr G K args s → denCall hid Gr G K' args s := fun {args s} h => by
    cases s with
    | fn pre val => exact ⟨h.h, ⟨fk h.k.out fun s h => hk _ _ _ h⟩⟩
    | sca pre post => exact ⟨h.h, fun v hv => ⟨fk (h.k v hv).out fun s h => hk _ _ _ h⟩⟩
    | rel pre post => exact ⟨h.h, fun v G' hg hv => ⟨fk (h.k v G' hg hv).out fun s h => hk _ _ _ h⟩⟩
    | own t k pre post => exact ⟨h.h, fun n vs G' hg hv => ⟨hk _ _ _ (h.k n vs G' hg hv).out⟩⟩
    | st pre post => exact h.elim
    | seq pre post => exact h.elim
  have clv : ∀ {H args s}, denCallv H hid Gr G K args s → denCallv H hid Gr G K' args s := fun {H args s} h => by
    cases s with
    | st pre post =>
      obtain ⟨hs, h1, h2, h3, h4⟩ := h
      exact ⟨hs, h1, h2, h3, fun v ns G' hg hp => ⟨fk (h4 v ns G' hg hp).out fun s h => hk _ _ _ h⟩⟩
    | fn pre val => exact cl (s := .fn pre val) h
    | sca pre post => exact cl (s := .sca pre post) h
    | rel pre post => exact cl (s := .rel pre post) h
    | own t k pre post => exact cl (s := .own t k pre post) h
    | seq pre post => exact h.elim
  induction r with
  | ok sv => exact fk h fun s h => hk _ _ _ h
  | obl φ r ih => exact ⟨h.h, ⟨ih h.k.out⟩⟩
  | ite φ r s ih1 ih2 => exact ⟨fun e => ⟨ih1 (h.t e).out⟩, fun e => ⟨ih2 (h.f e).out⟩⟩
  | rdk b off n cont ih => obtain ⟨cs, h1, h2, h3⟩ := h; exact ⟨cs, h1, h2, ⟨ih cs h3.out⟩⟩
  | eqk l n cont ih => obtain ⟨cs, h1, h2, h3⟩ := h; exact ⟨cs, h1, h2, ⟨ih cs h3.out⟩⟩
  | eqs l n cont ih => obtain ⟨cs, h1, h2, h3⟩ := h; exact ⟨cs, h1, h2, ⟨ih cs h3.out⟩⟩
  | keyk kt kv es cont ih => obtain ⟨r, h1, h2⟩ := h; exact ⟨r, h1, ⟨ih r h2.out⟩⟩
  | pur s cont ih => obtain ⟨r, h1, h2⟩ := h; exact ⟨r, h1, ⟨ih r h2.out⟩⟩
  | new ob sv => exact hk _ _ _ h
  | set h' ob sv => exact hk _ _ _ h
  | app hs n vs t k => cases hs <;> exact hk _ _ _ h
  | call s args => exact cl h
  | callv H v args => obtain ⟨s, h1, h2⟩ := h; exact ⟨s, h1, ⟨clv h2.out⟩⟩
  | bad => exact h

/-! ### What an operation does to a state -/

section
variable {P : Program} {w0 : Root} {G0 : Hp} {n : Nat}

theorem Act.getD_put {a : Act} {d i : Nat} {v : Value} (hd : d < a.tmps.size) : (a.put (some d) v).tmps.getD i undef = if i = d then v else a.tmps.getD i undef := by
  simp only [Act.put, Array.getD_eq_getD_getElem?]
  by_cases h : i = d
  · subst h; simp [hd]
  · rw [if_neg h]
    simp [Array.getElem?_setIfInBounds, Ne.symm h]

/-- The state behind an operation fits. -/
theorem Sat.app {M : Nat → Prop} {E : Nat → Value} {σ : St} {a : Act} {W W' : World} {hid : Nat} {dst : Option Nat} {v : Value} {K : SV → List (Nat × Option OB) → Hp → Prop} (hs : Sat w0 G0 n M E σ a W) (hdst : dstOk n dst = true)
    (hp : OpPost w0 G0 M E σ.H hid K v W') : ∃ sv hu G' E', K sv hu G' ∧ Agree M E E' ∧ (σ.app dst sv hu G').fr POS = σ.fr POS ∧ Sat w0 G0 n (fun k => M k ∨ k = hid) E' (σ.app dst sv hu G') (a.put dst v) W' := by
  obtain ⟨sv, hu, G', E', hk, hr, hm, hag, hsim, hmH⟩ := hp
  refine ⟨sv, hu, G', E', hk, hag, ?_, hsim, ?_, hmH, ?_, ?_, ?_⟩
  · cases dst with
    | none => rfl
    | some d =>
      have : POS ≠ d := fun e => by subst e; simp [dstOk] at hdst
      simp only [St.app, upd_other _ _ this]
  · intro i
    cases dst with
    | none => exact SV.ment_mono (fun _ h => .inl h) (hs.mfr i)
    | some d =>
      by_cases h : i = d
      · subst h; simp only [St.app, upd_same]; exact hm
      · simp only [St.app, upd_other _ _ h]; exact SV.ment_mono (fun _ h => .inl h) (hs.mfr i)
  · intro i
    cases dst with
    | none => exact SV.rel_agree (hs.fr i) (hs.mfr i) hag
    | some d =>
      have hd : d < a.tmps.size := by rw [hs.size]; simp [dstOk] at hdst; exact hdst.1
      rw [Act.getD_put hd]
      by_cases h : i = d
      · subst h; simp only [St.app, upd_same, if_true]; exact hr
      · simp only [St.app, upd_other _ _ h, if_neg h]; exact SV.rel_agree (hs.fr i) (hs.mfr i) hag
  · cases dst <;> simp [Act.put, hs.size]
  · cases dst <;> simp [Act.put, hs.defers]

theorem memN_iff {x : Nat} : ∀ {l : List Nat}, memN x l = true ↔ x ∈ l
  | [] => by simp [memN]
  | y :: ys => by
    simp only [memN, List.mem_cons]
    cases h : Nat.beq x y with
    | true => simp [Nat.eq_of_beq_eq_true h]
    | false =>
      have : x ≠ y := fun e => by subst e; rw [Nat.beq_refl] at h; cases h
      simp [memN_iff, this]

theorem view_le {bd : Nat} {o : IOper} {H : Nat → Option OB} {h : Nat} {ob : OB} (e : view bd o H h = some ob) : H h = some ob := by
  unfold view at e
  cases ha : o.al with
  | none => rw [ha] at e; exact e
  | some l =>
    rw [ha] at e
    simp only at e
    cases hc : ((!o.loc && Nat.blt h bd) || memN h l) with
    | true => rw [hc] at e; exact e
    | false => rw [hc] at e; cases e

/-- The guard of the intermediate form is the model's. -/
theorem guard_sound {ops : Array Oper} {o : Oper} {io : IOper} {M : Nat → Prop} {E : Nat → Value} {σ : St} {a : Act} {W : World} {f : Bool → Prop} (hs : Sat w0 G0 n M E σ a W) (hc : compGuard ops o = some io.guard) (hg : guardK io σ f) :
    f (Region.wanted o (yielded ops a.tmps)) := by
  unfold compGuard at hc
  unfold guardK at hg
  unfold Region.wanted
  split at hc
  · rename_i h
    rw [h]
    cases hc' : io.guard with
    | some p => rw [hc'] at hc; cases hc
    | none => rw [hc'] at hg; exact hg
  · rename_i j w h
    rw [h]
    split at hc
    · rename_i oj hj
      split at hc
      · rename_i g hdst
        simp only [Option.some.injEq] at hc
        rw [← hc] at hg
        have hfr := hs.fr g
        simp only at hg
        split at hg
        · rename_i e
          rw [e] at hfr
          have hfr : a.tmps.getD g undef = .bool true := hfr
          have : a.tmps[g]? = some (.bool true) := by
            rw [Array.getD_eq_getD_getElem?] at hfr
            cases hx : a.tmps[g]? with
            | none => rw [hx] at hfr; simp [undef] at hfr
            | some v => rw [hx] at hfr; simpa using hfr
          have hy : yielded ops a.tmps j = some true := by simp [yielded, hj, hdst, this]
          show f (yielded ops a.tmps j == some w)
          rw [hy]
          cases w <;> exact hg
        · rename_i e
          rw [e] at hfr
          have hfr : a.tmps.getD g undef = .bool false := hfr
          have : a.tmps[g]? = some (.bool false) := by
            rw [Array.getD_eq_getD_getElem?] at hfr
            cases hx : a.tmps[g]? with
            | none => rw [hx] at hfr; simp [undef] at hfr
            | some v => rw [hx] at hfr; simpa using hfr
          have hy : yielded ops a.tmps j = some false := by simp [yielded, hj, hdst, this]
          show f (yielded ops a.tmps j == some w)
          rw [hy]
          cases w <;> exact hg
        · rename_i vs e
          rw [e] at hfr
          have hfr : a.tmps.getD g undef = .tuple vs := hfr
          have hy : yielded ops a.tmps j = none := by
            rw [Array.getD_eq_getD_getElem?] at hfr
            cases hx : a.tmps[g]? with
            | none => simp [yielded, hj, hdst, hx]
            | some v => rw [hx] at hfr; simp at hfr; simp [yielded, hj, hdst, hx, hfr]
          show f (yielded ops a.tmps j == some w)
          rw [hy]
          exact hg
        · exact hg.elim
      · cases hc
    · cases hc

/-- One operation, its guard looked at. -/
theorem TI_sound {ops : Array Oper} {o : Oper} {io : IOper} {M : Nat → Prop} {E : Nat → Value} {σ : St} {a : Act} {W : World} {rd : Option Nat} {nn : Nat} {Q : Exit → Act → World → Prop} {K : St → Prop} {B : Hp} {bd : Nat} (T : Tab P)
    (hs : Sat w0 G0 n M E σ a W) (hM : ¬ M io.hid) (hop : CompB P o.op io.op) (hgd : compGuard ops o = some io.guard) (hdst : o.dst = io.dst) (hok : dstOk n io.dst = true) (hB : Grow B σ.G) (hd : TI P T.get bd B io σ K) :
    if Region.wanted o (yielded ops a.tmps) then o.wpIn (FW rd) nn P a W (fun a' W' => ∃ σ' E', K σ' ∧ Grow σ.G σ'.G ∧ Agree M E E' ∧ σ'.fr POS = σ.fr POS ∧ Sat w0 G0 n (fun k => M k ∨ k = io.hid) E' σ' a' W') Q
    else (∀ f, o.about P W a.eval = some f → (FW rd).fn f) ∧ ∃ σ' E', K σ' ∧ Grow σ.G σ'.G ∧ Agree M E E' ∧ σ'.fr POS = σ.fr POS ∧ Sat w0 G0 n (fun k => M k ∨ k = io.hid) E' σ' (a.put o.dst undef) W := by
  have hg := guard_sound hs hgd hd
  generalize Region.wanted o (yielded ops a.tmps) = run at hg
  cases run with
  | true =>
    simp only at hg
    rw [if_pos rfl]
    have hGr : Grow (cond io.early B σ.G) σ.G := by cases io.early <;> first | exact hB | exact Grow.refl _
    have C : Ctx w0 G0 (cond io.early B σ.G) σ.G M E σ.H (view bd io σ.H) io.hid σ.fr a W := ⟨hs.fr, hs.mfr, hs.sim, hs.mH, hM, fun h ob e => view_le e, hGr⟩
    have hg' := op_grow hg
    refine Oper.wpIn_mono ?_ (op_soundB C T hop hg' (rd := rd) (nn := nn) (Q := Q))
    rintro a' W' ⟨v, rfl, hp⟩
    rw [hdst]
    obtain ⟨sv, hu, G', E', ⟨hgr, hk⟩, hag, hsat⟩ := hs.app hok hp
    exact ⟨_, E', hk, hgr, hag, hsat⟩
  | false =>
    simp only at hg
    rw [if_neg (by simp)]
    refine ⟨fun _ _ => trivial, ?_⟩
    rw [hdst]
    obtain ⟨sv, hu, G', E', hk, hag, hsat⟩ := hs.app (dst := io.dst) (v := undef) (K := fun sv hu G' => sv = undefSV ∧ hu = [] ∧ G' = σ.G) (hid := io.hid) hok ⟨undefSV, [], σ.G, E, ⟨rfl, rfl, rfl⟩, rfl, trivial, Agree.refl _ _, hs.sim, fun h ob e => ⟨.inl (hs.mH h ob e).1, OB.ment_mono (fun _ h => .inl h) (hs.mH h ob e).2⟩⟩
    obtain ⟨rfl, rfl, rfl⟩ := hk
    exact ⟨_, E', hg, Grow.refl _, hag, hsat⟩
end
end Go.Pal
