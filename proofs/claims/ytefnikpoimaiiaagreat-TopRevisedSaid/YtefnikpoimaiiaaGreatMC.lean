/- A region that draws its order: what is asked in the order of the text is enough. A region that draws its order: every order does what the order of the text does. Two parties: the state of one of them; how it goes on behind the other's turn. The intermediate form of code, what is asked of it, and that this is enough. A call in the midst of two parties; one operation; regions in the order of the text. What is asked of code is enough. A loop over an iterator: what the machinery holds; the body's own view. A region that draws its order up to a call of a value, and has one order from there on. -/
import Derived.Test.YtefnikpoimaiiaaGreatMB
import Derived.RangeFuncLeaves
import Derived.RangeFuncRecord
import Derived.LoopNIn
import Derived.Scope
import Derived.RangeFuncIn
import Derived.Maps.RangeRun
set_option linter.unusedSimpArgs false
set_option linter.unusedVariables false
namespace Go.Pal
open Go.RowKit

/-! ### One operation with its guard -/

def grd (g:Option (Nat × Bool)) (fr:Nat→SV):Option Bool:=match g with
 | none=>some true
 | some (i,w)=>match fr i with
  | .c (.val (.bool true))=>some w
  | .c (.val (.bool false))=>some (!w)
  | .c (.val (.tuple _))=>some false
  | _=>none
theorem guardK_iff {o:IOper} {σ:St} {f:Bool→Prop}:guardK o σ f↔∃ b,grd o.guard σ.fr = some b∧f b:=by
 unfold guardK grd
 cases o.guard with
 | none=>simp
 | some p =>
  obtain ⟨i,w⟩:=p
  simp only
  generalize σ.fr i = x
  constructor
  ·intro h
   split at h
   ·exact ⟨w,rfl,h⟩
   ·exact ⟨!w,rfl,h⟩
   ·exact ⟨false,rfl,h⟩
   ·exact h.elim
  ·rintro ⟨b,hb,h⟩
   split at hb
   ·cases hb;exact h
   ·cases hb;exact h
   ·cases hb;exact h
   ·cases hb

def baseOf (o:IOper) (B G:Hp):Hp:=cond o.early B G

def TOb (P:Program) (tab:FuncId→Option PSpec) (bd:Nat) (B:Hp) (o:IOper) (σ:St):Prop :=
 ∃ b,grd o.guard σ.fr = some b∧(b = true→Ob P (baseOf o B σ.G) (ev tab σ.fr (view bd o σ.H) o.hid o.op))
def TEf (P:Program) (tab:FuncId→Option PSpec) (bd:Nat) (B:Hp) (o:IOper) (σ:St) (sv:SV) (hu:HU) (p:PO):Prop :=
 ∃ b,grd o.guard σ.fr = some b∧match b with
  | true=>Ef P o.hid (baseOf o B σ.G) (ev tab σ.fr (view bd o σ.H) o.hid o.op) sv hu p
  | false=>sv = undefSV∧hu = []∧p = none

def vis (bd:Nat) (o:IOper) (k:Nat):Bool:=match o.al with
 | none=>true
 | some l=>(!o.loc && Nat.blt k bd) || memN k l

def IOper.looks (o:IOper):List Nat:=o.op.looks++(match o.guard with
 | some (g,_)=>[g]
 | none=>[])

section
variable {P:Program} {bd:Nat} {B:Hp}

theorem TI_iff (T:Tab P) {o:IOper} {σ:St} {K:St→Prop} (h:o.op.isCallv = false) :
  TI P T.get bd B o σ K↔TOb P T.get bd B o σ∧∀ sv hu p,TEf P T.get bd B o σ sv hu p→PK p σ.G fun G'=>K (σ.app o.dst sv hu G'):=by
 unfold TI
 rw [guardK_iff]
 constructor
 ·rintro ⟨b,hb,h1⟩
  cases b with
  | true =>
   have h2:=(den_iff (ev_rok T h)).1 h1
   refine ⟨⟨true,hb,fun _=>h2.1⟩, ?_⟩
   rintro sv hu p ⟨b',hb',h3⟩
   rw [hb] at hb';cases hb'
   exact h2.2 _ _ _ h3
  | false =>
   refine ⟨⟨false,hb,fun e=>by cases e⟩, ?_⟩
   rintro sv hu p ⟨b',hb',h3⟩
   rw [hb] at hb';cases hb'
   obtain ⟨rfl,rfl,rfl⟩:=h3
   exact h1
 ·rintro ⟨⟨b,hb,h1⟩,h2⟩
  refine ⟨b,hb, ?_⟩
  cases b with
  | true=>exact (den_iff (ev_rok T h)).2 ⟨h1 rfl,fun sv hu p h3=>h2 sv hu p ⟨true,hb,h3⟩⟩
  | false=>exact h2 undefSV [] none ⟨false,hb,rfl,rfl,rfl⟩

theorem view_vis {o:IOper} {H:Nat→Option OB} {k:Nat}:view bd o H k = cond (vis bd o k) (H k) none:=by
 unfold view vis
 cases o.al<;>rfl
theorem T_congr {tab:FuncId→Option PSpec} {o:IOper} {σ σ':St} (hl:∀ t∈o.looks, σ.fr t = σ'.fr t) (hv:o.op.noH = true∨view bd o σ.H = view bd o σ'.H) :
  grd o.guard σ.fr = grd o.guard σ'.fr∧ev tab σ.fr (view bd o σ.H) o.hid o.op = ev tab σ'.fr (view bd o σ'.H) o.hid o.op:=by
 constructor
 ·unfold grd
  cases hg:o.guard with
  | none=>rfl
  | some p =>
   obtain ⟨i,w⟩:=p
   have:=hl i (by simp [IOper.looks,hg])
   simp only [this]
 ·rw [ev_congr (fun t ht=>hl t (by simp [IOper.looks,ht]))]
  rcases hv with h | h
  ·exact ev_noH h
  ·rw [h]

theorem TEf_keys {tab:FuncId→Option PSpec} {o:IOper} {σ:St} {sv:SV} {hu:HU} {p:PO} (h:TEf P tab bd B o σ sv hu p):∀ q∈hu,q.1 = o.hid∨(o.op.mod = true∧vis bd o q.1 = true):=by
 obtain ⟨b,_,h⟩:=h
 cases b with
 | true =>
  intro q hq
  rcases Ef_keys ev_keys h q hq with h | ⟨hm,h⟩
  ·exact .inl h
  ·refine .inr ⟨hm, ?_⟩
   rw [view_vis] at h
   cases hv:vis bd o q.1 with
   | true=>rfl
   | false=>rw [hv] at h;cases h
 | false=>obtain ⟨_,rfl,_⟩:=h;intro q hq;cases hq

theorem TEf_mono (T:Tab P) {o:IOper} (ho:o.op.isCallv = false) {σ:St} {sv:SV} {hu:HU} {q:Hp→Prop} (h:TEf P T.get bd B o σ sv hu (some q)):∀ G G',Grow G G'→q G→q G':=by
 obtain ⟨b,_,h⟩:=h
 cases b with
 | true=>exact Ef_mono (ev_rok T ho) h
 | false=>cases h.2.2

theorem TEf_still {tab:FuncId→Option PSpec} {o:IOper} (ho:o.op.isCall = false) {σ:St} {sv:SV} {hu:HU} {p:PO} (h:TEf P tab bd B o σ sv hu p):p = none:=by
 obtain ⟨b,_,h⟩:=h
 cases b with
 | true=>exact Ef_still (ev_still ho) h
 | false=>exact h.2.2

/-! ### Own blocks turned in another order -/

def lookU:HU→Nat→Option (Option OB)
 | [],_=>none
 | (h,ob) :: r,k=>match lookU r k with
  | some x=>some x
  | none=>if k = h then some ob else none
theorem updH_look:∀ {hu:HU} {H:Nat→Option OB} {k:Nat},updH H hu k = (lookU hu k).getD (H k)
 | [],_,_=>rfl
 | (h,ob) :: r,H,k=>by
  simp only [updH,lookU,updH_look (hu:=r)]
  cases lookU r k with
  | some x=>rfl
  | none =>
   by_cases e:k = h
   ·subst e;simp [upd_same]
   ·simp [upd_other _ _ e,e]
theorem lookU_none:∀ {hu:HU} {k:Nat},(∀ q∈hu,q.1≠k)→lookU hu k = none
 | [],_,_=>rfl
 | (h,ob) :: r,k,hk=>by
  have h1:=hk (h,ob) (by simp)
  simp only [lookU,lookU_none (hu:=r) (fun q hq=>hk q (by simp [hq]))]
  rw [if_neg (fun e=>h1 e.symm)]
theorem updH_comm {a b:HU} {H:Nat→Option OB} (h:∀ p∈a, ∀ q∈b,p.1≠q.1):updH (updH H a) b = updH (updH H b) a:=by
 funext k
 rw [updH_look,updH_look,updH_look,updH_look]
 by_cases ha:∃ p∈a,p.1 = k
 ·obtain ⟨p,hp,rfl⟩:=ha
  rw [lookU_none (hu:=b) (fun q hq e=>h p hp q hq e.symm)]
  rfl
 ·rw [lookU_none (hu:=a) (fun q hq e=>ha ⟨q,hq,e⟩)]
  rfl
theorem view_updH {o:IOper} {H:Nat→Option OB} {hu:HU} (h:∀ q∈hu,vis bd o q.1 = false):view bd o (updH H hu) = view bd o H:=by
 funext k
 rw [view_vis,view_vis,updH_look]
 cases hv:vis bd o k with
 | false=>rfl
 | true =>
  rw [lookU_none (fun q hq e=>by have:=h q hq;rw [e,hv] at this;cases this)]
  rfl

/-! ### Two operations that do not touch each other -/

def dstIn:Option Nat→List Nat→Bool
 | none,_=>false
 | some d,l=>memN d l
def dstEq:Option Nat→Option Nat→Bool
 | some a,some b=>Nat.beq a b
 | _,_=>false
def hidden (bd:Nat) (x y:IOper):Bool:=x.loc && match x.al with
 | some l=>l.all fun k=>!vis bd y k
 | none=>false
theorem hidden_spec {bd:Nat} {x y:IOper} (h:hidden bd x y = true) {k:Nat} (hk:vis bd x k = true):vis bd y k = false:=by
 unfold hidden at h
 rw [Bool.and_eq_true] at h
 obtain ⟨h1,h2⟩:=h
 unfold vis at hk
 cases ha:x.al with
 | none=>rw [ha] at h2;cases h2
 | some l =>
  rw [ha] at h2 hk
  simp only [h1,Bool.not_true,Bool.false_and,Bool.false_or] at hk
  simp only [List.all_eq_true,Bool.not_eq_true'] at h2
  exact h2 k (memN_iff.1 hk)
def indep (ms:List FuncId) (bd:Nat) (x y:IOper):Bool :=
 !x.op.isCallv && !y.op.isCallv && !dstIn x.dst y.looks && !dstIn y.dst x.looks && !dstEq x.dst y.dst && !vis bd y x.hid && !vis bd x y.hid && !Nat.beq x.hid y.hid &&
  (!x.op.mod || y.op.noH || hidden bd x y) && (!y.op.mod || x.op.noH || hidden bd y x) && (x.early || !y.op.isCall || !x.op.isCall || monoIn ms x.op) && (y.early || !x.op.isCall)

structure Indep (ms:List FuncId) (bd:Nat) (x y:IOper):Prop where
 vx:x.op.isCallv = false
 vy:y.op.isCallv = false
 xy:∀ d,x.dst = some d→d ∉ y.looks
 yx:∀ d,y.dst = some d→d ∉ x.looks
 dd:∀ d,x.dst = some d→y.dst≠some d
 hx:vis bd y x.hid = false
 hy:vis bd x y.hid = false
 hh:x.hid≠y.hid
 mx:x.op.mod = true→y.op.noH = true∨hidden bd x y = true
 my:y.op.mod = true→x.op.noH = true∨hidden bd y x = true
 gx:x.early = true∨y.op.isCall = false∨x.op.isCall = false∨monoIn ms x.op = true
 gy:y.early = true∨x.op.isCall = false

theorem indep_spec {ms:List FuncId} {x y:IOper} (h:indep ms bd x y = true):Indep ms bd x y:=by
 simp only [indep,Bool.and_eq_true,Bool.not_eq_true',Bool.or_eq_true] at h
 obtain ⟨⟨⟨⟨⟨⟨⟨⟨⟨⟨⟨h1,h2⟩,h3⟩,h4⟩,h5⟩,h6⟩,h7⟩,h8⟩,h9⟩,h10⟩,h11⟩,h12⟩:=h
 refine ⟨h1,h2, ?_, ?_, ?_,h6,h7, ?_, ?_, ?_, ?_,h12⟩
 ·intro d e hm
  rw [e] at h3
  have:=memN_iff.2 hm
  simp only [dstIn] at h3
  rw [this] at h3;cases h3
 ·intro d e hm
  rw [e] at h4
  have:=memN_iff.2 hm
  simp only [dstIn] at h4
  rw [this] at h4;cases h4
 ·intro d e e2
  rw [e,e2] at h5
  simp only [dstEq,Nat.beq_refl] at h5
  cases h5
 ·intro e;rw [e,Nat.beq_refl] at h8;cases h8
 ·intro e;rcases h9 with (h | h) | h
  ·rw [e] at h;cases h
  ·exact .inl h
  ·exact .inr h
 ·intro e;rcases h10 with (h | h) | h
  ·rw [e] at h;cases h
  ·exact .inl h
  ·exact .inr h
 ·rcases h11 with ((h | h) | h) | h
  ·exact .inl h
  ·exact .inr (.inl h)
  ·exact .inr (.inr (.inl h))
  ·exact .inr (.inr (.inr h))

theorem fr_app {σ:St} {dst:Option Nat} {sv:SV} {hu:HU} {G':Hp} {t:Nat} (h:∀ d,dst = some d→d≠t):(σ.app dst sv hu G').fr t = σ.fr t:=by
 cases dst with
 | none=>rfl
 | some d=>exact upd_other _ _ (Ne.symm (h d rfl))
theorem seen_y {tab:FuncId→Option PSpec} {ms:List FuncId} {x y:IOper} (I:Indep ms bd x y) {σ:St} {sv:SV} {hu:HU} {p:PO} {G':Hp} (he:TEf P tab bd B x σ sv hu p) :
  grd y.guard (σ.app x.dst sv hu G').fr = grd y.guard σ.fr∧ev tab (σ.app x.dst sv hu G').fr (view bd y (σ.app x.dst sv hu G').H) y.hid y.op = ev tab σ.fr (view bd y σ.H) y.hid y.op:=by
 refine T_congr (fun t ht=>fr_app fun d e e2=>I.xy d e (e2 ▸ ht)) ?_
 by_cases hm:x.op.mod = true∧y.op.noH = true
 ·exact .inl hm.2
 ·refine .inr (view_updH fun q hq=>?_)
  rcases TEf_keys he q hq with h | h
  ·rw [h];exact I.hx
  ·rcases I.mx h.1 with h2 | h2
   ·exact absurd ⟨h.1,h2⟩ hm
   ·exact hidden_spec h2 h.2
theorem seen_x {tab:FuncId→Option PSpec} {ms:List FuncId} {x y:IOper} (I:Indep ms bd x y) {σ:St} {sv:SV} {hu:HU} {p:PO} {G':Hp} (he:TEf P tab bd B y σ sv hu p) :
  grd x.guard (σ.app y.dst sv hu G').fr = grd x.guard σ.fr∧ev tab (σ.app y.dst sv hu G').fr (view bd x (σ.app y.dst sv hu G').H) x.hid x.op = ev tab σ.fr (view bd x σ.H) x.hid x.op:=by
 refine T_congr (fun t ht=>fr_app fun d e e2=>I.yx d e (e2 ▸ ht)) ?_
 by_cases hm:y.op.mod = true∧x.op.noH = true
 ·exact .inl hm.2
 ·refine .inr (view_updH fun q hq=>?_)
  rcases TEf_keys he q hq with h | h
  ·rw [h];exact I.hy
  ·rcases I.my h.1 with h2 | h2
   ·exact absurd ⟨h.1,h2⟩ hm
   ·exact hidden_spec h2 h.2

theorem app_comm {tab:FuncId→Option PSpec} {ms:List FuncId} {x y:IOper} (I:Indep ms bd x y) {σ:St} {sv sv':SV} {hu hu':HU} {p p':PO} {Ga Gb Gc:Hp} (hx:TEf P tab bd B x σ sv hu p) (hy:TEf P tab bd B y σ sv' hu' p') :
  (σ.app y.dst sv' hu' Ga).app x.dst sv hu Gc = (σ.app x.dst sv hu Gb).app y.dst sv' hu' Gc:=by
 have hk:∀ a∈hu', ∀ b∈hu,a.1≠b.1:=by
  intro a ha b hb e
  rcases TEf_keys hx b hb with h1 | ⟨m1,v1⟩<;>rcases TEf_keys hy a ha with h2 | ⟨m2,v2⟩
  ·exact I.hh (by rw [← h1, ← h2,e])
  ·rw [e,h1] at v2;rw [I.hx] at v2;cases v2
  ·rw [← e,h2] at v1;rw [I.hy] at v1;cases v1
  ·rcases I.mx m1 with h | h
   ·revert h m2
    cases y.op<;>simp [IOp.mod,IOp.noH]
   ·rw [← e, ] at v1
    have:=hidden_spec h v1
    rw [v2] at this;cases this
 have hH:=updH_comm (H:=σ.H) hk
 have hfr:∀ d d':Nat,x.dst = some d→y.dst = some d'→d≠d':=fun d d' e e' h=>I.dd d e (h ▸ e')
 unfold St.app
 simp only [hH]
 cases hdx:x.dst with
 | none=>cases y.dst<;>rfl
 | some d =>
  cases hdy:y.dst with
  | none=>rfl
  | some d' =>
   simp only
   rw [upd_comm _ _ _ (Ne.symm (hfr d d' hdx hdy))]

theorem TEf_seen {tab:FuncId→Option PSpec} {y:IOper} {σ σ':St} (hs:grd y.guard σ'.fr = grd y.guard σ.fr∧ev tab σ'.fr (view bd y σ'.H) y.hid y.op = ev tab σ.fr (view bd y σ.H) y.hid y.op) (hg:y.early = true∨σ'.G = σ.G) {sv:SV} {hu:HU} {p:PO} :
  (TEf P tab bd B y σ' sv hu p↔TEf P tab bd B y σ sv hu p)∧(TOb P tab bd B y σ'↔TOb P tab bd B y σ):=by
 have hb:baseOf y B σ'.G = baseOf y B σ.G:=by
  rcases hg with h | h
  ·simp [baseOf,h]
  ·rw [h]
 unfold TEf TOb
 rw [hs.1,hs.2,hb]
 exact ⟨Iff.rfl,Iff.rfl⟩
theorem pull (T:Tab P) {ms:List FuncId} (HM:MonoT T.get ms) {y:IOper} {post:List IOper} {K:St→Prop}:∀ {pre:List IOper} {σ:St},(∀ x∈pre,indep ms bd x y = true)→y.op.isCallv = false→vcOps P T.get bd B (pre++y :: post) σ K→TOb P T.get bd B y σ →
  ∀ sv hu p,TEf P T.get bd B y σ sv hu p→PK p σ.G fun G1=>vcOps P T.get bd B (pre++post) (σ.app y.dst sv hu G1) K
 | [], σ,_,hy,hv,_,sv,hu,p,he=>by
  simp only [List.nil_append,vcOps,TF_eq,pubO_no hy] at hv
  exact ((TI_iff T hy).1 hv).2 sv hu p he
 | x :: pre, σ,hin,hyv,hv,hob,sv,hu,p,he=>by
  have I:=indep_spec (hin x (by simp))
  simp only [List.cons_append,vcOps,TF_eq,pubO_no I.vx] at hv ⊢
  obtain ⟨obx,hx⟩:=(TI_iff T I.vx).1 hv
  -- behind x's effect,y may be pulled
  have key:∀ svx hux px,TEf P T.get bd B x σ svx hux px→PK px σ.G fun G'=>PK p G' fun G1=>vcOps P T.get bd B (pre++post) ((σ.app x.dst svx hux G').app y.dst sv hu G1) K:=by
   intro svx hux px hex
   have h1:=hx svx hux px hex
   have go:∀ G',(y.early = true∨G' = σ.G)→vcOps P T.get bd B (pre++y :: post) (σ.app x.dst svx hux G') K→PK p G' fun G1=>vcOps P T.get bd B (pre++post) ((σ.app x.dst svx hux G').app y.dst sv hu G1) K:=by
    intro G' hg hvc
    have hs:=TEf_seen (P:=P) (B:=B) (seen_y I hex (G':=G')) hg (sv:=sv) (hu:=hu) (p:=p)
    exact pull T HM (fun x hx=>hin x (by simp [hx])) hyv hvc (hs.2.2 hob) sv hu p (hs.1.2 he)
   cases px with
   | none=>exact go σ.G (.inr rfl) h1
   | some q =>
    intro G' hg hq
    refine go G' ?_ (h1 G' hg hq)
    rcases I.gy with h | h
    ·exact .inl h
    ·have:=TEf_still h hex;cases this
  -- what x asks,and what comes of it,behind y's effect
  have back:∀ G1,Grow σ.G G1→(p = none→G1 = σ.G)→TOb P T.get bd B x (σ.app y.dst sv hu G1)∧∀ svx hux px,TEf P T.get bd B x (σ.app y.dst sv hu G1) svx hux px→TEf P T.get bd B x σ svx hux px:=by
   intro G1 hg hp
   have hs:=seen_x I he (G':=G1)
   by_cases hsame:x.early = true∨G1 = σ.G
   ·have:=fun svx hux px=>TEf_seen (P:=P) (B:=B) hs hsame (sv:=svx) (hu:=hux) (p:=px)
    exact ⟨(this undefSV [] none).2.2 obx,fun svx hux px h=>(this svx hux px).1.1 h⟩
   ·have hxs:x.op.isCall = false∨monoIn ms x.op = true:=by
     rcases I.gx with h | h | h | h
     ·exact absurd (.inl h) hsame
     ·exact absurd (.inr (hp (TEf_still h he))) hsame
     ·exact .inl h
     ·exact .inr h
    have grow2:∀ {G1:Hp},Grow σ.G G1→Ob P σ.G (ev T.get σ.fr (view bd x σ.H) x.hid x.op)→Ob P G1 (ev T.get σ.fr (view bd x σ.H) x.hid x.op)∧∀ sv hu p,Ef P x.hid G1 (ev T.get σ.fr (view bd x σ.H) x.hid x.op) sv hu p→Ef P x.hid σ.G (ev T.get σ.fr (view bd x σ.H) x.hid x.op) sv hu p:=fun hg ho=>by
     rcases hxs with h | h
     ·exact still_grow (ev_still h) hg ho
     ·exact monoR_grow (ev_mono HM h) hg ho
    have hne:x.early = false:=by
     cases he:x.early with
     | false=>rfl
     | true=>exact absurd (.inl he) hsame
    unfold TOb TEf
    rw [hs.1,hs.2]
    obtain ⟨b,hb,hob1⟩:=obx
    simp only [baseOf,hne,cond_false] at hob1 ⊢
    have hgr:Grow σ.G (σ.app y.dst sv hu G1).G:=hg
    refine ⟨⟨b,hb,fun e=>(grow2 hgr (hob1 e)).1⟩, ?_⟩
    rintro svx hux px ⟨b',hb',h⟩
    rw [hb] at hb';cases hb'
    refine ⟨b,hb, ?_⟩
    cases b with
    | true=>exact (grow2 hgr (hob1 rfl)).2 _ _ _ h
    | false=>exact h
  cases p with
  | none =>
   have hb:=back σ.G (Grow.refl _) (fun _=>rfl)
   simp only [PK]
   refine (TI_iff T I.vx).2 ⟨hb.1,fun svx hux px hex=>?_⟩
   have hex':=hb.2 _ _ _ hex
   have h1:=key svx hux px hex'
   cases px with
   | none =>
    show vcOps P T.get bd B (pre++post) ((σ.app y.dst sv hu σ.G).app x.dst svx hux σ.G) K
    rw [app_comm I hex' he (Ga:=σ.G) (Gb:=σ.G) (Gc:=σ.G)]
    exact h1
   | some q =>
    intro G' hg hq
    rw [app_comm I hex' he (Ga:=σ.G) (Gb:=G') (Gc:=G')]
    exact h1 G' hg hq
  | some q =>
   intro G1 hg hq
   have hb:=back G1 hg (fun e=>by cases e)
   refine (TI_iff T I.vx).2 ⟨hb.1,fun svx hux px hex=>?_⟩
   have hex':=hb.2 _ _ _ hex
   have h1:=key svx hux px hex'
   cases px with
   | none =>
    show vcOps P T.get bd B (pre++post) ((σ.app y.dst sv hu G1).app x.dst svx hux G1) K
    rw [app_comm I hex' he (Ga:=G1) (Gb:=σ.G) (Gc:=G1)]
    exact h1 G1 hg hq
   | some qx =>
    intro G2 hg2 hq2
    rw [app_comm I hex' he (Ga:=G1) (Gb:=G2) (Gc:=G2)]
    exact (h1 G2 (hg.trans hg2) hq2 G2 (Grow.refl _) (TEf_mono T hyv he G1 G2 hg2 hq))
end
end Go.Pal

namespace Go.Pal
open Go.RowKit

structure OpOk (P:Program) (n:Nat) (ops:Array Oper) (o:Oper) (io:IOper):Prop where
 op:CompB P o.op io.op
 gd:compGuard ops o = some io.guard
 dst:o.dst = io.dst
 ok:dstOk n io.dst = true

theorem room_FW (r:Option Nat) (n:Nat):(FW r).room n:=fun _ h=>by simp [FW,Fence.wide] at h

theorem CallsIn.ex {F:Fence} {n:Nat} {P:Program} {f:FuncId} {args:Array Value} {w:World} {R:Ending→World→Prop} (hr:∀ n,F.room n) (h:CallsIn F n P f args w R):∃ e w',R e w' :=
 let ⟨e,w',_,r,_⟩:=h.2 [] (hr _)
 ⟨e,w',r⟩

theorem wpIn_ex {P:Program} {o:Oper} {a:Act} {W:World} {rd:Option Nat} {nn:Nat} {K:Act→World→Prop} (h:o.wpIn (FW rd) nn P a W K (fun _ _ _=>False)):∃ a' W',K a' W':=by
 have h:=h.2
 generalize (o.semAt (FW rd).round a.eval).run P W = r at h
 cases r with
 | halt x w'=>cases x<;>exact h.elim
 | ok x w' =>
  cases x with
  | value v=>exact ⟨_,_,h⟩
  | skip=>exact ⟨_,_,h⟩
  | defer d=>exact ⟨_,_,h⟩
  | enter f args =>
   obtain ⟨e,w2,h⟩:=CallsIn.ex (room_FW rd) h.2
   cases e with
   | returned v=>exact ⟨_,_,h⟩
   | panicked c=>exact h.elim
   | outgrown=>obtain ⟨_,_,h⟩:=h;exact h.elim
  | row row args =>
   have h:=h.2
   obtain ⟨v,w2,h,_⟩:=h default [] (room_FW rd _)
   exact ⟨_,_,h⟩
  | round l f tmps assign body =>
   obtain ⟨e,w2,h,_⟩:=h.2.2 default [] (room_FW rd _)
   cases e with
   | returned v=>exact ⟨_,_,h⟩
   | panicked c=>exact h.elim
   | outgrown=>obtain ⟨_,_,h⟩:=h;exact h.elim
  | _=>exact h.elim

section
variable {P:Program} {bd:Nat} {B:Hp} {w0:Root} {G0:Hp} {n:Nat} {ops:Array Oper}
theorem obl_of (T:Tab P) {ms:List FuncId} {y:IOper} (hyv:y.op.isCallv = false) {post:List IOper} {K:St→Prop}:∀ {pre:List IOper} {σ:St} {M:Nat→Prop} {E:Nat→Value} {a:Act} {W:World},
  (∀ x∈pre,indep ms bd x y = true∧(∃ o,OpOk P n ops o x)∧¬ M x.hid)→pre.Pairwise (fun x x'=>x.hid≠x'.hid)→Sat w0 G0 n M E σ a W→Grow B σ.G→vcOps P T.get bd B (pre++y :: post) σ K→TOb P T.get bd B y σ
 | [], σ,_,_,_,_,_,_,_,_,hv=>by
  simp only [List.nil_append,vcOps,TF_eq,pubO_no hyv] at hv
  exact ((TI_iff T hyv).1 hv).1
 | x :: pre, σ,M,E,a,W,hp,hpw,hs,hB,hv=>by
  obtain ⟨hi,⟨o,ho⟩,hM⟩:=hp x (by simp)
  have I:=indep_spec hi
  simp only [List.cons_append,vcOps,TF_eq,pubO_no I.vx] at hv
  obtain ⟨obx,hx⟩:=(TI_iff T I.vx).1 hv
  have hd:TI P T.get bd B x σ fun σ'=>∃ sv hu p G',TEf P T.get bd B x σ sv hu p∧(p = none→G' = σ.G)∧σ' = σ.app x.dst sv hu G'∧vcOps P T.get bd B (pre++y :: post) σ' K:=by
   refine (TI_iff T I.vx).2 ⟨obx,fun sv hu p he=>?_⟩
   have:=hx sv hu p he
   cases p with
   | none=>exact ⟨sv,hu,none, σ.G,he,fun _=>rfl,rfl,this⟩
   | some q=>intro G' hg hq;exact ⟨sv,hu,some q,G',he,fun e=>(by cases e),rfl,this G' hg hq⟩
  have key:=TI_sound T (rd:=none) (nn:=0) (Q:=fun _ _ _=>False) hs hM ho.op ho.gd ho.dst ho.ok hB hd
  have:∃ σ' E' a' W',(∃ sv hu p G',TEf P T.get bd B x σ sv hu p∧(p = none→G' = σ.G)∧σ' = σ.app x.dst sv hu G'∧vcOps P T.get bd B (pre++y :: post) σ' K)∧Grow σ.G σ'.G∧Sat w0 G0 n (fun k=>M k∨k = x.hid) E' σ' a' W':=by
   split at key
   ·obtain ⟨a',W', σ',E',h1,h2,_,_,h3⟩:=wpIn_ex key
    exact ⟨σ',E',a',W',h1,h2,h3⟩
   ·obtain ⟨_, σ',E',h1,h2,_,_,h3⟩:=key
    exact ⟨σ',E',_,_,h1,h2,h3⟩
  obtain ⟨σ',E',a',W',⟨sv,hu,p,G',he,hpn,rfl,hvc⟩,hgr,hs'⟩:=this
  have ih:=obl_of T hyv (pre:=pre) (fun x' hx'=>⟨(hp x' (by simp [hx'])).1,(hp x' (by simp [hx'])).2.1,fun hm=>?_⟩) (List.pairwise_cons.1 hpw).2 hs' (hB.trans hgr) hvc
  ·refine (TEf_seen (P:=P) (B:=B) (seen_y I he (G':=G')) ?_ (sv:=sv) (hu:=hu) (p:=p)).2.1 ih
   rcases I.gy with h | h
   ·exact .inl h
   ·exact .inr (hpn (TEf_still h he))
  ·rcases hm with hm | hm
   ·exact (hp x' (by simp [hx'])).2.2 hm
   ·exact (List.pairwise_cons.1 hpw).1 x' hx' hm.symm
def mvPast (x y:IOper):Bool:=match x.dst,x.op,x.guard,y.guard with
 | some d, .mv (.t s),none,none=>y.op.isCallv && !memN d y.looks && !dstEq y.dst (some d) && !dstEq y.dst (some s)
 | _,_,_,_=>false
theorem mvPast_spec {x y:IOper} (h:mvPast x y = true):∃ d s,x.dst = some d∧x.op = .mv (.t s)∧x.guard = none∧y.guard = none∧y.op.isCallv = true∧d ∉ y.looks∧y.dst≠some d∧y.dst≠some s:=by
 unfold mvPast at h
 split at h
 case h_2=>cases h
 rename_i d s h1 h2 h3 h4
 simp only [Bool.and_eq_true,Bool.not_eq_true'] at h
 obtain ⟨⟨⟨k1,k2⟩,k3⟩,k4⟩:=h
 refine ⟨d,s,h1,h2,h3,h4,k1,fun e=>?_,fun e=>?_,fun e=>?_⟩
 ·rw [memN_iff.2 e] at k2;cases k2
 ·rw [e] at k3;simp [dstEq] at k3
 ·rw [e] at k4;simp [dstEq] at k4
theorem fork_pick {sv:SV} {K:SV→Prop} (h:fork sv K):∃ sv',K sv'∧∀ K2:SV→Prop,K2 sv'→fork sv K2:=by
 unfold fork at *
 split at h
 ·rename_i b
  cases b with
  | true=>exact ⟨tt,(h.t rfl).out,fun K2 h2=>⟨fun _=>⟨h2⟩,(fun e=>by cases e)⟩⟩
  | false=>exact ⟨ff,(h.f rfl).out,fun K2 h2=>⟨(fun e=>by cases e),fun _=>⟨h2⟩⟩⟩
 ·exact ⟨sv,h,fun K2 h2=>h2⟩
theorem TF_mv {tab:FuncId→Option PSpec} {x:IOper} {d s:Nat} (h1:x.dst = some d) (h2:x.op = .mv (.t s)) (h3:x.guard = none) {σ:St} {K:St→Prop}:TF P tab bd B x σ K = fork (σ.fr s) fun sv=>K ⟨upd σ.fr d sv, σ.H, σ.G⟩:=by
 rw [TF_eq]
 unfold TI guardK
 rw [h3,h2,h1]
 rfl
theorem pubS_congr {fr fr':Nat→SV}:∀ {ts:List Nat} {H:Nat→Option OB} {G:Hp} {K:HK},(∀ t∈ts,fr t = fr' t)→pubS fr H G ts K→pubS fr' H G ts K
 | [],_,_,_,_,h=>h
 | t :: r,H,G,K,he,h=>by
  simp only [pubS] at h ⊢
  rw [← he t (by simp)]
  exact pubV_mono (fun H G h=>pubS_congr (fun t ht=>he t (by simp [ht])) h) h
theorem callLooks_sub {op:IOp}:∀ t∈callLooks op,op.isCallv = true→t∈op.looks:=by
 intro t ht hc
 cases op<;>simp_all [IOp.isCallv,callLooks,IOp.looks]
theorem take_mv (T:Tab P) {y:IOper} {post:List IOper} {K:St→Prop}:∀ {pre:List IOper} {σ:St},(∀ x∈pre,mvPast x y = true)→vcOps P T.get bd B (pre++y :: post) σ K→pubO y.op σ fun σ=>TI P T.get bd B y σ fun σ'=>vcOps P T.get bd B (pre++post) σ' K
 | [], σ,_,hv=>by simpa only [List.nil_append,vcOps,TF_eq] using hv
 | x :: pre, σ,hp,hv=>by
  obtain ⟨d,s,h1,h2,h3,h4,h5,h6,h7,h8⟩:=mvPast_spec (hp x (by simp))
  have hxv:x.op.isCallv = false:=by rw [h2];rfl
  simp only [List.cons_append,vcOps,pubO_no hxv,TF_mv h1 h2 h3] at hv
  obtain ⟨sv',hv,hk⟩:=fork_pick hv
  have ih:=take_mv T (fun x hx=>hp x (by simp [hx])) hv
  obtain ⟨fr,H,G⟩:=σ
  dsimp only at hk hv ih
  unfold pubO at ih ⊢
  rw [h5] at ih ⊢
  simp only [cond_true] at ih ⊢
  have hfr:∀ t,t∈y.looks→upd fr d sv' t = fr t:=fun t ht=>upd_other _ _ (fun e=>h6 (by rw [← e];exact ht))
  refine pubS_mono (fun H1 G1 h=>?_) (pubS_congr (fr':=fr) (fun t ht=>hfr t (by simp [IOper.looks,callLooks_sub t ht h5])) ih)
  unfold TI guardK at h ⊢
  rw [h4] at h ⊢
  dsimp only at h ⊢
  rw [← ev_congr (fr:=upd fr d sv') (fr':=fr) (fun t ht=>hfr t (by simp [IOper.looks,ht]))]
  refine den_mono (fun sv hu G2 h=>?_) h
  simp only [List.cons_append,vcOps,pubO_no hxv,TF_mv h1 h2 h3]
  cases hy:y.dst with
  | none =>
   rw [hy] at h
   exact hk _ h
  | some yd =>
   rw [hy] at h
   have hyd:yd≠d:=fun e=>h7 (by rw [hy,e])
   have hys:yd≠s:=fun e=>h8 (by rw [hy,e])
   have e1:upd fr yd sv s = fr s:=upd_other _ _ (Ne.symm hys)
   have e2:upd (upd fr d sv') yd sv = upd (upd fr yd sv) d sv':=upd_comm _ _ _ (Ne.symm hyd)
   show fork (upd fr yd sv s) _
   rw [e1]
   refine hk _ ?_
   have h:vcOps P T.get bd B (pre++post) ⟨upd (upd fr d sv') yd sv,updH H1 hu,G2⟩ K:=h
   rw [e2] at h
   exact h
theorem take (T:Tab P) {ms:List FuncId} (HM:MonoT T.get ms) {y:IOper} {pre post:List IOper} {K:St→Prop} {σ:St} {M:Nat→Prop} {E:Nat→Value} {a:Act} {W:World}
  (hp:∀ x∈pre,(indep ms bd x y = true∨mvPast x y = true)∧(∃ o,OpOk P n ops o x)∧¬ M x.hid) (hpw:pre.Pairwise (fun x x'=>x.hid≠x'.hid)) (hs:Sat w0 G0 n M E σ a W) (hB:Grow B σ.G) (hv:vcOps P T.get bd B (pre++y :: post) σ K) :
  pubO y.op σ fun σ=>TI P T.get bd B y σ fun σ'=>vcOps P T.get bd B (pre++post) σ' K:=by
 cases hc:y.op.isCallv with
 | true =>
  refine take_mv T (fun x hx=>?_) hv
  rcases (hp x hx).1 with h | h
  ·have:=(indep_spec h).vy;rw [hc] at this;cases this
  ·exact h
 | false =>
 replace hp:∀ x∈pre,indep ms bd x y = true∧(∃ o,OpOk P n ops o x)∧¬ M x.hid:=fun x hx=>⟨(hp x hx).1.elim id (fun h=>by
  obtain ⟨_,_,_,_,_,_,h5,_⟩:=mvPast_spec h
  rw [hc] at h5;cases h5),(hp x hx).2⟩
 cases pre with
 | nil=>simpa only [List.nil_append,vcOps,TF_eq] using hv
 | cons x pre =>
 have hyv:=(indep_spec (hp x (by simp)).1).vy
 have ob:=obl_of T hyv hp hpw hs hB hv
 rw [pubO_no hyv]
 exact (TI_iff T hyv).2 ⟨ob,fun sv hu p he=>pull T HM (fun x hx=>(hp x hx).1) hyv hv ob sv hu p he⟩

/-! ### The region -/
def pairOk (ms:List FuncId) (bd:Nat) (p q:Nat × IOper):Bool:=Nat.blt p.1 q.1 && !Nat.beq p.2.hid q.2.hid && (memN p.1 q.2.deps || indep ms bd p.2 q.2 || mvPast p.2 q.2)
def pairsOk (ms:List FuncId) (bd:Nat):List (Nat × IOper)→Bool
 | []=>true
 | p :: r=>cond (r.all (pairOk ms bd p)) (pairsOk ms bd r) false

theorem pairsOk_spec {ms:List FuncId}:∀ {l:List (Nat × IOper)},pairsOk ms bd l = true→l.Pairwise (fun p q=>pairOk ms bd p q = true)
 | [],_=>List.Pairwise.nil
 | p :: r,h=>by
  simp only [pairsOk] at h
  cases hc:r.all (pairOk ms bd p) with
  | false=>rw [hc] at h;cases h
  | true=>rw [hc] at h;exact List.pairwise_cons.2 ⟨by simpa using hc,pairsOk_spec h⟩
structure Draw (P:Program) (n:Nat) (ms:List FuncId) (bd:Nat) (ops:Array Oper) (all:List (Nat × IOper)):Prop where
 ok:∀ i io,(i,io)∈all→∃ o,ops[i]? = some o∧OpOk P n ops o io∧(∀ a,a∈depsOf o→a < i) ∧
  ∀ a∈io.deps,a∈depsOf o∨∃ q∈all,q.1∈depsOf o∧a∈q.2.deps
 full:∀ i,i < ops.size→∃ io,(i,io)∈all
 pw:all.Pairwise (fun p q=>pairOk ms bd p q = true)

theorem mem_depsOf {o:Oper} {a:Nat}:a∈depsOf o↔∃ e∈o.after,Region.binds .any e = true∧e.on = a:=by
 simp only [depsOf,List.mem_map,List.mem_filter,Array.mem_toList_iff,and_assoc]

theorem any_sound (T:Tab P) {ms:List FuncId} (HM:MonoT T.get ms) {all:List (Nat × IOper)} (D:Draw P n ms bd ops all) {rd:Option Nat} {nn:Nat} {Q:Exit→Act→World→Prop} {K:St→Prop} {top:Nat} (hbt:bd≤top) (htop:∀ p∈all,p.2.hid < top)
  {M0:Nat→Prop} {E0:Nat→Value} {p0:SV} (hq:∀ σ' a' W' M E,K σ'→Grow B σ'.G→(∀ k,M k→k < top)→(∀ k,M0 k→M k)→Agree M0 E0 E→σ'.fr POS = p0→Sat w0 G0 n M E σ' a' W'→Q .normal a' W') :
  ∀ (fuel:Nat) {rest:List (Nat × IOper)} {listed:Array Bool} {σ:St} {M:Nat→Prop} {E:Nat→Value} {a:Act} {W:World},rest.length = fuel→rest.Sublist all→(∀ i,i < ops.size→(listed.getD i true = false↔∃ io,(i,io)∈rest))→listed.size = ops.size →
   (∀ p∈all,p ∉ rest→∀ d∈p.2.deps, ∀ q∈rest,q.1≠d)→(∀ p∈rest, ¬ M p.2.hid)→(∀ k,M k→k < top)→(∀ k,M0 k→M k)→Agree M0 E0 E→σ.fr POS = p0→Sat w0 G0 n M E σ a W→Grow B σ.G→vcOps P T.get bd B (rest.map (·.2)) σ K →
   wpAnyIn (FW rd) nn P .any ops Q fuel listed a W:=by
 intro fuel
 induction fuel with
 | zero =>
  intro rest listed σ M E a W hlen hsub hlist hsz hclo hfresh hM hMM hAg hp0 hs hB hv
  have hr:rest = []:=List.eq_nil_of_length_eq_zero hlen
  subst hr
  refine ⟨?_,hq σ a W M E hv hB hM hMM hAg hp0 hs⟩
  cases hrd:Region.ready .any ops listed with
  | nil=>rfl
  | cons i r =>
   have hi:i∈Region.ready .any ops listed:=by rw [hrd];simp
   obtain ⟨h1,o,ho,_⟩:=mem_ready.1 hi
   obtain ⟨io,hio⟩:=(hlist i (Array.getElem?_eq_some_iff.1 ho).1).1 h1
   cases hio
 | succ fuel ih =>
  intro rest listed σ M E a W hlen hsub hlist hsz hclo hfresh hM hMM hAg hp0 hs hB hv
  have hpw:=D.pw.sublist hsub
  constructor
  ·-- some operation is ready: the first
   intro hnone
   cases rest with
   | nil=>simp at hlen
   | cons p r =>
    exfalso
    obtain ⟨i,io⟩:=p
    obtain ⟨o,ho,_,hlt,_⟩:=D.ok i io (hsub.subset (by simp))
    have:i∈Region.ready .any ops listed:=by
     refine mem_ready.2 ⟨(hlist i (Array.getElem?_eq_some_iff.1 ho).1).2 ⟨io,by simp⟩,o,ho,fun e he hb=>?_⟩
     have hlt:=hlt e.on (mem_depsOf.2 ⟨e,he,hb,rfl⟩)
     have hisz:=(Array.getElem?_eq_some_iff.1 ho).1
     have hes:e.on < ops.size:=Nat.lt_trans hlt hisz
     cases hg:listed.getD e.on true with
     | true =>
      have:e.on < listed.size:=by rw [hsz];exact hes
      simp only [Array.getD_eq_getD_getElem?,Array.getElem?_eq_getElem this,Option.getD_some] at hg ⊢
      exact hg
     | false =>
      obtain ⟨io',hio'⟩:=(hlist e.on hes).1 hg
      rcases List.mem_cons.1 hio' with h | h
      ·cases h;omega
      ·have:=(List.pairwise_cons.1 hpw).1 _ h
       simp only [pairOk,Bool.and_eq_true] at this
       have h2:i < e.on:=by simpa using this.1.1
       omega
    rw [hnone] at this
    cases this
  ·intro i hi
   obtain ⟨h1,o,ho,hrdy⟩:=mem_ready.1 hi
   have hisz:=(Array.getElem?_eq_some_iff.1 ho).1
   obtain ⟨y,hy⟩:=(hlist i hisz).1 h1
   obtain ⟨pre,post,rfl⟩:=List.append_of_mem hy
   obtain ⟨o',ho',hok,hlt,hdeps⟩:=D.ok i y (hsub.subset hy)
   rw [ho] at ho';cases ho'
   -- what y waits for is done
   have hdone:∀ d∈y.deps, ∀ q∈pre++(i,y) :: post,q.1≠d:=by
    intro d hd q hqr e
    have direct:∀ b,b∈depsOf o→∀ q∈pre++(i,y) :: post,q.1≠b:=by
     intro b hb q hqr e
     obtain ⟨ed,he,hbd,rfl⟩:=mem_depsOf.1 hb
     have h2:=hrdy ed he hbd
     have hsz':ed.on < ops.size:=Nat.lt_trans (hlt _ hb) hisz
     have h3:=(hlist ed.on hsz').2 ⟨q.2,by rw [← e];exact hqr⟩
     have:ed.on < listed.size:=by rw [hsz];exact hsz'
     simp only [Array.getD_eq_getD_getElem?,Array.getElem?_eq_getElem this,Option.getD_some] at h2 h3
     rw [h2] at h3;cases h3
    rcases hdeps d hd with h | ⟨q',hq',hqd,hdq⟩
    ·exact direct d h q hqr e
    ·exact hclo q' hq' (fun hin=>direct _ hqd q' hin rfl) d hdq q hqr e
   have hpw2:=List.pairwise_append.1 hpw
   have hind:∀ x∈pre.map (·.2),(indep ms bd x y = true∨mvPast x y = true)∧(∃ o,OpOk P n ops o x)∧¬ M x.hid:=by
    intro x hx
    obtain ⟨q,hq',rfl⟩:=List.mem_map.1 hx
    have h2:=hpw2.2.2 q hq' (i,y) (by simp)
    simp only [pairOk,Bool.and_eq_true,Bool.or_eq_true] at h2
    obtain ⟨oq,_,hokq,_⟩:=D.ok q.1 q.2 (hsub.subset (by simp [hq']))
    refine ⟨?_,⟨oq,hokq⟩,hfresh q (by simp [hq'])⟩
    rcases h2.2 with (h | h) | h
    ·exact absurd rfl (hdone q.1 (memN_iff.1 h) q (by simp [hq']))
    ·exact .inl h
    ·exact .inr h
   have hnod:(pre.map (·.2)).Pairwise (fun x x'=>x.hid≠x'.hid):=by
    rw [List.pairwise_map]
    refine hpw2.1.imp ?_
    intro p q h e
    simp only [pairOk,Bool.and_eq_true,Bool.not_eq_true'] at h
    rw [e,Nat.beq_refl] at h
    simp at h
   rw [List.map_append,List.map_cons] at hv
   obtain ⟨σ,htk,hgr1,hfr1,hs⟩:=pubO_sound hs (take T HM hind hnod hs hB hv)
   replace hB:=hB.trans hgr1
   replace hp0:σ.fr POS = p0:=(congrFun hfr1 POS).trans hp0
   have key:=TI_sound T (rd:=rd) (nn:=nn) (Q:=Q) hs (hfresh (i,y) hy) hok.op hok.gd hok.dst hok.ok hB htk
   have next:∀ a' W',(∃ σ' E',vcOps P T.get bd B (pre.map (·.2)++post.map (·.2)) σ' K∧Grow σ.G σ'.G∧Agree M E E'∧σ'.fr POS = σ.fr POS∧Sat w0 G0 n (fun k=>M k∨k = y.hid) E' σ' a' W')→wpAnyIn (FW rd) nn P .any ops Q fuel (listed.setIfInBounds i true) a' W':=by
    rintro a' W' ⟨σ',E',hk,hg,hag',hp',hs'⟩
    have hsub':(pre++post).Sublist (pre++(i,y) :: post):=List.Sublist.append_left (List.sublist_cons_self _ _) _
    have hni:∀ q∈pre++post,q.1≠i∧q.2.hid≠y.hid:=by
     intro q hq'
     rcases List.mem_append.1 hq' with h | h
     ·have h2:=hpw2.2.2 q h (i,y) (by simp)
      simp only [pairOk,Bool.and_eq_true,Bool.not_eq_true'] at h2
      refine ⟨?_,fun e=>?_⟩
      ·have:q.1 < i:=by simpa using h2.1.1
       omega
      ·rw [e,Nat.beq_refl] at h2;simp at h2
     ·have h2:=(List.pairwise_cons.1 hpw2.2.1).1 q h
      simp only [pairOk,Bool.and_eq_true,Bool.not_eq_true'] at h2
      refine ⟨?_,fun e=>?_⟩
      ·have:i < q.1:=by simpa using h2.1.1
       omega
      ·rw [e,Nat.beq_refl] at h2;simp at h2
    refine ih (rest:=pre++post) (by simp at hlen ⊢;omega) (hsub'.trans hsub) ?_ (by simp [hsz]) ?_ ?_ ?_ (fun k hk=>.inl (hMM k hk)) (fun k hk=>(hag' k (hMM k hk)).trans (hAg k hk)) (hp'.trans hp0) hs' (hB.trans hg) (by rw [List.map_append];exact hk)
    ·intro j hj
     by_cases hji:j = i
     ·subst hji
      have:j < listed.size:=by rw [hsz];exact hj
      constructor
      ·intro h
       simp [Array.getElem?_setIfInBounds,this] at h
      ·rintro ⟨io,hio⟩
       exact absurd rfl (hni _ hio).1
     ·rw [getD_set_ne true (Ne.symm hji),hlist j hj]
      constructor
      ·rintro ⟨io,hio⟩
       refine ⟨io, ?_⟩
       rcases List.mem_append.1 hio with h | h
       ·simp [h]
       ·rcases List.mem_cons.1 h with h | h
        ·cases h;exact absurd rfl hji
        ·simp [h]
      ·rintro ⟨io,hio⟩
       exact ⟨io,hsub'.subset hio⟩
    ·intro p hp hnot d hd q hq'
     by_cases hpy:p = (i,y)
     ·subst hpy
      exact hdone d hd q (hsub'.subset hq')
     ·refine hclo p hp (fun hin=>hnot ?_) d hd q (hsub'.subset hq')
      rcases List.mem_append.1 hin with h | h
      ·simp [h]
      ·rcases List.mem_cons.1 h with h | h
       ·exact absurd h hpy
       ·simp [h]
    ·intro p hp hm
     rcases hm with hm | hm
     ·exact hfresh p (hsub'.subset hp) hm
     ·exact (hni p hp).2 hm
    ·intro k hk'
     rcases hk' with h | h
     ·exact hM k h
     ·rw [h];exact htop (i,y) (hsub.subset hy)
   unfold wpOpIn
   rw [ho]
   simp only
   split
   ·rename_i hw
    rw [if_pos hw] at key
    exact Oper.wpIn_mono next key
   ·rename_i hw
    rw [if_neg hw] at key
    exact ⟨key.1,next _ _ key.2⟩

theorem draw_sound (T:Tab P) {ms:List FuncId} (HM:MonoT T.get ms) (hm:P.follows .mixedOrders = true) {all:List (Nat × IOper)} (D:Draw P n ms bd ops all) (hlen:all.length = ops.size) {rd:Option Nat} {nn:Nat} {Q:Exit→Act→World→Prop} {K:St→Prop} {top:Nat} (hbt:bd≤top) (htop:∀ p∈all,bd≤p.2.hid∧p.2.hid < top)
  {id:Nat} {σ:St} {M:Nat→Prop} {E:Nat→Value} {a:Act} {W:World} (hM:∀ k,M k→k < bd) (hs:Sat w0 G0 n M E σ a W) (hv:vcOps P T.get bd σ.G (all.map (·.2)) σ K)
  {M0:Nat→Prop} {E0:Nat→Value} (hMM:∀ k,M0 k→M k) (hAg:Agree M0 E0 E) (hq:∀ σ' a' W' M E,K σ'→Grow σ.G σ'.G→(∀ k,M k→k < top)→(∀ k,M0 k→M k)→Agree M0 E0 E→σ'.fr POS = σ.fr POS→Sat w0 G0 n M E σ' a' W'→Q .normal a' W') :
  (Code.region id ops true).wpIn (FW rd) nn P Q a W:=by
 refine wpIn_region_any hm ?_
 have hs':Sat w0 G0 n M E σ a { W with drawn:=W.drawn + 1 }:=⟨hs.sim.keep ⟨rfl,rfl,rfl,Nat.le_refl _,fun _ _=>rfl⟩,hs.mfr,hs.mH,hs.fr,hs.size,hs.defers⟩
 refine any_sound T HM D hbt (fun p hp=>(htop p hp).2) hq ops.size (rest:=all) hlen (List.Sublist.refl _) ?_ (by simp) ?_ ?_ (fun k hk=>Nat.lt_of_lt_of_le (hM k hk) hbt) hMM hAg rfl hs' (Grow.refl _) hv
 ·intro i hi
  have:(Array.replicate ops.size false).getD i true = false:=by simp [hi]
  simp only [this,true_iff]
  exact D.full i hi
 ·intro p hp hnot
  exact absurd hp hnot
 ·intro p hp hm'
  have:=hM _ hm'
  have:=(htop p hp).1
  omega
end
end Go.Pal

namespace Go.Pal
open Go.RowKit

def Env.at_ (e:Env) (sv:SV) (Hd:Nat→Prop) (G:Hp) (W:World):Prop:=match sv with
 | .c (.pos k st)=>(cond st e.Jx e.J) k Hd G W
 | _=>e.J 0 Hd G W

theorem Env.Ok.step {P:Program} {e:Env} (he:e.Ok P) {sv:SV} {Hd Hd':Nat→Prop} {G G':Hp} {W W':World} (h:e.at_ sv Hd G W) (s:EnvStep Hd G W Hd' G' W'):e.at_ sv Hd' G' W':=by
 unfold Env.at_ at *
 split at h
 ·rename_i k st
  cases st
  ·exact he.st _ _ _ _ _ _ _ h s
  ·exact he.stx _ _ _ _ _ _ _ h s
 ·exact he.st _ _ _ _ _ _ _ h s

theorem EnvStep.shrink {Hd Hd':Nat→Prop} {G:Hp} {W:World} (hs:Sub G W) (h:∀ b,Hd' b→Hd b∧G b = none∧b < W.heap.size):EnvStep Hd G W Hd' G W :=
 ⟨⟨rfl,rfl,rfl,Nat.le_refl _,fun _ _ _=>rfl⟩,Grow.refl _,hs,fun _ _ h=>.inl h,fun b hb=>⟨.inl (h b hb).1,(h b hb).2⟩⟩

def Hand (E:Nat→Value) (H:Nat→Option OB) (b:Nat):Prop:=∃ h ob,H h = some ob∧ob.has (E h) b
def MarkB (ds:List Deferred) (b:Nat):Prop:=∃ d∈ds,d = ⟨.collected b, #[]⟩
def HdOf (r:Root) (G:Hp) (b:Nat):Prop:=(r.ln b∧G b = none)∨MarkB r.ds b
structure MarksAt (x:Prop) (ds:List Deferred) (ln:Nat→Prop) (G:Hp) (W:World):Prop where
 each:∀ d∈ds,(∃ D,d = ⟨.collected D, #[]⟩)∨(x∧∃ fv cap args,d = ⟨.fn fv cap,args⟩)
 at_:∀ D,MarkB ds D→¬ ln D∧G D = none∧W.heap[D]? = some (.deferred (some []))
 nodup:ds.Pairwise (·≠·)

structure Rooted (e:Env) (p:SV) (r:Root) (G0:Hp):Prop where
 at_:e.at_ p (HdOf r G0) G0 r.w
 ln:∀ b,r.ln b→b < r.w.heap.size
 sub:Sub G0 r.w
 marks:MarksAt (e.pn≠none) r.ds r.ln G0 r.w

theorem OB.ok_root {r r':Root} {E:Nat→Value} {W:World} {h:Nat} {ob:OB} (ho:ob.ok r E W h) (hm:∀ b,ob.has (E h) b→r'.mine b):ob.ok r' E W h:=by
 cases ob with
 | heap p=>exact fun b o e=>⟨hm b ⟨o,e⟩,(ho b o e).2⟩
 | cells s cs t =>
  obtain ⟨b',vs,e,hb',hw,hr⟩:=ho
  exact ⟨b',vs,e,hm b' (show blkOf (E h) = _ by rw [e];rfl),hw,hr⟩
 | row p n vs t k =>
  obtain ⟨ho,hc,_⟩:=ho
  exact ⟨ho,hc,hm⟩
 | map s es clock =>
  obtain ⟨b',e,hb',hw,hr⟩:=ho
  exact ⟨b',e,hm b' (show blkOf (E h) = _ by rw [e];rfl),hw,hr⟩
 | xrow b' n cap vs rest t k =>
  obtain ⟨e,hb',hr⟩:=ho
  exact ⟨e,hm b' (show blkOf (E h) = _ by rw [e];rfl),hr⟩

section
variable {P:Program} {e:Env} {p:SV} {r:Root} {G0 G G':Hp} {E:Nat→Value} {H:Nat→Option OB} {W W':World}

theorem mark_low (hr:Rooted e p r G0) {D:Nat} (hD:MarkB r.ds D):D < r.w.heap.size∧¬ r.mine D:=by
 obtain ⟨h1,_,h3⟩:=hr.marks.at_ D hD
 have:=(Array.getElem?_eq_some_iff.1 h3).1
 exact ⟨this,fun h=>h.elim (by omega) h1⟩
theorem Rooted.now (he:e.Ok P) (hr:Rooted e p r G0) (hg:Grow G0 G) (hs:Sim r G0 E H G W):Rooted e p ⟨W,Hand E H,r.ds⟩ G∧Sim ⟨W,Hand E H,r.ds⟩ G E H G W:=by
 have hh:∀ b,Hand E H b→r.mine b∧b < W.heap.size:=fun b ⟨h,ob,e1,e2⟩=>OB.blk (hs.own h ob e1) e2
 have hG0:∀ b,G b = none→G0 b = none:=fun b hb=>by
  cases h:G0 b with
  | none=>rfl
  | some o=>rw [hg b o h] at hb;cases hb
 have hmk:∀ D,MarkB r.ds D→¬ Hand E H D∧G D = none∧W.heap[D]? = some (.deferred (some [])):=fun D hD=>by
  obtain ⟨h1,h2,h3⟩:=hr.marks.at_ D hD
  obtain ⟨h4,h5⟩:=mark_low hr hD
  refine ⟨fun h=>h5 (hh D h).1, ?_,(hs.below.block D h4 h1).trans h3⟩
  cases h:G D with
  | none=>rfl
  | some o =>
   rcases hs.newG D o h with h6 | h6
   ·rw [h2] at h6;cases h6
   ·exact (h5 h6).elim
 have step:EnvStep (HdOf r G0) G0 r.w (HdOf ⟨W,Hand E H,r.ds⟩ G) G W:=by
  refine ⟨⟨hs.below.os,hs.below.tape,hs.below.output,hs.below.size,fun k hk hn=>?_⟩,hg,hs.sub, ?_, ?_⟩
  ·by_cases hl:r.ln k
   ·cases h0:G0 k with
    | none=>exact (hn (.inl ⟨hl,h0⟩)).elim
    | some o=>exact (hs.sub k o (hg k o h0)).trans (hr.sub k o h0).symm
   ·exact hs.below.block k hk hl
  ·intro b o h
   rcases hs.newG b o h with h1 | h1 | h1
   ·exact .inl h1
   ·exact .inr (.inr h1)
   ·cases h0:G0 b with
    | none=>exact .inr (.inl (.inl ⟨h1,h0⟩))
    | some o'=>have:=hg b o' h0;rw [h] at this;cases this;exact .inl rfl
  ·rintro b (⟨h1,h2⟩ | h1)
   ·obtain ⟨h3,h4⟩:=hh b h1
    refine ⟨?_,h2,h4⟩
    rcases h3 with h3 | h3
    ·exact .inr h3
    ·exact .inl (.inl ⟨h3,hG0 b h2⟩)
   ·obtain ⟨h2,h3,h4⟩:=hmk b h1
    exact ⟨.inl (.inr h1),h3,(Array.getElem?_eq_some_iff.1 h4).1⟩
 refine ⟨⟨he.step hr.at_ step,fun b hb=>(hh b hb).2,hs.sub,⟨hr.marks.each,hmk,hr.marks.nodup⟩⟩,⟨Beneath.refl _,hs.sub,fun b o h=>.inl h,fun h ob e1=>OB.ok_root (hs.own h ob e1) (fun b hb=>.inr ⟨h,ob,e1,hb⟩),hs.pub,hs.priv,hs.inj⟩⟩
theorem Rooted.after {x:Prop} {ds:List Deferred} (hs:Sim ⟨W,Hand E H,ds⟩ G E H G W) (hm:MarksAt x ds (Hand E H) G W) (hg:Grow G G') (hsub:Sub G' W') (hk:∀ b,HdOf ⟨W,Hand E H,ds⟩ G b→W'.heap[b]? = W.heap[b]?∧G' b = none) :
  Sim ⟨W',Hand E H,ds⟩ G' E H G' W'∧MarksAt x ds (Hand E H) G' W'∧∀ b,Hand E H b→b < W'.heap.size∧W'.heap[b]? = W.heap[b]?:=by
 have hh:∀ b,Hand E H b→b < W.heap.size:=fun b ⟨h,ob,e1,e2⟩=>(OB.blk (hs.own h ob e1) e2).2
 have same:∀ b,Hand E H b→W'.heap[b]? = W.heap[b]?:=fun b hb=>by
  cases h:G b with
  | none=>exact (hk b (.inl ⟨hb,h⟩)).1
  | some o=>exact (hsub b o (hg b o h)).trans (hs.sub b o h).symm
 refine ⟨⟨Beneath.refl _,hsub,fun b o h=>.inl h,fun h ob e1=>OB.ok_root (OB.ok_kept (hs.own h ob e1) (fun b hb=>same b ⟨h,ob,e1,hb⟩)) (fun b hb=>.inr ⟨h,ob,e1,hb⟩), ?_, ?_,hs.inj⟩,⟨hm.each, ?_,hm.nodup⟩, ?_⟩
 ·intro h ob v e1 e2
  obtain ⟨e3,e4⟩:=hs.pub h ob v e1 e2
  refine ⟨e3,fun b hb=>?_⟩
  have hb':ob.has (E h) b:=(OB.has_pub e2).2 (by rw [e3];exact hb)
  have hlt:=hh b ⟨h,ob,e1,hb'⟩
  have e5:=e4 b hb
  rw [Array.getElem?_eq_getElem hlt] at e5
  have:=hg b _ e5
  rw [this];exact (hsub b _ this).symm
 ·intro h ob e1 e2 b hb
  exact (hk b (.inl ⟨⟨h,ob,e1,hb⟩,hs.priv h ob e1 e2 b hb⟩)).2
 ·intro D hD
  obtain ⟨h1,h2,h3⟩:=hm.at_ D hD
  obtain ⟨h4,h5⟩:=hk D (.inr hD)
  exact ⟨h1,h5,h4.trans h3⟩
 ·intro b hb
  have:=same b hb
  refine ⟨?_,this⟩
  rw [Array.getElem?_eq_getElem (hh b hb)] at this
  exact (Array.getElem?_eq_some_iff.1 this).1

structure SatE (e:Env) (ds:List Deferred) (n bd:Nat) (M0:Nat→Prop) (E0:Nat→Value) (σ:St) (a:Act) (W:World):Prop where
 ex:∃ r G0 M E,r.ds = ds∧(∀ k,M k→k < bd)∧(∀ k,M0 k→M k)∧Agree M0 E0 E∧Rooted e (σ.fr POS) r G0∧Grow G0 σ.G∧Sat r G0 n M E σ a W

theorem Sat.sim' {r r':Root} {G0 G1:Hp} {n:Nat} {M:Nat→Prop} {E:Nat→Value} {σ:St} {a:Act} {W W':World} (hs:Sat r G0 n M E σ a W) (h:Sim r' G1 E σ.H σ.G W') (hd:r'.ds = r.ds):Sat r' G1 n M E σ a W' :=
 ⟨h,hs.mfr,hs.mH,hs.fr,hs.size,by rw [hd];exact hs.defers⟩

theorem SatE.now {ds:List Deferred} {n bd:Nat} {M0:Nat→Prop} {E0:Nat→Value} {σ:St} {a:Act} (he:e.Ok P) (h:SatE e ds n bd M0 E0 σ a W):∃ M E,a.defers = ds∧(∀ k,M k→k < bd)∧(∀ k,M0 k→M k)∧Agree M0 E0 E ∧
  Rooted e (σ.fr POS) ⟨W,Hand E σ.H,a.defers⟩ σ.G∧Sat ⟨W,Hand E σ.H,a.defers⟩ σ.G n M E σ a W:=by
 obtain ⟨r,G0,M,E,h0,h1,h2,h3,h4,h5,h6⟩:=h.ex
 obtain ⟨k1,k2⟩:=h4.now he h5 h6.sim
 rw [← h6.defers] at k1 k2
 exact ⟨M,E,h6.defers.trans h0,h1,h2,h3,k1,h6.sim' k2 h6.defers⟩

theorem SatE.of {ds:List Deferred} {n bd:Nat} {M0 M:Nat→Prop} {E0:Nat→Value} {σ:St} {a:Act} (h1:∀ k,M k→k < bd) (h2:∀ k,M0 k→M k) (h3:Agree M0 E0 E) (h4:Rooted e (σ.fr POS) r G0) (h5:Grow G0 σ.G) (h6:Sat r G0 n M E σ a W) (h0:r.ds = ds:=by rfl):SatE e ds n bd M0 E0 σ a W :=
 ⟨r,G0,M,E,h0,h1,h2,h3,h4,h5,h6⟩
end
end Go.Pal

namespace Go.Pal
open Go.RowKit

inductive Out where
 | norm
 | exit (id:Nat)
 | ret

inductive IC where
 | skip
 | reg (base len:Nat) (ops:List IOper)
 | draw (base len:Nat) (ps ns:List Nat) (ops:List IOper)
 | drawd (base len:Nat) (ps ns:List Nat) (ms:List FuncId) (rts:List (Option (List Nat))) (all:List (Nat × IOper))
 | drawy (base m len:Nat) (ps:List Nat) (A ys:List IOper)
 | seq (a b:IC)
 | cond (c:Opd) (a b:IC)
 | block (id:Nat) (a:IC)
 | loop (a:IC)
 | exit (id:Nat)
 | ret
 | range (g:Opd) (ps:List Nat) (a b:IC)

def condK (sv:SV) (f:Bool→Prop):Prop:=match sv with
 | .c (.val (.bool true))=>f true
 | .c (.val (.bool false))=>f false
 | .c (.sb b)=>ForkP b (f true) (f false)
 | _=>False
structure Inv where
 α:Type
 fr:α→List (Nat × SV)
 H:α→List (Nat × OB)
 ok:α→Hp→Prop
 m:α→Nat

def frOf:List (Nat × SV)→Nat→SV
 | [],_=>.c .any
 | (i,sv) :: r,j=>cond (Nat.beq j i) sv (frOf r j)
def HOf:List (Nat × OB)→Nat→Option OB
 | [],_=>none
 | (i,ob) :: r,j=>cond (Nat.beq j i) (some ob) (HOf r j)
def lookP:List (Nat × Option Nat)→Nat→Option (Option Nat)
 | [],_=>none
 | (i,x) :: r,h=>cond (Nat.beq h i) (some x) (lookP r h)
def renH (π:List (Nat × Option Nat)) (h:Nat) (f:Nat→S1) (z:Option S1):Option S1:=match lookP π h with
 | none=>some (f h)
 | some (some h')=>some (f h')
 | some none=>z
def nilN:Nat→Option S1
 | 0=>some (.val (.slice none 0 0))
 | _=>none
def S1.ren (π:List (Nat × Option Nat)):S1→Option S1
 | .row h n=>renH π h (.row · n) (nilN n)
 | .ptr h o=>renH π h (.ptr · o) none
 | .rptr h o=>renH π h (.rptr · o) none
 | .mref h=>renH π h .mref none
 | .ptrx h o=>renH π h (.ptrx · o) none
 | .pre h n=>renH π h (.pre · n) none
 | x=>some x
def renL (π:List (Nat × Option Nat)):List S1→Option (List S1)
 | []=>some []
 | c :: cs=>match c.ren π with
  | some c'=>(match renL π cs with
   | some cs'=>some (c' :: cs')
   | none=>none)
  | none=>none
def SV.ren (π:List (Nat × Option Nat)):SV→Option SV
 | .c x=>match x.ren π with
  | some y=>some (.c y)
  | none=>none
 | .agg cs=>match renL π cs with
  | some l=>some (.agg l)
  | none=>none
def OB.ren (π:List (Nat × Option Nat)):OB→Option OB
 | .cells s cs t=>match renL π cs with
  | some l=>some (.cells s l t)
  | none=>none
 | ob=>some ob
def eqO {α:Type}:Option α→Option α→Prop
 | some a,some b=>a = b
 | _,_=>False
def frV (π:List (Nat × Option Nat)) (σ:St):List (Nat × SV)→Prop
 | []=>True
 | (i,sv) :: r=>eqO (sv.ren π) (some (σ.fr i))∧frV π σ r
def eqX:Option OB→Option OB→Prop
 | some (.row none n vs t k),some (.xrow _ m _ ws _ t' k')=>(n,vs,t,k) = (m,ws,t',k')
 | some a,some b=>a = b
 | _,_=>False
def Tells (π:List (Nat × Option Nat)) (ob ob':OB):Prop:=ob.ren π = some ob'∨∃ b n cap vs rest t k,ob = .row none n vs t k∧ob' = .xrow b n cap vs rest t k
theorem eqX_some {a:Option OB} {b:Option OB} (h:eqX a b):(∃ x,a = some x∧b = some x)∨∃ b' n cap vs rest t k,a = some (.row none n vs t k)∧b = some (.xrow b' n cap vs rest t k):=by
 unfold eqX at h
 split at h
 ·cases h;exact .inr ⟨_,_,_,_,_,_,_,rfl,rfl⟩
 ·subst h;exact .inl ⟨_,rfl,rfl⟩
 ·exact h.elim
theorem Tells.of {π:List (Nat × Option Nat)} {ob:OB} {b:Option OB} (h:eqX (ob.ren π) b):∃ x,b = some x∧Tells π ob x:=by
 rcases eqX_some h with ⟨x,e1,e2⟩ | ⟨b',n,cap,vs,rest,t,k,e1,e2⟩
 ·exact ⟨x,e2, .inl e1⟩
 ·refine ⟨_,e2, .inr ⟨b',n,cap,vs,rest,t,k, ?_,rfl⟩⟩
  cases ob with
  | cells s cs ty =>
   simp only [OB.ren] at e1
   split at e1
   ·cases e1
   ·cases e1
  | row=>cases e1;rfl
  | map=>cases e1
  | xrow=>cases e1
  | heap=>cases e1
def HV1 (π:List (Nat × Option Nat)) (σ:St) (h:Nat) (ob:OB):Prop:=match lookP π h with
 | none=>eqX (ob.ren π) (σ.H h)
 | some (some h')=>eqX (ob.ren π) (σ.H h')
 | some none=>match ob with
  | .row none n vs _ _=>(n,vs) = (0,[])
  | .heap p=>p = fun _=>none
  | _=>False
def HV (π:List (Nat × Option Nat)) (σ:St):List (Nat × OB)→Prop
 | []=>True
 | (h,ob) :: r=>HV1 π σ h ob∧HV π σ r
def tgt (π:List (Nat × Option Nat)) (h:Nat):Option Nat:=match lookP π h with
 | none=>some h
 | some x=>x
def tgtNe:Option Nat→Option Nat→Bool
 | some a,some b=>!Nat.beq a b
 | _,_=>true
def injB (π:List (Nat × Option Nat)):List (Nat × OB)→Bool
 | []=>true
 | (h,_) :: r=>(r.all fun p=>Nat.beq h p.1 || tgtNe (tgt π h) (tgt π p.1)) && injB π r
def avoid (π:List (Nat × Option Nat)) (pb:List Nat):Bool:=π.all fun p=>!memN p.1 pb
structure HeadP (pb:List Nat) (σ:St) (fl:List (Nat × SV)) (hl:List (Nat × OB)):Prop where
 ex:∃ π,frV π σ fl∧HV π σ hl∧injB π hl = true∧avoid π pb = true
 pos:σ.fr POS = frOf fl POS

def mentS:S1→List Nat
 | .ptr h _ | .rptr h _ | .row h _ | .mref h | .ptrx h _ | .pre h _=>[h]
 | _=>[]
def mentSV:SV→List Nat
 | .c x=>mentS x
 | .agg cs=>cs.foldr (fun c l=>mentS c++l) []
def mentFr:List (Nat × SV)→List Nat
 | []=>[]
 | (_,sv) :: r=>mentSV sv++mentFr r

def S1.bd (b:Nat):S1→Bool
 | .ptr h _ | .rptr h _ | .row h _ | .mref h | .ptrx h _ | .pre h _=>Nat.blt h b
 | _=>true
def allBd (b:Nat):List S1→Bool
 | []=>true
 | c :: cs=>cond (c.bd b) (allBd b cs) false
def SV.bd (b:Nat):SV→Bool
 | .c x=>x.bd b
 | .agg cs=>allBd b cs
def OB.bd (b:Nat):OB→Bool
 | .cells _ cs _=>allBd b cs
 | .row ..=>true
 | .map ..=>true
 | .xrow ..=>true
 | .heap _=>true
def frBd (b:Nat):List (Nat × SV)→Bool
 | []=>true
 | (_,sv) :: r=>cond (sv.bd b) (frBd b r) false
def HBd (b:Nat):List (Nat × OB)→Bool
 | []=>true
 | (h,ob) :: r=>cond (Nat.blt h b && ob.bd b) (HBd b r) false

structure RoundP (pb:List Nat) (I:Inv) (x:I.α) (σ:St):Prop where
 ex:∃ x',HeadP pb σ (I.fr x') (I.H x')∧I.ok x' σ.G∧I.m x' < I.m x
structure LoopP (pb:List Nat) (σ:St) (bd:Nat) (A:(I:Inv)→I.α→Hp→Prop):Prop where
 ex:∃ I:Inv,(∃ x,HeadP pb σ (I.fr x) (I.H x)∧I.ok x σ.G)∧(∀ x,frBd bd (I.fr x) = true∧HBd bd (I.H x) = true)∧∀ x G,Grow σ.G G→I.ok x G→W (A I x G)

def capLooks:IOp→List Nat
 | .mkf _ _ caps=>looksL caps
 | _=>[]

/-! ### Calls: of a loop's rounds; of an iterator,or a part of one -/

structure YC where
 l:Nat
 Y:List (List Value)
 pb:List Nat
 pn:Option (TypeId × (St→Prop))
abbrev YC.no (pb:List Nat):YC:=⟨0,[],pb,none⟩
abbrev YC.pan (t:TypeId) (C:St→Prop):YC:=⟨0,[],[],some (t,C)⟩

structure YieldP (yc:YC) (k:Nat) (args:List Value) (G:Hp) (A:Bool→Hp→Prop):Prop where
 m:yc.Y[k]? = some args
 t:∀ G',Grow G G'→W (A true G')
 f:∀ G',Grow G G'→W (A false G')
structure SeqP (yc:YC) (k:Nat) (pre:List (List Value)→Prop) (post:Bool→Value→Prop) (G:Hp) (A:Nat→Bool→Value→Hp→Prop):Prop where
 ex:∃ Ys,pre Ys∧(yc.Y.drop k).take Ys.length = Ys∧(∀ v G',Grow G G'→post false v→W (A (k + Ys.length) false v G'))∧∀ j v G',Grow G G'→post true v→W (A j true v G')
inductive CallvP (P:Program) (l:Nat) (v:Value) (Ay:Prop) (Af:PSpec→Prop) {Ap Ax:Prop}:Prop
 | fn (s:PSpec) (h:SoundFn P v s) (k:W (Af s))
 | yl (h:v = .func (.yield l) #[] #[]) (k:W Ay)
 | pub (h:Ap)
 | pan (h:Ax)

def posK (sv:SV) (f:Nat→Prop):Prop:=match sv with
 | .c (.pos k false)=>f k
 | _=>False
def specK (yc:YC) (dst:Option Nat) (fr:Nat→SV) (H:Nat→Option OB) (hid:Nat) (G:Hp) (K:St→Prop) (vs:List Value) (s:PSpec):Prop:=match s with
 | .seq pre post=>posK (fr POS) fun k=>SeqP yc k (pre yc.l vs G) post G fun j st v G'=>fork (SV.of v) fun sv=>appK dst (upd fr POS (.c (.pos j st))) H K sv [] G'
 | s=>denCallv H hid G G (appK dst fr H K) vs s
structure CallN (P:Program) (f:FuncId) (Af:PSpec→Prop):Prop where
 ex:∃ s,Sound P f id s∧HasBody P f∧W (Af s)
def PanV (t:TypeId) (ch:List PanicEntry):Prop:=ch = [{ v:=.iface t (.agg #[]),recovered:=false,goexit:=false }]
def PanF (P:Program) (f:FuncId) (t:TypeId) (pre:List Value→Hp→Hp→Prop) (post:List Value→Hp→Hp→Prop):Prop:=∀ args p G W,Sub G W→(∀ b o,p b = some o→W.heap[b]? = some o∧G b = none)→pre args p G→Calls P f args.toArray W fun e W'=>∃ ch q,e = .panicked ch∧PanV t ch∧post args p q∧(∀ b o,q b = some o→W'.heap[b]? = some o∧((∃ o,p b = some o)∨W.heap.size≤b))∧Beneath ⟨W,fun b=>∃ o,p b = some o,[]⟩ W'
structure PanP (P:Program) (f:FuncId) (pn:Option (TypeId × (St→Prop))) (fr:Nat→SV) (H:Nat→Option OB) (G:Hp) (vs:List Value):Prop where
 ex:∃ t C pre post p,H 0 = some (.heap p)∧pn = some (t,C)∧PanF P f t pre post∧HasBody P f∧pre vs p G∧∀ q,post vs p q→C ⟨fr,upd H 0 (some (.heap q)),G⟩
structure PanVP (P:Program) (v:Value) (pn:Option (TypeId × (St→Prop))) (fr:Nat→SV) (H:Nat→Option OB) (G:Hp) (vs:List Value):Prop where
 ex:∃ g first cap,v = .func (.func g) first cap∧PanP P g pn fr H G (first.toList++vs++cap.toList)
structure ExtP (P:Program) (f:FuncId) (H:Nat→Option OB) (G:Hp) (vs:List Value) (A:Value→Prop):Prop where
 ex:∃ v,(∀ w,Sub G w→(∀ p,H 0 = some (.heap p)→∀ b o,p b = some o→w.heap[b]? = some o)→(callFunc f vs.toArray).run P w = .ok (.value v) w)∧W (A v)
inductive CallH (P:Program) (f:FuncId) (Af:PSpec→Prop) {Ap Ax Ae:Prop}:Prop
 | mk (s:PSpec) (h:Sound P f id s) (hb:HasBody P f) (k:W (Af s))
 | pub (h:Ap)
 | pan (h:Ax)
 | ext (h:Ae)
def heapB (H:Nat→Option OB):Bool:=match H 0 with
 | some (.heap _)=>true
 | _=>false

def opF (P:Program) (tab:FuncId→Option PSpec) (yc:YC) (bd:Nat) (o:IOper) (σ:St) (K:St→Prop):Prop:=match o, σ with
 | ⟨dst, .callv x args,g,hid,_,_,_,_⟩,⟨fr,H,G⟩=>guardF g fr fun run=>match run with
  | true=>match toVals2 H (evArgs fr args) with
   | some vs=>match x.ev fr with
    | .c (.val v)=>CallvP P yc.l v (posK (fr POS) fun k=>YieldP yc k vs G fun b G'=>appK dst (upd fr POS (.c (.pos (k + 1) (!b)))) H K (.v (.bool b)) [] G') (specK yc dst fr H hid G K vs)
      (Ap:=PubAnyP H G fun H G=>CallvP P yc.l v (posK (fr POS) fun k=>YieldP yc k vs G fun b G'=>appK dst (upd fr POS (.c (.pos (k + 1) (!b)))) H K (.v (.bool b)) [] G') (specK yc dst fr H hid G K vs) (Ap:=False) (Ax:=PanVP P v yc.pn fr H G vs)) (Ax:=PanVP P v yc.pn fr H G vs)
    | _=>False
   | none=>False
  | false=>appK dst fr H K undefSV [] G
 | ⟨dst, .call f args,g,hid,_,_,_,_⟩,⟨fr,H,G⟩=>guardF g fr fun run=>match run with
  | true=>match toVals2 H (evArgs fr args) with
   | some vs=>cond (heapB H) (CallH P f (specK yc dst fr H hid G K vs) (Ap:=PubAnyP H G fun H G=>CallH P f (specK yc dst fr H hid G K vs) (Ap:=False) (Ax:=PanP P f yc.pn fr H G vs) (Ae:=False)) (Ax:=PanP P f yc.pn fr H G vs) (Ae:=ExtP P f H G vs fun v=>fork (SV.of v) fun sv=>appK dst fr H K sv [] G)) (match tab f with
    | some s=>specK yc dst fr H hid G K vs s
    | none=>CallN P f (specK yc dst fr H hid G K vs))
   | none=>False
  | false=>appK dst fr H K undefSV [] G
 | ⟨dst, .rng x,g,_,_,_,_,_⟩,⟨fr,H,G⟩=>guardF g fr fun run=>match run with
  | true=>match x.ev fr,H 0 with
   | .c (.val (.map (some m))),some (.heap p)=>RngP p m fun b p'=>appK dst fr H K (.v (.pointer (some ⟨b,0,none⟩))) [(0,some (.heap p'))] G
   | _,_=>False
  | false=>appK dst fr H K undefSV [] G
 | ⟨dst, .nxt x,g,_,_,_,_,_⟩,⟨fr,H,G⟩=>guardF g fr fun run=>match run with
  | true=>match x.ev fr,H 0 with
   | .c (.val (.pointer (some ⟨r,0,none⟩))),some (.heap p)=>NxtP p r fun v p'=>fork (SV.of v) fun sv=>appK dst fr H K sv [(0,some (.heap p'))] G
   | _,_=>False
  | false=>appK dst fr H K undefSV [] G
 | ⟨dst, .ety x,g,_,_,_,_,_⟩,⟨fr,H,G⟩=>guardF g fr fun run=>match run with
  | true=>match x.ev fr,H 0 with
   | .c (.val (.pointer (some ⟨r,0,none⟩))),some (.heap p)=>EtyP p r fun v=>fork (SV.of v) fun sv=>appK dst fr H K sv [] G
   | _,_=>False
  | false=>appK dst fr H K undefSV [] G
 | o,⟨fr,H,G⟩=>TF P tab bd G o ⟨fr,H,G⟩ K
inductive ForgP (A B:Prop):Prop
 | keep (h:W A)
 | drop (h:W B)
def forgX (op:IOp) (fr:Nat→SV) (H:Nat→Option OB) (K:(Nat→Option OB)→Prop):Prop:=match op with
 | .app _ _ _ s _=>match s.ev fr with
  | .c (.row h _)=>match H h with
   | some (.xrow _ m _ vs _ t k)=>ForgP (K H) (K (upd H h (some (.row none m vs t k))))
   | _=>K H
  | _=>K H
 | _=>K H
def hasSl (l:List IOper):Bool:=l.any fun o=>o.op.isSl
def namLooks:IOp→List Nat
 | .call _ args=>looksL args
 | op=>capLooks op
def pubLooks:IOp→List Nat
 | .bsl _ _ _ _ parts=>looksP parts
 | op=>callLooks op
def resLooks:IOp→List Nat
 | .bsl _ _ _ _ parts=>looksP parts
 | _=>[]
def tell1 (H:Nat→Option OB):S1→S1
 | .row h n=>match (S1.row h n).toValH H with
  | some v=>.val v
  | none=>.row h n
 | c=>c
def tellSV (H:Nat→Option OB):SV→SV
 | .c (.row h n)=>.c (tell1 H (.row h n))
 | .agg cs=>.agg (cs.map (tell1 H))
 | sv=>sv
def tellFr (H:Nat→Option OB) (l:List Nat) (fr:Nat→SV):Nat→SV:=match l with
 | []=>fr
 | t :: r=>fun i=>cond (memN i (t :: r)) (tellSV H (fr i)) (fr i)
def tellX (l:List Nat) (fr:Nat→SV) (H:Nat→Option OB) (K:(Nat→SV)→Prop):Prop:=match l with
 | []=>K fr
 | l=>K (tellFr H l fr)
theorem tellX_iff {l:List Nat} {fr:Nat→SV} {H:Nat→Option OB} {K:(Nat→SV)→Prop} (h:tellX l fr H K):K (tellFr H l fr):=by
 cases l<;>exact h
structure NewP (p:Hp) (A:Nat→Prop):Prop where
 k:∀ b,p b = none→W (A b)
def ptrV (h b:Nat):SV→SV
 | .c (.ptr h' off)=>cond (Nat.beq h' h) (.v (.pointer (some ⟨b,off,none⟩))) (.c (.ptr h' off))
 | sv=>sv
def absR (fr:Nat→SV) (H:Nat→Option OB) (t:Nat) (K:(Nat→SV)→(Nat→Option OB)→Prop):Prop:=match fr t with
 | .c (.ptr h _)=>match H h with
  | some (.cells .anon cs ty)=>match H 0 with
   | some (.heap p)=>match toValsH H cs with
    | some vs=>NewP p fun b=>K (fun i=>ptrV h b (fr i)) (upd (upd H h none) 0 (some (.heap (upd p b (some (.cells vs.toArray ty (0,0)))))))
    | none=>K fr H
   | _=>K fr H
  | _=>K fr H
 | _=>K fr H
inductive MapP (A B:Prop):Prop
 | keep (h:W A)
 | move (h:B)
def mrefV (h b:Nat):SV→SV
 | .c (.mref h')=>cond (Nat.beq h' h) (.v (.map (some b))) (.c (.mref h'))
 | sv=>sv
def absM (fr:Nat→SV) (H:Nat→Option OB) (t:Nat) (K:(Nat→SV)→(Nat→Option OB)→Prop):Prop:=match fr t with
 | .c (.mref h)=>match H h with
  | some (.map .anon es c)=>match H 0 with
   | some (.heap p)=>MapP (K fr H) (NewP p fun b=>K (fun i=>mrefV h b (fr i)) (upd (upd H h none) 0 (some (.heap (upd p b (some (.map es c)))))))
   | _=>K fr H
  | _=>K fr H
 | _=>K fr H
def absS (fr:Nat→SV) (H:Nat→Option OB):List Nat→((Nat→SV)→(Nat→Option OB)→Prop)→Prop
 | [],K=>K fr H
 | t :: r,K=>absR fr H t fun fr H=>absS fr H r K
def absX (op:IOp) (fr:Nat→SV) (H:Nat→Option OB) (K:(Nat→SV)→(Nat→Option OB)→Prop):Prop:=match op with
 | .mkf _ _ caps=>cond (heapB H) (absS fr H (looksL caps) K) (K fr H)
 | .store _ _ (.t v)=>cond (heapB H) (absM fr H v K) (K fr H)
 | _=>K fr H
def absN (fr:Nat→SV) (H:Nat→Option OB) (l:List Nat) (K:(Nat→SV)→(Nat→Option OB)→Prop):Prop:=match l with
 | []=>K fr H
 | l=>cond (heapB H) (absS fr H l K) (K fr H)
def vcSeq (P:Program) (tab:FuncId→Option PSpec) (yc:YC) (bd:Nat):List IOper→St→(St→Prop)→Prop
 | [], σ,K=>K σ
 | o :: r,⟨fr,H,G⟩,K=>pubX o.op.isSl fr H G (pubLooks o.op) fun H' G'=>absX o.op fr H' fun fr H'=>namS fr H' (namLooks o.op) fun H'=>forgX o.op fr H' fun H'=>tellX (resLooks o.op) fr H' fun fr=>opF P tab yc bd o ⟨fr,H',G'⟩ fun σ'=>vcSeq P tab yc bd r σ' K

def posOk:SV→Bool
 | .c (.pos _ _)=>true
 | .c .any=>true
 | _=>false
theorem posOk_ment {p:SV} (h:posOk p = true) (M:Nat→Prop):p.ment M:=by
 unfold posOk at h
 split at h<;>first | trivial | cases h
theorem posOk_rel {p:SV} (h:posOk p = true) (E:Nat→Value) (v:Value):p.rel E v:=by
 unfold posOk at h
 split at h<;>first | trivial | cases h
structure RInv where
 α:Type
 fr:List (Nat × SV)
 k:α→Nat
 H:α→List (Nat × OB)
 ok:α→Hp→Prop
 pos:α→SV:=fun _=>frOf fr POS
structure RoundR (pb:List Nat) (I:RInv) (x:I.α) (σ:St):Prop where
 ex:∃ x',(∃ π,HV π σ (I.H x')∧injB π (I.H x') = true∧avoid π pb = true)∧I.ok x' σ.G∧I.k x' = I.k x + 1∧σ.fr POS = I.pos x'
structure ExitR (G:Hp) (A:Hp→Prop):Prop where
 k:∀ G',Grow G G'→W (A G')
structure RangeP (P:Program) (pb:List Nat) (σ:St) (bd np:Nat) (v:Value) (A:(I:RInv)→I.α→List Value→Hp→Prop) (B:(I:RInv)→I.α→Hp→Prop):Prop where
 ex:∃ (pre:Nat→List Value→Hp→List (List Value)→Prop) (post:Bool→Value→Prop) (Ys:List (List Value)) (I:RInv),SoundFn P v (.seq pre post)∧(∀ l,pre l [.func (.yield l) #[] #[]] σ.G Ys)∧(∀ y∈Ys,y.length = np) ∧
  (∃ x,I.k x = 0∧HeadP pb σ I.fr (I.H x)∧I.ok x σ.G∧I.pos x = frOf I.fr POS∧∀ x,posOk (I.pos x) = true)∧(frBd bd I.fr = true∧∀ x,HBd bd (I.H x) = true)∧(∀ x G G',Grow G G'→I.ok x G→I.ok x G') ∧
  (∀ x y G,Grow σ.G G→I.ok x G→Ys[I.k x]? = some y→W (A I x y G))∧∀ x G,Grow σ.G G→I.ok x G→I.k x = Ys.length→W (B I x G)

def updP (fr:Nat→SV):List Nat→List Value→Nat→SV
 | p :: ps,y :: ys=>updP (upd fr p (SV.of y)) ps ys
 | _,_=>fr

def noRange:IC→Bool
 | .seq a b=>noRange a && noRange b
 | .cond _ a b=>noRange a && noRange b
 | .block _ a=>noRange a
 | .loop a=>noRange a
 | .range ..=>false
 | _=>true

structure DrawP (tab:FuncId→Option PSpec) (ms:List FuncId) (pw:Bool) (A:Prop):Prop where
 mono:MonoT tab ms
 pw:pw = true
 out:W A
def hdS:SV→List Nat
 | .c x=>mentS x
 | .agg _=>[]
def rootT (all:List IOper):Nat→Nat→Option (List Nat)
 | 0,_=>none
 | f + 1,t=>match all.find? fun o=>dstEq o.dst (some t) with
  | none=>some [t]
  | some o=>match o.op with
   | .faddr _ (.t x)=>rootT all f x
   | .aaddr _ _ (.t x) _=>rootT all f x
   | .iaddr _ (.t x) _=>rootT all f x
   | .mv (.t x)=>rootT all f x
   | .alloc ..=>some []
   | .box ..=>some []
   | .mkm=>some []
   | .mkmh=>some []
   | .bxh ..=>some []
   | .bslh ..=>some []
   | .bsl ..=>some []
   | .mks ..=>some []
   | _=>none
def hdH (H:Nat→Option OB):SV→List Nat
 | .c (.ptr h _)=>match H h with
  | some (.cells _ cs _)=>(cs.map mentS).flatten
  | _=>[]
 | _=>[]
def boxT (all:List IOper) (x:Nat):Option (List Nat):=match all.find? fun o=>dstEq o.dst (some x) with
 | some o=>match o.op with
  | .iaddr _ (.t y) _=>match all.find? fun o=>dstEq o.dst (some y) with
   | some o'=>match o'.op with
    | .load _ _ (.t z)=>rootT all 8 z
    | _=>none
   | none=>none
  | _=>none
 | none=>none
def ptrT (all:List IOper):Nat→Nat→Option (List Nat)
 | 0,_=>none
 | f + 1,x=>match all.find? fun o=>dstEq o.dst (some x) with
  | some o=>match o.op with
   | .faddr _ (.t y)=>ptrT all f y
   | .nilc (.t y)=>ptrT all f y
   | .mv (.t y)=>ptrT all f y
   | .iaddr _ (.t y) _=>ptrT all f y
   | .load _ _ (.t z)=>rootT all 8 z
   | _=>none
  | none=>none
def rowT (all:List IOper) (x:Nat):Option (List Nat):=match all.find? fun o=>dstEq o.dst (some x) with
 | some o=>match o.op with
  | .load _ _ (.t z)=>ptrT all 8 z
  | _=>none
 | none=>none
def rowT1 (all:List IOper) (x:Nat):Option (List Nat):=match all.find? fun o=>dstEq o.dst (some x) with
 | some o=>match o.op with
  | .load _ _ (.t z)=>rootT all 8 z
  | _=>none
 | none=>none
def hdHH (H:Nat→Option OB) (v:SV):List Nat:=((hdH H v).map fun h=>match H h with
 | some (.cells _ cs _)=>(cs.map mentS).flatten
 | _=>[]).flatten
def hp0 (H:Nat→Option OB):List Nat:=match H 0 with
 | some (.heap _)=>[0]
 | _=>[]
def resC (fr:Nat→SV) (H:Nat→Option OB) (all:List IOper) (t:Option (List Nat)) (o:IOper):Option (List Nat):=match t with
 | some ts=>some (ts.map fun t=>hdS (fr t)).flatten
 | none=>match o.op with
  | .store _ (.t x) _=>match boxT all x with
   | some ts=>some (ts.map fun t=>hdH H (fr t)).flatten
   | none=>none
  | .load _ _ (.t x)=>match ptrT all 8 x with
   | some ts=>some (hp0 H++(ts.map fun t=>hdH H (fr t)).flatten)
   | none=>none
  | .app _ _ _ (.t x) _=>match rowT all x with
   | some ts=>some (ts.map fun t=>hdHH H (fr t)).flatten
   | none=>match rowT1 all x with
    | some ts=>some (ts.map fun t=>hdH H (fr t)).flatten
    | none=>none
  | _=>none
def resO (c:Option (List Nat)→IOper→Option (List Nat)) (t:Option (List Nat)) (o:IOper):IOper:=match c t o with
 | none=>o
 | some l=>{ o with loc:=true,al:=some (l++o.al.getD []) }
def resA (c:Option (List Nat)→IOper→Option (List Nat)):List (Option (List Nat))→List (Nat × IOper)→List (Nat × IOper)
 | t :: ts,p :: r=>(p.1,resO c t p.2) :: resA c ts r
 | [],p :: r=>(p.1,resO c none p.2) :: resA c [] r
 | _,[]=>[]
def mvT (all:List IOper):Nat→Nat→List Nat→List Nat
 | 0,_,acc=>acc
 | f + 1,t,acc=>match all.find? fun o=>dstEq o.dst (some t) with
  | some o=>match o.op with
   | .mv (.t y)=>mvT all f y acc
   | _=>acc
  | none=>cond (memN t acc) acc (t :: acc)
def slPart (zs:List Value):Nat × Opd→Option Nat
 | (i, .t x)=>match zs[i]? with
  | some (.slice ..)=>some x
  | _=>none
 | _=>none
def bslSlots (all:List IOper):List Nat:=all.foldl (fun acc o=>match o.op with
 | .bsl _ _ _ zs parts=>parts.foldl (fun acc p=>match slPart zs p with
  | some x=>mvT all 8 x acc
  | none=>acc) acc
 | _=>acc) []

def vc (P:Program) (tab:FuncId→Option PSpec) (yc:YC):IC→Nat→St→(Out→Nat→St→Prop)→Prop
 | .skip,bd, σ,K=>K .norm bd σ
 | .reg base len ops,bd, σ,K=>cond (Nat.ble bd base) (vcSeq P tab yc base ops σ fun σ'=>K .norm (base + len) σ') False
 | .draw base len ps ns ops,bd,⟨fr,H,G⟩,K=>cond (Nat.ble bd base) (pubX (hasSl ops) fr H G ps fun H' G'=>absN fr H' ns fun fr H'=>namS fr H' ns fun H'=>tellX (bslSlots ops) fr H' fun fr=>vcOps P tab base G' ops ⟨fr,H',G'⟩ fun σ'=>K .norm (base + len) σ') False
 | .drawd base len ps ns ms rts all,bd,⟨fr,H,G⟩,K=>cond (Nat.ble bd base) (pubX (hasSl (all.map (·.2))) fr H G ps fun H' G'=>absN fr H' ns fun fr H'=>namS fr H' ns fun H'=>tellX (bslSlots (all.map (·.2))) fr H' fun fr=>DrawP tab ms (pairsOk ms base (resA (resC fr H' (all.map (·.2))) rts all)) (vcOps P tab base G' ((resA (resC fr H' (all.map (·.2))) rts all).map (·.2)) ⟨fr,H',G'⟩ fun σ'=>K .norm (base + len) σ')) False
 | .drawy base _ len ps A ys,bd,⟨fr,H,G⟩,K=>cond (Nat.ble bd base) (pubX (hasSl A) fr H G ps fun H' G'=>vcOps P tab base G' A ⟨fr,H',G'⟩ fun σ1=>vcSeq P tab yc base ys σ1 fun σ'=>K .norm (base + len) σ') False
 | .seq a b,bd, σ,K=>vc P tab yc a bd σ fun o bd' σ'=>match o with
  | .norm=>vc P tab yc b bd' σ' K
  | .exit id=>K (.exit id) bd' σ'
  | .ret=>K .ret bd' σ'
 | .cond c a b,bd, σ,K=>condK (c.ev σ.fr) fun t=>match t with
  | true=>vc P tab yc a bd σ K
  | false=>vc P tab yc b bd σ K
 | .block id a,bd, σ,K=>vc P tab yc a bd σ fun o bd' σ'=>match o with
  | .exit i=>cond (Nat.beq i id) (K .norm bd' σ') (K (.exit i) bd' σ')
  | .norm=>K .norm bd' σ'
  | .ret=>K .ret bd' σ'
 | .loop a,bd, σ,K=>LoopP yc.pb σ bd fun I x G=>vc P tab yc a bd ⟨frOf (I.fr x),HOf (I.H x),G⟩ fun o bd' σ'=>match o with
    | .norm=>RoundP yc.pb I x σ'
    | .exit id=>K (.exit id) bd' σ'
    | .ret=>K .ret bd' σ'
 | .exit id,bd, σ,K=>K (.exit id) bd σ
 | .ret,bd, σ,K=>K .ret bd σ
 | .range g ps a b,bd,⟨fr,H,G⟩,K=>match g.ev fr with
  | .c (.val v)=>RangeP P yc.pb ⟨fr,H,G⟩ bd ps.length v (fun I x y G=>vc P tab ⟨yc.l,yc.Y,mentFr I.fr++yc.pb,none⟩ a bd ⟨updP (upd (frOf I.fr) POS (I.pos x)) ps y,HOf (I.H x),G⟩ fun o bd' σ'=>match o with
    | .norm=>vc P tab ⟨yc.l,yc.Y,mentFr I.fr++yc.pb,none⟩ b bd' σ' fun o bd2 σ2=>match o with
     | .norm=>RoundR (mentFr I.fr++yc.pb) I x σ2
     | .exit id=>cond (posOk (σ2.fr POS)) (ExitR σ2.G fun G=>K (.exit id) bd2 ⟨upd (frOf I.fr) POS (σ2.fr POS), σ2.H,G⟩) False
     | .ret=>cond (posOk (σ2.fr POS)) (ExitR σ2.G fun G=>K .ret bd2 ⟨upd (frOf I.fr) POS (σ2.fr POS), σ2.H,G⟩) False
    | _=>False) (fun I x G=>K .norm bd ⟨upd (frOf I.fr) POS (I.pos x),HOf (I.H x),G⟩)
  | _=>False

/-! ### From the model's code -/

def lookI:List (Nat × IOper)→Nat→Option IOper
 | [],_=>none
 | (j,o) :: r,i=>cond (Nat.beq i j) (some o) (lookI r i)
def addN (l:List Nat) (x:Nat):List Nat:=cond (memN x l) l (x :: l)
def cloOf (acc:List (Nat × IOper)) (ds:List Nat):List Nat :=
 ds.foldl (fun l d=>match lookI acc d with
  | some o=>o.deps.foldl addN (addN l d)
  | none=>addN l d) []
def IOp.makes:IOp→Bool
 | .box ..=>true
 | .alloc ..=>true
 | .bsl ..=>true
 | .bslp ..=>true
 | .bslx ..=>true
 | .mks ..=>true
 | .mksp ..=>true
 | .mkm=>true
 | .app ..=>true
 | .s2b ..=>true
 | .call ..=>true
 | .callv ..=>true
 | _=>false
def IOp.noG:IOp→Bool
 | .load ..=>false
 | .app ..=>false
 | .apph ..=>false
 | .s2b ..=>false
 | .call ..=>false
 | .callv ..=>false
 | .bslp ..=>false
 | .bslx ..=>false
 | .mksp ..=>false
 | _=>true
def IOp.isHp:IOp→Bool
 | .apph ..=>true
 | .bxh ..=>true
 | .mkmh=>true
 | .bslh ..=>true
 | _=>false
def IOp.isCut:IOp→Bool
 | .cut ..=>true
 | _=>false
def hpI (acc:List (Nat × IOper)) (op:IOp):Bool:=op.isHp || (match op with
 | .mup _ (.t x) _ _=>acc.any fun p=>dstEq p.2.dst (some x) && (match p.2.op with
  | .mkmh=>true
  | _=>false)
 | _=>false)
def drawn (b i:Nat) (loc:Bool) (acc:List (Nat × IOper)) (io:IOper) (ds:List Nat):IOper :=
 let cl:=cloOf acc ds
 { io with
  al:=some (cond (hpI acc io.op) (0 :: (cl.filter fun d=>match lookI acc d with
   | some o=>o.op.makes
   | none=>true).map (b + ·)) ((cl.filter fun d=>match lookI acc d with
   | some o=>o.op.makes
   | none=>true).map (b + ·))),
  early:=match io.op with
   | .callv (.f _) _=>false
   | _=>io.op.noG || cl.all fun d=>match lookI acc d with
    | some o=>!o.op.isCall
    | none=>true,
  deps:=cl,
  loc:=cond (hpI acc io.op || io.op.isCut) true loc }
def locOf (ops:Array Oper) (i:Nat) (io:IOper):Bool:=io.op.mod && (match io.op with
 | .app ..=>true
 | _=>false) && (match (Region.before ops)[i]? with
 | some b=>(List.range i).any fun j=>!Nat.testBit b j && (match ops[j]? with
  | some o=>match o.op with
   | .load ..=>true
   | .call ..=>true
   | _=>false
  | none=>false)
 | none=>false)
def givenOn (ops:Array Oper) (dst:Option Nat):Bool:=match dst with
 | some d=>ops.any fun o=>match o.op with
  | .call c=>(match c.callee with
   | .value _=>c.args.any fun x=>match x with
    | .tmp t=>Nat.beq t d
    | _=>false
   | _=>false)
  | _=>false
 | none=>false
def appArg (acc:List (Nat × IOper)):IOp→Bool
 | .call _ args=>args.any fun x=>match x with
  | .t s=>acc.any fun p=>dstEq p.2.dst (some s) && (match p.2.op with
   | .app ..=>true
   | _=>false)
  | _=>false
 | _=>false
def lkpArg (acc:List (Nat × IOper)):IOp→Bool
 | .app _ _ _ (.t s) _=>acc.any fun p=>dstEq p.2.dst (some s) && (match p.2.op with
  | .lkp ..=>true
  | _=>false)
 | _=>false
def litOp:IOp→Bool
 | .bsl ..=>true
 | .mks ..=>true
 | _=>false
def lit1 (hid:Nat):IOp→Bool
 | .bsl _ k _ _ _=>Nat.beq k 1 && Nat.ble 3000 hid && Nat.blt hid 5000
 | _=>false
def givO (ops:Array Oper) (io:IOper):Bool:=(givenOn ops io.dst && litOp io.op) || lit1 io.hid io.op
def inNw (hid:Nat):Bool:=Nat.ble 2000 hid && Nat.blt hid 3000
def newOp:IOp→Bool
 | .box ..=>true
 | .mkm=>true
 | .bsl ..=>true
 | _=>false
def inNl (hid:Nat):Bool:=Nat.ble 2500 hid && Nat.blt hid 3000
def newOpL:IOp→Bool
 | .bsl ..=>true
 | .app ..=>true
 | _=>false
def hasMk (ops:Array Oper):Bool:=ops.any fun o=>match o.op with
 | .makeMap ..=>true
 | _=>false
def altO (P:Program) (ops:Array Oper) (acc:List (Nat × IOper)) (o:Oper) (io:IOper):IOper:=cond ((inHp io.hid && fldApp ops o) || (inNw io.hid && newOp io.op && hasMk ops) || (inNl io.hid && newOpL io.op)) { io with op:=altHp io.op } <| cond (cutFn P io.op) { io with op:=altCut io.op } <| cond (givO ops io) { io with op:=altOp io.op } (cond (appArg acc io.op) { io with op:=altCall io.op } (cond (lkpArg acc io.op) { io with op:=altHp io.op } io))
def mkDraw (P:Program) (nt:Nat) (ops:Array Oper) (b:Nat):List Oper→Nat→List (Nat × IOper)→Option (List (Nat × IOper))
 | [],_,_=>some []
 | o :: r,i,acc=>match compOper P nt ops o (b + i) with
  | some io=>match mkDraw P nt ops b r (i + 1) ((i,drawn b i (locOf ops i io) acc (altO P ops acc o io) (depsOf o)) :: acc) with
   | some l=>some ((i,drawn b i (locOf ops i io) acc (altO P ops acc o io) (depsOf o)) :: l)
   | none=>none
  | none=>none
def waitsOk (ops:Array Oper) (all:List (Nat × IOper)) (p:Nat × IOper):Bool:=match ops[p.1]? with
 | some o=>let ds:=depsOf o
  ds.all (Nat.blt · p.1) && p.2.deps.all fun a=>memN a ds || all.any fun q=>memN q.1 ds && memN a q.2.deps
 | none=>false
def strip (o:IOper):IOper:={ o with deps:=[] }
def traceT (all:List IOper):Nat→Nat→List Nat→List Nat
 | 0,_,acc=>acc
 | f + 1,t,acc=>match all.find? fun o=>dstEq o.dst (some t) with
  | some o=>match o.op with
   | .mv _ | .pick .. | .load .. | .faddr .. | .fld .. | .bld .. | .nilc _ | .ext ..=>o.op.looks.foldl (fun acc t=>traceT all f t acc) acc
   | _=>acc
  | none=>addN acc t
def pubSlots (all:List IOper):List Nat:=(bslSlots all).foldl addN (all.foldl (fun acc o=>(callLooks o.op).foldl (fun acc t=>traceT all 8 t acc) acc) [])

def srcT (all:List IOper):Opd→List Nat
 | .t y=>(rootT all 8 y).getD []
 | _=>[]
def appT (all:List IOper):Nat→Nat→Option (List Nat)
 | 0,_=>none
 | f + 1,t=>match all.find? fun o=>dstEq o.dst (some t) with
  | some o=>match o.op with
   | .app _ _ _ (.t x) y=>match rootT all 8 x with
    | some l=>some (l++srcT all y)
    | none=>match appT all f x with
     | some l=>some (l++srcT all y)
     | none=>none
   | .mv (.t x)=>appT all f x
   | _=>none
  | none=>none
def nestA (all:List IOper):Bool:=all.any fun o=>match o.op with
 | .app _ _ _ (.t x) _=>(match rootT all 8 x with
  | none=>(match appT all 8 x with
   | some _=>true
   | none=>false)
  | some _=>false)
 | _=>false
def rtOf (all:List IOper) (o:IOper):Option (List Nat):=match o.op with
 | .load _ _ (.t x)=>rootT all 8 x
 | .store _ (.t x) _=>rootT all 8 x
 | .iaddr _ (.t x) _=>rootT all 8 x
 | .mup _ (.t x) _ _=>rootT all 8 x
 | .lkp _ _ _ (.t x) _=>rootT all 8 x
 | .app _ _ _ (.t x) y=>(match rootT all 8 x with
  | some l=>some l
  | none=>match appT all 8 x with
   | some l=>some (l++srcT all y)
   | none=>none)
 | .slc _ (.t x) _ _ _=>cond (nestA all) (rootT all 8 x) none
 | .cut _ (.t x) _=>rootT all 8 x
 | .call _ []=>cond (inNw o.hid) (some []) none
 | _=>none
def outApp (all:List IOper):Bool:=all.any fun o=>o.loc && (match o.op with
 | .app _ _ _ (.t x) _=>(match rootT all 8 x with
  | some (_ :: _)=>true
  | _=>(rowT all x).isSome)
 | .cut _ (.t x) _=>(match rootT all 8 x with
  | some (_ :: _)=>true
  | _=>false)
 | _=>false)
def callsOf:List IOper→List FuncId
 | []=>[]
 | o :: r=>match o.op with
  | .call f _=>addN (callsOf r) f
  | _=>callsOf r
def yieldAt (all:List (Nat × IOper)):Option Nat:=match all.find? fun p=>(match p.2.op with
 | .rng _=>true
 | .callv (.t x) _=>all.any fun q=>dstEq q.2.dst (some x) && (match q.2.op with
  | .mv (.t 0)=>true
  | .load ..=>inNl p.2.hid
  | _=>false)
 | _=>false) with
 | some p=>some p.1
 | none=>none
def depOk (ops:Array Oper) (j:Nat):Bool:=match ops[j]? with
 | some o=>memN (j - 1) (depsOf o)
 | none=>true
def headOf (m:Nat) (all:List (Nat × IOper)):List (Nat × IOper):=all.filter fun p=>Nat.blt p.1 m
def oneWay (ops:Array Oper) (all:List (Nat × IOper)) (m:Nat):Bool:=(Nat.blt m ops.size && Nat.beq (headOf m all).length m) && ((all.all fun p=>cond (Nat.beq p.1 m) ((List.range m).all fun j=>memN j p.2.deps) true) && (List.range ops.size).all fun j=>cond (Nat.blt m j) (depOk ops j) true)
def compDraw (P:Program) (nt:Nat) (ops:Array Oper) (b:Nat):Option IC:=match mkDraw P nt ops b ops.toList 0 [] with
 | some all=>match yieldAt all with
  | some m=>match compList P nt ops (ops.toList.drop m) (b + m) with
   | some ys=>cond ((P.follows .mixedOrders && all.all (waitsOk ops all)) && (oneWay ops all m && pairsOk [] b (headOf m all))) (some (.drawy b m ops.size (pubSlots ((headOf m all).map (·.2))) ((headOf m all).map fun p=>strip p.2) ys)) none
   | none=>none
  | none=>cond (P.follows .mixedOrders && all.all (waitsOk ops all)) (cond (pairsOk [] b all && !outApp (all.map (·.2))) (some (.draw b all.length (pubSlots (all.map (·.2))) ((all.map fun p=>capLooks p.2.op).flatten) (all.map fun p=>strip p.2)))
   (some (.drawd b all.length (pubSlots (all.map (·.2))) ((all.map fun p=>capLooks p.2.op).flatten) (callsOf (all.map (·.2))) (all.map fun p=>rtOf (all.map (·.2)) p.2) all))) none
 | none=>none

def compC (P:Program) (nt:Nat):Code→Nat→Option (IC × Nat)
 | .skip,b=>some (.skip,b)
 | .region _ ops false,b=>match compList P nt ops ops.toList b with
  | some l=>some (.reg b l.length l,b + l.length)
  | none=>none
 | .region _ ops true,b=>match compDraw P nt ops b with
  | some ic=>some (ic,b + ops.size)
  | none=>none
 | .seq x y,b=>match compC P nt x b with
  | some (x',b')=>match compC P nt y b' with
   | some (y',b2)=>some (.seq x' y',b2)
   | none=>none
  | none=>none
 | .cond c x y,b=>match compOpd c,compC P nt x b with
  | some c',some (x',b')=>match compC P nt y b' with
   | some (y',b2)=>some (.cond c' x' y',b2)
   | none=>none
  | _,_=>none
 | .block id x,b=>match compC P nt x b with
  | some (x',b')=>some (.block id x',b')
  | none=>none
 | .loop x,b=>match compC P nt x b with
  | some (x',b')=>some (.loop x',b')
  | none=>none
 | .exit id,b=>some (.exit id,b)
 | .ret,b=>some (.ret,b)
 | .label _,b=>some (.skip,b)
 | .scope x,b=>compC P nt x b
 | .rangeFunc g ps x y,b=>match compOpd g,compC P nt x b with
  | some g',some (x',b')=>match compC P nt y b' with
   | some (y',b2)=>cond (noRange x' && ps.toList.all (fun p=>Nat.blt p nt && Nat.blt p 1000000)) (some (.range g' ps.toList x' y',b2)) none
   | none=>none
  | _,_=>none
 | _,_=>none

section
variable {P:Program} {w0:Root} {G0:Hp} {n:Nat}

theorem Sat.mono {M M':Nat→Prop} {E:Nat→Value} {σ:St} {a:Act} {W:World} (h:Sat w0 G0 n M E σ a W) (hm:∀ k,M k→M' k):Sat w0 G0 n M' E σ a W :=
 ⟨h.sim,fun i=>SV.ment_mono hm (h.mfr i),fun k ob e=>⟨hm k (h.mH k ob e).1,OB.ment_mono hm (h.mH k ob e).2⟩,h.fr,h.size,h.defers⟩

theorem compList_len {nt:Nat} {ops:Array Oper}:∀ {l:List Oper} {b:Nat} {xs:List IOper},compList P nt ops l b = some xs→xs.length = l.length
 | [],_,_,h=>by cases h;rfl
 | o :: r,b,xs,h=>by
  simp only [compList] at h
  split at h
  ·cases h;simp [compList_len ‹_›]
  ·cases h

theorem compOper_spec {nt:Nat} {ops:Array Oper} {o:Oper} {b:Nat} {io:IOper} (h:compOper P nt ops o b = some io):compOp P o.op = some io.op∧compGuard ops o = some io.guard∧o.dst = io.dst∧dstOk nt io.dst = true∧io.hid = b:=by
 unfold compOper at h
 split at h
 ·cases hc:dstOk nt o.dst with
  | false=>rw [hc] at h;cases h
  | true=>rw [hc] at h;cases h;exact ⟨‹_›, ‹_›,rfl,hc,rfl⟩
 ·cases h

theorem mkDraw_spec {nt:Nat} {ops:Array Oper} {b:Nat}:∀ {l:List Oper} {i:Nat} {acc xs:List (Nat × IOper)},mkDraw P nt ops b l i acc = some xs →
  xs.length = l.length∧(∀ p∈xs, ∃ o,i≤p.1∧l[p.1 - i]? = some o∧OpOk P nt ops o p.2∧p.2.hid = b + p.1)∧∀ j,j < l.length→∃ io,(i + j,io)∈xs
 | [],i,acc,xs,h=>by
  cases h
  exact ⟨rfl,fun p hp=>(by cases hp),fun j hj=>(by simp at hj)⟩
 | o :: r,i,acc,xs,h=>by
  simp only [mkDraw] at h
  split at h
  case h_2=>cases h
  rename_i io hio
  split at h
  case h_2=>cases h
  rename_i l hl
  cases h
  obtain ⟨h1,h2,h3⟩:=mkDraw_spec hl
  obtain ⟨c1,c2,c3,c4,c5⟩:=compOper_spec hio
  refine ⟨by simp [h1], ?_, ?_⟩
  ·intro p hp
   rcases List.mem_cons.1 hp with rfl | hp
   ·refine ⟨o,Nat.le_refl _,by simp, ?_, ?_⟩
    ·unfold altO
     cases ((inHp io.hid && fldApp ops o) || (inNw io.hid && newOp io.op && hasMk ops) || (inNl io.hid && newOpL io.op)) with
     | true=>exact ⟨.inr (.inr (.inr (.inl ⟨io.op,c1,rfl⟩))),c2,c3,c4⟩
     | false =>
     cases cutFn P io.op with
     | true=>exact ⟨.inr (.inr (.inr (.inr ⟨io.op,c1,rfl⟩))),c2,c3,c4⟩
     | false =>
     cases givO ops io with
     | true=>exact ⟨.inr (.inl ⟨io.op,c1,rfl⟩),c2,c3,c4⟩
     | false =>
      cases appArg acc io.op with
      | true=>exact ⟨.inr (.inr (.inl ⟨io.op,c1,rfl⟩)),c2,c3,c4⟩
      | false =>
       cases lkpArg acc io.op with
       | true=>exact ⟨.inr (.inr (.inr (.inl ⟨io.op,c1,rfl⟩))),c2,c3,c4⟩
       | false=>exact ⟨.inl c1,c2,c3,c4⟩
    ·unfold altO
     cases ((inHp io.hid && fldApp ops o) || (inNw io.hid && newOp io.op && hasMk ops) || (inNl io.hid && newOpL io.op))<;>cases cutFn P io.op<;>cases givO ops io<;>cases appArg acc io.op<;>cases lkpArg acc io.op<;>exact c5
   ·obtain ⟨o',k1,k2,k3,k4⟩:=h2 p hp
    refine ⟨o',by omega, ?_,k3,k4⟩
    rw [show p.1 - i = (p.1 - (i + 1)) + 1 by omega,List.getElem?_cons_succ]
    exact k2
  ·intro j hj
   cases j with
   | zero=>exact ⟨_,by simp;exact .inl rfl⟩
   | succ j =>
    obtain ⟨io',h⟩:=h3 j (by simpa using hj)
    exact ⟨io',by rw [show i + (j + 1) = i + 1 + j by omega];simp [h]⟩

theorem vcOps_strip {tab:FuncId→Option PSpec} {bd:Nat} {B:Hp}:∀ {l:List IOper} {σ:St} {K:St→Prop},vcOps P tab bd B (l.map strip) σ K→vcOps P tab bd B l σ K
 | [],_,_,h=>h
 | o :: r, σ,K,h=>by
  simp only [List.map_cons,vcOps,TF_eq] at h ⊢
  have e:(fun σ'=>vcOps P tab bd B (r.map strip) σ' K) = fun σ'=>vcOps P tab bd B (r.map strip) σ' K:=rfl
  have m:∀ {σ:St} {K1 K2:St→Prop},(∀ σ,K1 σ→K2 σ)→TI P tab bd B o σ K1→TI P tab bd B o σ K2:=fun {σ K1 K2} hk h=>by
   unfold TI at *
   rw [guardK_iff] at *
   obtain ⟨b,hb,h⟩:=h
   refine ⟨b,hb, ?_⟩
   cases b with
   | true=>exact den_mono (fun sv hu G'=>hk _) h
   | false=>exact hk _ h
  exact pubO_mono (fun σ h=>m (fun σ' h=>vcOps_strip h) h) h
structure Draw0 (P:Program) (n:Nat) (ops:Array Oper) (all:List (Nat × IOper)):Prop where
 ok:∀ i io,(i,io)∈all→∃ o,ops[i]? = some o∧OpOk P n ops o io∧(∀ a,a∈depsOf o→a < i) ∧
  ∀ a∈io.deps,a∈depsOf o∨∃ q∈all,q.1∈depsOf o∧a∈q.2.deps
 full:∀ i,i < ops.size→∃ io,(i,io)∈all
theorem Draw0.draw {n b:Nat} {ops:Array Oper} {all:List (Nat × IOper)} {ms:List FuncId} (h:Draw0 P n ops all) (hp:pairsOk ms b all = true):Draw P n ms b ops all:=⟨h.ok,h.full,pairsOk_spec hp⟩
theorem resO_same (fr:Option (List Nat)→IOper→Option (List Nat)) (t:Option (List Nat)) (o:IOper):(resO fr t o).op = o.op∧(resO fr t o).guard = o.guard∧(resO fr t o).dst = o.dst∧(resO fr t o).hid = o.hid∧(resO fr t o).deps = o.deps:=by
 unfold resO
 split<;>exact ⟨rfl,rfl,rfl,rfl,rfl⟩
theorem resA_len {fr:Option (List Nat)→IOper→Option (List Nat)}:∀ {ts:List (Option (List Nat))} {l:List (Nat × IOper)},(resA fr ts l).length = l.length
 | [],[]=>rfl
 | _ :: _,[]=>rfl
 | [],_ :: r=>by simp [resA,resA_len (ts:=[]) (l:=r)]
 | _ :: ts,_ :: r=>by simp [resA,resA_len (ts:=ts) (l:=r)]
theorem resA_mem {fr:Option (List Nat)→IOper→Option (List Nat)}:∀ {ts:List (Option (List Nat))} {l:List (Nat × IOper)} {p:Nat × IOper},p∈resA fr ts l→∃ t q,q∈l∧p = (q.1,resO fr t q.2)
 | [],[],p,h=>by cases h
 | _ :: _,[],p,h=>by cases h
 | [],q :: r,p,h=>by
  simp only [resA] at h
  rcases List.mem_cons.1 h with h | h
  ·exact ⟨none,q,by simp,h⟩
  ·obtain ⟨t',q',h1,h2⟩:=resA_mem h
   exact ⟨t',q',by simp [h1],h2⟩
 | t :: ts,q :: r,p,h=>by
  simp only [resA] at h
  rcases List.mem_cons.1 h with h | h
  ·exact ⟨t,q,by simp,h⟩
  ·obtain ⟨t',q',h1,h2⟩:=resA_mem h
   exact ⟨t',q',by simp [h1],h2⟩
theorem mem_resA {fr:Option (List Nat)→IOper→Option (List Nat)}:∀ {ts:List (Option (List Nat))} {l:List (Nat × IOper)} {q:Nat × IOper},q∈l→∃ t,(q.1,resO fr t q.2)∈resA fr ts l
 | [],[],q,h=>by cases h
 | _ :: _,[],q,h=>by cases h
 | [],x :: r,q,h=>by
  simp only [resA]
  rcases List.mem_cons.1 h with h | h
  ·subst h;exact ⟨none,by simp⟩
  ·obtain ⟨t',h1⟩:=mem_resA (fr:=fr) (ts:=[]) h
   exact ⟨t',by simp [h1]⟩
 | t :: ts,x :: r,q,h=>by
  simp only [resA]
  rcases List.mem_cons.1 h with h | h
  ·subst h;exact ⟨t,by simp⟩
  ·obtain ⟨t',h1⟩:=mem_resA (fr:=fr) (ts:=ts) h
   exact ⟨t',by simp [h1]⟩
theorem Draw0.res {n:Nat} {ops:Array Oper} {all:List (Nat × IOper)} (h:Draw0 P n ops all) (fr:Option (List Nat)→IOper→Option (List Nat)) (ts:List (Option (List Nat))):Draw0 P n ops (resA fr ts all):=by
 refine ⟨fun i io hi=>?_,fun i hi=>?_⟩
 ·obtain ⟨t,q,hq,e⟩:=resA_mem hi
  cases e
  obtain ⟨o,h1,h2,h3,h4⟩:=h.ok q.1 q.2 hq
  obtain ⟨e1,e2,e3,e4,e5⟩:=resO_same fr t q.2
  refine ⟨o,h1,⟨by rw [e1];exact h2.op,by rw [e2];exact h2.gd,by rw [e3];exact h2.dst,by rw [e3];exact h2.ok⟩,h3,fun a ha=>?_⟩
  rw [e5] at ha
  rcases h4 a ha with h4 | ⟨q',k1,k2,k3⟩
  ·exact .inl h4
  ·obtain ⟨t',k4⟩:=mem_resA (fr:=fr) (ts:=ts) k1
   exact .inr ⟨_,k4,k2,by rw [(resO_same fr t' q'.2).2.2.2.2];exact k3⟩
 ·obtain ⟨io,h1⟩:=h.full i hi
  obtain ⟨t,h2⟩:=mem_resA (fr:=fr) (ts:=ts) h1
  exact ⟨_,h2⟩

theorem compDraw_spec {nt:Nat} {ops:Array Oper} {b:Nat} {ic:IC} (h:compDraw P nt ops b = some ic) :
  ∃ all ps ns,P.follows .mixedOrders = true∧Draw0 P nt ops all∧all.length = ops.size∧(∀ p∈all,p.2.hid = b + p.1∧p.1 < ops.size) ∧
   ((ic = .draw b all.length ps ns (all.map fun p=>strip p.2)∧pairsOk [] b all = true)∨(∃ ms rts,ic = .drawd b all.length ps ns ms rts all) ∨
    ∃ m ys,ic = .drawy b m ops.size ps ((headOf m all).map fun p=>strip p.2) ys∧oneWay ops all m = true∧pairsOk [] b (headOf m all) = true∧compList P nt ops (ops.toList.drop m) (b + m) = some ys):=by
 unfold compDraw at h
 split at h
 case h_2=>cases h
 rename_i all hall
 obtain ⟨h1,h2,h3⟩:=mkDraw_spec hall
 have base:(P.follows .mixedOrders && all.all (waitsOk ops all)) = true→P.follows .mixedOrders = true∧Draw0 P nt ops all:=fun hc=>by
  simp only [Bool.and_eq_true,List.all_eq_true] at hc
  obtain ⟨hf,hw⟩:=hc
  refine ⟨hf, ?_, ?_⟩
  ·intro i io hi
   obtain ⟨o,_,k2,k3,_⟩:=h2 _ hi
   have ho:ops[i]? = some o:=by simpa using k2
   have hwi:=hw _ hi
   simp only [waitsOk,ho,Bool.and_eq_true,Bool.not_eq_true',List.all_eq_true,Bool.or_eq_true,List.any_eq_true] at hwi
   refine ⟨o,ho,k3,fun a ha=>by simpa using hwi.1 a ha,fun a ha=>?_⟩
   rcases hwi.2 a ha with h | ⟨q,hq,h1,h2⟩
   ·exact .inl (memN_iff.1 h)
   ·exact .inr ⟨q,hq,memN_iff.1 h1,memN_iff.1 h2⟩
  ·intro i hi
   obtain ⟨io,h⟩:=h3 i (by simpa using hi)
   exact ⟨io,by simpa using h⟩
 have hid:∀ p∈all,p.2.hid = b + p.1∧p.1 < ops.size:=by
  intro p hp
  obtain ⟨o,_,k2,_,k4⟩:=h2 p hp
  refine ⟨k4, ?_⟩
  have:=(List.getElem?_eq_some_iff.1 k2).1
  simpa using this
 split at h
 ·rename_i m _
  split at h
  case h_2=>cases h
  rename_i ys hys
  cases hc:((P.follows .mixedOrders && all.all (waitsOk ops all)) && (oneWay ops all m && pairsOk [] b (headOf m all))) with
  | false=>rw [hc] at h;cases h
  | true =>
   rw [hc] at h;cases h
   obtain ⟨k1,k2⟩:=Bool.and_eq_true_iff.1 hc
   obtain ⟨hf,hd0⟩:=base k1
   obtain ⟨k3,k4⟩:=Bool.and_eq_true_iff.1 k2
   exact ⟨all,_,[],hf,hd0,by simpa using h1,hid, .inr (.inr ⟨m,ys,rfl,k3,k4,hys⟩)⟩
 cases hc:(P.follows .mixedOrders && all.all (waitsOk ops all)) with
 | false=>rw [hc] at h;cases h
 | true =>
  rw [hc] at h
  simp only [cond_true] at h
  obtain ⟨hf,hd0⟩:=base hc
  cases hp:(pairsOk [] b all && !outApp (all.map (·.2))) with
  | true=>rw [hp] at h;cases h;exact ⟨all,_,_,hf,hd0,by simpa using h1,hid, .inl ⟨rfl,(Bool.and_eq_true_iff.1 hp).1⟩⟩
  | false=>rw [hp] at h;cases h;exact ⟨all,_,_,hf,hd0,by simpa using h1,hid, .inr (.inl ⟨_,_,rfl⟩)⟩
def En (E:Nat→Value) (π:List (Nat × Option Nat)) (h:Nat):Value:=match lookP π h with
 | none=>E h
 | some (some h')=>E h'
 | some none=>.slice none 0 0
theorem En_tgt {E:Nat→Value} {π:List (Nat × Option Nat)} {h h':Nat} (e:tgt π h = some h'):En E π h = E h':=by
 unfold tgt at e
 unfold En
 split at e
 ·rename_i e';rw [e'];cases e;rfl
 ·rename_i e';rw [e',e]
theorem En_nil {E:Nat→Value} {π:List (Nat × Option Nat)} {h:Nat} (e:tgt π h = none):En E π h = .slice none 0 0:=by
 unfold tgt at e
 unfold En
 split at e
 ·cases e
 ·rename_i e';rw [e',e]
theorem renH_some {π:List (Nat × Option Nat)} {h:Nat} {f:Nat→S1} {z:Option S1} {y:S1} (e:renH π h f z = some y):(∃ h',tgt π h = some h'∧y = f h')∨(tgt π h = none∧z = some y):=by
 unfold renH at e
 unfold tgt
 split at e
 ·rename_i e';rw [e'];cases e;exact .inl ⟨h,rfl,rfl⟩
 ·rename_i h' e';rw [e'];cases e;exact .inl ⟨h',rfl,rfl⟩
 ·rename_i e';rw [e'];exact .inr ⟨rfl,e⟩
theorem S1.ren_rel {E:Nat→Value} {π:List (Nat × Option Nat)} {x y:S1} {v:Value} (e:x.ren π = some y) (h:y.rel E v):x.rel (En E π) v:=by
 cases x with
 | any=>trivial
 | val u=>cases e;exact h
 | sb b=>cases e;exact h
 | pos=>trivial
 | row k n =>
  simp only [S1.ren] at e
  rcases renH_some e with ⟨h',e1,rfl⟩ | ⟨e1,e2⟩
  ·simp only [S1.rel,En_tgt e1];exact h
  ·simp only [S1.rel,En_nil e1]
   cases n with
   | zero=>cases e2;exact ⟨h,none,0,rfl⟩
   | succ n=>cases e2
 | ptr k n =>
  simp only [S1.ren] at e
  rcases renH_some e with ⟨h',e1,rfl⟩ | ⟨e1,e2⟩
  ·simp only [S1.rel,En_tgt e1];exact h
  ·cases e2
 | rptr k n =>
  simp only [S1.ren] at e
  rcases renH_some e with ⟨h',e1,rfl⟩ | ⟨e1,e2⟩
  ·simp only [S1.rel,En_tgt e1];exact h
  ·cases e2
 | mref k =>
  simp only [S1.ren] at e
  rcases renH_some e with ⟨h',e1,rfl⟩ | ⟨e1,e2⟩
  ·simp only [S1.rel,En_tgt e1];exact h
  ·cases e2
 | ptrx k n =>
  simp only [S1.ren] at e
  rcases renH_some e with ⟨h',e1,rfl⟩ | ⟨e1,e2⟩
  ·simp only [S1.rel,En_tgt e1];exact h
  ·cases e2
 | pre k n =>
  simp only [S1.ren] at e
  rcases renH_some e with ⟨h',e1,rfl⟩ | ⟨e1,e2⟩
  ·simp only [S1.rel,En_tgt e1];exact h
  ·cases e2
theorem renL_rel {E:Nat→Value} {π:List (Nat × Option Nat)}:∀ {cs ds:List S1} {vs:List Value},renL π cs = some ds→relL E ds vs→relL (En E π) cs vs
 | [],ds,vs,e,h=>by cases e;cases vs<;>first | trivial | exact h.elim
 | c :: cs,ds,vs,e,h=>by
  simp only [renL] at e
  split at e
  ·rename_i c' hc
   split at e
   ·rename_i cs' hcs
    cases e
    cases vs with
    | nil=>exact h.elim
    | cons v vs=>exact ⟨S1.ren_rel hc h.1,renL_rel hcs h.2⟩
   ·cases e
  ·cases e
theorem SV.ren_rel {E:Nat→Value} {π:List (Nat × Option Nat)} {x y:SV} {v:Value} (e:x.ren π = some y) (h:y.rel E v):x.rel (En E π) v:=by
 cases x with
 | c x =>
  simp only [SV.ren] at e
  split at e
  ·rename_i y' hy;cases e;exact S1.ren_rel hy h
  ·cases e
 | agg cs =>
  simp only [SV.ren] at e
  split at e
  ·rename_i l hl
   cases e
   obtain ⟨vs,e,h⟩:=h
   exact ⟨vs,e,renL_rel hl h⟩
  ·cases e
theorem OB.ok_ren {r:Root} {E:Nat→Value} {W:World} {π:List (Nat × Option Nat)} {h h':Nat} {ob ob':OB} (e:ob.ren π = some ob') (ho:ob'.ok r E W h') (ht:tgt π h = some h'):ob.ok r (En E π) W h∧ob.pub = ob'.pub:=by
 have hE:=En_tgt (E:=E) ht
 cases ob with
 | cells s cs t =>
  simp only [OB.ren] at e
  split at e
  ·rename_i l hl
   cases e
   obtain ⟨b,vs,h1,h2,h3,h4,h5⟩:=ho
   exact ⟨⟨b,vs,hE.trans h1,h2,h3,renL_rel hl h4,h5⟩,rfl⟩
  ·cases e
 | row p n vs t k=>cases e;refine ⟨?_,rfl⟩;simp only [OB.ok,hE];exact ho
 | map s es c=>cases e;refine ⟨?_,rfl⟩;simp only [OB.ok,hE];exact ho
 | xrow b n cap vs rest t k=>cases e;refine ⟨?_,rfl⟩;simp only [OB.ok,hE];exact ho
 | heap p=>cases e;exact ⟨ho,rfl⟩
theorem eqO_some {α:Type} {a b:Option α} (h:eqO a b):∃ x,a = some x∧b = some x:=by
 cases a<;>cases b<;>first | exact h.elim | (cases h;exact ⟨_,rfl,rfl⟩)
theorem frV_look {π:List (Nat × Option Nat)} {σ:St}:∀ {l:List (Nat × SV)} {i:Nat},frV π σ l→frOf l i = .c .any∨(frOf l i).ren π = some (σ.fr i)
 | [],_,_=>.inl rfl
 | (j,sv) :: r,i,h=>by
  simp only [frOf]
  cases hb:Nat.beq i j with
  | true =>
   have:=Nat.eq_of_beq_eq_true hb;subst this
   obtain ⟨x,e1,e2⟩:=eqO_some h.1
   exact .inr (e1.trans e2.symm)
  | false=>exact frV_look h.2
theorem HV_look {π:List (Nat × Option Nat)} {σ:St}:∀ {l:List (Nat × OB)} {h:Nat} {ob:OB},HV π σ l→HOf l h = some ob→(∃ p∈l,p.1 = h)∧((∃ h' ob',tgt π h = some h'∧σ.H h' = some ob'∧Tells π ob ob')∨(tgt π h = none∧((∃ t k,ob = .row none 0 [] t k)∨ob = .heap fun _=>none)))
 | [],_,_,_,e=>by cases e
 | (j,ob') :: r,h,ob,hv,e=>by
  simp only [HOf] at e
  cases hb:Nat.beq h j with
  | true =>
   rw [hb] at e
   have:=Nat.eq_of_beq_eq_true hb;subst this;cases e
   refine ⟨⟨(h,ob'),by simp,rfl⟩, ?_⟩
   have h1:=hv.1
   unfold HV1 at h1
   unfold tgt
   split at h1
   ·rename_i e';rw [e'];obtain ⟨x,e1,e2⟩:=Tells.of h1;exact .inl ⟨h,x,rfl,e1,e2⟩
   ·rename_i h' e';rw [e'];obtain ⟨x,e1,e2⟩:=Tells.of h1;exact .inl ⟨h',x,rfl,e1,e2⟩
   ·rename_i e'
    rw [e']
    split at h1
    ·injection h1 with h1 h2;subst h1 h2;exact .inr ⟨rfl, .inl ⟨_,_,rfl⟩⟩
    ·subst h1;exact .inr ⟨rfl, .inr rfl⟩
    ·exact h1.elim
  | false =>
   rw [hb] at e
   obtain ⟨⟨p,h1,h2⟩,h3⟩:=HV_look hv.2 e
   exact ⟨⟨p,by simp [h1],h2⟩,h3⟩
theorem injB_spec {π:List (Nat × Option Nat)}:∀ {l:List (Nat × OB)},injB π l = true→∀ p∈l, ∀ q∈l, ∀ a,tgt π p.1 = some a→tgt π q.1 = some a→p.1 = q.1
 | [],_,p,hp,_,_,_,_,_=>by cases hp
 | x :: r,h,p,hp,q,hq,a,e1,e2=>by
  obtain ⟨xh,xo⟩:=x
  simp only [injB,Bool.and_eq_true,List.all_eq_true,Bool.or_eq_true] at h
  have key:∀ q∈r, ∀ a,tgt π xh = some a→tgt π q.1 = some a→xh = q.1:=fun q hq a e1 e2=>by
   rcases h.1 q hq with h1 | h1
   ·exact Nat.eq_of_beq_eq_true h1
   ·rw [e1,e2] at h1;simp [tgtNe] at h1
  rcases List.mem_cons.1 hp with rfl | hp'<;>rcases List.mem_cons.1 hq with rfl | hq'
  ·rfl
  ·exact key q hq' a e1 e2
  ·exact (key p hp' a e2 e1).symm
  ·exact injB_spec h.2 p hp' q hq' a e1 e2
theorem avoid_spec {π:List (Nat × Option Nat)} {pb:List Nat} (h:avoid π pb = true) {k:Nat} (hk:k∈pb):lookP π k = none:=by
 unfold avoid at h
 induction π with
 | nil=>rfl
 | cons p r ih =>
  simp only [List.all_cons,Bool.and_eq_true] at h
  simp only [lookP]
  cases hb:Nat.beq k p.1 with
  | true =>
   have:=Nat.eq_of_beq_eq_true hb;subst this
   have:=memN_iff.2 hk
   rw [this] at h;simp at h
  | false=>exact ih h.2

theorem OB.ren_has {π:List (Nat × Option Nat)} {ob ob':OB} (h:ob.ren π = some ob') {v:Value} {b:Nat} (e:ob.has v b):ob'.has v b:=by
 cases ob with
 | cells s cs t =>
  simp only [OB.ren] at h
  split at h
  ·cases h;exact e
  ·cases h
 | row=>cases h;exact e
 | map=>cases h;exact e
 | xrow=>cases h;exact e
 | heap=>cases h;exact e
theorem Tells.has {π:List (Nat × Option Nat)} {ob ob':OB} (h:Tells π ob ob') {v:Value} {b:Nat} (e:ob.has v b):ob'.has v b:=by
 rcases h with h | ⟨b,n,cap,vs,rest,t,k,rfl,rfl⟩
 ·exact OB.ren_has h e
 ·exact e
theorem OB.ok_tells {r:Root} {E:Nat→Value} {W:World} {π:List (Nat × Option Nat)} {h h':Nat} {ob ob':OB} (e:Tells π ob ob') (ho:ob'.ok r E W h') (ht:tgt π h = some h'):ob.ok r (En E π) W h∧ob.pub = ob'.pub:=by
 rcases e with e | ⟨b,n,cap,vs,rest,t,k,rfl,rfl⟩
 ·exact OB.ok_ren e ho ht
 ·refine ⟨?_,rfl⟩
  have:=OB.xrow_own ho
  show W.ownsRow 0 t k (En E π h) n vs∧_
  rw [En_tgt ht]
  exact this
theorem Sim.ren {r:Root} {G0 G:Hp} {E:Nat→Value} {σ:St} {W:World} {π:List (Nat × Option Nat)} {hl:List (Nat × OB)} (hs:Sim r G0 E σ.H G W) (hv:HV π σ hl) (hi:injB π hl = true) :
  Sim r G0 (En E π) (HOf hl) G W∧∀ h ob b,HOf hl h = some ob→ob.has (En E π h) b→∃ h' ob', σ.H h' = some ob'∧ob'.has (E h') b:=by
 have hb:∀ h ob b,HOf hl h = some ob→ob.has (En E π h) b→∃ h' ob',tgt π h = some h'∧σ.H h' = some ob'∧Tells π ob ob'∧ob'.has (E h') b:=fun h ob b e e2=>by
  obtain ⟨_,h3 | ⟨h3,_⟩⟩:=HV_look hv e
  ·obtain ⟨h',ob',k1,k2,k3⟩:=h3
   rw [En_tgt k1] at e2
   exact ⟨h',ob',k1,k2,k3,k3.has e2⟩
  ·rename_i h4
   rcases h4 with ⟨t,k,rfl⟩ | rfl
   ·rw [En_nil h3] at e2;cases e2
   ·obtain ⟨o,ho⟩:=e2;cases ho
 refine ⟨⟨hs.below,hs.sub,hs.newG, ?_, ?_, ?_, ?_⟩,fun h ob b e e2=>let ⟨h',ob',_,k2,_,k4⟩:=hb h ob b e e2;⟨h',ob',k2,k4⟩⟩
 ·intro h ob e
  obtain ⟨_,⟨h',ob',k1,k2,k3⟩ | ⟨k1,⟨t,k,rfl⟩ | rfl⟩⟩:=HV_look hv e
  ·exact (OB.ok_tells k3 (hs.own h' ob' k2) k1).1
  ·refine ⟨?_,(fun v hv=>by cases hv),fun b hb=>?_⟩
   ·rw [En_nil k1];exact ⟨by simp, .inl ⟨rfl,rfl⟩⟩
   ·rw [En_nil k1] at hb;cases hb
  ·intro b o ho;cases ho
 ·intro h ob v e e2
  obtain ⟨_,⟨h',ob',k1,k2,k3⟩ | ⟨k1,⟨t,k,rfl⟩ | rfl⟩⟩:=HV_look hv e
  ·have:=(OB.ok_tells k3 (hs.own h' ob' k2) k1).2
   rw [this] at e2
   rw [En_tgt k1]
   exact hs.pub h' ob' v k2 e2
  ·cases e2
  ·cases e2
 ·intro h ob e e2 b e3
  obtain ⟨h',ob',k1,k2,k3,k4⟩:=hb h ob b e e3
  have:=(OB.ok_tells k3 (hs.own h' ob' k2) k1).2
  rw [this] at e2
  exact hs.priv h' ob' k2 e2 b k4
 ·intro h ob h2 ob2 b e e2 e3 e4 e5
  obtain ⟨h',ob',k1,k2,k3,k4⟩:=hb h ob b e e4
  obtain ⟨h2',ob2',l1,l2,l3,l4⟩:=hb h2 ob2 b e2 e5
  have hp:=(OB.ok_tells k3 (hs.own h' ob' k2) k1).2
  rw [hp] at e3
  have:=hs.inj h' ob' h2' ob2' b k2 l2 e3 k4 l4
  subst this
  obtain ⟨⟨p,hp1,rfl⟩,_⟩:=HV_look hv e
  obtain ⟨⟨q,hq1,rfl⟩,_⟩:=HV_look hv e2
  exact injB_spec hi p hp1 q hq1 h' k1 l1

theorem S1.bd_ment {b:Nat} {x:S1} (h:x.bd b = true):x.ment (· < b):=by
 cases x<;>first | trivial | (simpa [S1.bd,S1.ment] using h)
theorem allBd_ment {b:Nat}:∀ {cs:List S1},allBd b cs = true→∀ c∈cs,c.ment (· < b)
 | [],_,_,h=>by cases h
 | c :: cs,h,x,hx=>by
  simp only [allBd] at h
  cases hb:c.bd b with
  | false=>rw [hb] at h;cases h
  | true =>
   rw [hb] at h
   rcases List.mem_cons.1 hx with rfl | hx
   ·exact S1.bd_ment hb
   ·exact allBd_ment h x hx
theorem SV.bd_ment {b:Nat} {x:SV} (h:x.bd b = true):x.ment (· < b):=by
 cases x with
 | c x=>exact S1.bd_ment h
 | agg cs=>exact allBd_ment h
theorem frBd_ment {b:Nat}:∀ {l:List (Nat × SV)},frBd b l = true→∀ i,(frOf l i).ment (· < b)
 | [],_,_=>trivial
 | (j,sv) :: r,h,i=>by
  simp only [frBd] at h
  cases hb:sv.bd b with
  | false=>rw [hb] at h;cases h
  | true =>
   rw [hb] at h
   simp only [frOf]
   cases Nat.beq i j with
   | true=>exact SV.bd_ment hb
   | false=>exact frBd_ment h i
theorem HBd_ment {b:Nat}:∀ {l:List (Nat × OB)},HBd b l = true→∀ i ob,HOf l i = some ob→i < b∧ob.ment (· < b)
 | [],_,_,_,e=>by cases e
 | (j,ob') :: r,h,i,ob,e=>by
  simp only [HBd] at h
  cases hb:(Nat.blt j b && ob'.bd b) with
  | false=>rw [hb] at h;cases h
  | true =>
   rw [hb] at h
   simp only [HOf] at e
   cases hi:Nat.beq i j with
   | false=>rw [hi] at e;exact HBd_ment h i ob e
   | true =>
    rw [hi] at e
    cases e
    have:=Nat.eq_of_beq_eq_true hi;subst this
    rw [Bool.and_eq_true] at hb
    refine ⟨by simpa using hb.1, ?_⟩
    cases ob' with
    | cells p cs t=>exact allBd_ment hb.2
    | row=>trivial
    | map=>trivial
    | xrow=>trivial
    | heap=>trivial

def exitOf:Out→Exit
 | .norm=>.normal
 | .exit id=>.exit id
 | .ret=>.ret

theorem stepR_scope {P:Program} {b:Frame} {a:Act} {k:List Item} {cs:List Frame} {w:World} {c:Code}:step P (lone (b.atR a (.code (.scope c) :: k)) cs w) = .next (lone (b.atR a (.code c :: .inScope c :: k)) cs w) :=
 step_lone_go (by simp [stepG,stepG.exec,Frame.atR])
theorem stepR_inScope {P:Program} {b:Frame} {a:Act} {k:List Item} {cs:List Frame} {w:World} {c:Code}:step P (lone (b.atR a (.inScope c :: k)) cs w) = .next (lone (b.atR a k) cs w) :=
 step_lone_go (by simp [stepG,stepG.exec,Frame.atR])
theorem wpIn_scope {P:Program} {F:Fence} {nn:Nat} {Q:Exit→Act→World→Prop} {a:Act} {w:World} {c:Code} (h:c.wpIn F nn P (Exit.noGoto Q) a w):(Code.scope c).wpIn F nn P Q a w:=by
 intro b k cs hro hb hr
 have h0:(lone (b.atR a (.code (.scope c) :: k)) cs w).fenced P F:=fenced_calm hb hr rfl
 obtain ⟨e,a₁,w₁,hq,harr⟩:=h b (.inScope c :: k) cs hro hb hr
 cases e with
 | normal=>exact ⟨.normal,a₁,w₁,hq, .head h0 stepR_scope (StepsIn.trans harr (.one (fenced_calm hb hr rfl) stepR_inScope))⟩
 | exit id =>
  have hx:exitTo id (.inScope c :: k) = exitTo id k:=by simp [exitTo]
  exact ⟨.exit id,a₁,w₁,hq,fun k' hk=>.head h0 stepR_scope (harr.1 k' (by rw [hx];exact hk)),
   fun hr' hk=>let ⟨k₁,h1,h2⟩:=harr.2 hr' (by rw [hx];exact hk);⟨k₁,h1, .head h0 stepR_scope h2⟩⟩
 | goto l=>exact hq.elim
 | ret=>exact ⟨_,a₁,w₁,hq, .of_steps (.one h0 stepR_scope) harr⟩
 | panic ch=>exact ⟨_,a₁,w₁,hq, .of_steps (.one h0 stepR_scope) harr⟩
 | outgrown=>exact ⟨_,a₁,w₁,hq, .of_steps (.one h0 stepR_scope) harr⟩

theorem compC_le {P:Program} {nt:Nat}:∀ (c:Code) {ic:IC} {b b2:Nat},compC P nt c b = some (ic,b2)→b≤b2:=by
 intro c
 induction c with
 | skip=>intro ic b b2 h;cases h;exact Nat.le_refl _
 | region id ops draw =>
  intro ic b b2 h
  cases draw with
  | true =>
   simp only [compC] at h
   split at h
   ·cases h;exact Nat.le_add_right _ _
   ·cases h
  | false =>
   simp only [compC] at h
   split at h
   ·cases h;exact Nat.le_add_right _ _
   ·cases h
 | seq x y ihx ihy =>
  intro ic b b2 h
  simp only [compC] at h
  split at h
  ·split at h
   ·cases h;exact Nat.le_trans (ihx ‹_›) (ihy ‹_›)
   ·cases h
  ·cases h
 | cond q x y ihx ihy =>
  intro ic b b2 h
  simp only [compC] at h
  split at h
  ·split at h
   ·cases h;exact Nat.le_trans (ihx ‹_›) (ihy ‹_›)
   ·cases h
  ·cases h
 | block id x ih =>
  intro ic b b2 h
  simp only [compC] at h
  split at h
  ·cases h;exact ih ‹_›
  ·cases h
 | loop x ih =>
  intro ic b b2 h
  simp only [compC] at h
  split at h
  ·cases h;exact ih ‹_›
  ·cases h
 | exit id=>intro ic b b2 h;cases h;exact Nat.le_refl _
 | ret=>intro ic b b2 h;cases h;exact Nat.le_refl _
 | label l=>intro ic b b2 h;cases h;exact Nat.le_refl _
 | scope x ih=>intro ic b b2 h;exact ih h
 | rangeFunc g ps x y ihx ihy =>
  intro ic b b2 h
  simp only [compC] at h
  split at h
  ·split at h
   ·rename_i g' x' b' _ hx _ y' b3 hy
    cases hc:(noRange x' && ps.toList.all (fun p=>Nat.blt p nt && Nat.blt p 1000000)) with
    | false=>rw [hc] at h;cases h
    | true=>rw [hc] at h;cases h;exact Nat.le_trans (ihx hx) (ihy hy)
   ·cases h
  ·cases h
 | _=>intros;simp [compC] at *

end
end Go.Pal

namespace Go.Pal
open Go.RowKit
def Keep (J:JT) (Kp:Nat→Prop) (W1:World):JT:=fun k Hd G W=>J k (fun b=>Hd b∨Kp b) G W∧∀ b,Kp b→b < W1.heap.size∧W.heap[b]? = W1.heap[b]?∧G b = none∧¬ Hd b

theorem Keep.low {W W1:World} {b:Nat} (h1:b < W1.heap.size) (h2:W.heap[b]? = W1.heap[b]?):b < W.heap.size:=by
 rw [Array.getElem?_eq_getElem h1] at h2
 exact (Array.getElem?_eq_some_iff.1 h2).1

theorem Keep.stable {J:JT} (h:Stable J) (Kp:Nat→Prop) (W1:World):Stable (Keep J Kp W1):=by
 rintro k Hd G W Hd' G' W' ⟨hJ,hk⟩ s
 have keep:∀ b,Kp b→b < W1.heap.size∧W'.heap[b]? = W1.heap[b]?∧G' b = none∧¬ Hd' b:=fun b hb=>by
  obtain ⟨h1,h2,h3,h4⟩:=hk b hb
  have hlt:=Keep.low h1 h2
  refine ⟨h1,(s.beneath.block b hlt h4).trans h2, ?_,fun h=>?_⟩
  ·cases hG:G' b with
   | none=>rfl
   | some o =>
    rcases s.newG b o hG with h | h | h
    ·rw [h3] at h;cases h
    ·exact (h4 h).elim
    ·omega
  ·rcases (s.hd b h).1 with h | h
   ·exact h4 h
   ·omega
 refine ⟨h k _ G W _ G' W' hJ ⟨⟨s.beneath.os,s.beneath.tape,s.beneath.output,s.beneath.size,fun j hj hn=>s.beneath.block j hj (fun hh=>hn (.inl hh))⟩,s.grow,s.sub, ?_, ?_⟩,keep⟩
 ·intro b o hb
  rcases s.newG b o hb with h | h | h
  ·exact .inl h
  ·exact .inr (.inl (.inl h))
  ·exact .inr (.inr h)
 ·rintro b (hb | hb)
  ·exact ⟨(s.hd b hb).1.imp .inl id,(s.hd b hb).2⟩
  ·obtain ⟨h1,h2,h3,h4⟩:=keep b hb
   exact ⟨.inl (.inr hb),h3,Keep.low h1 h2⟩

theorem Keep.env {P:Program} {e:Env} (he:e.Ok P) (Kp:Nat→Prop) (W1:World):Env.Ok P ⟨e.l,e.Y,Keep e.J Kp W1,Keep e.Jx Kp W1,none⟩:=by
 refine ⟨Keep.stable he.st Kp W1,Keep.stable he.stx Kp W1, ?_⟩
 rintro k args Hd G W hY ⟨hJ,hk⟩ hsub hHd
 obtain ⟨fn,tmps,assign,body,h1,h2⟩:=he.y k args (fun b=>Hd b∨Kp b) G W hY hJ hsub (fun b hb=>by
  rcases hb with hb | hb
  ·exact hHd b hb
  ·obtain ⟨q1,q2,q3,_⟩:=hk b hb
   exact ⟨q3,Keep.low q1 q2⟩)
 refine ⟨fn,tmps,assign,body,h1,h2.mono ?_⟩
 rintro en W' ⟨st,G',r1,r2,r3,r4,r5,r6⟩
 have keep:∀ b,Kp b→b < W1.heap.size∧W'.heap[b]? = W1.heap[b]?∧G' b = none∧¬ Hd b:=fun b hb=>by
  obtain ⟨q1,q2,q3,q4⟩:=hk b hb
  obtain ⟨q5,q6⟩:=r4 b (.inr hb)
  exact ⟨q1,q5.trans q2,q6,q4⟩
 refine ⟨st,G',r1,r2,r3,fun b hb=>r4 b (.inl hb),r5, ?_⟩
 cases st
 ·exact ⟨r6,keep⟩
 ·exact ⟨r6,keep⟩

theorem denCallv_grow {H:Nat→Option OB} {hid:Nat} {Gr G:Hp} {K:SV→List (Nat × Option OB)→Hp→Prop} {args:List Value} {s:PSpec} (h:denCallv H hid Gr G K args s):denCallv H hid Gr G (fun sv hu G'=>Grow G G'∧K sv hu G') args s:=by
 have fk:∀ {sv:SV} {L:SV→Prop},fork sv L→∀ {L':SV→Prop},(∀ s,L s→L' s)→fork sv L':=fun {sv L} h {L'} hl=>by
  unfold fork at *
  split
  ·exact ⟨fun e=>⟨hl _ (h.t e).out⟩,fun e=>⟨hl _ (h.f e).out⟩⟩
  ·rename_i hne
   split at h
   ·exact absurd rfl (hne _)
   ·exact hl _ h
 cases s with
 | st pre post =>
  obtain ⟨hs,h1,h2,h3,h4⟩:=h
  exact ⟨hs,h1,h2,h3,fun v ns G' hg hp=>⟨fk (h4 v ns G' hg hp).out fun s h=>⟨hg,h⟩⟩⟩
 | fn pre val=>exact ⟨h.h,⟨fk h.k.out fun s h=>⟨Grow.refl _,h⟩⟩⟩
 | sca pre post=>exact ⟨h.h,fun v hv=>⟨fk (h.k v hv).out fun s h=>⟨Grow.refl _,h⟩⟩⟩
 | rel pre post=>exact ⟨h.h,fun v G' hg hv=>⟨fk (h.k v G' hg hv).out fun s h=>⟨hg,h⟩⟩⟩
 | own t k pre post=>exact ⟨h.h,fun n vs G' hg hv=>⟨⟨hg,(h.k n vs G' hg hv).out⟩⟩⟩
 | seq pre post=>exact h.elim
 | cut=>exact h.elim
 | hp pre post =>
  simp only [denCallv] at h ⊢
  split at h
  ·exact ⟨h.h,fun v p' G' hg hp=>⟨fk (h.k v p' G' hg hp).out fun s h=>⟨hg,h⟩⟩⟩
  ·exact h.elim

theorem cond_inj {α:Type} {b:Bool} {x y:α} (h:(bif b then some x else none) = some y):x = y:=by
 cases b
 ·cases h
 ·exact Option.some.inj h

theorem cond_ors {α:Type} {b:Bool} {x y z:α} (h:(bif b then some x else some y) = some z):x = z∨y = z:=by
 cases b
 ·exact .inr (Option.some.inj h)
 ·exact .inl (Option.some.inj h)

theorem compOp_callv {P:Program} {op:Op} {x':Opd} {ys:List Opd} (h:compOp P op = some (.callv x' ys)):∃ x args ts,op = .call { callee:=.value x,args:=args,argTypes:=ts }∧compOpd x = some x'∧compOpds args.toList = some ys:=by
 cases op with
 | call c =>
  simp only [compOp,compCall] at h
  obtain ⟨callee,args,ts⟩:=c
  simp only at h
  split at h
  ·split at h<;>cases h
  ·split at h
   ·cases h;exact ⟨_,_,_,rfl, ‹_›, ‹_›⟩
   ·cases h
  all_goals (repeat' split at h)<;>first | (cases h;done) | (cases (cond_inj h);done) | (rcases cond_ors h with h | h<;>cases h;done) | (rcases cond_or3H h with h | h<;>cases h;done)
 | _ =>
  simp only [compOp] at h
  first
   | (cases h;done)
   | (simp only [Option.map_eq_some_iff] at h;obtain ⟨_,_,h⟩:=h;cases h;done)
   | ((repeat' split at h)<;>first | contradiction | (cases h;done) | (simp only [Option.map_eq_some_iff] at h;obtain ⟨_,_,h⟩:=h;cases h;done) | (cases (cond_inj h);done) | (rcases cond_ors h with h | h<;>cases h;done) | (rcases cond_or3H h with h | h<;>cases h;done))
theorem compOp_call {P:Program} {op:Op} {f:FuncId} {ys:List Opd} (h:compOp P op = some (.call f ys)):∃ args ts,op = .call { callee:=.value (.func f),args:=args,argTypes:=ts }∧compOpds args.toList = some ys:=by
 cases op with
 | call c =>
  simp only [compOp,compCall] at h
  obtain ⟨callee,args,ts⟩:=c
  simp only at h
  split at h
  ·split at h
   ·cases h;exact ⟨_,_,rfl, ‹_›⟩
   ·cases h
  ·split at h<;>cases h
  all_goals (repeat' split at h)<;>first | (cases h;done) | (cases (cond_inj h);done) | (rcases cond_ors h with h | h<;>cases h;done) | (rcases cond_or3H h with h | h<;>cases h;done)
 | _ =>
  simp only [compOp] at h
  first
   | (cases h;done)
   | (simp only [Option.map_eq_some_iff] at h;obtain ⟨_,_,h⟩:=h;cases h;done)
   | ((repeat' split at h)<;>first | contradiction | (cases h;done) | (simp only [Option.map_eq_some_iff] at h;obtain ⟨_,_,h⟩:=h;cases h;done) | (cases (cond_inj h);done) | (rcases cond_ors h with h | h<;>cases h;done) | (rcases cond_or3H h with h | h<;>cases h;done))

theorem compOp_rng {P:Program} {op:Op} {x':Opd} (h:compOp P op = some (.rng x')):∃ t x kt e,op = .range t x∧compOpd x = some x'∧P.underlying t = some (.map kt e):=by
 cases op with
 | range t x =>
  simp only [compOp] at h
  split at h
  ·rename_i y z h1 h2
   cases h
   unfold mapT at h2
   split at h2
   ·exact ⟨_,_,_,_,rfl,h1, ‹_›⟩
   ·cases h2
  ·cases h
 | next x s =>
  cases s with
  | true=>simp [compOp] at h
  | false=>simp only [compOp,Option.map_eq_some_iff] at h;obtain ⟨y,h1,h⟩:=h;cases h
 | call c =>
  obtain ⟨callee,args,ts⟩:=c
  simp only [compOp,compCall] at h
  (repeat' split at h)<;>first | (cases h;done) | (cases (cond_inj h);done) | (rcases cond_ors h with h | h<;>cases h;done) | (rcases cond_or3H h with h | h<;>cases h;done)
 | _ =>
  simp only [compOp] at h
  first
   | (cases h;done)
   | (simp only [Option.map_eq_some_iff] at h;obtain ⟨_,_,h⟩:=h;cases h;done)
   | ((repeat' split at h)<;>first | contradiction | (cases h;done) | (simp only [Option.map_eq_some_iff] at h;obtain ⟨_,_,h⟩:=h;cases h;done) | (cases (cond_inj h);done) | (rcases cond_ors h with h | h<;>cases h;done) | (rcases cond_or3H h with h | h<;>cases h;done))
theorem compOp_nxt {P:Program} {op:Op} {x':Opd} (h:compOp P op = some (.nxt x')):∃ x,op = .next x false∧compOpd x = some x':=by
 cases op with
 | next x s =>
  cases s with
  | true=>simp [compOp] at h
  | false=>simp only [compOp,Option.map_eq_some_iff] at h;obtain ⟨y,h1,h⟩:=h;cases h;exact ⟨_,rfl,h1⟩
 | call c =>
  obtain ⟨callee,args,ts⟩:=c
  simp only [compOp,compCall] at h
  (repeat' split at h)<;>first | (cases h;done) | (cases (cond_inj h);done) | (rcases cond_ors h with h | h<;>cases h;done) | (rcases cond_or3H h with h | h<;>cases h;done)
 | _ =>
  simp only [compOp] at h
  first
   | (cases h;done)
   | (simp only [Option.map_eq_some_iff] at h;obtain ⟨_,_,h⟩:=h;cases h;done)
   | ((repeat' split at h)<;>first | contradiction | (cases h;done) | (simp only [Option.map_eq_some_iff] at h;obtain ⟨_,_,h⟩:=h;cases h;done) | (cases (cond_inj h);done) | (rcases cond_ors h with h | h<;>cases h;done) | (rcases cond_or3H h with h | h<;>cases h;done))
theorem compOp_ety {P:Program} {op:Op} {x':Opd} (h:compOp P op = some (.ety x')):∃ x,op = .entry x∧compOpd x = some x':=by
 cases op with
 | entry x=>simp only [compOp,Option.map_eq_some_iff] at h;obtain ⟨y,h1,h⟩:=h;cases h;exact ⟨_,rfl,h1⟩
 | next x s =>
  cases s with
  | true=>simp [compOp] at h
  | false=>simp only [compOp,Option.map_eq_some_iff] at h;obtain ⟨y,h1,h⟩:=h;cases h
 | call c =>
  obtain ⟨callee,args,ts⟩:=c
  simp only [compOp,compCall] at h
  (repeat' split at h)<;>first | (cases h;done) | (cases (cond_inj h);done) | (rcases cond_ors h with h | h<;>cases h;done) | (rcases cond_or3H h with h | h<;>cases h;done)
 | _ =>
  simp only [compOp] at h
  first
   | (cases h;done)
   | (simp only [Option.map_eq_some_iff] at h;obtain ⟨_,_,h⟩:=h;cases h;done)
   | ((repeat' split at h)<;>first | contradiction | (cases h;done) | (simp only [Option.map_eq_some_iff] at h;obtain ⟨_,_,h⟩:=h;cases h;done) | (cases (cond_inj h);done) | (rcases cond_ors h with h | h<;>cases h;done) | (rcases cond_or3H h with h | h<;>cases h;done))
theorem roundIn_FW {r:Option Nat} {n:Nat} {P:Program} {l:Nat} {f:FuncId} {tmps:Array Value} {assign body:Code} {w:World} {R:Ending→World→Prop} (h:RoundIn Fence.wide 0 P l f tmps assign body w R):RoundIn (FW r) n P l f tmps assign body w R :=
 ⟨trivial,fun c cs _=>h.2 c cs (room_wide _)⟩

section
variable {P:Program} {e:Env} {ds:List Deferred} {n b:Nat} {M0:Nat→Prop} {E0:Nat→Value} {σ:St} {a:Act} {W:World} {rd:Option Nat} {nn:Nat} {Q:Exit→Act→World→Prop} {K:St→Prop}

theorem mono_M {M:Nat→Prop} {hid:Nat} (hh:hid = b) (h:∀ k,M k→k < b):∀ k,(M k∨k = hid)→k < b + 1:=fun k hk=>hk.elim (fun h'=>Nat.lt_succ_of_lt (h k h')) (fun h'=>by omega)
theorem resume (he:e.Ok P) {M:Nat→Prop} {E:Nat→Value} (hM:∀ k,M k→k < b) (hM0:∀ k,M0 k→M k) (hAg:Agree M0 E0 E) (hR:Rooted e (σ.fr POS) ⟨W,Hand E σ.H,a.defers⟩ σ.G) (hS:Sat ⟨W,Hand E σ.H,a.defers⟩ σ.G n M E σ a W)
  {k:Nat} {st:Bool} {G':Hp} {W':World} {Hd:Nat→Prop} (hg:Grow σ.G G') (hsub:Sub G' W') (hk:∀ b,HdOf ⟨W,Hand E σ.H,a.defers⟩ σ.G b→W'.heap[b]? = W.heap[b]?∧G' b = none) (hJ:(cond st e.Jx e.J) k Hd G' W')
  (hHd:∀ b,HdOf ⟨W,Hand E σ.H,a.defers⟩ σ.G b→Hd b) {dst:Option Nat} (hok:dstOk n dst = true) {v:Value} {sv0:SV} (hsv:sv0.rel E v) (hsm:sv0.ment M) (hf:fork sv0 fun sv=>appK dst (upd σ.fr POS (.c (.pos k st))) σ.H K sv [] G') :
  ∃ σ',K σ'∧Grow σ.G σ'.G∧SatE e a.defers n (b + 1) M0 E0 σ' (a.put dst v) W':=by
 obtain ⟨h1,h2,h3⟩:=Rooted.after hS.sim hR.marks hg hsub hk
 have hS1:Sat ⟨W',Hand E σ.H,a.defers⟩ G' n M E ⟨upd σ.fr POS (.c (.pos k st)), σ.H,G'⟩ a W':=by
  refine ⟨h1,fun i=>?_,hS.mH,fun i=>?_,hS.size,hS.defers⟩
  ·by_cases hi:i = POS
   ·rw [hi];simp only [upd_same];trivial
   ·simp only [upd_other _ _ hi];exact hS.mfr i
  ·by_cases hi:i = POS
   ·rw [hi];simp only [upd_same];trivial
   ·simp only [upd_other _ _ hi];exact hS.fr i
 obtain ⟨sv',k1,k2,k3⟩:=fork_elim hf hsv hsm
 have hO:OpPost ⟨W',Hand E σ.H,a.defers⟩ G' M E σ.H b (fun sv hu G2=>K (St.app ⟨upd σ.fr POS (.c (.pos k st)), σ.H,G'⟩ dst sv hu G2)∧G2 = G') v W' :=
  ⟨sv',[],G',E,⟨by have k1':=k1;rw [show appK dst (upd σ.fr POS (.c (.pos k st))) σ.H K = _ from appK_eq dst ⟨upd σ.fr POS (.c (.pos k st)), σ.H,G'⟩ K] at k1';exact k1',rfl⟩,k2,SV.ment_mono (fun _ h=>.inl h) k3,Agree.refl _ _,h1,fun h ob e=>⟨.inl (hS.mH h ob e).1,OB.ment_mono (fun _ h=>.inl h) (hS.mH h ob e).2⟩⟩
 obtain ⟨sv,hu,G2,E',⟨q1,q2⟩,q3,q4,q5⟩:=hS1.app hok hO
 subst q2
 refine ⟨_,q1,hg,SatE.of (mono_M rfl hM) (fun k hk=>.inl (hM0 k hk)) (fun k hk=>(q3 k (hM0 k hk)).trans (hAg k hk)) (r:=⟨W',Hand E σ.H,a.defers⟩) (G0:=G2) ?_ (Grow.refl _) q5⟩
 rw [q4]
 simp only [upd_same]
 refine ⟨?_,fun b hb=>(h3 b hb).1,hsub,h2⟩
 have sh:EnvStep Hd G2 W' (HdOf ⟨W',Hand E σ.H,a.defers⟩ G2) G2 W':=by
  refine EnvStep.shrink hsub fun b hb=>?_
  have hb':HdOf ⟨W,Hand E σ.H,a.defers⟩ σ.G b:=by
   rcases hb with ⟨hb,hb2⟩ | hb
   ·refine .inl ⟨hb, ?_⟩
    cases h:σ.G b with
    | none=>rfl
    | some o=>rw [hg b o h] at hb2;cases hb2
   ·exact .inr hb
  refine ⟨hHd b hb',(hk b hb').2, ?_⟩
  rcases hb with ⟨hb,_⟩ | hb
  ·exact (h3 b hb).1
  ·exact (Array.getElem?_eq_some_iff.1 (h2.at_ b hb).2.2).1
 have:=he.step (sv:=.c (.pos k st)) hJ sh
 exact this

theorem HdOf_low (hR:Rooted e (σ.fr POS) ⟨W,Hand E0 σ.H,a.defers⟩ σ.G) {c:Nat} (h:HdOf ⟨W,Hand E0 σ.H,a.defers⟩ σ.G c):c < W.heap.size∧σ.G c = none:=by
 rcases h with ⟨h1,h2⟩ | h
 ·exact ⟨hR.ln c h1,h2⟩
 ·exact ⟨(Array.getElem?_eq_some_iff.1 (hR.marks.at_ c h).2.2).1,(hR.marks.at_ c h).2.1⟩
theorem spec_sound (he:e.Ok P) {o:Oper} {g:FuncId} {sh:List Value→List Value} {s:PSpec} {vs:List Value} {dst:Option Nat} {hid:Nat} {pb:List Nat} (hs:SatE e ds n b M0 E0 σ a W) (hg:Sound P g sh s) (hnd:∀ c,o.op≠.defer c) (hrun:(execOp a.eval o).run P W = .ok (.enter g (sh vs).toArray) W)
  (hid_eq:hid = b) (hdst:o.dst = dst) (hok:dstOk n dst = true) (hd:specK ⟨e.l,e.Y,pb,e.pn⟩ dst σ.fr σ.H hid σ.G K vs s) :
  o.wpIn (FW rd) nn P a W (fun a' W'=>∃ σ',K σ'∧Grow σ.G σ'.G∧SatE e ds n (b + 1) M0 E0 σ' a' W') Q:=by
 have plain:denCallv σ.H hid σ.G σ.G (appK dst σ.fr σ.H K) vs s→o.wpIn (FW rd) nn P a W (fun a' W'=>∃ σ',K σ'∧Grow σ.G σ'.G∧SatE e ds n (b + 1) M0 E0 σ' a' W') Q:=fun hd=>by
  obtain ⟨r,G0,M,E,h0,h1,h2,h3,h4,h5,h6⟩:=hs.ex
  have hfresh:¬ M hid:=fun h=>by have:=h1 _ h;omega
  have C:Ctx r G0 σ.G σ.G M E σ.H σ.H hid σ.fr a W:=⟨h6.fr,h6.mfr,h6.sim,h6.mH,hfresh,fun _ _ e=>e,Grow.refl _⟩
  have hc:=wp_of_enter (o:=o) (a:=a) (rd:=rd) (nn:=nn) (Q:=Q) hnd hrun (callv_sound C hg (denCallv_grow hd))
  refine Oper.wpIn_mono ?_ hc
  rintro a' W' ⟨v,rfl,hp⟩
  rw [hdst]
  obtain ⟨sv,hu,G',E',⟨q1,q2⟩,q3,q4,q5⟩:=h6.app hok hp
  rw [appK_eq] at q2
  exact ⟨_,q2,q1,SatE.of (mono_M hid_eq h1) (fun k hk=>.inl (h2 k hk)) (fun k hk=>(q3 k (h2 k hk)).trans (h3 k hk)) (q4 ▸ h4) (h5.trans q1) q5 h0⟩
 cases s with
 | fn pre val=>exact plain hd
 | sca pre post=>exact plain hd
 | rel pre post=>exact plain hd
 | own t k pre post=>exact plain hd
 | st pre post=>exact plain hd
 | cut=>exact hd.elim
 | hp pre post=>exact plain hd
 | seq pre post =>
  simp only [specK,posK] at hd
  split at hd
  case h_2=>exact hd.elim
  rename_i k hp
  obtain ⟨Ys,d1,d2,d3,d4⟩:=hd
  obtain ⟨M,E,rfl,h1,h2,h3,h4,h5⟩:=hs.now he
  rw [hp] at h4
  have hJ:e.J k (HdOf ⟨W,Hand E σ.H,a.defers⟩ σ.G) σ.G W:=h4.at_
  have low:∀ c,HdOf ⟨W,Hand E σ.H,a.defers⟩ σ.G c→c < W.heap.size∧σ.G c = none:=fun c hc=>by
   rcases hc with ⟨q1,q2⟩ | q
   ·exact ⟨h4.ln c q1,q2⟩
   ·exact ⟨(Array.getElem?_eq_some_iff.1 (h4.marks.at_ c q).2.2).1,(h4.marks.at_ c q).2.1⟩
  have hJ':Keep e.J (HdOf ⟨W,Hand E σ.H,a.defers⟩ σ.G) W k (fun _=>False) σ.G W:=by
   refine ⟨he.st _ _ _ _ _ _ _ hJ (EnvStep.shrink h5.sim.sub fun c hc=>?_),fun c hc=>⟨(low c hc).1,rfl,(low c hc).2,id⟩⟩
   rcases hc with hc | hc
   ·exact hc.elim
   ·exact ⟨hc,(low c hc).2,(low c hc).1⟩
  have hcall:=hg ⟨e.l,e.Y,Keep e.J (HdOf ⟨W,Hand E σ.H,a.defers⟩ σ.G) W,Keep e.Jx (HdOf ⟨W,Hand E σ.H,a.defers⟩ σ.G) W,none⟩ (Keep.env he _ W) vs σ.G W Ys k h5.sim.sub d1 d2 hJ'
  refine Oper.wpIn_mono ?_ (wp_of_enter (o:=o) (a:=a) (rd:=rd) (nn:=nn) (Q:=Q) (R:=fun v W'=>∃ st j G',post st v∧Grow σ.G G'∧Sub G' W'∧(st = false→j = k + Ys.length)∧(cond st (Keep e.Jx (HdOf ⟨W,Hand E σ.H,a.defers⟩ σ.G) W) (Keep e.J (HdOf ⟨W,Hand E σ.H,a.defers⟩ σ.G) W)) j (fun _=>False) G' W') hnd hrun (hcall.mono fun en W' ⟨v,st,j,G',r1,r2⟩=>⟨v,r1,st,j,G',r2⟩))
  rintro a' W' ⟨v,rfl,st,j,G',r1,r2,r3,r4,r5⟩
  rw [hdst]
  have r6:(cond st e.Jx e.J) j (fun c=>False∨HdOf ⟨W,Hand E σ.H,a.defers⟩ σ.G c) G' W'∧∀ c,HdOf ⟨W,Hand E σ.H,a.defers⟩ σ.G c→W'.heap[c]? = W.heap[c]?∧G' c = none:=by
   cases st
   ·exact ⟨r5.1,fun c hc=>⟨(r5.2 c hc).2.1,(r5.2 c hc).2.2.1⟩⟩
   ·exact ⟨r5.1,fun c hc=>⟨(r5.2 c hc).2.1,(r5.2 c hc).2.2.1⟩⟩
  refine resume he h1 h2 h3 (hp.symm ▸ h4) h5 r2 r3 r6.2 r6.1 (fun c hc=>.inr hc) hok (SV.of_rel E v) (SV.of_ment M v) ?_
  cases st
  ·rw [r4 rfl];exact (d3 v G' r2 r1).out
  ·exact (d4 j v G' r2 r1).out
theorem yield_sound (he:e.Ok P) {o:Oper} {x:Operand} {args:Array Operand} {ts:Array TypeId} {vs:List Value} {dst:Option Nat} {k:Nat} {pb:List Nat} (hs:SatE e ds n b M0 E0 σ a W) (hop:o.op = .call { callee:=.value x,args:=args,argTypes:=ts }) (hx:a.eval x = .func (.yield e.l) #[] #[]) (hargs:args.map a.eval = vs.toArray)
  (hdst:o.dst = dst) (hok:dstOk n dst = true) (hp:σ.fr POS = .c (.pos k false)) (hd:YieldP ⟨e.l,e.Y,pb,e.pn⟩ k vs σ.G fun b G'=>appK dst (upd σ.fr POS (.c (.pos (k + 1) (!b)))) σ.H K (.v (.bool b)) [] G') :
  o.wpIn (FW rd) nn P a W (fun a' W'=>∃ σ',K σ'∧Grow σ.G σ'.G∧SatE e ds n (b + 1) M0 E0 σ' a' W') Q:=by
 obtain ⟨M,E,rfl,h1,h2,h3,h4,h5⟩:=hs.now he
 have h4':=h4
 rw [hp] at h4'
 have hJ:e.J k (HdOf ⟨W,Hand E σ.H,a.defers⟩ σ.G) σ.G W:=h4'.at_
 obtain ⟨fn,tmps,assign,body,hy,hround⟩:=he.y k vs _ σ.G W hd.m hJ h5.sim.sub (fun c hc=>(HdOf_low h4 hc).symm)
 have hrun:(execOp a.eval o).run P W = .ok (.round e.l fn tmps assign body) W:=by
  rw [← hy, ← hargs]
  simp [execOp,hop,resolve,hx,Deferred.ofValue,invoke]
 refine ⟨fun _ _=>trivial, ?_⟩
 rw [Oper.semAt_eq _ _ _ (by simp [hop]),hrun,Oper.uponIn_round]
 refine ⟨fun h=>by simp [FW,Fence.wide] at h,(roundIn_FW hround).mono ?_⟩
 rintro en W' ⟨st,G',rfl,r1,r2,r3,r4,r5⟩
 rw [hdst]
 refine resume he h1 h2 h3 h4 h5 r1 r2 r3 r5 (fun _ hc=>hc) hok (v:=.bool (!st)) (sv0:=.v (.bool (!st))) rfl trivial ?_
 cases st
 ·exact (hd.t G' r1).out
 ·exact (hd.f G' r1).out
end
end Go.Pal

namespace Go.Pal
open Go.RowKit

section
variable {P:Program} {ds:List Deferred} {n:Nat} {rd:Option Nat} {nn:Nat}

theorem guardF_K {io:IOper} {σ:St} {f:Bool→Prop} (h:guardF io.guard σ.fr f):guardK io σ f:=h

def IOp.isCall':IOp→Bool
 | .call ..=>true
 | .callv ..=>true
 | .rng ..=>true
 | .nxt ..=>true
 | .ety ..=>true
 | _=>false
def _root_.Go.Op.isDefer:Op→Bool
 | .defer _=>true
 | _=>false
theorem heap_post {w0:Root} {G0 G:Hp} {M:Nat→Prop} {E:Nat→Value} {H:Nat→Option OB} {W':World} {hid:Nat} {K:SV→List (Nat × Option OB)→Hp→Prop} {p p':Hp} {sv:SV} {v:Value} (hm:∀ h ob,H h = some ob→M h∧ob.ment M) (hH:H 0 = some (.heap p))
  (hs:Sim w0 G0 E (upd H 0 (some (.heap p'))) G W') (hk:K sv [(0,some (.heap p'))] G) (hr:sv.rel E v) (hmt:sv.ment (fun k=>M k∨k = hid)):OpPost w0 G0 M E H hid K v W':=by
 refine ⟨sv,_,G,E,hk,hr,hmt,Agree.refl _ _,hs,fun h ob e=>?_⟩
 simp only [updH] at e
 by_cases h0:h = 0
 ·subst h0;rw [upd_same] at e;cases e;exact ⟨.inl (hm _ _ hH).1,trivial⟩
 ·rw [upd_other _ _ h0] at e;exact ⟨.inl (hm h ob e).1,OB.ment_mono (fun _ h=>.inl h) (hm h ob e).2⟩
theorem pan_sound {e:Env} {o:Oper} {b:Nat} {M0:Nat→Prop} {E0:Nat→Value} {a:Act} {W:World} {Q:Exit→Act→World→Prop} {K':Act→World→Prop} {fr:Nat→SV} {H:Nat→Option OB} {G1:Hp} {f:FuncId} {vs:List Value} (hs:SatE e ds n b M0 E0 ⟨fr,H,G1⟩ a W)
  (hnd:∀ c,o.op≠.defer c) (hrun:(execOp a.eval o).run P W = .ok (.enter f vs.toArray) W) (hp:PanP P f e.pn fr H G1 vs) (hQ:∀ t C,e.pn = some (t,C)→∀ σ' a' W' ch,C σ'→PanV t ch→Grow G1 σ'.G→SatE e ds n b M0 E0 σ' a' W'→Q (.panic ch) a' W'):o.wpIn (FW rd) nn P a W K' Q:=by
 obtain ⟨t,C,pre,post,p,e0,hpn,hF,hb,hpre,hpost⟩:=hp
 obtain ⟨r,G0,M,E,k0,k1,k2,k3,k4,k5,k6⟩:=hs.ex
 have hok:=k6.sim.own 0 _ e0
 have hpr:∀ b,(∃ o,p b = some o)→G1 b = none:=k6.sim.priv 0 _ e0 rfl
 refine ⟨fun _ _=>trivial, ?_⟩
 rw [Oper.semAt_eq _ _ _ hnd,hrun,Oper.uponIn_enter]
 refine ⟨fun h=>by simp [FW,Fence.wide] at h,callsIn_FW ((hF vs p G1 W k6.sim.sub (fun b o e=>⟨(hok b o e).2,hpr b ⟨o,e⟩⟩) hpre).mono ?_)⟩
 rintro en w' ⟨ch,q,rfl,hv,hpo,hq,hB⟩
 have hsub:Sub G1 w':=fun b o e=>by
  have h1:=k6.sim.sub b o e
  rw [hB.block b (Array.getElem?_eq_some_iff.1 h1).1 (fun q=>by have:=hpr b q;rw [e] at this;cases this)]
  exact h1
 have hsim:=k6.sim.turn (p':=q) (G':=G1) e0 hB (fun b o e=>⟨(hq b o e).1,(by
  rcases (hq b o e).2 with h | h
  ·exact hpr b h
  ·cases hg:G1 b with
   | none=>rfl
   | some o'=>have:=(Array.getElem?_eq_some_iff.1 (k6.sim.sub b o' hg)).1;omega),(hq b o e).2⟩) (Grow.refl _) hsub (fun b o e=>.inl e) (fun h ob b e1 e2=>(OB.blk (k6.sim.own h ob e1) e2).2) (fun h ob W2 e1 e2 e3=>OB.ok_kept e2 e3) (fun b o e=>(hok b o e).1) (fun v b ob u e=>OB.has_pub e)
 refine hQ t C hpn ⟨fr,upd H 0 (some (.heap q)),G1⟩ a w' ch (hpost q hpo) hv (Grow.refl _) (SatE.of k1 k2 k3 k4 k5 ⟨hsim,k6.mfr,fun i ob e=>?_,k6.fr,k6.size,k6.defers⟩ k0)
 have e:upd H 0 (some (OB.heap q)) i = some ob:=e
 by_cases hi:i = 0
 ·subst hi;rw [upd_same] at e;cases e;exact ⟨(k6.mH _ _ e0).1,trivial⟩
 ·rw [upd_other _ _ hi] at e;exact k6.mH i ob e
theorem opF_sound (T:Tab P) {pb:List Nat} {e:Env} (he:e.Ok P) {ops:Array Oper} {o:Oper} {io:IOper} {b bd:Nat} {M0:Nat→Prop} {E0:Nat→Value} {σ:St} {a:Act} {W:World} {Q:Exit→Act→World→Prop} {K:St→Prop}
    (hs:SatE e ds n b M0 E0 σ a W) (hop:compOp P o.op = some io.op∨(∃ io',compOp P o.op = some io'∧io.op = altHp io')∨∃ io',compOp P o.op = some io'∧io.op = altCut io') (hgd:compGuard ops o = some io.guard) (hdst:o.dst = io.dst) (hok:dstOk n io.dst = true) (hh:io.hid = b) (hQ:∀ t C,e.pn = some (t,C)→∀ σ' a' W' ch,C σ'→PanV t ch→Grow σ.G σ'.G→SatE e ds n b M0 E0 σ' a' W'→Q (.panic ch) a' W') (hd:opF P T.get ⟨e.l,e.Y,pb,e.pn⟩ bd io σ K) :
    if Region.wanted o (yielded ops a.tmps) then o.wpIn (FW rd) nn P a W (fun a' W'=>∃ σ',K σ'∧Grow σ.G σ'.G∧SatE e ds n (b + 1) M0 E0 σ' a' W') Q
    else (∀ f,o.about P W a.eval = some f→(FW rd).fn f)∧∃ σ',K σ'∧Grow σ.G σ'.G∧SatE e ds n (b + 1) M0 E0 σ' (a.put o.dst undef) W:=by
  have skip:∀ dst,o.dst = dst→dstOk n dst = true→appK dst σ.fr σ.H K undefSV [] σ.G→∃ σ',K σ'∧Grow σ.G σ'.G∧SatE e ds n (b + 1) M0 E0 σ' (a.put o.dst undef) W:=fun dst hdst hok hk=>by
    obtain ⟨r,G0,M,E,h0,h1,h2,h3,h4,h5,h6⟩:=hs.ex
    rw [appK_eq] at hk
    obtain ⟨sv,hu,G',E',q1,q3,q4,q5⟩:=h6.app (dst:=dst) (v:=undef) (K:=fun sv hu G'=>sv = undefSV∧hu = []∧G' = σ.G) (hid:=b) hok ⟨undefSV,[], σ.G,E,⟨rfl,rfl,rfl⟩,rfl,trivial,Agree.refl _ _,h6.sim,fun h ob e=>⟨.inl (h6.mH h ob e).1,OB.ment_mono (fun _ h=>.inl h) (h6.mH h ob e).2⟩⟩
    obtain ⟨rfl,rfl,rfl⟩:=q1
    rw [hdst]
    exact ⟨_,hk,Grow.refl _,SatE.of (mono_M rfl h1) (fun k hk=>.inl (h2 k hk)) (fun k hk=>(q3 k (h2 k hk)).trans (h3 k hk)) (q4 ▸ h4) h5 q5 h0⟩
  have plain:TF P T.get bd σ.G io σ K→if Region.wanted o (yielded ops a.tmps) then o.wpIn (FW rd) nn P a W (fun a' W'=>∃ σ',K σ'∧Grow σ.G σ'.G∧SatE e ds n (b + 1) M0 E0 σ' a' W') Q
      else (∀ f,o.about P W a.eval = some f→(FW rd).fn f)∧∃ σ',K σ'∧Grow σ.G σ'.G∧SatE e ds n (b + 1) M0 E0 σ' (a.put o.dst undef) W:=fun hd=>by
    obtain ⟨r,G0,M,E,h0,h1,h2,h3,h4,h5,h6⟩:=hs.ex
    rw [TF_eq] at hd
    have hfresh:¬ M io.hid:=fun h=>by have:=h1 _ h;omega
    have key:=TI_sound T (rd:=rd) (nn:=nn) (Q:=Q) h6 hfresh (hop.elim .inl (fun h=>h.elim (fun h=>.inr (.inr (.inr (.inl h)))) (fun h=>.inr (.inr (.inr (.inr h)))))) hgd hdst hok (Grow.refl _) hd
    have next:∀ a' W',(∃ σ' E',K σ'∧Grow σ.G σ'.G∧Agree M E E'∧σ'.fr POS = σ.fr POS∧Sat r G0 n (fun k=>M k∨k = io.hid) E' σ' a' W')→∃ σ',K σ'∧Grow σ.G σ'.G∧SatE e ds n (b + 1) M0 E0 σ' a' W':=by
      rintro a' W' ⟨σ',E',q1,q2,q3,q4,q5⟩
      exact ⟨σ',q1,q2,SatE.of (mono_M hh h1) (fun k hk=>.inl (h2 k hk)) (fun k hk=>(q3 k (h2 k hk)).trans (h3 k hk)) (q4 ▸ h4) (h5.trans q2) q5 h0⟩
    split
    · rename_i hw
      rw [if_pos hw] at key
      exact Oper.wpIn_mono next key
    · rename_i hw
      rw [if_neg hw] at key
      exact ⟨key.1,next _ _ key.2⟩
  obtain ⟨dst,op,g,hid,al,early,deps,lc⟩:=io
  have hop':op.isCall' = true→compOp P o.op = some op:=fun hc=>by
    rcases hop with h | ⟨io',h,e⟩ | ⟨io',h,e⟩
    · exact h
    · have e:op = altHp io':=e
      cases io'<;>simp only [altHp] at e<;>subst e<;>first | exact h | cases hc
    · have e:op = altCut io':=e
      subst e
      cases io' with
      | call f l=>cases l with
        | nil=>exact h
        | cons s l=>cases hc
      | bsl=>cases hc
      | _=>exact h
  have heapFin:∀ {r:Root} {G0:Hp} {M:Nat→Prop} {E:Nat→Value} {v:Value} {W':World} {fr:Nat→SV} {H:Nat→Option OB} {G:Hp},r.ds = ds→(∀ k,M k→k < b)→(∀ k,M0 k→M k)→Agree M0 E0 E→Rooted e (fr POS) r G0→Grow G0 G→Sat r G0 n M E ⟨fr,H,G⟩ a W→o.op.isDefer = false →
      (execOp a.eval o).run P W = .ok (.value v) W'→OpPost r G0 M E H hid (fun sv hu G'=>G' = G∧appK dst fr H K sv hu G') v W' →
      o.wpIn (FW rd) nn P a W (fun a' W'=>∃ σ',K σ'∧Grow G σ'.G∧SatE e ds n (b + 1) M0 E0 σ' a' W') Q:=by
    intro r G0 M E v W' fr H G h0 h1 h2 h3 h4 h5 h6 hnd hrun hp
    refine Oper.wpIn_mono ?_ (wp_of_run (rd:=rd) (nn:=nn) (Q:=Q) (fun c hc=>by rw [hc] at hnd;cases hnd) hrun hp)
    rintro a' W' ⟨v,rfl,hp⟩
    rw [hdst]
    obtain ⟨sv,hu,G',E',⟨q1,q2⟩,q3,q4,q5⟩:=h6.app hok hp
    subst q1
    have e0:=appK_eq dst ⟨fr,H,G'⟩ K
    dsimp only at e0
    rw [e0] at q2
    exact ⟨_,q2,Grow.refl _,SatE.of (mono_M hh h1) (fun k hk=>.inl (h2 k hk)) (fun k hk=>(q3 k (h2 k hk)).trans (h3 k hk)) (q4 ▸ h4) h5 q5 h0⟩
  cases op
  case callv x' ys =>
    obtain ⟨x,args,ts,hop1,hx,hys⟩:=compOp_callv (hop' rfl)
    obtain ⟨r,G0,M,E,h0,h1,h2,h3,h4,h5,h6⟩:=hs.ex
    obtain ⟨fr,H,G⟩:=σ
    simp only [opF] at hd
    have hg:=guard_sound (io:=⟨dst, .callv x' ys,g,hid,al,early,deps,lc⟩) h6 hgd (guardF_K (io:=⟨_,_,_,_,_,_,_,_⟩) hd)
    generalize Region.wanted o (yielded ops a.tmps) = run at hg
    cases run with
    | false=>exact ⟨fun _ _=>trivial,skip dst hdst hok hg⟩
    | true =>
      rw [if_pos rfl]
      simp only at hg
      split at hg
      case h_2=>exact hg.elim
      rename_i vs hvs
      split at hg
      case h_2=>exact hg.elim
      rename_i v ex
      have rx:=opd_rel h6.fr hx
      rw [ex] at rx
      have rx:a.eval x = v:=rx
      have hargs:=opds_rel h6.fr (fun h ob v e e'=>h6.sim.name e e') hys hvs
      have core:∀ (H:Nat→Option OB) (G:Hp),SatE e ds n b M0 E0 ⟨fr,H,G⟩ a W→((∃ s,SoundFn P v s∧Pal.W (specK ⟨e.l,e.Y,pb,e.pn⟩ dst fr H hid G K vs s))∨(v = .func (.yield e.l) #[] #[]∧Pal.W (posK (fr POS) fun k=>YieldP ⟨e.l,e.Y,pb,e.pn⟩ k vs G fun b G'=>appK dst (upd fr POS (.c (.pos (k + 1) (!b)))) H K (.v (.bool b)) [] G'))) →
          o.wpIn (FW rd) nn P a W (fun a' W'=>∃ σ',K σ'∧Grow G σ'.G∧SatE e ds n (b + 1) M0 E0 σ' a' W') Q:=by
       intro H G hs hg
       rcases hg with ⟨s,⟨gf,first,cap,rfl,hb,h7⟩,⟨hk⟩⟩ | ⟨rfl,⟨hk⟩⟩
       · have hrun:=run_call_fn (P:=P) (W:=W) (o:=o) (a:=a) (x:=x) (first:=first) (cap:=cap) hb rx hop1
         have e1:(first++args.map a.eval++cap:Array Value) = (first.toList++vs++cap.toList).toArray:=by
           rw [← hargs];apply Array.ext';simp
         rw [e1] at hrun
         exact spec_sound he (σ:=⟨fr,H,G⟩) hs h7 (by simp [hop1]) hrun hh hdst hok hk
       · unfold posK at hk
         split at hk
         case h_2=>exact hk.elim
         rename_i k hp
         have e1:args.map a.eval = vs.toArray:=by rw [← hargs];apply Array.ext';simp
         exact yield_sound he (σ:=⟨fr,H,G⟩) hs hop1 rx e1 hdst hok hp hk
      have panv:∀ (H:Nat→Option OB) (G1:Hp),Grow G G1→SatE e ds n b M0 E0 ⟨fr,H,G1⟩ a W→PanVP P v e.pn fr H G1 vs→o.wpIn (FW rd) nn P a W (fun a' W'=>∃ σ',K σ'∧Grow G1 σ'.G∧SatE e ds n (b + 1) M0 E0 σ' a' W') Q:=fun H G1 hgg hs hp=>by
        obtain ⟨gf,first,cap,rfl,hp⟩:=hp
        have hrun:=run_call_fn (P:=P) (W:=W) (o:=o) (a:=a) (x:=x) (first:=first) (cap:=cap) (by obtain ⟨_,_,_,_,_,_,_,_,hb,_⟩:=hp;exact hb) rx hop1
        have e1:(first++args.map a.eval++cap:Array Value) = (first.toList++vs++cap.toList).toArray:=by
          rw [← hargs];apply Array.ext';simp
        rw [e1] at hrun
        exact pan_sound hs (by simp [hop1]) hrun hp (fun t C ht σ' a' W' ch k0 k1 k2 k3=>hQ t C ht σ' a' W' ch k0 k1 (hgg.trans k2) k3)
      rcases hg with ⟨s,hsd,hk⟩ | ⟨hv,hk⟩ | ⟨⟨hs',hp⟩⟩ | hx
      · exact core H G hs (.inl ⟨s,hsd,hk⟩)
      · exact core H G hs (.inr ⟨hv,hk⟩)
      rotate_left
      · exact panv H G (Grow.refl _) hs hx
      · obtain ⟨H1,G1,k1,g1,hg1⟩:=pubN_sound ⟨h6.sim,h6.mH⟩ hp
        have hs2:SatE e ds n b M0 E0 ⟨fr,H1,G1⟩ a W:=SatE.of h1 h2 h3 h4 (h5.trans g1) (h6.pub hg1) h0
        refine Oper.wpIn_mono (fun a' W' ⟨σ',q1,q2,q3⟩=>⟨σ',q1,g1.trans q2,q3⟩) ?_ (K:=fun a' W'=>∃ σ',K σ'∧Grow G1 σ'.G∧SatE e ds n (b + 1) M0 E0 σ' a' W')
        rcases k1 with ⟨s,hsd,hk⟩ | ⟨hv,hk⟩ | h | hx
        · exact core H1 G1 hs2 (.inl ⟨s,hsd,hk⟩)
        · exact core H1 G1 hs2 (.inr ⟨hv,hk⟩)
        · exact h.elim
        · exact panv H1 G1 g1 hs2 hx
  case call f ys =>
    obtain ⟨args,ts,hop1,hys⟩:=compOp_call (hop' rfl)
    obtain ⟨r,G0,M,E,h0,h1,h2,h3,h4,h5,h6⟩:=hs.ex
    obtain ⟨fr,H,G⟩:=σ
    simp only [opF] at hd
    have hg:=guard_sound (io:=⟨dst, .call f ys,g,hid,al,early,deps,lc⟩) h6 hgd (guardF_K (io:=⟨_,_,_,_,_,_,_,_⟩) hd)
    generalize Region.wanted o (yielded ops a.tmps) = run at hg
    cases run with
    | false=>exact ⟨fun _ _=>trivial,skip dst hdst hok hg⟩
    | true =>
      rw [if_pos rfl]
      simp only at hg
      split at hg
      case h_2=>exact hg.elim
      rename_i vs hvs
      have hargs:=opds_rel h6.fr (fun h ob v e e'=>h6.sim.name e e') hys hvs
      have core:∀ (H:Nat→Option OB) (G:Hp),SatE e ds n b M0 E0 ⟨fr,H,G⟩ a W→(∃ s,Sound P f id s∧HasBody P f∧specK ⟨e.l,e.Y,pb,e.pn⟩ dst fr H hid G K vs s)→o.wpIn (FW rd) nn P a W (fun a' W'=>∃ σ',K σ'∧Grow G σ'.G∧SatE e ds n (b + 1) M0 E0 σ' a' W') Q:=by
        rintro H G hs ⟨s,h7,hb,hg⟩
        have hrun:=run_call_fn (P:=P) (W:=W) (o:=o) (a:=a) (x:=.func f) (first:=#[]) (cap:=#[]) hb rfl hop1
        have e1:(#[]++args.map a.eval++#[]:Array Value) = (id vs).toArray:=by
          rw [← hargs];apply Array.ext';simp
        rw [e1] at hrun
        exact spec_sound he (σ:=⟨fr,H,G⟩) hs h7 (by simp [hop1]) hrun hh hdst hok hg
      cases hhb:heapB H with
      | false =>
        rw [hhb] at hg
        simp only [cond_false] at hg
        refine core H G hs ?_
        split at hg
        · rename_i s hs'
          exact ⟨s,(T.ok f s hs').1,(T.ok f s hs').2,hg⟩
        · obtain ⟨s,h7,hb,⟨hk⟩⟩:=hg.ex
          exact ⟨s,h7,hb,hk⟩
      | true =>
        rw [hhb] at hg
        simp only [cond_true] at hg
        have pan:∀ (H:Nat→Option OB) (G1:Hp),Grow G G1→SatE e ds n b M0 E0 ⟨fr,H,G1⟩ a W→PanP P f e.pn fr H G1 vs→o.wpIn (FW rd) nn P a W (fun a' W'=>∃ σ',K σ'∧Grow G1 σ'.G∧SatE e ds n (b + 1) M0 E0 σ' a' W') Q:=fun H G1 hgg hs hp=>by
          have hrun:=run_call_fn (P:=P) (W:=W) (o:=o) (a:=a) (x:=.func f) (first:=#[]) (cap:=#[]) (by obtain ⟨_,_,_,_,_,_,_,_,hb,_⟩:=hp;exact hb) rfl hop1
          have e1:(#[]++args.map a.eval++#[]:Array Value) = vs.toArray:=by
            rw [← hargs];apply Array.ext';simp
          rw [e1] at hrun
          exact pan_sound hs (by simp [hop1]) hrun hp (fun t C ht σ' a' W' ch k0 k1 k2 k3=>hQ t C ht σ' a' W' ch k0 k1 (hgg.trans k2) k3)
        rcases hg with ⟨s,h7,hb,⟨hk⟩⟩ | ⟨⟨hs',hp⟩⟩ | hx | ⟨v,hv,⟨hk⟩⟩
        · exact core H G hs ⟨s,h7,hb,hk⟩
        rotate_left
        · exact pan H G (Grow.refl _) hs hx
        · have hrun:(execOp a.eval o).run P W = .ok (.value v) W:=by
            have:=hv W h6.sim.sub (fun p e b o e2=>(h6.sim.own 0 _ e b o e2).2)
            have e1:(#[]++args.map a.eval++#[]:Array Value) = vs.toArray:=by
              rw [← hargs];apply Array.ext';simp
            rw [← e1] at this
            simpa [execOp,hop1,resolve,Act.eval,Deferred.ofValue,invoke] using this
          have hp:OpPost r G0 M E H hid (fun sv hu G'=>G' = G∧appK dst fr H K sv hu G') v W:=by
            obtain ⟨sv',k1,k2,k3⟩:=fork_elim hk (SV.of_rel E v) (SV.of_ment M v)
            exact ⟨sv',[],G,E,⟨rfl,k1⟩,k2,SV.ment_mono (fun _ h=>.inl h) k3,Agree.refl _ _,h6.sim,fun h ob e=>⟨.inl (h6.mH h ob e).1,OB.ment_mono (fun _ h=>.inl h) (h6.mH h ob e).2⟩⟩
          refine Oper.wpIn_mono ?_ (wp_of_run (rd:=rd) (nn:=nn) (Q:=Q) (by simp [hop1]) hrun hp)
          rintro a' W' ⟨v,rfl,hp⟩
          rw [hdst]
          obtain ⟨sv,hu,G',E',⟨q1,q2⟩,q3,q4,q5⟩:=h6.app hok hp
          subst q1
          have e0:=appK_eq dst ⟨fr,H,G'⟩ K
          dsimp only at e0
          rw [e0] at q2
          exact ⟨_,q2,Grow.refl _,SatE.of (mono_M hh h1) (fun k hk=>.inl (h2 k hk)) (fun k hk=>(q3 k (h2 k hk)).trans (h3 k hk)) (q4 ▸ h4) h5 q5 h0⟩
        · obtain ⟨H1,G1,k1,g1,hg1⟩:=pubN_sound ⟨h6.sim,h6.mH⟩ hp
          have hs2:SatE e ds n b M0 E0 ⟨fr,H1,G1⟩ a W:=SatE.of h1 h2 h3 h4 (h5.trans g1) (h6.pub hg1) h0
          refine Oper.wpIn_mono (fun a' W' ⟨σ',q1,q2,q3⟩=>⟨σ',q1,g1.trans q2,q3⟩) ?_ (K:=fun a' W'=>∃ σ',K σ'∧Grow G1 σ'.G∧SatE e ds n (b + 1) M0 E0 σ' a' W')
          rcases k1 with ⟨s,h7,hb,⟨hk⟩⟩ | h | hx | h
          · exact core H1 G1 hs2 ⟨s,h7,hb,hk⟩
          · exact h.elim
          · exact pan H1 G1 g1 hs2 hx
          · exact h.elim
  case rng x' =>
    obtain ⟨t,x,kt,et,hop1,hx,hmt⟩:=compOp_rng (hop' rfl)
    obtain ⟨r,G0,M,E,h0,h1,h2,h3,h4,h5,h6⟩:=hs.ex
    obtain ⟨fr,H,G⟩:=σ
    simp only [opF] at hd
    have hg:=guard_sound (io:=⟨dst, .rng x',g,hid,al,early,deps,lc⟩) h6 hgd (guardF_K (io:=⟨_,_,_,_,_,_,_,_⟩) hd)
    generalize Region.wanted o (yielded ops a.tmps) = run at hg
    cases run with
    | false=>exact ⟨fun _ _=>trivial,skip dst hdst hok hg⟩
    | true =>
      rw [if_pos rfl]
      simp only at hg
      split at hg
      case h_2=>exact hg.elim
      rename_i m p ex hH
      have rx:=opd_rel h6.fr hx
      rw [ex] at rx
      have rx:a.eval x = .map (some m):=rx
      obtain ⟨es,c,hp,hk⟩:=hg.ex
      obtain ⟨hmine,hw⟩:=h6.sim.own 0 _ hH m _ hp
      have hpn:p W.heap.size = none:=by
        cases hq:p W.heap.size with
        | none=>rfl
        | some o'=>exact absurd (Array.getElem?_eq_some_iff.1 (h6.sim.own 0 _ hH _ _ hq).2).1 (Nat.lt_irrefl _)
      have hB:Below W.heap.size W (W.alloc (.mapIter (some m) c #[] c)):=⟨rfl,rfl,rfl,by simp,fun k hk=>heap_alloc_old W _ hk⟩
      have hrun:(execOp a.eval o).run P W = .ok (.value (.pointer (some ⟨W.heap.size,0,none⟩))) (W.alloc (.mapIter (some m) c #[] c)):=by
        simp [execOp,hop1,rx,run_range_map W t kt et m es c hmt hw]
      exact heapFin h0 h1 h2 h3 h4 h5 h6 (by rw [hop1];rfl) hrun (heap_post h6.mH hH (h6.sim.heapNew hH hB (heap_alloc_new W _)) ⟨rfl,(hk _ hpn).out⟩ rfl trivial)
  case nxt x' =>
    obtain ⟨x,hop1,hx⟩:=compOp_nxt (hop' rfl)
    obtain ⟨r,G0,M,E,h0,h1,h2,h3,h4,h5,h6⟩:=hs.ex
    obtain ⟨fr,H,G⟩:=σ
    simp only [opF] at hd
    have hg:=guard_sound (io:=⟨dst, .nxt x',g,hid,al,early,deps,lc⟩) h6 hgd (guardF_K (io:=⟨_,_,_,_,_,_,_,_⟩) hd)
    generalize Region.wanted o (yielded ops a.tmps) = run at hg
    cases run with
    | false=>exact ⟨fun _ _=>trivial,skip dst hdst hok hg⟩
    | true =>
      rw [if_pos rfl]
      simp only at hg
      split at hg
      case h_2=>exact hg.elim
      rename_i q p ex hH
      have rx:=opd_rel h6.fr hx
      rw [ex] at rx
      have rx:a.eval x = .pointer (some ⟨q,0,none⟩):=rx
      obtain ⟨m,since,seen,c0,es,clock,hp1,hp2,hold,hsc,hk1,hk2⟩:=hg.ex
      obtain ⟨_,hw1⟩:=h6.sim.own 0 _ hH q _ hp1
      obtain ⟨_,hw2⟩:=h6.sim.own 0 _ hH m _ hp2
      rcases run_next_at (P:=P) W o.type q m since c0 seen es clock hw1 hw2 hold hsc with ⟨hz,hr⟩ | ⟨e1,he1,w1,hal,hr⟩
      · have hall:∀ e∈es.toList,seen.contains e.born = true:=fun e he=>by
          refine Classical.byContradiction fun hn=>?_
          have hm:e∈(leftOf es seen).toList:=by
            unfold leftOf
            simp only [Array.mem_toList_iff,Array.mem_filter,Bool.not_eq_true']
            exact ⟨by simpa using he,by simpa using hn⟩
          rw [Array.eq_empty_of_size_eq_zero hz] at hm
          simp at hm
        have hrun:(execOp a.eval o).run P W = .ok (.value (.tuple #[.bool false])) W:=by simp [execOp,hop1,rx,hr]
        obtain ⟨sv',k1,k2,k3⟩:=fork_elim (hk1 hall).out (SV.of_rel E _) (SV.of_ment M _)
        refine heapFin h0 h1 h2 h3 h4 h5 h6 (by rw [hop1];rfl) hrun (heap_post h6.mH hH ?_ ⟨rfl,k1⟩ k2 (SV.ment_mono (fun _ h=>.inl h) k3))
        have:upd H 0 (some (.heap p)) = H:=funext fun k=>by
          by_cases hk:k = 0
          · subst hk;rw [upd_same,hH]
          · rw [upd_other _ _ hk]
        rw [this];exact h6.sim
      · have hem:e1∈es.toList∧seen.contains e1.born = false:=by
          unfold leftOf at he1
          simp only [Array.mem_toList_iff,Array.mem_filter,Bool.not_eq_true'] at he1
          exact ⟨by simpa using he1.1,he1.2⟩
        have hrun:(execOp a.eval o).run P W = .ok (.value (.tuple #[.bool true,e1.key,e1.val])) (ChangeMaps.setBlock w1 q (.mapIter (some m) since (seen.push e1.born) clock)):=by simp [execOp,hop1,rx,hr]
        obtain ⟨sv',k1,k2,k3⟩:=fork_elim (hk2 e1 hem.1 hem.2).out (SV.of_rel E _) (SV.of_ment M _)
        refine heapFin h0 h1 h2 h3 h4 h5 h6 (by rw [hop1];rfl) hrun (heap_post h6.mH hH ?_ ⟨rfl,k1⟩ k2 (SV.ment_mono (fun _ h=>.inl h) k3))
        have hw1h:w1.heap = W.heap:=by rcases hal with rfl | rfl<;>rfl
        have hqlt:=(Array.getElem?_eq_some_iff.1 hw1).1
        have oth:∀ k,k≠q→(ChangeMaps.setBlock w1 q (.mapIter (some m) since (seen.push e1.born) clock)).heap[k]? = W.heap[k]?:=fun k hk=>by
          show (w1.heap.setIfInBounds q _)[k]? = _
          rw [hw1h];simp [Array.getElem?_setIfInBounds_ne (Ne.symm hk)]
        have at_:(ChangeMaps.setBlock w1 q (.mapIter (some m) since (seen.push e1.born) clock)).heap[q]? = some (.mapIter (some m) since (seen.push e1.born) clock):=by
          show (w1.heap.setIfInBounds q _)[q]? = _
          rw [hw1h];simp [hqlt]
        refine h6.sim.set (b:=q) hH rfl ⟨_,hp1⟩ (by rcases hal with rfl | rfl<;>exact ⟨rfl,rfl,rfl,by simp [ChangeMaps.setBlock]⟩) (fun k _ hk=>oth k hk) ?_ rfl (fun b' h'=>(heap_has h').elim (fun e=>by subst e;exact ⟨_,hp1⟩) id)
        intro b' o' ho'
        by_cases hb':b' = q
        · subst hb';rw [upd_same] at ho';cases ho';exact ⟨(h6.sim.own 0 _ hH b' _ hp1).1,at_⟩
        · rw [upd_other _ _ hb'] at ho'
          obtain ⟨q1,q2⟩:=h6.sim.own 0 _ hH _ _ ho'
          exact ⟨q1,(oth _ hb').trans q2⟩
  case ety x' =>
    obtain ⟨x,hop1,hx⟩:=compOp_ety (hop' rfl)
    obtain ⟨r,G0,M,E,h0,h1,h2,h3,h4,h5,h6⟩:=hs.ex
    obtain ⟨fr,H,G⟩:=σ
    simp only [opF] at hd
    have hg:=guard_sound (io:=⟨dst, .ety x',g,hid,al,early,deps,lc⟩) h6 hgd (guardF_K (io:=⟨_,_,_,_,_,_,_,_⟩) hd)
    generalize Region.wanted o (yielded ops a.tmps) = run at hg
    cases run with
    | false=>exact ⟨fun _ _=>trivial,skip dst hdst hok hg⟩
    | true =>
      rw [if_pos rfl]
      simp only at hg
      split at hg
      case h_2=>exact hg.elim
      rename_i q p ex hH
      have rx:=opd_rel h6.fr hx
      rw [ex] at rx
      have rx:a.eval x = .pointer (some ⟨q,0,none⟩):=rx
      obtain ⟨m,since,seen,es,clock,e1,hp1,hp2,he1,hnd,hk⟩:=hg.ex
      obtain ⟨_,hw1⟩:=h6.sim.own 0 _ hH q _ hp1
      obtain ⟨_,hw2⟩:=h6.sim.own 0 _ hH m _ hp2
      have hrun:(execOp a.eval o).run P W = .ok (.value (.tuple #[e1.key,e1.val])) W:=by
        simp [execOp,hop1,rx,run_entry_at (P:=P) W q m since seen es clock e1 hw1 hw2 he1 hnd]
      obtain ⟨sv',k1,k2,k3⟩:=fork_elim hk.out (SV.of_rel E _) (SV.of_ment M _)
      exact heapFin h0 h1 h2 h3 h4 h5 h6 (by rw [hop1];rfl) hrun ⟨sv',[],G,E,⟨rfl,k1⟩,k2,SV.ment_mono (fun _ h=>.inl h) k3,Agree.refl _ _,h6.sim,fun h ob e=>⟨.inl (h6.mH h ob e).1,OB.ment_mono (fun _ h=>.inl h) (h6.mH h ob e).2⟩⟩
  all_goals exact plain hd

theorem SatE.pub {e:Env} {b:Nat} {M0:Nat→Prop} {E0:Nat→Value} {σ:St} {a:Act} {W:World} {x:Bool} {l:List Nat} {K:HK} (hs:SatE e ds n b M0 E0 σ a W) (hd:pubX x σ.fr σ.H σ.G l K):∃ H' G',K H' G'∧Grow σ.G G'∧SatE e ds n b M0 E0 ⟨σ.fr,H',G'⟩ a W:=by
 obtain ⟨r,G0,M,E,h0,h1,h2,h3,h4,h5,h6⟩:=hs.ex
 cases x with
 | false =>
  obtain ⟨H1,G1,k1,k2,k3⟩:=pubS_sound ⟨h6.sim,h6.mH⟩ hd
  exact ⟨H1,G1,k1,k2,SatE.of h1 h2 h3 h4 (h5.trans k2) (h6.pub k3) h0⟩
 | true =>
  obtain ⟨hs',hd⟩:=hd
  obtain ⟨H0,G0',k0,g0,hg0⟩:=pubN_sound ⟨h6.sim,h6.mH⟩ hd
  obtain ⟨H1,G1,k1,k2,k3⟩:=pubS_sound hg0 k0
  exact ⟨H1,G1,k1,g0.trans k2,SatE.of h1 h2 h3 h4 ((h5.trans g0).trans k2) (h6.pub k3) h0⟩
theorem SatE.nam {e:Env} {b:Nat} {M0:Nat→Prop} {E0:Nat→Value} {σ:St} {a:Act} {W:World} {l:List Nat} {K:(Nat→Option OB)→Prop} (hs:SatE e ds n b M0 E0 σ a W) (hd:namS σ.fr σ.H l K):∃ H',K H'∧SatE e ds n b M0 E0 ⟨σ.fr,H', σ.G⟩ a W:=by
 obtain ⟨r,G0,M,E,h0,h1,h2,h3,h4,h5,h6⟩:=hs.ex
 obtain ⟨H1,k1,k3⟩:=namS_sound ⟨h6.sim,h6.mH⟩ hd
 exact ⟨H1,k1,SatE.of h1 h2 h3 h4 h5 (h6.pub k3) h0⟩
theorem forgX_sound {w0:Root} {W:World} {G0 G:Hp} {E:Nat→Value} {H:Nat→Option OB} {M:Nat→Prop} (hg:Good w0 G0 M E W H G) {op:IOp} {fr:Nat→SV} {K:(Nat→Option OB)→Prop} (hk:forgX op fr H K):∃ H',K H'∧Good w0 G0 M E W H' G:=by
 unfold forgX at hk
 split at hk
 ·split at hk
  ·split at hk
   ·rename_i b m cap vs rest t k e
    rcases hk with hk | hk
    ·exact ⟨H,hk.out,hg⟩
    ·have:=OB.xrow_own (hg.sim.own _ _ e)
     exact ⟨_,hk.out,good_rename hg (ob':=.row none m vs t k) e rfl rfl this trivial⟩
   ·exact ⟨H,hk,hg⟩
  ·exact ⟨H,hk,hg⟩
 ·exact ⟨H,hk,hg⟩
theorem SatE.forg {e:Env} {b:Nat} {M0:Nat→Prop} {E0:Nat→Value} {σ:St} {a:Act} {W:World} {op:IOp} {K:(Nat→Option OB)→Prop} (hs:SatE e ds n b M0 E0 σ a W) (hd:forgX op σ.fr σ.H K):∃ H',K H'∧SatE e ds n b M0 E0 ⟨σ.fr,H', σ.G⟩ a W:=by
 obtain ⟨r,G0,M,E,h0,h1,h2,h3,h4,h5,h6⟩:=hs.ex
 obtain ⟨H1,k1,k3⟩:=forgX_sound ⟨h6.sim,h6.mH⟩ hd
 exact ⟨H1,k1,SatE.of h1 h2 h3 h4 h5 (h6.pub k3) h0⟩
section
variable {E:Nat→Value} {H:Nat→Option OB} {M:Nat→Prop}
theorem tell1_rel (hpub:∀ h ob v,H h = some ob→ob.name = some v→E h = v) {x:S1} {v:Value} (hr:x.rel E v):(tell1 H x).rel E v:=by
 unfold tell1
 split
 ·split
  ·rename_i w hw
   exact S1.toValH_rel hpub hr hw
  ·exact hr
 ·exact hr
theorem tell1_ment {x:S1} (hm:x.ment M):(tell1 H x).ment M:=by
 unfold tell1
 split
 ·split
  ·trivial
  ·exact hm
 ·exact hm
theorem tellL_rel (hpub:∀ h ob v,H h = some ob→ob.name = some v→E h = v):∀ {cs:List S1} {vs:List Value},relL E cs vs→relL E (cs.map (tell1 H)) vs
 | [],[],_=>trivial
 | _ :: _,_ :: _,h=>⟨tell1_rel hpub h.1,tellL_rel hpub h.2⟩
 | [],_ :: _,h=>h.elim
 | _ :: _,[],h=>h.elim
theorem tellSV_rel (hpub:∀ h ob v,H h = some ob→ob.name = some v→E h = v) {sv:SV} {v:Value} (hr:sv.rel E v):(tellSV H sv).rel E v:=by
 unfold tellSV
 split
 ·exact tell1_rel hpub hr
 ·obtain ⟨vs,e,h⟩:=hr;exact ⟨vs,e,tellL_rel hpub h⟩
 ·exact hr
theorem tellSV_ment {sv:SV} (hm:sv.ment M):(tellSV H sv).ment M:=by
 unfold tellSV
 split
 ·exact tell1_ment hm
 ·intro c hc
  obtain ⟨d,hd,rfl⟩:=List.mem_map.1 hc
  exact tell1_ment (hm d hd)
 ·exact hm
end
theorem Rooted.res {e:Env} {sv:SV} {r:Root} {G0:Hp} {H:Nat→Option OB} (h:Rooted e sv r G0):Rooted e (tellSV H sv) r G0:=by
 refine ⟨?_,h.ln,h.sub,h.marks⟩
 have h1:=h.at_
 cases sv with
 | agg cs=>exact h1
 | c x =>
  cases x with
  | row k n =>
   show e.at_ (.c (tell1 H (.row k n))) _ _ _
   unfold tell1
   split
   ·split
    ·exact h1
    ·exact h1
   ·rename_i hx
    exact absurd rfl (hx _ _)
  | _=>exact h1
theorem SatE.res {e:Env} {b:Nat} {M0:Nat→Prop} {E0:Nat→Value} {H:Nat→Option OB} {G:Hp} {a:Act} {W:World} {l:List Nat} {fr:Nat→SV} (hs:SatE e ds n b M0 E0 ⟨fr,H,G⟩ a W):SatE e ds n b M0 E0 ⟨tellFr H l fr,H,G⟩ a W:=by
 obtain ⟨r,G0,M,E,h0,h1,h2,h3,h4,h5,h6⟩:=hs.ex
 have at_:∀ i,tellFr H l fr i = fr i∨tellFr H l fr i = tellSV H (fr i):=fun i=>by
  cases l with
  | nil=>exact .inl rfl
  | cons t r =>
   simp only [tellFr]
   cases memN i (t :: r) with
   | false=>exact .inl rfl
   | true=>exact .inr rfl
 refine SatE.of h1 h2 h3 ?_ h5 ⟨h6.sim,fun i=>?_,h6.mH,fun i=>?_,h6.size,h6.defers⟩ h0
 ·show Rooted e (tellFr H l fr POS) r G0
  rcases at_ POS with h | h
  ·rw [h];exact h4
  ·rw [h];exact Rooted.res h4
 ·show (tellFr H l fr i).ment M
  rcases at_ i with h | h
  ·rw [h];exact h6.mfr i
  ·rw [h];exact tellSV_ment (h6.mfr i)
 ·show (tellFr H l fr i).rel E _
  rcases at_ i with h | h
  ·rw [h];exact h6.fr i
  ·rw [h];exact tellSV_rel (fun h ob v e e'=>h6.sim.name e e') (h6.fr i)
theorem SatE.up {e:Env} {b b':Nat} {M0:Nat→Prop} {E0:Nat→Value} {σ:St} {a:Act} {W:World} (hs:SatE e ds n b M0 E0 σ a W) (hb:b≤b'):SatE e ds n b' M0 E0 σ a W:=by
 obtain ⟨r,G0,M,E,h0,h1,h2⟩:=hs.ex
 exact ⟨r,G0,M,E,h0,fun k hk=>Nat.lt_of_lt_of_le (h1 k hk) hb,h2⟩

theorem ptrV_at {e:Env} {h b:Nat} {sv:SV} {Hd:Nat→Prop} {G:Hp} {W:World} (k:e.at_ sv Hd G W):e.at_ (ptrV h b sv) Hd G W:=by
 cases sv with
 | agg cs=>exact k
 | c x =>
  cases x with
  | ptr h' off =>
   simp only [ptrV]
   cases Nat.beq h' h<;>exact k
  | _=>exact k
theorem ptrV_rel {E:Nat→Value} {h b:Nat} {sv:SV} {v:Value} (hE:E h = .pointer (some ⟨b,0,none⟩)) (k:sv.rel E v):(ptrV h b sv).rel E v:=by
 cases sv with
 | agg cs=>exact k
 | c x =>
  cases x with
  | ptr h' off =>
   simp only [ptrV]
   cases hh:Nat.beq h' h with
   | false=>exact k
   | true =>
    have:=Nat.eq_of_beq_eq_true hh
    subst this
    obtain ⟨b',e1,e2⟩:=k
    rw [hE] at e1;cases e1
    exact e2
  | _=>exact k
theorem ptrV_ment {M:Nat→Prop} {h b:Nat} {sv:SV} (k:sv.ment M):(ptrV h b sv).ment M:=by
 cases sv with
 | agg cs=>exact k
 | c x =>
  cases x with
  | ptr h' off =>
   simp only [ptrV]
   cases Nat.beq h' h with
   | false=>exact k
   | true=>trivial
  | _=>exact k
theorem good_absorb {w0:Root} {W:World} {G0 G:Hp} {E:Nat→Value} {H:Nat→Option OB} {M:Nat→Prop} (hg:Good w0 G0 M E W H G) {h:Nat} {p:Hp} {cs:List S1} {ty:TypeId} {vs:List Value} (h0:H 0 = some (.heap p)) (hh:H h = some (.cells .anon cs ty)) (hv:toValsH H cs = some vs) :
  ∃ b,p b = none∧E h = .pointer (some ⟨b,0,none⟩)∧Good w0 G0 M E W (upd (upd H h none) 0 (some (.heap (upd p b (some (.cells vs.toArray ty (0,0))))))) G:=by
 have hs:=hg.sim
 obtain ⟨b,us,e1,e2,e3,e4,e5,_⟩:=hs.own h _ hh
 have:=toValsH_rel (fun h ob v e e'=>hs.name e e') e4 hv
 subst this
 have hne:h≠0:=fun e=>by rw [e,h0] at hh;cases hh
 have hb:(OB.cells .anon cs ty).has (E h) b:=show blkOf (E h) = _ by rw [e1];rfl
 have hpb:p b = none:=by
  cases hp:p b with
  | none=>rfl
  | some o=>exact absurd (hs.inj 0 _ h _ b h0 hh rfl ⟨o,hp⟩ hb).symm hne
 have back:∀ {k ob},upd (upd H h none) 0 (some (OB.heap (upd p b (some (.cells us.toArray ty (0,0)))))) k = some ob→(k = 0∧ob = .heap (upd p b (some (.cells us.toArray ty (0,0)))))∨(k≠0∧k≠h∧H k = some ob):=fun {k ob} e=>by
  by_cases hk:k = 0
  ·subst hk;rw [upd_same] at e;cases e;exact .inl ⟨rfl,rfl⟩
  ·rw [upd_other _ _ hk] at e
   by_cases hkh:k = h
   ·subst hkh;rw [upd_same] at e;cases e
   ·rw [upd_other _ _ hkh] at e;exact .inr ⟨hk,hkh,e⟩
 refine ⟨b,hpb,e1,⟨hs.below,hs.sub,hs.newG, ?_, ?_, ?_, ?_⟩, ?_⟩
 ·intro k ob e
  rcases back e with ⟨rfl,rfl⟩ | ⟨_,_,e⟩
  ·intro b' o' ho'
   by_cases hb':b' = b
   ·subst hb';rw [upd_same] at ho';cases ho';exact ⟨e2,e3⟩
   ·rw [upd_other _ _ hb'] at ho';exact hs.own 0 _ h0 b' o' ho'
  ·exact hs.own k ob e
 ·intro k ob v e e2
  rcases back e with ⟨rfl,rfl⟩ | ⟨_,_,e⟩
  ·cases e2
  ·exact hs.pub k ob v e e2
 ·intro k ob e e2 b' hb'
  rcases back e with ⟨rfl,rfl⟩ | ⟨_,_,e⟩
  ·rcases heap_has hb' with rfl | hb'
   ·exact hs.priv h _ hh rfl b' hb
   ·exact hs.priv 0 _ h0 rfl b' hb'
  ·exact hs.priv k ob e e2 b' hb'
 ·intro k ob k' ob' b' e e' ep hb1 hb2
  rcases back e with ⟨rfl,rfl⟩ | ⟨n1,n2,f⟩<;>rcases back e' with ⟨rfl,rfl⟩ | ⟨n3,n4,f'⟩
  ·rfl
  ·rcases heap_has hb1 with rfl | hb1
   ·exact absurd (hs.inj h _ k' ob' _ hh f' rfl hb hb2).symm n4
   ·exact hs.inj 0 _ k' ob' _ h0 f' rfl hb1 hb2
  ·rcases heap_has hb2 with rfl | hb2
   ·exact absurd (hs.inj k ob h _ _ f hh ep hb1 hb) n2
   ·exact hs.inj k ob 0 _ _ f h0 ep hb1 hb2
  ·exact hs.inj k ob k' ob' _ f f' ep hb1 hb2
 ·intro k ob e
  rcases back e with ⟨rfl,rfl⟩ | ⟨_,_,e⟩
  ·exact ⟨(hg.mH 0 _ h0).1,trivial⟩
  ·exact hg.mH k ob e
theorem mrefV_at {e:Env} {h b:Nat} {sv:SV} {Hd:Nat→Prop} {G:Hp} {W:World} (k:e.at_ sv Hd G W):e.at_ (mrefV h b sv) Hd G W:=by
 cases sv with
 | agg cs=>exact k
 | c x =>
  cases x with
  | mref h' =>
   simp only [mrefV]
   cases Nat.beq h' h<;>exact k
  | _=>exact k
theorem mrefV_rel {E:Nat→Value} {h b:Nat} {sv:SV} {v:Value} (hE:E h = .map (some b)) (k:sv.rel E v):(mrefV h b sv).rel E v:=by
 cases sv with
 | agg cs=>exact k
 | c x =>
  cases x with
  | mref h' =>
   simp only [mrefV]
   cases hh:Nat.beq h' h with
   | false=>exact k
   | true =>
    have:=Nat.eq_of_beq_eq_true hh
    subst this
    obtain ⟨e1,b',e2⟩:=k
    rw [hE] at e2;cases e2
    exact e1.trans hE
  | _=>exact k
theorem mrefV_ment {M:Nat→Prop} {h b:Nat} {sv:SV} (k:sv.ment M):(mrefV h b sv).ment M:=by
 cases sv with
 | agg cs=>exact k
 | c x =>
  cases x with
  | mref h' =>
   simp only [mrefV]
   cases Nat.beq h' h with
   | false=>exact k
   | true=>trivial
  | _=>exact k
theorem good_absorbM {w0:Root} {W:World} {G0 G:Hp} {E:Nat→Value} {H:Nat→Option OB} {M:Nat→Prop} (hg:Good w0 G0 M E W H G) {h:Nat} {p:Hp} {es:Array MapEntry} {c:Nat} (h0:H 0 = some (.heap p)) (hh:H h = some (.map .anon es c)) :
  ∃ b,p b = none∧E h = .map (some b)∧Good w0 G0 M E W (upd (upd H h none) 0 (some (.heap (upd p b (some (.map es c)))))) G:=by
 have hs:=hg.sim
 obtain ⟨b,e1,e2,e3,_⟩:=hs.own h _ hh
 have hne:h≠0:=fun e=>by rw [e,h0] at hh;cases hh
 have hb:(OB.map .anon es c).has (E h) b:=show blkOf (E h) = _ by rw [e1];rfl
 have hpb:p b = none:=by
  cases hp:p b with
  | none=>rfl
  | some o=>exact absurd (hs.inj 0 _ h _ b h0 hh rfl ⟨o,hp⟩ hb).symm hne
 have back:∀ {k ob},upd (upd H h none) 0 (some (OB.heap (upd p b (some (.map es c))))) k = some ob→(k = 0∧ob = .heap (upd p b (some (.map es c))))∨(k≠0∧k≠h∧H k = some ob):=fun {k ob} e=>by
  by_cases hk:k = 0
  ·subst hk;rw [upd_same] at e;cases e;exact .inl ⟨rfl,rfl⟩
  ·rw [upd_other _ _ hk] at e
   by_cases hkh:k = h
   ·subst hkh;rw [upd_same] at e;cases e
   ·rw [upd_other _ _ hkh] at e;exact .inr ⟨hk,hkh,e⟩
 refine ⟨b,hpb,e1,⟨hs.below,hs.sub,hs.newG, ?_, ?_, ?_, ?_⟩, ?_⟩
 ·intro k ob e
  rcases back e with ⟨rfl,rfl⟩ | ⟨_,_,e⟩
  ·intro b' o' ho'
   by_cases hb':b' = b
   ·subst hb';rw [upd_same] at ho';cases ho';exact ⟨e2,e3⟩
   ·rw [upd_other _ _ hb'] at ho';exact hs.own 0 _ h0 b' o' ho'
  ·exact hs.own k ob e
 ·intro k ob v e e2
  rcases back e with ⟨rfl,rfl⟩ | ⟨_,_,e⟩
  ·cases e2
  ·exact hs.pub k ob v e e2
 ·intro k ob e e2 b' hb'
  rcases back e with ⟨rfl,rfl⟩ | ⟨_,_,e⟩
  ·rcases heap_has hb' with rfl | hb'
   ·exact hs.priv h _ hh rfl b' hb
   ·exact hs.priv 0 _ h0 rfl b' hb'
  ·exact hs.priv k ob e e2 b' hb'
 ·intro k ob k' ob' b' e e' ep hb1 hb2
  rcases back e with ⟨rfl,rfl⟩ | ⟨n1,n2,f⟩<;>rcases back e' with ⟨rfl,rfl⟩ | ⟨n3,n4,f'⟩
  ·rfl
  ·rcases heap_has hb1 with rfl | hb1
   ·exact absurd (hs.inj h _ k' ob' _ hh f' rfl hb hb2).symm n4
   ·exact hs.inj 0 _ k' ob' _ h0 f' rfl hb1 hb2
  ·rcases heap_has hb2 with rfl | hb2
   ·exact absurd (hs.inj k ob h _ _ f hh ep hb1 hb) n2
   ·exact hs.inj k ob 0 _ _ f h0 ep hb1 hb2
  ·exact hs.inj k ob k' ob' _ f f' ep hb1 hb2
 ·intro k ob e
  rcases back e with ⟨rfl,rfl⟩ | ⟨_,_,e⟩
  ·exact ⟨(hg.mH 0 _ h0).1,trivial⟩
  ·exact hg.mH k ob e
theorem SatE.absM {e:Env} {b:Nat} {M0:Nat→Prop} {E0:Nat→Value} {fr:Nat→SV} {H:Nat→Option OB} {G:Hp} {a:Act} {W:World} {t:Nat} {K:(Nat→SV)→(Nat→Option OB)→Prop} (hs:SatE e ds n b M0 E0 ⟨fr,H,G⟩ a W) (hd:Pal.absM fr H t K):∃ fr' H',K fr' H'∧SatE e ds n b M0 E0 ⟨fr',H',G⟩ a W:=by
 unfold Pal.absM at hd
 split at hd
 case h_2=>exact ⟨_,_,hd,hs⟩
 rename_i h e0
 split at hd
 case h_2=>exact ⟨_,_,hd,hs⟩
 rename_i es c hh
 split at hd
 case h_2=>exact ⟨_,_,hd,hs⟩
 rename_i p h0
 cases hd with
 | keep hd=>exact ⟨_,_,hd.out,hs⟩
 | move hd =>
 obtain ⟨r,G0,M,E,k0,k1,k2,k3,k4,k5,k6⟩:=hs.ex
 obtain ⟨bb,q1,q2,q3⟩:=good_absorbM (G0:=G0) (M:=M) ⟨k6.sim,k6.mH⟩ h0 hh
 exact ⟨_,_,(hd.k bb q1).out,SatE.of k1 k2 k3 ⟨mrefV_at k4.at_,k4.ln,k4.sub,k4.marks⟩ k5 ⟨q3.sim,fun i=>mrefV_ment (k6.mfr i),q3.mH,fun i=>mrefV_rel q2 (k6.fr i),k6.size,k6.defers⟩ k0⟩
theorem SatE.absR {e:Env} {b:Nat} {M0:Nat→Prop} {E0:Nat→Value} {fr:Nat→SV} {H:Nat→Option OB} {G:Hp} {a:Act} {W:World} {t:Nat} {K:(Nat→SV)→(Nat→Option OB)→Prop} (hs:SatE e ds n b M0 E0 ⟨fr,H,G⟩ a W) (hd:Pal.absR fr H t K):∃ fr' H',K fr' H'∧SatE e ds n b M0 E0 ⟨fr',H',G⟩ a W:=by
 unfold Pal.absR at hd
 split at hd
 case h_2=>exact ⟨_,_,hd,hs⟩
 rename_i h off e0
 split at hd
 case h_2=>exact ⟨_,_,hd,hs⟩
 rename_i cs ty hh
 split at hd
 case h_2=>exact ⟨_,_,hd,hs⟩
 rename_i p h0
 split at hd
 case h_2=>exact ⟨_,_,hd,hs⟩
 rename_i vs hv
 obtain ⟨r,G0,M,E,k0,k1,k2,k3,k4,k5,k6⟩:=hs.ex
 obtain ⟨bb,q1,q2,q3⟩:=good_absorb (G0:=G0) (M:=M) ⟨k6.sim,k6.mH⟩ h0 hh hv
 exact ⟨_,_,(hd.k bb q1).out,SatE.of k1 k2 k3 ⟨ptrV_at k4.at_,k4.ln,k4.sub,k4.marks⟩ k5 ⟨q3.sim,fun i=>ptrV_ment (k6.mfr i),q3.mH,fun i=>ptrV_rel q2 (k6.fr i),k6.size,k6.defers⟩ k0⟩
theorem SatE.absS {e:Env} {b:Nat} {M0:Nat→Prop} {E0:Nat→Value} {G:Hp} {a:Act} {W:World}:∀ {l:List Nat} {fr:Nat→SV} {H:Nat→Option OB} {K:(Nat→SV)→(Nat→Option OB)→Prop},SatE e ds n b M0 E0 ⟨fr,H,G⟩ a W→Pal.absS fr H l K→∃ fr' H',K fr' H'∧SatE e ds n b M0 E0 ⟨fr',H',G⟩ a W
 | [],fr,H,K,hs,hd=>⟨fr,H,hd,hs⟩
 | t :: r,fr,H,K,hs,hd=>by
  obtain ⟨fr',H',k1,k2⟩:=hs.absR hd
  exact SatE.absS k2 k1
theorem SatE.absN {e:Env} {b:Nat} {M0:Nat→Prop} {E0:Nat→Value} {fr:Nat→SV} {H:Nat→Option OB} {G:Hp} {a:Act} {W:World} {l:List Nat} {K:(Nat→SV)→(Nat→Option OB)→Prop} (hs:SatE e ds n b M0 E0 ⟨fr,H,G⟩ a W) (hd:Pal.absN fr H l K):∃ fr' H',K fr' H'∧SatE e ds n b M0 E0 ⟨fr',H',G⟩ a W:=by
 unfold Pal.absN at hd
 split at hd
 ·exact ⟨_,_,hd,hs⟩
 ·cases hb:heapB H with
  | false=>rw [hb] at hd;exact ⟨_,_,hd,hs⟩
  | true=>rw [hb] at hd;exact hs.absS hd
theorem SatE.abs {e:Env} {b:Nat} {M0:Nat→Prop} {E0:Nat→Value} {fr:Nat→SV} {H:Nat→Option OB} {G:Hp} {a:Act} {W:World} {op:IOp} {K:(Nat→SV)→(Nat→Option OB)→Prop} (hs:SatE e ds n b M0 E0 ⟨fr,H,G⟩ a W) (hd:absX op fr H K):∃ fr' H',K fr' H'∧SatE e ds n b M0 E0 ⟨fr',H',G⟩ a W:=by
 unfold absX at hd
 split at hd
 ·cases hb:heapB H with
  | false=>rw [hb] at hd;exact ⟨_,_,hd,hs⟩
  | true=>rw [hb] at hd;exact hs.absS hd
 ·cases hb:heapB H with
  | false=>rw [hb] at hd;exact ⟨_,_,hd,hs⟩
  | true=>rw [hb] at hd;exact hs.absM hd
 ·exact ⟨_,_,hd,hs⟩
theorem compAlt_spec {ops:Array Oper} {o:Oper} {b nt:Nat} {x:IOper} (h:compOp P o.op = some x.op∧compGuard ops o = some x.guard∧o.dst = x.dst∧dstOk nt x.dst = true∧x.hid = b) :
  (compOp P o.op = some (altI P ops o b x).op∨(∃ io',compOp P o.op = some io'∧(altI P ops o b x).op = altHp io')∨∃ io',compOp P o.op = some io'∧(altI P ops o b x).op = altCut io')∧compGuard ops o = some (altI P ops o b x).guard∧o.dst = (altI P ops o b x).dst∧dstOk nt (altI P ops o b x).dst = true∧(altI P ops o b x).hid = b:=by
 obtain ⟨h1,h2,h3,h4,h5⟩:=h
 unfold altI
 cases ((inHp b && fldApp ops o) || (inNs b && newOpS x.op)) with
 | true=>exact ⟨.inr (.inl ⟨x.op,h1,rfl⟩),h2,h3,h4,h5⟩
 | false =>
  cases (cutFn P x.op || litX b x.op) with
  | true=>exact ⟨.inr (.inr ⟨x.op,h1,rfl⟩),h2,h3,h4,h5⟩
  | false=>exact ⟨.inl h1,h2,h3,h4,h5⟩
theorem ops_sound (T:Tab P) {pb:List Nat} {e:Env} (he:e.Ok P) {ops:Array Oper} {Q:Exit→Act→World→Prop} {base:Nat} {M0:Nat→Prop} {E0:Nat→Value}:∀ {l:List Oper} {xs:List IOper} {b:Nat} {σ:St} {a:Act} {W:World} {K:St→Prop},
  compList P n ops l b = some xs→SatE e ds n b M0 E0 σ a W→vcSeq P T.get ⟨e.l,e.Y,pb,e.pn⟩ base xs σ K →
   (∀ t C,e.pn = some (t,C)→∀ b' σ' a' W' ch,C σ'→PanV t ch→Grow σ.G σ'.G→SatE e ds n b' M0 E0 σ' a' W'→b≤b'→b'≤b + l.length→Q (.panic ch) a' W') →
   (∀ σ' a' W',K σ'→Grow σ.G σ'.G→SatE e ds n (b + l.length) M0 E0 σ' a' W'→Q .normal a' W')→wpListIn (FW rd) nn P ops Q l a W
 | [],xs,b, σ,a,W,K,h,hs,hd,_,hq=>by
  cases h
  exact hq σ a W hd (Grow.refl _) hs
 | o :: r,xs,b, σ,a,W,K,h,hs,hd,hQ,hq=>by
  simp only [compList] at h
  split at h
  case h_2=>cases h
  rename_i x xs' hx hxs
  cases h
  obtain ⟨h1,h2,h3,h4,h5⟩:=compAlt_spec (ops:=ops) (compOper_spec hx)
  generalize altI P ops o b x = x at *
  simp only [vcSeq] at hd
  obtain ⟨H0,G1,hd,hg1,hs1⟩:=hs.pub hd
  obtain ⟨fr0,H00,hd,hs10⟩:=hs1.abs hd
  obtain ⟨H0',hd,hs1'⟩:=hs10.nam hd
  obtain ⟨H1,hd,hs2⟩:=hs1'.forg hd
  replace hd:=tellX_iff hd
  have key:=opF_sound T he (rd:=rd) (nn:=nn) (Q:=Q) (hs2.res (l:=resLooks x.op)) h1 h2 h3 h4 h5 (fun t C ht σ' a' W' ch k0 k1 k2 k3=>hQ t C ht b σ' a' W' ch k0 k1 (hg1.trans k2) k3 (Nat.le_refl _) (Nat.le_add_right _ _)) hd
  have next:∀ a' W',(∃ σ',vcSeq P T.get ⟨e.l,e.Y,pb,e.pn⟩ base xs' σ' K∧Grow G1 σ'.G∧SatE e ds n (b + 1) M0 E0 σ' a' W')→wpListIn (FW rd) nn P ops Q r a' W':=by
   rintro a' W' ⟨σ',hk,hg,hs'⟩
   refine ops_sound T he hxs hs' hk (fun t C ht b' σ2 a2 W2 ch k0 k1 k2 k3 k4 k5=>hQ t C ht b' σ2 a2 W2 ch k0 k1 ((hg1.trans hg).trans k2) k3 (by omega) (by rw [List.length_cons];omega)) (fun σ2 a2 W2 k1 k2 k3=>hq σ2 a2 W2 k1 ((hg1.trans hg).trans k2) (by rw [List.length_cons,Nat.add_comm r.length 1, ← Nat.add_assoc];exact k3))
  simp only [wpListIn]
  split
  ·rename_i hw
   rw [if_pos hw] at key
   exact Oper.wpIn_mono next key
  ·rename_i hw
   rw [if_neg hw] at key
   exact ⟨key.1,next _ _ key.2⟩
theorem SatE.head {e:Env} {pb:List Nat} {bd bd':Nat} {M0:Nat→Prop} {E0:Nat→Value} {σ:St} {a:Act} {W:World} {fl:List (Nat × SV)} {hl:List (Nat × OB)} (hs:SatE e ds n bd' M0 E0 σ a W) (hM0:∀ k,M0 k→k < bd) (hpb:∀ k,M0 k→k∈pb) (hh:HeadP pb σ fl hl) (b1:frBd bd fl = true) (b2:HBd bd hl = true) :
  SatE e ds n bd M0 E0 ⟨frOf fl,HOf hl, σ.G⟩ a W:=by
 obtain ⟨r,G0,M,E,k0,k1,k2,k3,k4,k5,k6⟩:=hs.ex
 obtain ⟨⟨π,h1,h2,h3,h4⟩,hp⟩:=hh
 refine SatE.of (M:=fun k=>k < bd) (E:=En E π) (r:=r) (G0:=G0) (fun _ h=>h) hM0 (fun k hk=>?_) (by show Rooted e (frOf fl POS) r G0;rw [← hp];exact k4) k5 ⟨(k6.sim.ren h2 h3).1,frBd_ment b1,HBd_ment b2, ?_,k6.size,k6.defers⟩ k0
 ·have:En E π k = E k:=by unfold En;rw [avoid_spec h4 (hpb k hk)]
  rw [this];exact k3 k hk
 ·intro i
  rcases frV_look (i:=i) h1 with h | h
  ·simp only [h];trivial
  ·exact SV.ren_rel h (k6.fr i)
theorem SatE.low {e:Env} {bd:Nat} {M0:Nat→Prop} {E0:Nat→Value} {σ:St} {a:Act} {W:World} (hs:SatE e ds n bd M0 E0 σ a W):∀ k,M0 k→k < bd:=by
 obtain ⟨r,G0,M,E,k0,k1,k2,_⟩:=hs.ex
 exact fun k hk=>k1 k (k2 k hk)
end
end Go.Pal

namespace Go.Pal
open Go.RowKit

structure Core (e:Env) (p0:SV) (ds:List Deferred) (l:Nat) (o:Obj) (E1:Nat→Value) (H:Nat→Option OB) (Hd:Nat→Prop) (G1:Hp) (W1:World):Prop where
 sim:Sim ⟨W1,Hand E1 H,ds⟩ G1 E1 H G1 W1
 at_:e.at_ p0 (fun b=>HdOf ⟨W1,Hand E1 H,ds⟩ G1 b∨Hd b∨b = l) G1 W1
 marks:MarksAt (e.pn≠none) ds (Hand E1 H) G1 W1
 rec_:W1.heap[l]? = some o∧G1 l = none∧¬ Hand E1 H l∧¬ MarkB ds l
 hd:∀ b,Hd b→¬ Hand E1 H b∧b≠l∧¬ MarkB ds b∧G1 b = none∧b < W1.heap.size

theorem Sim.self {r:Root} {G0 G:Hp} {E:Nat→Value} {H:Nat→Option OB} {W:World} (hs:Sim r G0 E H G W) (ds:List Deferred):Sim ⟨W,Hand E H,ds⟩ G E H G W :=
 ⟨Beneath.refl _,hs.sub,fun b o h=>.inl h,fun h ob e1=>OB.ok_root (hs.own h ob e1) (fun b hb=>.inr ⟨h,ob,e1,hb⟩),hs.pub,hs.priv,hs.inj⟩

section
variable {P:Program} {e:Env} {p0:SV} {ds:List Deferred} {l:Nat} {o:Obj} {E1:Nat→Value} {H:Nat→Option OB} {Hd Hd':Nat→Prop} {G1 G2:Hp} {W1 W2:World}

theorem Core.hand (c:Core e p0 ds l o E1 H Hd G1 W1) {b:Nat} (h:Hand E1 H b):b < W1.heap.size:=by
 obtain ⟨i,ob,e1,e2⟩:=h
 exact (OB.blk (c.sim.own i ob e1) e2).2
theorem Core.mark (c:Core e p0 ds l o E1 H Hd G1 W1) {b:Nat} (h:MarkB ds b):b < W1.heap.size:=(Array.getElem?_eq_some_iff.1 (c.marks.at_ b h).2.2).1
theorem Core.low (c:Core e p0 ds l o E1 H Hd G1 W1):l < W1.heap.size:=(Array.getElem?_eq_some_iff.1 c.rec_.1).1

theorem grow_none {b:Nat} (hg:Grow G1 G2) (h:G2 b = none):G1 b = none:=by
 cases h':G1 b with
 | none=>rfl
 | some o=>rw [hg b o h'] at h;cases h

theorem Core.step (he:e.Ok P) (c:Core e p0 ds l o E1 H Hd G1 W1) (s:EnvStep Hd G1 W1 Hd' G2 W2):Core e p0 ds l o E1 H Hd' G2 W2:=by
 have keep:∀ b,b < W1.heap.size→¬ Hd b→G1 b = none→W2.heap[b]? = W1.heap[b]?∧G2 b = none:=fun b h1 h2 h3=>by
  refine ⟨s.beneath.block b h1 h2, ?_⟩
  cases h:G2 b with
  | none=>rfl
  | some o =>
   rcases s.newG b o h with h4 | h4 | h4
   ·rw [h3] at h4;cases h4
   ·exact (h2 h4).elim
   ·omega
 have hH:∀ b,HdOf ⟨W1,Hand E1 H,ds⟩ G1 b→W2.heap[b]? = W1.heap[b]?∧G2 b = none:=fun b hb=>by
  rcases hb with ⟨h1,h2⟩ | h1
  ·exact keep b (c.hand h1) (fun h=>(c.hd b h).1 h1) h2
  ·exact keep b (c.mark h1) (fun h=>(c.hd b h).2.2.1 h1) (c.marks.at_ b h1).2.1
 obtain ⟨a1,a2,a3⟩:=Rooted.after c.sim c.marks s.grow s.sub hH
 obtain ⟨l1,l2⟩:=keep l c.low (fun h=>(c.hd l h).2.1 rfl) c.rec_.2.1
 have l3:W2.heap[l]? = some o:=l1.trans c.rec_.1
 refine ⟨a1,he.step c.at_ ⟨⟨s.beneath.os,s.beneath.tape,s.beneath.output,s.beneath.size,fun k hk hn=>s.beneath.block k hk (fun h=>hn (.inr (.inl h)))⟩,s.grow,s.sub, ?_, ?_⟩,a2,⟨l3,l2,c.rec_.2.2⟩, ?_⟩
 ·intro b o h
  rcases s.newG b o h with h | h | h
  ·exact .inl h
  ·exact .inr (.inl (.inr (.inl h)))
  ·exact .inr (.inr h)
 ·rintro b ((⟨h1,h2⟩ | h) | h)
  ·exact ⟨.inl (.inl (.inl ⟨h1,grow_none s.grow h2⟩)),h2,(a3 b h1).1⟩
  ·exact ⟨.inl (.inl (.inr h)),(a2.at_ b h).2.1,(Array.getElem?_eq_some_iff.1 (a2.at_ b h).2.2).1⟩
  ·rcases h with h | h
   ·exact ⟨(s.hd b h).1.imp (fun h=>.inr (.inl h)) id,(s.hd b h).2⟩
   ·subst h
    exact ⟨.inl (.inr (.inr rfl)),l2,(Array.getElem?_eq_some_iff.1 l3).1⟩
 ·intro b hb
  obtain ⟨h1,h2,h3⟩:=s.hd b hb
  rcases h1 with h1 | h1
  ·obtain ⟨k1,k2,k3,_⟩:=c.hd b h1
   exact ⟨k1,k2,k3,h2,h3⟩
  ·exact ⟨fun h=>by have:=c.hand h;omega,fun h=>by have:=c.low;omega,fun h=>by have:=c.mark h;omega,h2,h3⟩

theorem Core.setRec (he:e.Ok P) (c:Core e p0 ds l o E1 H Hd G1 W1) (o':Obj):Core e p0 ds l o' E1 H Hd G1 (W1.putObj l o'):=by
 have other:∀ b,b≠l→(W1.putObj l o').heap[b]? = W1.heap[b]?:=fun b hb=>World.putObj_heap_other hb
 have hsub:Sub G1 (W1.putObj l o'):=fun b o h=>by
  rw [other b (fun e=>by subst e;rw [c.rec_.2.1] at h;cases h)];exact c.sim.sub b o h
 have hH:∀ b,HdOf ⟨W1,Hand E1 H,ds⟩ G1 b→(W1.putObj l o').heap[b]? = W1.heap[b]?∧G1 b = none:=fun b hb=>by
  rcases hb with ⟨h1,h2⟩ | h1
  ·exact ⟨other b (fun e=>c.rec_.2.2.1 (e ▸ h1)),h2⟩
  ·exact ⟨other b (fun e=>c.rec_.2.2.2 (e ▸ h1)),(c.marks.at_ b h1).2.1⟩
 obtain ⟨a1,a2,a3⟩:=Rooted.after c.sim c.marks (Grow.refl _) hsub hH
 refine ⟨a1,he.step c.at_ ⟨⟨rfl,rfl,rfl,by simp,fun k hk hn=>other k (fun e=>hn (.inr (.inr e)))⟩,Grow.refl _,hsub,fun b o h=>.inl h, ?_⟩,a2,⟨World.putObj_heap_same c.low,c.rec_.2⟩,fun b hb=>by rw [World.putObj_size];exact c.hd b hb⟩
 rintro b ((⟨h1,h2⟩ | h) | h)
 ·exact ⟨.inl (.inl (.inl ⟨h1,h2⟩)),h2,(a3 b h1).1⟩
 ·exact ⟨.inl (.inl (.inr h)),(a2.at_ b h).2.1,(Array.getElem?_eq_some_iff.1 (a2.at_ b h).2.2).1⟩
 ·refine ⟨.inl (.inr h), ?_⟩
  rcases h with h | h
  ·rw [World.putObj_size];exact (c.hd b h).2.2.2
  ·subst h;rw [World.putObj_size];exact ⟨c.rec_.2.1,c.low⟩

theorem Core.priv (c:Core e p0 ds l o E1 H Hd G1 W1):∀ b,(HdOf ⟨W1,Hand E1 H,ds⟩ G1 b∨Hd b∨b = l)→G1 b = none∧b < W1.heap.size:=by
 rintro b ((⟨h1,h2⟩ | h) | h)
 ·exact ⟨h2,c.hand h1⟩
 ·exact ⟨(c.marks.at_ b h).2.1,c.mark h⟩
 ·rcases h with h | h
  ·exact (c.hd b h).2.2.2
  ·subst h;exact ⟨c.rec_.2.1,c.low⟩

theorem Core.retell (he:e.Ok P) (c:Core e p0 ds l o E1 H Hd G1 W1) {r:Root} {G0:Hp} {E2:Nat→Value} {H':Nat→Option OB} (hs:Sim r G0 E2 H' G1 W1) (hh:∀ b,Hand E2 H' b→Hand E1 H b):Core e p0 ds l o E2 H' Hd G1 W1:=by
 refine ⟨hs.self ds,he.step c.at_ (EnvStep.shrink c.sim.sub fun b hb=>?_),⟨c.marks.each,fun D hD=>⟨fun h'=>(c.marks.at_ D hD).1 (hh D h'),(c.marks.at_ D hD).2⟩,c.marks.nodup⟩,⟨c.rec_.1,c.rec_.2.1,fun h'=>c.rec_.2.2.1 (hh l h'),c.rec_.2.2.2⟩,fun b hb=>⟨fun h'=>(c.hd b hb).1 (hh b h'),(c.hd b hb).2⟩⟩
 have:HdOf ⟨W1,Hand E1 H,ds⟩ G1 b∨Hd b∨b = l:=hb.imp (fun h=>h.imp (fun h=>⟨hh b h.1,h.2⟩) id) id
 exact ⟨this,c.priv b this⟩

def sizeEnv (e:Env) (W1:World):Env:=⟨e.l,e.Y,fun k Hd G W=>e.J k Hd G W∧W1.heap.size≤W.heap.size,fun k Hd G W=>e.Jx k Hd G W∧W1.heap.size≤W.heap.size,none⟩
theorem sizeEnv_ok (he:e.Ok P):(sizeEnv e W1).Ok P:=by
 refine ⟨fun _ _ _ _ _ _ _ h s=>⟨he.st _ _ _ _ _ _ _ h.1 s,Nat.le_trans h.2 s.beneath.size⟩,fun _ _ _ _ _ _ _ h s=>⟨he.stx _ _ _ _ _ _ _ h.1 s,Nat.le_trans h.2 s.beneath.size⟩, ?_⟩
 rintro k args Hd G W hY ⟨hJ,hs⟩ hsub hHd
 obtain ⟨fn,tmps,assign,body,h1,h2⟩:=he.y k args Hd G W hY hJ hsub hHd
 refine ⟨fn,tmps,assign,body,h1,h2.mono ?_⟩
 rintro en W' ⟨st,G',r1,r2,r3,r4,r5,r6⟩
 refine ⟨st,G',r1,r2,r3,r4,r5, ?_⟩
 cases st
 ·exact ⟨r6,Nat.le_trans hs r5⟩
 ·exact ⟨r6,Nat.le_trans hs r5⟩
def bodyEnv (e:Env) (ds:List Deferred) (l:Nat) (Hd:Nat→Prop) (W1:World):Env :=
 ⟨e.l,e.Y,Keep (sizeEnv e W1).J (fun b=>Hd b∨MarkB ds b∨b = l) W1,Keep (sizeEnv e W1).Jx (fun b=>Hd b∨MarkB ds b∨b = l) W1,none⟩
theorem bodyEnv_ok (he:e.Ok P):(bodyEnv e ds l Hd W1).Ok P:=Keep.env (sizeEnv_ok he) _ _
theorem bodyEnv_at {sv:SV} {Hd3:Nat→Prop}:(bodyEnv e ds l Hd W1).at_ sv Hd3 G2 W2↔Keep (fun _ Hd G W=>e.at_ sv Hd G W∧W1.heap.size≤W.heap.size) (fun b=>Hd b∨MarkB ds b∨b = l) W1 0 Hd3 G2 W2:=by
 unfold Env.at_
 split
 ·rename_i k st;cases st<;>exact Iff.rfl
 ·exact Iff.rfl

theorem Core.toBody (he:e.Ok P) (c:Core e p0 ds l o E1 H Hd G1 W1) {n bd:Nat} {fr:Nat→SV} {a:Act} (h1:∀ i,(fr i).ment (· < bd)) (h2:∀ h ob,H h = some ob→h < bd∧ob.ment (· < bd)) (h3:∀ i,(fr i).rel E1 (a.tmps.getD i undef)) (h4:a.tmps.size = n) (h5:a.defers = []) {M0:Nat→Prop} (hM0:∀ k,M0 k→k < bd) (hp:fr POS = p0) :
  SatE (bodyEnv e ds l Hd W1) [] n bd M0 E1 ⟨fr,H,G1⟩ a W1:=by
 subst hp
 refine SatE.of (M:=(· < bd)) (E:=E1) (r:=⟨W1,Hand E1 H,[]⟩) (G0:=G1) (fun _ h=>h) hM0 (Agree.refl _ _) ⟨bodyEnv_at.2 ⟨⟨he.step c.at_ (EnvStep.shrink c.sim.sub fun b hb=>?_),Nat.le_refl _⟩,fun b hb=>?_⟩,fun b hb=>c.hand hb,c.sim.sub,⟨(fun d hd=>by cases hd),(fun D ⟨d,hd,_⟩=>by cases hd),List.Pairwise.nil⟩⟩ (Grow.refl _) ⟨c.sim.self [],h1,h2,h3,h4,h5⟩
 ·have:HdOf ⟨W1,Hand E1 H,ds⟩ G1 b∨Hd b∨b = l:=by
   rcases hb with (hb | ⟨d,hd,_⟩) | hb | hb | hb
   ·exact .inl (.inl hb)
   ·cases hd
   ·exact .inr (.inl hb)
   ·exact .inl (.inr hb)
   ·exact .inr (.inr hb)
  exact ⟨this,c.priv b this⟩
 ·have hn:¬ Hand E1 H b→¬ HdOf ⟨W1,Hand E1 H,[]⟩ G1 b:=fun hh h=>by
   rcases h with h | ⟨d,hd,_⟩
   ·exact hh h.1
   ·cases hd
  rcases hb with hb | hb | hb
  ·obtain ⟨k1,_,_,k4,k5⟩:=c.hd b hb
   exact ⟨k5,rfl,k4,hn k1⟩
  ·obtain ⟨k1,k2,_⟩:=c.marks.at_ b hb
   exact ⟨c.mark hb,rfl,k2,hn k1⟩
  ·subst hb
   exact ⟨c.low,rfl,c.rec_.2.1,hn c.rec_.2.2.1⟩

theorem Core.fromBody (he:e.Ok P) (c:Core e p0 ds l o E1 H Hd G1 W1) {n bd:Nat} {M0:Nat→Prop} {E0:Nat→Value} {σ:St} {a:Act} {ds3:List Deferred} (h:SatE (bodyEnv e ds l Hd W1) ds3 n bd M0 E0 σ a W2) :
  ∃ M E3,a.defers = ds3∧(∀ k,M k→k < bd)∧(∀ k,M0 k→M k)∧Agree M0 E0 E3∧Core e (σ.fr POS) ds l o E3 σ.H Hd σ.G W2∧(∀ h ob, σ.H h = some ob→M h∧ob.ment M)∧(∀ i,(σ.fr i).ment M)∧(∀ i,(σ.fr i).rel E3 (a.tmps.getD i undef))∧a.tmps.size = n∧W1.heap.size≤W2.heap.size∧∀ b,Hd b→W2.heap[b]? = W1.heap[b]?∧σ.G b = none:=by
 obtain ⟨M,E,k0,k1,k2,k3,k4,k5⟩:=h.now (bodyEnv_ok he)
 obtain ⟨⟨q1,q0⟩,q2⟩:=bodyEnv_at.1 k4.at_
 have hn:∀ b,(Hd b∨MarkB ds b∨b = l)→¬ Hand E σ.H b∧W2.heap[b]? = W1.heap[b]?∧σ.G b = none:=fun b hb=>by
  obtain ⟨r1,r2,r3,r4⟩:=q2 b hb
  exact ⟨fun hh=>r4 (.inl ⟨hh,r3⟩),r2,r3⟩
 have hlow:∀ b,(Hd b∨MarkB ds b∨b = l)→b < W2.heap.size:=fun b hb=>Keep.low (q2 b hb).1 (q2 b hb).2.1
 refine ⟨M,E,k0,k1,k2,k3,⟨k5.sim.self ds,he.step q1 (EnvStep.shrink k5.sim.sub fun b hb=>?_),⟨c.marks.each,fun D hD=>?_,c.marks.nodup⟩, ?_,fun b hb=>?_⟩,k5.mH,k5.mfr,k5.fr,k5.size,q0,fun b hb=>(hn b (.inl hb)).2⟩
 ·rcases hb with (hb | hb) | hb | hb
  ·exact ⟨.inl (.inl hb),hb.2,k4.ln b hb.1⟩
  ·exact ⟨.inr (.inr (.inl hb)),(hn b (.inr (.inl hb))).2.2,hlow b (.inr (.inl hb))⟩
  ·exact ⟨.inr (.inl hb),(hn b (.inl hb)).2.2,hlow b (.inl hb)⟩
  ·exact ⟨.inr (.inr (.inr hb)),(hn b (.inr (.inr hb))).2.2,hlow b (.inr (.inr hb))⟩
 ·obtain ⟨r1,r2,r3⟩:=hn D (.inr (.inl hD))
  exact ⟨r1,r3,r2.trans (c.marks.at_ D hD).2.2⟩
 ·obtain ⟨r1,r2,r3⟩:=hn l (.inr (.inr rfl))
  exact ⟨r2.trans c.rec_.1,r3,r1,c.rec_.2.2.2⟩
 ·obtain ⟨r1,r2,r3⟩:=hn b (.inl hb)
  obtain ⟨_,s2,s3,_⟩:=c.hd b hb
  exact ⟨r1,s2,s3,r3,hlow b (.inl hb)⟩
end

theorem updP_rel {E:Nat→Value}:∀ (ps:List Nat) (ys:List Value) (fr:Nat→SV) (tm:Array Value),(∀ p∈ps,p < tm.size)→(∀ i,(fr i).rel E (tm.getD i undef)) →
  (∀ i,(updP fr ps ys i).rel E (((ps.zip ys).foldl (fun t q=>t.setIfInBounds q.1 q.2) tm).getD i undef))∧((ps.zip ys).foldl (fun t q=>t.setIfInBounds q.1 q.2) tm).size = tm.size
 | [],_,_,_,_,h=>⟨h,rfl⟩
 | _ :: _,[],_,_,_,h=>⟨h,rfl⟩
 | p :: ps,y :: ys,fr,tm,hp,h=>by
  obtain ⟨h1,h2⟩:=updP_rel ps ys (upd fr p (SV.of y)) (tm.setIfInBounds p y) (fun q hq=>by simpa using hp q (by simp [hq])) (fun i=>by
   have hlt:=hp p (by simp)
   by_cases hi:i = p
   ·subst hi
    rw [upd_same]
    have:(tm.setIfInBounds i y).getD i undef = y:=by simp [Array.getD_eq_getD_getElem?,hlt]
    rw [this];exact SV.of_rel E y
   ·rw [upd_other _ _ hi]
    have:(tm.setIfInBounds p y).getD i undef = tm.getD i undef:=by simp [Array.getD_eq_getD_getElem?,Array.getElem?_setIfInBounds,Ne.symm hi]
    rw [this];exact h i)
  exact ⟨h1,by rw [List.zip_cons_cons,List.foldl_cons,h2];simp⟩
theorem updP_ment {M:Nat→Prop}:∀ (ps:List Nat) (ys:List Value) (fr:Nat→SV),(∀ i,(fr i).ment M)→∀ i,(updP fr ps ys i).ment M
 | [],_,_,h=>h
 | _ :: _,[],_,h=>h
 | p :: ps,y :: ys,fr,h=>updP_ment ps ys (upd fr p (SV.of y)) (fun i=>by
  by_cases hi:i = p
  ·subst hi;rw [upd_same];exact SV.of_ment M y
  ·rw [upd_other _ _ hi];exact h i)

theorem mentS_ment {c:S1} {L:List Nat} (h:∀ k∈mentS c,k∈L):c.ment (·∈L):=by
 cases c<;>first | trivial | exact h _ (by simp [mentS])
theorem mentSV_ment {sv:SV} {L:List Nat} (h:∀ k∈mentSV sv,k∈L):sv.ment (·∈L):=by
 cases sv with
 | c x=>exact mentS_ment h
 | agg cs =>
  intro c hc
  refine mentS_ment fun k hk=>h k ?_
  simp only [mentSV]
  clear h
  induction cs with
  | nil=>cases hc
  | cons d ds ih =>
   simp only [List.foldr_cons,List.mem_append]
   rcases List.mem_cons.1 hc with rfl | hc
   ·exact .inl hk
   ·exact .inr (ih hc)
theorem mentFr_ment {L:List Nat}:∀ {l:List (Nat × SV)},(∀ k∈mentFr l,k∈L)→∀ i,(frOf l i).ment (·∈L)
 | [],_,_=>trivial
 | (j,sv) :: r,h,i=>by
  simp only [mentFr,List.mem_append] at h
  simp only [frOf]
  cases Nat.beq i j with
  | true=>exact mentSV_ment fun k hk=>h k (.inl hk)
  | false=>exact mentFr_ment (fun k hk=>h k (.inr hk)) i
theorem bd_mentS {b:Nat} {c:S1} (h:c.bd b = true):∀ k∈mentS c,k < b:=by
 cases c<;>simp_all [S1.bd,mentS]
theorem bd_mentSV {b:Nat} {sv:SV} (h:sv.bd b = true):∀ k∈mentSV sv,k < b:=by
 cases sv with
 | c x=>exact bd_mentS h
 | agg cs =>
  have h':allBd b cs = true:=h
  clear h
  revert h'
  simp only [mentSV]
  intro h
  induction cs with
  | nil=>intro k hk;cases hk
  | cons d ds ih =>
   simp only [allBd] at h
   cases hd:d.bd b with
   | false=>rw [hd] at h;cases h
   | true =>
    rw [hd] at h
    intro k hk
    simp only [List.foldr_cons,List.mem_append] at hk
    rcases hk with hk | hk
    ·exact bd_mentS hd k hk
    ·exact ih h k hk
theorem bd_mentFr {b:Nat}:∀ {l:List (Nat × SV)},frBd b l = true→∀ k∈mentFr l,k < b
 | [],_,k,hk=>by cases hk
 | (j,sv) :: r,h,k,hk=>by
  simp only [frBd] at h
  cases hb:sv.bd b with
  | false=>rw [hb] at h;cases h
  | true =>
   rw [hb] at h
   simp only [mentFr,List.mem_append] at hk
   rcases hk with hk | hk
   ·exact bd_mentSV hb k hk
   ·exact bd_mentFr h k hk
end Go.Pal

namespace Go.Pal
open Go.RowKit
section
variable {P:Program} {bd:Nat} {B:Hp} {w0:Root} {G0:Hp} {n:Nat} {ops:Array Oper}
structure DrawT (P:Program) (n:Nat) (ops:Array Oper) (all:List (Nat × IOper)) (m:Nat):Prop where
 d:Draw0 P n ops all
 lt:m < ops.size
 len:(headOf m all).length = m
 head:∀ io,(m,io)∈all→∀ j,j < m→j∈io.deps
 next:∀ j o,m < j→ops[j]? = some o→j - 1∈depsOf o
theorem oneWay_spec {all:List (Nat × IOper)} {m:Nat} (d:Draw0 P n ops all) (h:oneWay ops all m = true):DrawT P n ops all m:=by
 simp only [oneWay,Bool.and_eq_true,List.all_eq_true] at h
 obtain ⟨⟨h1,h0⟩,h2,h3⟩:=h
 refine ⟨d,by simpa using h1,Nat.eq_of_beq_eq_true h0,fun io hio j hj=>?_,fun j o hj ho=>?_⟩
 ·have:=h2 _ hio
  simp only [Nat.beq_refl,cond_true,List.all_eq_true,List.mem_range] at this
  exact memN_iff.1 (this j hj)
 ·have:=h3 j (by simpa using (Array.getElem?_eq_some_iff.1 ho).1)
  rw [show Nat.blt m j = true by simpa using hj] at this
  simp only [cond_true,depOk,ho] at this
  exact memN_iff.1 this
theorem anyT_sound (T:Tab P) {ms:List FuncId} (HM:MonoT T.get ms) {all A:List (Nat × IOper)} {m:Nat} (D:DrawT P n ops all m) (hAs:A.Sublist all) (hpA:A.Pairwise (fun p q=>pairOk ms bd p q = true)) (hAm:∀ p,p∈A↔p∈all∧p.1 < m) {rd:Option Nat} {nn:Nat} {Q:Exit→Act→World→Prop} {K:St→Prop} {top:Nat} (hbt:bd≤top) (htop:∀ p∈A,p.2.hid < top)
  {M0:Nat→Prop} {E0:Nat→Value} {p0:SV} (hq:∀ listed σ' a' W' M E,listed.size = ops.size→(∀ j,j < ops.size→(listed.getD j true = false↔m≤j))→K σ'→Grow B σ'.G→(∀ k,M k→k < top)→(∀ k,M0 k→M k)→Agree M0 E0 E→σ'.fr POS = p0→Sat w0 G0 n M E σ' a' W'→wpAnyIn (FW rd) nn P .any ops Q (ops.size - m) listed a' W') :
  ∀ (fuel:Nat) {rest:List (Nat × IOper)} {listed:Array Bool} {σ:St} {M:Nat→Prop} {E:Nat→Value} {a:Act} {W:World},rest.length = fuel→rest.Sublist A→(∀ i,i < ops.size→(listed.getD i true = false↔m≤i∨∃ io,(i,io)∈rest))→listed.size = ops.size →
   (∀ p∈all,p.1 < m→p ∉ rest→∀ d∈p.2.deps, ∀ q∈rest,q.1≠d)→(∀ p∈rest, ¬ M p.2.hid)→(∀ k,M k→k < top)→(∀ k,M0 k→M k)→Agree M0 E0 E→σ.fr POS = p0→Sat w0 G0 n M E σ a W→Grow B σ.G→vcOps P T.get bd B (rest.map (·.2)) σ K →
   wpAnyIn (FW rd) nn P .any ops Q (fuel + (ops.size - m)) listed a W:=by
 intro fuel
 induction fuel with
 | zero =>
  intro rest listed σ M E a W hlen hsub hlist hsz hclo hfresh hM hMM hAg hp0 hs hB hv
  have hr:rest = []:=List.eq_nil_of_length_eq_zero hlen
  subst hr
  rw [Nat.zero_add]
  exact hq listed σ a W M E hsz (fun j hj=>(hlist j hj).trans ⟨fun h=>h.elim id (fun ⟨io,h⟩=>by cases h), .inl⟩) hv hB hM hMM hAg hp0 hs
 | succ fuel ih =>
  intro rest listed σ M E a W hlen hsub hlist hsz hclo hfresh hM hMM hAg hp0 hs hB hv
  have hpw:=hpA.sublist hsub
  have hsa:∀ {p},p∈rest→p∈all∧p.1 < m:=fun h=>(hAm _).1 (hsub.subset h)
  rw [Nat.succ_add]
  constructor
  ·-- some operation is ready: the first
   intro hnone
   cases rest with
   | nil=>simp at hlen
   | cons p r =>
    exfalso
    obtain ⟨i,io⟩:=p
    obtain ⟨o,ho,_,hlt,_⟩:=D.d.ok i io (hsa (by simp)).1
    have him:i < m:=(hsa (p:=(i,io)) (by simp)).2
    have:i∈Region.ready .any ops listed:=by
     refine mem_ready.2 ⟨(hlist i (Array.getElem?_eq_some_iff.1 ho).1).2 (.inr ⟨io,by simp⟩),o,ho,fun e he hb=>?_⟩
     have hlt:=hlt e.on (mem_depsOf.2 ⟨e,he,hb,rfl⟩)
     have hisz:=(Array.getElem?_eq_some_iff.1 ho).1
     have hes:e.on < ops.size:=Nat.lt_trans hlt hisz
     cases hg:listed.getD e.on true with
     | true =>
      have:e.on < listed.size:=by rw [hsz];exact hes
      simp only [Array.getD_eq_getD_getElem?,Array.getElem?_eq_getElem this,Option.getD_some] at hg ⊢
      exact hg
     | false =>
      rcases (hlist e.on hes).1 hg with hme | ⟨io',hio'⟩
      ·omega
      rcases List.mem_cons.1 hio' with h | h
      ·cases h;omega
      ·have:=(List.pairwise_cons.1 hpw).1 _ h
       simp only [pairOk,Bool.and_eq_true] at this
       have h2:i < e.on:=by simpa using this.1.1
       omega
    rw [hnone] at this
    cases this
  ·intro i hi
   obtain ⟨h1,o,ho,hrdy⟩:=mem_ready.1 hi
   have hisz:=(Array.getElem?_eq_some_iff.1 ho).1
   rcases (hlist i hisz).1 h1 with him | ⟨y,hy⟩
   ·-- nothing behind the place is ready
    exfalso
    obtain ⟨y,hy⟩:=D.d.full i hisz
    obtain ⟨o',ho',_,hlt,hdeps⟩:=D.d.ok i y hy
    rw [ho] at ho';cases ho'
    have unl:∀ b,b∈depsOf o→listed.getD b true = true:=fun b hb=>by
     obtain ⟨ed,he,hbd,rfl⟩:=mem_depsOf.1 hb
     have h2:=hrdy ed he hbd
     have hsz':ed.on < ops.size:=Nat.lt_trans (hlt _ hb) hisz
     have:ed.on < listed.size:=by rw [hsz];exact hsz'
     simp only [Array.getD_eq_getD_getElem?,Array.getElem?_eq_getElem this,Option.getD_some] at h2 ⊢
     exact h2
    rcases Nat.lt_or_eq_of_le him with him | rfl
    ·have hd:=D.next i o him ho
     have h2:=unl _ hd
     have h3:=(hlist (i - 1) (by omega)).2 (.inl (by omega))
     rw [h2] at h3;cases h3
    ·obtain ⟨p,r,rfl⟩:∃ p r,rest = p :: r:=by cases rest with
      | nil=>simp at hlen
      | cons p r=>exact ⟨p,r,rfl⟩
     have hp:=hsa (p:=p) (by simp)
     have hmem:=D.head y hy p.1 hp.2
     have direct:p.1 ∉ depsOf o:=fun hb=>by
      have h2:=unl _ hb
      have h3:=(hlist p.1 (Nat.lt_trans hp.2 hisz)).2 (.inr ⟨p.2,by simp⟩)
      rw [h2] at h3;cases h3
     rcases hdeps _ hmem with h | ⟨q',hq',hqd,hdq⟩
     ·exact direct h
     ·have h2:=unl _ hqd
      refine hclo q' hq' (hlt _ hqd) (fun hin=>?_) _ hdq p (by simp) rfl
      have h3:=(hlist q'.1 (Nat.lt_trans (hlt _ hqd) hisz)).2 (.inr ⟨q'.2,hin⟩)
      rw [h2] at h3;cases h3
   obtain ⟨pre,post,rfl⟩:=List.append_of_mem hy
   obtain ⟨o',ho',hok,hlt,hdeps⟩:=D.d.ok i y (hsa hy).1
   have him:i < m:=(hsa (p:=(i,y)) hy).2
   rw [ho] at ho';cases ho'
   -- what y waits for is done
   have hdone:∀ d∈y.deps, ∀ q∈pre++(i,y) :: post,q.1≠d:=by
    intro d hd q hqr e
    have direct:∀ b,b∈depsOf o→∀ q∈pre++(i,y) :: post,q.1≠b:=by
     intro b hb q hqr e
     obtain ⟨ed,he,hbd,rfl⟩:=mem_depsOf.1 hb
     have h2:=hrdy ed he hbd
     have hsz':ed.on < ops.size:=Nat.lt_trans (hlt _ hb) hisz
     have h3:=(hlist ed.on hsz').2 (.inr ⟨q.2,by rw [← e];exact hqr⟩)
     have:ed.on < listed.size:=by rw [hsz];exact hsz'
     simp only [Array.getD_eq_getD_getElem?,Array.getElem?_eq_getElem this,Option.getD_some] at h2 h3
     rw [h2] at h3;cases h3
    rcases hdeps d hd with h | ⟨q',hq',hqd,hdq⟩
    ·exact direct d h q hqr e
    ·exact hclo q' hq' (Nat.lt_trans (hlt _ hqd) him) (fun hin=>direct _ hqd q' hin rfl) d hdq q hqr e
   have hpw2:=List.pairwise_append.1 hpw
   have hind:∀ x∈pre.map (·.2),(indep ms bd x y = true∨mvPast x y = true)∧(∃ o,OpOk P n ops o x)∧¬ M x.hid:=by
    intro x hx
    obtain ⟨q,hq',rfl⟩:=List.mem_map.1 hx
    have h2:=hpw2.2.2 q hq' (i,y) (by simp)
    simp only [pairOk,Bool.and_eq_true,Bool.or_eq_true] at h2
    obtain ⟨oq,_,hokq,_⟩:=D.d.ok q.1 q.2 (hsa (by simp [hq'])).1
    refine ⟨?_,⟨oq,hokq⟩,hfresh q (by simp [hq'])⟩
    rcases h2.2 with (h | h) | h
    ·exact absurd rfl (hdone q.1 (memN_iff.1 h) q (by simp [hq']))
    ·exact .inl h
    ·exact .inr h
   have hnod:(pre.map (·.2)).Pairwise (fun x x'=>x.hid≠x'.hid):=by
    rw [List.pairwise_map]
    refine hpw2.1.imp ?_
    intro p q h e
    simp only [pairOk,Bool.and_eq_true,Bool.not_eq_true'] at h
    rw [e,Nat.beq_refl] at h
    simp at h
   rw [List.map_append,List.map_cons] at hv
   obtain ⟨σ,htk,hgr1,hfr1,hs⟩:=pubO_sound hs (take T HM hind hnod hs hB hv)
   replace hB:=hB.trans hgr1
   replace hp0:σ.fr POS = p0:=(congrFun hfr1 POS).trans hp0
   have key:=TI_sound T (rd:=rd) (nn:=nn) (Q:=Q) hs (hfresh (i,y) hy) hok.op hok.gd hok.dst hok.ok hB htk
   have next:∀ a' W',(∃ σ' E',vcOps P T.get bd B (pre.map (·.2)++post.map (·.2)) σ' K∧Grow σ.G σ'.G∧Agree M E E'∧σ'.fr POS = σ.fr POS∧Sat w0 G0 n (fun k=>M k∨k = y.hid) E' σ' a' W')→wpAnyIn (FW rd) nn P .any ops Q (fuel + (ops.size - m)) (listed.setIfInBounds i true) a' W':=by
    rintro a' W' ⟨σ',E',hk,hg,hag',hp',hs'⟩
    have hsub':(pre++post).Sublist (pre++(i,y) :: post):=List.Sublist.append_left (List.sublist_cons_self _ _) _
    have hni:∀ q∈pre++post,q.1≠i∧q.2.hid≠y.hid:=by
     intro q hq'
     rcases List.mem_append.1 hq' with h | h
     ·have h2:=hpw2.2.2 q h (i,y) (by simp)
      simp only [pairOk,Bool.and_eq_true,Bool.not_eq_true'] at h2
      refine ⟨?_,fun e=>?_⟩
      ·have:q.1 < i:=by simpa using h2.1.1
       omega
      ·rw [e,Nat.beq_refl] at h2;simp at h2
     ·have h2:=(List.pairwise_cons.1 hpw2.2.1).1 q h
      simp only [pairOk,Bool.and_eq_true,Bool.not_eq_true'] at h2
      refine ⟨?_,fun e=>?_⟩
      ·have:i < q.1:=by simpa using h2.1.1
       omega
      ·rw [e,Nat.beq_refl] at h2;simp at h2
    refine ih (rest:=pre++post) (by simp at hlen ⊢;omega) (hsub'.trans hsub) ?_ (by simp [hsz]) ?_ ?_ ?_ (fun k hk=>.inl (hMM k hk)) (fun k hk=>(hag' k (hMM k hk)).trans (hAg k hk)) (hp'.trans hp0) hs' (hB.trans hg) (by rw [List.map_append];exact hk)
    ·intro j hj
     by_cases hji:j = i
     ·subst hji
      have:j < listed.size:=by rw [hsz];exact hj
      constructor
      ·intro h
       simp [Array.getElem?_setIfInBounds,this] at h
      ·rintro (h | ⟨io,hio⟩)
       ·omega
       ·exact absurd rfl (hni _ hio).1
     ·rw [getD_set_ne true (Ne.symm hji),hlist j hj]
      constructor
      ·rintro (h | ⟨io,hio⟩)
       ·exact .inl h
       refine .inr ⟨io, ?_⟩
       rcases List.mem_append.1 hio with h | h
       ·simp [h]
       ·rcases List.mem_cons.1 h with h | h
        ·cases h;exact absurd rfl hji
        ·simp [h]
      ·rintro (h | ⟨io,hio⟩)
       ·exact .inl h
       ·exact .inr ⟨io,hsub'.subset hio⟩
    ·intro p hp hpm hnot d hd q hq'
     by_cases hpy:p = (i,y)
     ·subst hpy
      exact hdone d hd q (hsub'.subset hq')
     ·refine hclo p hp hpm (fun hin=>hnot ?_) d hd q (hsub'.subset hq')
      rcases List.mem_append.1 hin with h | h
      ·simp [h]
      ·rcases List.mem_cons.1 h with h | h
       ·exact absurd h hpy
       ·simp [h]
    ·intro p hp hm
     rcases hm with hm | hm
     ·exact hfresh p (hsub'.subset hp) hm
     ·exact (hni p hp).2 hm
    ·intro k hk'
     rcases hk' with h | h
     ·exact hM k h
     ·rw [h];exact htop (i,y) (hsub.subset hy)
   unfold wpOpIn
   rw [ho]
   simp only
   split
   ·rename_i hw
    rw [if_pos hw] at key
    exact Oper.wpIn_mono next key
   ·rename_i hw
    rw [if_neg hw] at key
    exact ⟨key.1,next _ _ key.2⟩


theorem tail_sound (T:Tab P) {pb:List Nat} {e:Env} (he:e.Ok P) {m:Nat} {all:List (Nat × IOper)} (D:DrawT P n ops all m) {rd:Option Nat} {nn:Nat} {ds:List Deferred} {Q:Exit→Act→World→Prop} {base:Nat} {M0:Nat→Prop} {E0:Nat→Value} :
  ∀ (fuel:Nat) {i:Nat} {listed:Array Bool} {l:List Oper} {xs:List IOper} {b:Nat} {σ:St} {a:Act} {W:World} {K:St→Prop},i + fuel = ops.size→m≤i→ops.toList.drop i = l→compList P n ops l b = some xs→listed.size = ops.size→(∀ j,j < ops.size→(listed.getD j true = false↔i≤j))→SatE e ds n b M0 E0 σ a W→vcSeq P T.get ⟨e.l,e.Y,pb,e.pn⟩ base xs σ K →
   (∀ t C,e.pn = some (t,C)→∀ b' σ' a' W' ch,C σ'→PanV t ch→Grow σ.G σ'.G→SatE e ds n b' M0 E0 σ' a' W'→b≤b'→b'≤b + l.length→Q (.panic ch) a' W') →
   (∀ σ' a' W',K σ'→Grow σ.G σ'.G→SatE e ds n (b + l.length) M0 E0 σ' a' W'→Q .normal a' W')→wpAnyIn (FW rd) nn P .any ops Q fuel listed a W:=by
 intro fuel
 induction fuel with
 | zero =>
  intro i listed l xs b σ a W K hi hm hl hc hsz hlist hs hd hQ hq
  have hl0:l = []:=by rw [← hl];exact List.drop_of_length_le (by simp;omega)
  subst hl0
  cases hc
  refine ⟨?_,hq σ a W hd (Grow.refl _) hs⟩
  cases hrd:Region.ready .any ops listed with
  | nil=>rfl
  | cons i' r =>
   have hi':i'∈Region.ready .any ops listed:=by rw [hrd];simp
   obtain ⟨h1,o,ho,_⟩:=mem_ready.1 hi'
   have hlt:=(Array.getElem?_eq_some_iff.1 ho).1
   have:=(hlist i' hlt).1 h1
   omega
 | succ fuel ih =>
  intro i listed l xs b σ a W K hi hm hl hc hsz hlist hs hd hQ hq
  have hisz:i < ops.size:=by omega
  have hdep:∀ {j:Nat} {o:Oper},ops[j]? = some o→∀ a∈depsOf o,a < j:=fun {j o} ho a ha=>by
   obtain ⟨io,hio⟩:=D.d.full j (Array.getElem?_eq_some_iff.1 ho).1
   obtain ⟨o',ho',_,hlt,_⟩:=D.d.ok j io hio
   rw [ho] at ho';cases ho'
   exact hlt a ha
  constructor
  ·intro hnone
   exfalso
   have ho:ops[i]? = some ops[i]:=Array.getElem?_eq_getElem hisz
   have:i∈Region.ready .any ops listed:=by
    refine mem_ready.2 ⟨(hlist i hisz).2 (Nat.le_refl _),_,ho,fun ed hed hb=>?_⟩
    have hlt:=hdep ho ed.on (mem_depsOf.2 ⟨ed,hed,hb,rfl⟩)
    have hes:ed.on < ops.size:=Nat.lt_trans hlt hisz
    cases hg:listed.getD ed.on true with
    | true =>
     have:ed.on < listed.size:=by rw [hsz];exact hes
     simp only [Array.getD_eq_getD_getElem?,Array.getElem?_eq_getElem this,Option.getD_some] at hg ⊢
     exact hg
    | false=>have:=(hlist ed.on hes).1 hg;omega
   rw [hnone] at this
   cases this
  ·intro i' hi'
   obtain ⟨h1,o,ho,hrdy⟩:=mem_ready.1 hi'
   have hisz':=(Array.getElem?_eq_some_iff.1 ho).1
   have hii:i' = i:=by
    have hle:=(hlist i' hisz').1 h1
    rcases Nat.lt_or_eq_of_le hle with hlt | h
    ·exfalso
     have hd':=D.next i' o (by omega) ho
     obtain ⟨ed,hed,hbd,e1⟩:=mem_depsOf.1 hd'
     have h2:=hrdy ed hed hbd
     have h3:=(hlist (i' - 1) (by omega)).2 (by omega)
     rw [← e1] at h3
     have:ed.on < listed.size:=by rw [hsz,e1];omega
     simp only [Array.getD_eq_getD_getElem?,Array.getElem?_eq_getElem this,Option.getD_some] at h2 h3
     rw [h2] at h3;cases h3
    ·exact h.symm
   subst hii
   have hlo:l = o :: ops.toList.drop (i' + 1):=by
    rw [← hl]
    have:i' < ops.toList.length:=by simpa using hisz
    rw [List.drop_eq_getElem_cons this]
    have e1:ops.toList[i']'this = o:=by
     have:=(Array.getElem?_eq_some_iff.1 ho).2
     simpa using this
    rw [e1]
   subst hlo
   simp only [compList] at hc
   split at hc
   case h_2=>cases hc
   rename_i x xs' hx hxs
   cases hc
   obtain ⟨h1,h2,h3,h4,h5⟩:=compAlt_spec (ops:=ops) (compOper_spec hx)
   generalize altI P ops o b x = x at *
   simp only [vcSeq] at hd
   obtain ⟨H0,G1,hd,hg1,hs1⟩:=hs.pub hd
   obtain ⟨fr0,H00,hd,hs10⟩:=hs1.abs hd
   obtain ⟨H0',hd,hs1'⟩:=hs10.nam hd
   obtain ⟨H1,hd,hs2⟩:=hs1'.forg hd
   replace hd:=tellX_iff hd
   have key:=opF_sound T he (rd:=rd) (nn:=nn) (Q:=Q) (hs2.res (l:=resLooks x.op)) h1 h2 h3 h4 h5 (fun t C ht σ' a' W' ch k0 k1 k2 k3=>hQ t C ht b σ' a' W' ch k0 k1 (hg1.trans k2) k3 (Nat.le_refl _) (Nat.le_add_right _ _)) hd
   have next:∀ a' W',(∃ σ',vcSeq P T.get ⟨e.l,e.Y,pb,e.pn⟩ base xs' σ' K∧Grow G1 σ'.G∧SatE e ds n (b + 1) M0 E0 σ' a' W')→wpAnyIn (FW rd) nn P .any ops Q fuel (listed.setIfInBounds i' true) a' W':=by
    rintro a' W' ⟨σ',hk,hg,hs'⟩
    refine ih (i:=i' + 1) (by omega) (by omega) rfl hxs (by simp [hsz]) (fun j hj=>?_) hs' hk (fun t C ht b' σ2 a2 W2 ch k0 k1 k2 k3 k4 k5=>hQ t C ht b' σ2 a2 W2 ch k0 k1 ((hg1.trans hg).trans k2) k3 (by omega) (by rw [List.length_cons];omega)) (fun σ2 a2 W2 k1 k2 k3=>hq σ2 a2 W2 k1 ((hg1.trans hg).trans k2) (by rw [List.length_cons,Nat.add_comm (List.length _) 1, ← Nat.add_assoc];exact k3))
    by_cases hji:j = i'
    ·subst hji
     have:j < listed.size:=by rw [hsz];exact hj
     constructor
     ·intro h
      simp [Array.getElem?_setIfInBounds,this] at h
     ·intro h;omega
    ·rw [getD_set_ne true (Ne.symm hji),hlist j hj]
     omega
   unfold wpOpIn
   rw [ho]
   simp only
   split
   ·rename_i hw
    rw [if_pos hw] at key
    exact Oper.wpIn_mono next key
   ·rename_i hw
    rw [if_neg hw] at key
    exact ⟨key.1,next _ _ key.2⟩
end
end Go.Pal
