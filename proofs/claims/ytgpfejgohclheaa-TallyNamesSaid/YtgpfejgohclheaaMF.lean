/- Layer 7: readings; the reference's functions on lists. Layer 7: the reference: lists, who is on them, which votes one may have, who clashes, who is in a pair. Layer 7: the reference: who clashes, who is in a pair, who is doubtful, the numbers, the outcome. Layer 7: the reference: who is doubtful. Layer 7: the reference: the numbers of a truth. Layer 7: the statements' own helpers: copies, equal lists, few. Layer 7: the reference: is a division right. Layer 7: the statements' own helpers: the errors, small. Layer 7: the program's own small functions: rising, Contains, member. Layer 7: on how many lists a member is; the votes that one may have. Layer 7: the least and the greatest number of a list that is not empty; a copy. -/
import Derived.Test.YtgpfejgohclheaaMD
import Derived.Test.YtgpfejgohclheaaMC
set_option linter.unusedSimpArgs false
set_option linter.unusedVariables false
namespace Go.Proofs.Ytgpfejgohclheaa
open Go.Pal

abbrev U (n:Int):Value:=.int .u8 n
structure Dv where
 m:Int
 a0:List Int
 a1:List Int
 n0:List Int
 n1:List Int
 ps:List (Int × Int)
 qs:List (Int × Int)
 rule:Int
 need:Int
 quorum:Int
 tie:Int
deriving DecidableEq,Repr

def intE:El Int:=⟨1,fun p=>[I p],fun {x y} h=>by simp at h;exact h,fun _=>rfl,fun _ v hv=>by simp at hv;rw [hv];rfl⟩
def u8E:El Int:=⟨1,fun p=>[U p],fun {x y} h=>by simp at h;exact h,fun _=>rfl,fun _ v hv=>by simp at hv;rw [hv];rfl⟩
def prE:El (Int × Int):=⟨2,fun p=>[I p.1,I p.2],fun {x y} h=>by cases x;cases y;simp at h;simp [h],fun _=>rfl,fun _ v hv=>by simp at hv;rcases hv with rfl | rfl<;>rfl⟩
structure DvC (G:Hp) (w0 w1 w2 w3 w4 w5:Value) (d:Dv):Prop where
 a0:SlV intE G w0 d.a0
 a1:SlV intE G w1 d.a1
 n0:SlV intE G w2 d.n0
 n1:SlV intE G w3 d.n1
 ps:SlV prE G w4 d.ps
 qs:SlV prE G w5 d.qs
theorem DvC.grow {G G':Hp} {w0 w1 w2 w3 w4 w5:Value} {d:Dv} (hg:Grow G G') (h:DvC G w0 w1 w2 w3 w4 w5 d):DvC G' w0 w1 w2 w3 w4 w5 d :=
 ⟨h.a0.grow hg,h.a1.grow hg,h.n0.grow hg,h.n1.grow hg,h.ps.grow hg,h.qs.grow hg⟩
abbrev dvl (d:Dv) (w0 w1 w2 w3 w4 w5:Value):List Value:=[I d.m,w0,w1,w2,w3,w4,w5,U d.rule,I d.need,I d.quorum,U d.tie]
def DvV (G:Hp) (v:Value) (d:Dv):Prop:=∃ w0 w1 w2 w3 w4 w5,v = .agg #[I d.m,w0,w1,w2,w3,w4,w5,U d.rule,I d.need,I d.quorum,U d.tie]∧DvC G w0 w1 w2 w3 w4 w5 d
def dvRd:Rd Dv:=⟨DvV,fun {_ _ x y} ⟨w0,w1,w2,w3,w4,w5,h,h1⟩ ⟨v0,v1,v2,v3,v4,v5,h',h1'⟩=>by
  subst h
  simp only [Value.agg.injEq,Array.mk.injEq,List.cons.injEq,Value.int.injEq,true_and,and_true] at h'
  obtain ⟨e1,e2,e3,e4,e5,e6,e7,e8,e9,e10,e11⟩:=h'
  subst e2;subst e3;subst e4;subst e5;subst e6;subst e7
  have k0:=h1.a0.uniq h1'.a0
  have k1:=h1.a1.uniq h1'.a1
  have k2:=h1.n0.uniq h1'.n0
  have k3:=h1.n1.uniq h1'.n1
  have k4:=h1.ps.uniq h1'.ps
  have k5:=h1.qs.uniq h1'.qs
  cases x;cases y;simp_all,fun hg ⟨w0,w1,w2,w3,w4,w5,h,h1⟩=>⟨w0,w1,w2,w3,w4,w5,h,h1.grow hg⟩⟩
def LobV (G:Hp) (v:Value) (l:List Int × List Int):Prop:=∃ w0 w1,v = .agg #[w0,w1]∧SlV intE G w0 l.1∧SlV intE G w1 l.2
def lobRd:Rd (List Int × List Int):=⟨LobV,fun {_ _ x y} ⟨w0,w1,h,h1,h2⟩ ⟨v0,v1,h',h1',h2'⟩=>by
  subst h;simp at h';obtain ⟨e1,e2⟩:=h';subst e1;subst e2
  have:=h1.uniq h1';have:=h2.uniq h2';cases x;cases y;simp_all,fun hg ⟨w0,w1,h,h1,h2⟩=>⟨w0,w1,h,h1.grow hg,h2.grow hg⟩⟩
def u8Rd:Rd Int:=⟨fun _ v x=>v = U x,fun {_ _ _ _} h h'=>by rw [h] at h';cases h';rfl,fun {_ _ _ _} _ h=>h⟩

/-! ### In,within,Has,Rising -/
def inF (n lo hi:Int):Bool:=decide (lo≤n∧n≤hi)
def inS:PSpec:=.fn (fun args _=>∃ n lo hi,args = [I n,I lo,I hi]) (fun args=>match args with | [.int _ n, .int _ lo, .int _ hi]=>.bool (inF n lo hi) | _=>undef)
set_option maxRecDepth 100000
theorem in76:Sound Try.prog 76 id inS:=by
 refine comp76.fn (Tab.nil _) (fun args G h=>?_) (fun args G h=>?_)
 ·obtain ⟨n,lo,hi,rfl⟩:=h;simp
 ·obtain ⟨n,lo,hi,rfl⟩:=h
  (conv=>whnf)
  repeat' (first | (refine IteP.mk (fun _=>W.mk ?_) (fun _=>W.mk ?_)<;>(conv=>whnf)) | (refine ob ?_ ?_;(first | trivial | omega | (simp only [inR];omega) | exact ble (by rfl) | exact SlR.some ‹_› (by omega));(conv=>whnf)) | (refine ForkP.mk (fun _=>W.mk ?_) (fun _=>W.mk ?_)<;>(conv=>whnf)) | (refine ra ‹_› (by rfl) ?_;(conv=>whnf)) | (refine rb ‹_› (by rfl) ?_;(conv=>whnf)) | (refine rc ‹_› (by rfl) ?_;(conv=>whnf)) | (refine rd ‹_› (by rfl) ?_;(conv=>whnf)) | (refine FinP.mk ?_))
  all_goals (refine congrArg Value.bool ?_;simp [inF, *])

def risF (l:List Int):Bool:=(List.range (l.length - 1)).all fun k=>decide (l.getD k 0 < l.getD (k + 1) 0)
theorem ris_true {l:List Int} (h:∀ k,k + 1 < l.length→l.getD k 0 < l.getD (k + 1) 0):risF l = true:=by
 simp only [risF,List.all_eq_true,List.mem_range,decide_eq_true_eq]
 exact fun k hk=>h k (by omega)
theorem ris_false {l:List Int} {k:Nat} (hk:k + 1 < l.length) (h:¬ l.getD k 0 < l.getD (k + 1) 0):risF l = false:=by
 cases hr:risF l with
 | false=>rfl
 | true =>
  simp only [risF,List.all_eq_true,List.mem_range,decide_eq_true_eq] at hr
  exact absurd (hr k (by omega)) h
end Go.Proofs.Ytgpfejgohclheaa

namespace Go.Proofs.Ytgpfejgohclheaa
open Go.Pal
set_option maxRecDepth 100000
abbrev dvc (d:Dv) (w0 w1 w2 w3 w4 w5:Value):List S1:=[.val (I d.m), .val w0, .val w1, .val w2, .val w3, .val w4, .val w5, .val (U d.rule), .val (I d.need), .val (I d.quorum), .val (U d.tie)]

def listF (m:Int) (l:List Int):Bool:=l.all (fun x=>inF x 0 (m - 1)) && risF l
def b2 (b:Bool):Int:=if b then 1 else 0
def onF (l:List Int × List Int) (m:Int):Int:=b2 (l.1.contains m) + b2 (l.2.contains m)
def onK (l:List Int × List Int) (m:Int):Nat→Int
 | 0=>0
 | 1=>b2 (l.1.contains m)
 | _=>onF l m
theorem b2_le (b:Bool):0≤b2 b∧b2 b≤1:=by cases b<;>decide
def Dv.a (d:Dv):List Int × List Int:=(d.a0,d.a1)
def Dv.n (d:Dv):List Int × List Int:=(d.n0,d.n1)
def mayF (d:Dv) (m v:Int):Bool :=
 if v = 0 then decide (onF d.a m < 2) && decide (onF d.n m < 2) else if v = 1 then decide (0 < onF d.a m) && decide (onF d.n m < 2) else decide (v = 2) && decide (0 < onF d.n m) && decide (onF d.a m < 2)
end Go.Proofs.Ytgpfejgohclheaa

namespace Go.Proofs.Ytgpfejgohclheaa
open Go.Pal
set_option maxRecDepth 100000
abbrev DVC (d:Dv) (x0 x1 x2 x3 x4 x5:Option Addr) (y0 z0 y1 z1 y2 z2 y3 z3 y4 z4 y5 z5:Nat):List S1:=dvc d (.slice x0 y0 z0) (.slice x1 y1 z1) (.slice x2 y2 z2) (.slice x3 y3 z3) (.slice x4 y4 z4) (.slice x5 y5 z5)

theorem find_some {p:Nat→Bool} {n i:Nat} (hi:i < n) (hp:p i = true) (h:∀ k,k < i→p k = false):(List.range n).find? p = some i:=by
 rw [List.find?_range_eq_some]
 exact ⟨hp,by simpa using hi,fun k hk=>by rw [h k hk];rfl⟩
theorem find_none {p:Nat→Bool} {n:Nat} (h:∀ k,k < n→p k = false):(List.range n).find? p = none:=by
 rw [List.find?_eq_none]
 intro k hk
 rw [h k (by simpa using hk)];simp

def cla (d:Dv) (m:Nat):Bool:=decide (onF d.a m = 2) && decide (onF d.n m = 2)
def clashF (d:Dv):Int:=match (List.range d.m.toNat).find? (cla d) with
 | some m=>m
 | none=>-1
def prF (m:Int) (p:Int × Int):Bool:=decide (p.1 = m) || decide (p.2 = m)
def pairedF (d:Dv) (m:Int):Bool:=d.ps.any (prF m)
/-! ### The outcome -/
structure Nm2 where
 a:Int
 n:Int
deriving DecidableEq,Repr
def nmRd:Rd Nm2:=⟨fun _ v x=>v = .agg #[I x.a,I x.n],fun {_ _ x y} h h'=>by subst h;simp at h';cases x;cases y;simp_all,fun {_ _ _ _} _ h=>h⟩
def outF (d:Dv) (x:Nm2):Int :=
 if x.a + x.n < d.quorum then 2 else
 let c3:=decide (2 * (x.a + x.n)≤3 * x.a) && decide (1≤x.a)
 let c0:=decide (x.n < x.a) || decide (x.a = x.n) && decide (d.tie = 1)
 let c1:=decide (d.need≤x.a) || decide (x.a + 1 = d.need) && decide (d.tie = 1)
 if (if d.rule = 1 then c1 else if d.rule = 0 then c0 else c3) then 1 else 0
end Go.Proofs.Ytgpfejgohclheaa

namespace Go.Proofs.Ytgpfejgohclheaa
open Go.Pal
set_option maxRecDepth 100000
def cntK (d:Dv) (m:Int):Nat→Int
 | 0=>0
 | k + 1=>cntK d m k + b2 (mayF d m k)
def dbt (d:Dv) (m:Nat):Bool:=decide (1 < cntK d m 3)
def dK (d:Dv) (i:Nat):List Int:=((List.range i).filter (dbt d)).map Int.ofNat
def doubtsF (d:Dv):List Int:=dK d d.m.toNat
end Go.Proofs.Ytgpfejgohclheaa

namespace Go.Proofs.Ytgpfejgohclheaa
open Go.Pal
set_option maxRecDepth 100000
structure C3 where
 c0:Int
 c1:Int
 c2:Int
def C3.add (c:C3) (v:Int):C3:=if v = 0 then ⟨c.c0 + 1,c.c1,c.c2⟩ else if v = 1 then ⟨c.c0,c.c1 + 1,c.c2⟩ else ⟨c.c0,c.c1,c.c2 + 1⟩
def ofK (d:Dv) (t:List Int):Nat→C3
 | 0=>⟨0,0,0⟩
 | i + 1=>if pairedF d i then ofK d t i else (ofK d t i).add (t.getD i 0)
def prxF (d:Dv) (t:List Int) (q:Int × Int):Bool:=decide (t.getD q.2.toNat 0 = 0) && !pairedF d q.2 && !pairedF d q.1
def ofP (d:Dv) (t:List Int):Nat→C3
 | 0=>ofK d t d.m.toNat
 | k + 1=>if prxF d t (d.qs.getD k (0,0)) then (ofP d t k).add (t.getD (d.qs.getD k (0,0)).1.toNat 0) else ofP d t k
def ofF (d:Dv) (t:List Int):Nm2:=⟨(ofP d t d.qs.length).c1,(ofP d t d.qs.length).c2⟩
structure C3.le (c:C3) (k:Int):Prop where
 a0:0≤c.c0
 a1:0≤c.c1
 a2:0≤c.c2
 s:c.c0 + c.c1 + c.c2≤k
theorem C3.le.le_add {c:C3} {k:Int} (h:c.le k) (v:Int):(c.add v).le (k + 1):=by
 obtain ⟨h0,h1,h2,h3⟩:=h
 unfold C3.add
 split
 ·exact ⟨by simp only;omega,h1,h2,by simp only;omega⟩
 ·split
  ·exact ⟨h0,by simp only;omega,h2,by simp only;omega⟩
  ·exact ⟨h0,h1,by simp only;omega,by simp only;omega⟩
theorem C3.le.le_mono {c:C3} {k k':Int} (h:c.le k) (hk:k≤k'):c.le k':=⟨h.a0,h.a1,h.a2,Int.le_trans h.s hk⟩
theorem ofK_le (d:Dv) (t:List Int):∀ i,(ofK d t i).le i
 | 0=>⟨Int.le_refl _,Int.le_refl _,Int.le_refl _,Int.le_refl _⟩
 | i + 1=>by
  have h:=ofK_le d t i
  simp only [ofK]
  split
  ·exact h.le_mono (by omega)
  ·exact h.le_add _
theorem ofP_le (d:Dv) (t:List Int):∀ k,(ofP d t k).le (d.m.toNat + k)
 | 0=>(ofK_le d t d.m.toNat).le_mono (by omega)
 | k + 1=>by
  have h:=ofP_le d t k
  simp only [ofP]
  split
  ·exact (h.le_add _).le_mono (by omega)
  ·exact h.le_mono (by omega)
end Go.Proofs.Ytgpfejgohclheaa

namespace Go.Proofs.Ytgpfejgohclheaa
open Go.Pal
set_option maxRecDepth 100000
theorem ints15:Sound Try.prog 15 id (gsca (args2 (slRd intE) (slRd intE) fun _ _=>True) fun x v=>v = .bool (decide (x.1 = x.2))):=by
 refine comp15.gsca (Tab.nil _) (fun args G s h=>?_) (fun args G x h=>?_)
 ·obtain ⟨v,w,rfl,_⟩:=h;simp
 ·obtain ⟨l,r⟩:=x
  obtain ⟨u,v,rfl,⟨a,n,c,rfl,hl,hn⟩,⟨a',n',c',rfl,hr,hn'⟩,_⟩:=h
  dsimp only at hl hr
  have hlen:=hl.len
  have hlen':=hr.len
  dsimp only
  (conv=>whnf)
  refine IteP.mk (fun hne=>W.mk ?_) (fun hne=>W.mk ?_)<;>(conv=>whnf)
  rotate_left
  ·refine FinP.mk ?_
   refine congrArg Value.bool ?_
   show false = decide (l = r)
   rw [eq_comm,decide_eq_false_iff_not]
   intro e;rw [e] at hlen;omega
  ·have hnn:l.length = r.length:=by omega
   refine LoopP.of { α:=Nat,fr:=fun x=>[(0, .v (.slice a n c)),(1, .v (.slice a' n' c')),(5, .v (I x))],H:=fun _=>[],ok:=fun i _=>i≤l.length∧(l.drop i = r.drop i→l = r),m:=fun x=>l.length - x }
    0 (HeadP.of [] ⟨rfl,rfl,rfl,trivial⟩ trivial) ⟨Nat.zero_le _,fun h=>h⟩ (fun _=>⟨rfl,rfl⟩) (fun (i:Nat) G' hG hx=>W.mk ?_)
   obtain ⟨hi,hx⟩:=hx
   replace hl:=SlR.grow (G:=G) (G':=G') (fun _ _ h=>h) hl hG
   replace hr:=SlR.grow (G:=G) (G':=G') (fun _ _ h=>h) hr hG
   dsimp only
   (conv=>whnf)
   refine IteP.mk (fun hlt=>W.mk ?_) (fun hge=>W.mk ?_)<;>(conv=>whnf)
   ·have hlt:i < l.length:=by omega
    have hlt':i < r.length:=by omega
    have hc:=hl.el hlt
    have hc':=hr.el hlt'
    rw [List.drop_eq_getElem_cons hlt,List.drop_eq_getElem_cons hlt'] at hx
    repeat' (first | (refine ob ?_ ?_;(first | trivial | omega | (simp only [inR];omega) | exact ble (by rfl) | exact SlR.some ‹_› (by omega));(conv=>whnf)) | (first | (refine ra ‹_› (by rfl) ?_;(conv=>whnf)) | (refine rb ‹_› (by rfl) ?_;(conv=>whnf)) | (refine rc ‹_› (by rfl) ?_;(conv=>whnf)) | (refine rd ‹_› (by rfl) ?_;(conv=>whnf))))
    refine IteP.mk (fun hq=>W.mk ?_) (fun hq=>W.mk ?_)<;>(conv=>whnf)
    ·(refine ob ?_ ?_;(first | trivial | omega | (simp only [inR];omega) | exact ble (by rfl) | exact SlR.some ‹_› (by omega));(conv=>whnf))
     refine RoundP.of (i + 1) (HeadP.of [] ⟨rfl,rfl,rfl,trivial⟩ trivial) ⟨hlt,fun h=>hx (by rw [hq,h])⟩ (by simp only;omega)
    ·refine FinP.mk ?_
     refine congrArg Value.bool ?_
     show false = decide (l = r)
     rw [eq_comm,decide_eq_false_iff_not]
     intro e;subst e;exact hq rfl
   ·have:i = l.length:=by omega
    subst this
    refine FinP.mk ?_
    refine congrArg Value.bool ?_
    show true = decide (l = r)
    rw [eq_comm,decide_eq_true_eq]
    exact hx (by rw [List.drop_length,hnn,List.drop_length])
theorem votes33:Sound Try.prog 33 id (gsca (args2 (slRd u8E) (slRd u8E) fun _ _=>True) fun x v=>v = .bool (decide (x.1 = x.2))):=by
 refine comp33.gsca (Tab.nil _) (fun args G s h=>?_) (fun args G x h=>?_)
 ·obtain ⟨v,w,rfl,_⟩:=h;simp
 ·obtain ⟨l,r⟩:=x
  obtain ⟨u,v,rfl,⟨a,n,c,rfl,hl,hn⟩,⟨a',n',c',rfl,hr,hn'⟩,_⟩:=h
  dsimp only at hl hr
  have hlen:=hl.len
  have hlen':=hr.len
  dsimp only
  (conv=>whnf)
  refine IteP.mk (fun hne=>W.mk ?_) (fun hne=>W.mk ?_)<;>(conv=>whnf)
  rotate_left
  ·refine FinP.mk ?_
   refine congrArg Value.bool ?_
   show false = decide (l = r)
   rw [eq_comm,decide_eq_false_iff_not]
   intro e;rw [e] at hlen;omega
  ·have hnn:l.length = r.length:=by omega
   refine LoopP.of { α:=Nat,fr:=fun x=>[(0, .v (.slice a n c)),(1, .v (.slice a' n' c')),(5, .v (I x))],H:=fun _=>[],ok:=fun i _=>i≤l.length∧(l.drop i = r.drop i→l = r),m:=fun x=>l.length - x }
    0 (HeadP.of [] ⟨rfl,rfl,rfl,trivial⟩ trivial) ⟨Nat.zero_le _,fun h=>h⟩ (fun _=>⟨rfl,rfl⟩) (fun (i:Nat) G' hG hx=>W.mk ?_)
   obtain ⟨hi,hx⟩:=hx
   replace hl:=SlR.grow (G:=G) (G':=G') (fun _ _ h=>h) hl hG
   replace hr:=SlR.grow (G:=G) (G':=G') (fun _ _ h=>h) hr hG
   dsimp only
   (conv=>whnf)
   refine IteP.mk (fun hlt=>W.mk ?_) (fun hge=>W.mk ?_)<;>(conv=>whnf)
   ·have hlt:i < l.length:=by omega
    have hlt':i < r.length:=by omega
    have hc:=hl.el hlt
    have hc':=hr.el hlt'
    rw [List.drop_eq_getElem_cons hlt,List.drop_eq_getElem_cons hlt'] at hx
    repeat' (first | (refine ob ?_ ?_;(first | trivial | omega | (simp only [inR];omega) | exact ble (by rfl) | exact SlR.some ‹_› (by omega));(conv=>whnf)) | (first | (refine ra ‹_› (by rfl) ?_;(conv=>whnf)) | (refine rb ‹_› (by rfl) ?_;(conv=>whnf)) | (refine rc ‹_› (by rfl) ?_;(conv=>whnf)) | (refine rd ‹_› (by rfl) ?_;(conv=>whnf))))
    refine IteP.mk (fun hq=>W.mk ?_) (fun hq=>W.mk ?_)<;>(conv=>whnf)
    ·(refine ob ?_ ?_;(first | trivial | omega | (simp only [inR];omega) | exact ble (by rfl) | exact SlR.some ‹_› (by omega));(conv=>whnf))
     refine RoundP.of (i + 1) (HeadP.of [] ⟨rfl,rfl,rfl,trivial⟩ trivial) ⟨hlt,fun h=>hx (by rw [hq,h])⟩ (by simp only;omega)
    ·refine FinP.mk ?_
     refine congrArg Value.bool ?_
     show false = decide (l = r)
     rw [eq_comm,decide_eq_false_iff_not]
     intro e;subst e;exact hq rfl
   ·have:i = l.length:=by omega
    subst this
    refine FinP.mk ?_
    refine congrArg Value.bool ?_
    show true = decide (l = r)
    rw [eq_comm,decide_eq_true_eq]
    exact hx (by rw [List.drop_length,hnn,List.drop_length])
def fewF (d:Dv):Bool:=decide (d.a0.length≤45) && decide (d.n0.length≤45) && decide (d.a1.length≤45) && decide (d.n1.length≤45) && decide (d.ps.length≤12) && decide (d.qs.length≤12)
end Go.Proofs.Ytgpfejgohclheaa

namespace Go.Proofs.Ytgpfejgohclheaa
open Go.Pal
set_option maxRecDepth 100000
theorem all_true {p:Nat→Bool} {n:Nat} (h:∀ k,k < n→p k = true):(List.range n).all p = true:=by
 simp only [List.all_eq_true,List.mem_range];exact h
theorem all_false {p:Nat→Bool} {n k:Nat} (hk:k < n) (h:p k = false):(List.range n).all p = false:=by
 rw [List.all_eq_false];exact ⟨k,by simpa using hk,by simp [h]⟩
theorem upto_succ {p:Nat→Bool} {i:Nat} (h:∀ k,k < i→p k = true) (hi:p i = true):∀ k,k < i + 1→p k = true:=fun k hk=>by
 rcases Nat.lt_succ_iff_lt_or_eq.1 hk with h2 | rfl
 ·exact h k h2
 ·exact hi

def headF (d:Dv):Bool:=inF d.m 1 40 && decide (d.ps.length≤10) && decide (d.qs.length≤10) && decide (d.rule≤2) && inF d.need 0 40 && inF d.quorum 0 40 && (decide (d.tie = 1) || decide (d.tie = 2))
def pOk (d:Dv) (p:Int × Int):Bool:=inF p.1 0 (d.m - 1) && inF p.2 0 (d.m - 1) && !decide (p.1 = p.2)
def crossF (p q:Int × Int):Bool:=decide (p.1 = q.1) || decide (p.1 = q.2) || decide (p.2 = q.1) || decide (p.2 = q.2)
def pairAt (d:Dv) (i:Nat):Bool:=pOk d (d.ps.getD i (0,0)) && (List.range i).all fun k=>!crossF (d.ps.getD i (0,0)) (d.ps.getD k (0,0))
def pairsF (d:Dv):Bool:=(List.range d.ps.length).all (pairAt d)
def proxC (d:Dv) (i k:Nat):Bool:=(!decide (k = i) && decide ((d.qs.getD k (0,0)).2 = (d.qs.getD i (0,0)).2)) || decide ((d.qs.getD k (0,0)).1 = (d.qs.getD i (0,0)).2)
def proxAt (d:Dv) (i:Nat):Bool:=pOk d (d.qs.getD i (0,0)) && (List.range d.qs.length).all fun k=>!proxC d i k
def proxF (d:Dv):Bool:=(List.range d.qs.length).all (proxAt d)
def rightD (d:Dv):Bool:=headF d && listF d.m d.a0 && listF d.m d.n0 && listF d.m d.a1 && listF d.m d.n1 && pairsF d && proxF d

end Go.Proofs.Ytgpfejgohclheaa

namespace Go.Proofs.Ytgpfejgohclheaa
open Go.Pal
set_option maxRecDepth 100000
theorem right_head {d:Dv} (h:rightD d = true):headF d = true:=by
 simp only [rightD,Bool.and_eq_true] at h;exact h.1.1.1.1.1.1
theorem head_m {d:Dv} (h:headF d = true):1≤d.m∧d.m≤40:=by
 simp only [headF,Bool.and_eq_true] at h
 have:=h.1.1.1.1.1.1
 simpa [inF] using this
def faultF (d:Dv):Int:=if rightD d then (if 0≤clashF d then 9 else 0) else 1
def openF (d:Dv):Int:=if faultF d = 0∧8 < (doubtsF d).length then 3 else faultF d
theorem fault_right {d:Dv} (h:faultF d = 0):rightD d = true:=by
 unfold faultF at h
 cases hr:rightD d with
 | true=>rfl
 | false=>rw [hr] at h;simp at h
end Go.Proofs.Ytgpfejgohclheaa

namespace Go.Proofs.Ytgpfejgohclheaa
open Go.Pal
set_option maxRecDepth 100000
theorem mem103:Sound Try.prog 103 id (gsca (args2 dvRd intRd fun d _=>inR .i64 (d.m - 1)) fun x v=>v = .bool (inF x.2 0 (x.1.m - 1))):=by
 refine comp103.gsca (Tab.cons 76 _ in76 body76 (Tab.nil _)) (fun args G s h=>?_) (fun args G x h=>?_)
 ·obtain ⟨v,w,rfl,_⟩:=h;simp
 ·obtain ⟨d,r⟩:=x
  obtain ⟨u,v,rfl,⟨w0,w1,w2,w3,w4,w5,rfl,hd⟩,rfl,hm⟩:=h
  dsimp only at hd hm
  obtain ⟨x0,y0,z0,rfl,la0,ya0⟩:=id hd.a0
  obtain ⟨x1,y1,z1,rfl,la1,ya1⟩:=id hd.a1
  obtain ⟨x2,y2,z2,rfl,ln0,yn0⟩:=id hd.n0
  obtain ⟨x3,y3,z3,rfl,ln1,yn1⟩:=id hd.n1
  obtain ⟨x4,y4,z4,rfl,lps,yps⟩:=id hd.ps
  obtain ⟨x5,y5,z5,rfl,lqs,yqs⟩:=id hd.qs
  dsimp only
  (conv=>whnf)
  refine OblP.mk hm (W.mk ?_)
  (conv=>whnf)
  refine OblP.mk ⟨_,_,_,rfl⟩ (W.mk ?_)
  (conv=>whnf)
  refine ForkP.mk (fun h=>W.mk ?_) (fun h=>W.mk ?_)<;>(conv=>whnf)<;>refine FinP.mk ?_<;>refine congrArg Value.bool ?_<;>exact h.symm
theorem ris62:Sound Try.prog 62 id (gsca (args1 (slRd intE) fun _=>True) fun l v=>v = .bool (risF l)):=by
 refine comp62.gsca (Tab.nil _) (fun args G s h=>?_) (fun args G l h=>?_)
 ·obtain ⟨v,rfl,_⟩:=h;simp
 ·obtain ⟨u,rfl,⟨a,n,c,rfl,hl,hn⟩,_⟩:=h
  have hlen:=hl.len
  (conv=>whnf)
  refine LoopP.of { α:=Nat,fr:=fun x=>[(0, .v (.slice a n c)),(5, .v (I n)),(6, .v (I x))],H:=fun _=>[],ok:=fun i _=>i≤l.length∧∀ k,k + 1 < i→l.getD k 0 < l.getD (k + 1) 0,m:=fun x=>l.length - x }
   0 (HeadP.of [] ⟨rfl,rfl,rfl,trivial⟩ trivial) ⟨Nat.zero_le _,fun k hk=>by omega⟩ (fun _=>⟨rfl,rfl⟩) (fun (i:Nat) G' hG hx=>W.mk ?_)
  obtain ⟨hi,hx⟩:=hx
  replace hl:=SlR.grow (G:=G) (G':=G') (fun _ _ h=>h) hl hG
  dsimp only
  (conv=>whnf)
  refine IteP.mk (fun hlt=>W.mk ?_) (fun hge=>W.mk ?_)<;>(conv=>whnf)
  ·have h1:i < l.length:=by omega
   have hc:=hl.el h1
   refine IteP.mk (fun hp=>W.mk ?_) (fun hp=>W.mk ?_)<;>(conv=>whnf)
   ·have h0:i - 1 < l.length:=by omega
    have hc0:=hl.el h0
    repeat' (first | (refine ob ?_ ?_;(first | trivial | omega | (simp only [inR];omega) | exact ble (by rfl) | exact SlR.some ‹_› (by omega));(conv=>whnf)) | (first | (refine ra ‹_› (by rfl) ?_;(conv=>whnf)) | (refine rb ‹_› (by rfl) ?_;(conv=>whnf)) | (refine rc ‹_› (by rfl) ?_;(conv=>whnf)) | (refine rd ‹_› (by rfl) ?_;(conv=>whnf))))
    refine RdP.at (cs:=intE.f l[i - 1]) (by rw [show ((i:Int) - 1).toNat = i - 1 by omega];exact hc0) rfl (W.mk ?_)
    (conv=>whnf)
    have g1:l.getD (i - 1 + 1) 0 = l[i]:=by rw [show i - 1 + 1 = i by omega];simp [h1]
    have g0:l.getD (i - 1) 0 = l[i - 1]:=by simp [h0]
    refine IteP.mk (fun hq=>W.mk ?_) (fun hq=>W.mk ?_)<;>(conv=>whnf)
    ·refine FinP.mk ?_
     refine congrArg Value.bool ?_
     rw [ris_false (k:=i - 1) (by omega) (by rw [g1,g0];omega)]
    ·repeat' (refine ob ?_ ?_;(first | trivial | omega | (simp only [inR];omega) | exact ble (by rfl) | exact SlR.some ‹_› (by omega));(conv=>whnf))
     refine RoundP.of (i + 1) (HeadP.of [] ⟨rfl,rfl,rfl,trivial⟩ trivial) ⟨h1,fun k hk=>?_⟩ (by simp only;omega)
     by_cases hki:k + 1 < i
     ·exact hx k hki
     ·have:k = i - 1:=by omega
      subst this
      rw [g1,g0];omega
   ·repeat' (refine ob ?_ ?_;(first | trivial | omega | (simp only [inR];omega) | exact ble (by rfl) | exact SlR.some ‹_› (by omega));(conv=>whnf))
    refine RoundP.of (i + 1) (HeadP.of [] ⟨rfl,rfl,rfl,trivial⟩ trivial) ⟨h1,fun k hk=>by omega⟩ (by simp only;omega)
  ·refine FinP.mk ?_
   refine congrArg Value.bool ?_
   rw [ris_true fun k hk=>hx k (by omega)]
def idxF (l:List Int) (q:Int) (k:Nat):Int:=match l with
 | []=>-1
 | r :: t=>if q = r then (k:Int) else idxF t q (k + 1)
theorem idxF_has:∀ (l:List Int) (q:Int) (k:Nat),decide (0≤idxF l q k) = l.contains q
 | [],q,k=>rfl
 | r :: t,q,k=>by
  unfold idxF
  by_cases h:q = r
  ·subst h;simp
  ·rw [if_neg h,idxF_has t q (k + 1),List.contains_cons]
   have:(q == r) = false:=by simpa using h
   rw [this,Bool.false_or]
theorem idx85:Sound Try.prog 85 id (gsca (args2 (slRd intE) intRd fun _ _=>True) fun x v=>v = I (idxF x.1 x.2 0)):=by
 refine comp85.gsca (Tab.nil _) (fun args G s h=>?_) (fun args G x h=>?_)
 ·obtain ⟨v,w,rfl,_⟩:=h;simp
 ·obtain ⟨l,q⟩:=x
  obtain ⟨u,v,rfl,⟨a,n,c,rfl,hl,hn⟩,rfl,_⟩:=h
  dsimp only at hl
  have hlen:=hl.len
  dsimp only
  (conv=>whnf)
  refine LoopP.of { α:=Nat,fr:=fun x=>[(0, .v (.slice a n c)),(1, .v (.int .i64 q)),(7, .v (I n)),(8, .v (I x))],H:=fun _=>[],ok:=fun i _=>i≤l.length∧idxF (l.drop i) q i = idxF l q 0,m:=fun x=>l.length - x }
   0 (HeadP.of [] ⟨rfl,rfl,rfl,rfl,trivial⟩ trivial) ⟨Nat.zero_le _,rfl⟩ (fun _=>⟨rfl,rfl⟩) (fun (i:Nat) G' hG hx=>W.mk ?_)
  obtain ⟨hi,hx⟩:=hx
  replace hl:=SlR.grow (G:=G) (G':=G') (fun _ _ h=>h) hl hG
  dsimp only
  (conv=>whnf)
  refine IteP.mk (fun hlt=>W.mk ?_) (fun hge=>W.mk ?_)<;>(conv=>whnf)
  ·have hlt:i < l.length:=by omega
   have hc:=hl.el hlt
   rw [List.drop_eq_getElem_cons hlt,idxF] at hx
   repeat' (first | (refine ob ?_ ?_;(first | trivial | omega | (simp only [inR];omega) | exact ble (by rfl) | exact SlR.some ‹_› (by omega));(conv=>whnf)) | (first | (refine ra ‹_› (by rfl) ?_;(conv=>whnf)) | (refine rb ‹_› (by rfl) ?_;(conv=>whnf)) | (refine rc ‹_› (by rfl) ?_;(conv=>whnf)) | (refine rd ‹_› (by rfl) ?_;(conv=>whnf))))
   refine IteP.mk (fun hq=>W.mk ?_) (fun hq=>W.mk ?_)<;>(conv=>whnf)
   ·refine FinP.mk ?_
    rw [if_pos hq] at hx
    show I (i:Int) = I (idxF l q 0);rw [← hx]
   ·(refine ob ?_ ?_;(first | trivial | omega | (simp only [inR];omega) | exact ble (by rfl) | exact SlR.some ‹_› (by omega));(conv=>whnf))
    rw [if_neg hq] at hx
    exact RoundP.of (i + 1) (HeadP.of [] ⟨rfl,rfl,rfl,rfl,trivial⟩ trivial) ⟨hlt,hx⟩ (by simp only;omega)
  ·have:i = l.length:=by omega
   subst this
   rw [List.drop_length] at hx
   refine FinP.mk ?_
   show I (-1) = I (idxF l q 0);rw [← hx];rfl
theorem idx73:Sound Try.prog 73 id (gsca (args2 (slRd u8E) u8Rd fun _ _=>True) fun x v=>v = I (idxF x.1 x.2 0)):=by
 refine comp73.gsca (Tab.nil _) (fun args G s h=>?_) (fun args G x h=>?_)
 ·obtain ⟨v,w,rfl,_⟩:=h;simp
 ·obtain ⟨l,q⟩:=x
  obtain ⟨u,v,rfl,⟨a,n,c,rfl,hl,hn⟩,rfl,_⟩:=h
  dsimp only at hl
  have hlen:=hl.len
  dsimp only
  (conv=>whnf)
  refine LoopP.of { α:=Nat,fr:=fun x=>[(0, .v (.slice a n c)),(1, .v (.int .u8 q)),(7, .v (I n)),(8, .v (I x))],H:=fun _=>[],ok:=fun i _=>i≤l.length∧idxF (l.drop i) q i = idxF l q 0,m:=fun x=>l.length - x }
   0 (HeadP.of [] ⟨rfl,rfl,rfl,rfl,trivial⟩ trivial) ⟨Nat.zero_le _,rfl⟩ (fun _=>⟨rfl,rfl⟩) (fun (i:Nat) G' hG hx=>W.mk ?_)
  obtain ⟨hi,hx⟩:=hx
  replace hl:=SlR.grow (G:=G) (G':=G') (fun _ _ h=>h) hl hG
  dsimp only
  (conv=>whnf)
  refine IteP.mk (fun hlt=>W.mk ?_) (fun hge=>W.mk ?_)<;>(conv=>whnf)
  ·have hlt:i < l.length:=by omega
   have hc:=hl.el hlt
   rw [List.drop_eq_getElem_cons hlt,idxF] at hx
   repeat' (first | (refine ob ?_ ?_;(first | trivial | omega | (simp only [inR];omega) | exact ble (by rfl) | exact SlR.some ‹_› (by omega));(conv=>whnf)) | (first | (refine ra ‹_› (by rfl) ?_;(conv=>whnf)) | (refine rb ‹_› (by rfl) ?_;(conv=>whnf)) | (refine rc ‹_› (by rfl) ?_;(conv=>whnf)) | (refine rd ‹_› (by rfl) ?_;(conv=>whnf))))
   refine IteP.mk (fun hq=>W.mk ?_) (fun hq=>W.mk ?_)<;>(conv=>whnf)
   ·refine FinP.mk ?_
    rw [if_pos hq] at hx
    show I (i:Int) = I (idxF l q 0);rw [← hx]
   ·(refine ob ?_ ?_;(first | trivial | omega | (simp only [inR];omega) | exact ble (by rfl) | exact SlR.some ‹_› (by omega));(conv=>whnf))
    rw [if_neg hq] at hx
    exact RoundP.of (i + 1) (HeadP.of [] ⟨rfl,rfl,rfl,rfl,trivial⟩ trivial) ⟨hlt,hx⟩ (by simp only;omega)
  ·have:i = l.length:=by omega
   subst this
   rw [List.drop_length] at hx
   refine FinP.mk ?_
   show I (-1) = I (idxF l q 0);rw [← hx];rfl
theorem con65:Sound Try.prog 65 id (gsca (args2 (slRd intE) intRd fun _ _=>True) fun x v=>v = .bool (x.1.contains x.2)):=by
 refine comp65.gsca (Tab.cons 85 _ idx85 body85 (Tab.nil _)) (fun args G s h=>?_) (fun args G x h=>?_)
 ·obtain ⟨v,w,rfl,_⟩:=h;simp
 ·obtain ⟨l,q⟩:=x
  obtain ⟨u,v,rfl,⟨a,n,c,rfl,hl,hn⟩,rfl,_⟩:=h
  dsimp only at hl
  dsimp only
  (conv=>whnf)
  refine ScaP.g (ok2 (slRd intE) intRd fun _ _=>True) (x:=(l,q)) ⟨_,_,rfl,⟨a,n,c,rfl,hl,hn⟩,rfl,trivial⟩ (fun v hv=>W.mk ?_)
  subst hv
  dsimp only
  have hh:=idxF_has l q 0
  (conv=>whnf)
  refine IteP.mk (fun hq=>W.mk ?_) (fun hq=>W.mk ?_)<;>(conv=>whnf)<;>refine FinP.mk ?_<;>refine congrArg Value.bool ?_<;>rw [← hh]<;>simp [hq]
theorem con49:Sound Try.prog 49 id (gsca (args2 (slRd u8E) u8Rd fun _ _=>True) fun x v=>v = .bool (x.1.contains x.2)):=by
 refine comp49.gsca (Tab.cons 73 _ idx73 body73 (Tab.nil _)) (fun args G s h=>?_) (fun args G x h=>?_)
 ·obtain ⟨v,w,rfl,_⟩:=h;simp
 ·obtain ⟨l,q⟩:=x
  obtain ⟨u,v,rfl,⟨a,n,c,rfl,hl,hn⟩,rfl,_⟩:=h
  dsimp only at hl
  dsimp only
  (conv=>whnf)
  refine ScaP.g (ok2 (slRd u8E) u8Rd fun _ _=>True) (x:=(l,q)) ⟨_,_,rfl,⟨a,n,c,rfl,hl,hn⟩,rfl,trivial⟩ (fun v hv=>W.mk ?_)
  subst hv
  dsimp only
  have hh:=idxF_has l q 0
  (conv=>whnf)
  refine IteP.mk (fun hq=>W.mk ?_) (fun hq=>W.mk ?_)<;>(conv=>whnf)<;>refine FinP.mk ?_<;>refine congrArg Value.bool ?_<;>rw [← hh]<;>simp [hq]
end Go.Proofs.Ytgpfejgohclheaa

namespace Go.Proofs.Ytgpfejgohclheaa
open Go.Pal
set_option maxRecDepth 100000
theorem und23:Try.prog.underlying 23 = some (.array 2 22):=by kernel_rfl
theorem idx23_0 (v0 v1:Value):∀ w,((POp.idx 23).sem [.agg #[v0,v1],I 0]).run Try.prog w = .ok v0 w:=fun w=>by
 have e1:(POp.idx 23).sem [.agg #[v0,v1],I 0] = Instr.index 23 (.agg #[v0,v1]) (I 0):=rfl
 rw [e1]
 have hs:=run_sizeOf' (P:=Try.prog) (W:=w) (t:=22) (n:=1) (by kernel_rfl)
 have hg:=run_isAgg' (P:=Try.prog) (W:=w) (t:=22) (g:=false) (by kernel_rfl)
 simp [Instr.index,part,run_underlying und23,asIntOf,hs,hg,Result.andThen]
theorem idx23_1 (v0 v1:Value):∀ w,((POp.idx 23).sem [.agg #[v0,v1],I 1]).run Try.prog w = .ok v1 w:=fun w=>by
 have e1:(POp.idx 23).sem [.agg #[v0,v1],I 1] = Instr.index 23 (.agg #[v0,v1]) (I 1):=rfl
 rw [e1]
 have hs:=run_sizeOf' (P:=Try.prog) (W:=w) (t:=22) (n:=1) (by kernel_rfl)
 have hg:=run_isAgg' (P:=Try.prog) (W:=w) (t:=22) (g:=false) (by kernel_rfl)
 simp [Instr.index,part,run_underlying und23,asIntOf,hs,hg,Result.andThen]
def tabJ:Tab Try.prog:=Tab.cons 65 _ con65 body65 (Tab.nil _)
theorem on106:Sound Try.prog 106 id (gsca (args2 lobRd intRd fun _ _=>True) fun x v=>v = I (onF x.1 x.2)):=by
 refine comp106.gsca tabJ (fun args G s h=>?_) (fun args G x h=>?_)
 ·obtain ⟨v,w,rfl,_⟩:=h;simp
 ·obtain ⟨⟨l0,l1⟩,q⟩:=x
  obtain ⟨u,v,rfl,⟨w0,w1,rfl,h0,h1⟩,rfl,_⟩:=h
  dsimp only at h0 h1
  dsimp only
  obtain ⟨x0,y0,z0,rfl,q0,p0⟩:=id h0
  obtain ⟨x1,y1,z1,rfl,q1,p1⟩:=id h1
  have k0:=b2_le (l0.contains q)
  have k1:=b2_le (l1.contains q)
  (conv=>whnf)
  refine LoopP.of { α:=Nat,fr:=fun x=>[(1, .v (I q)),(4, .v (I (onK (l0,l1) q x))),(7, .agg [.val (.slice x0 y0 z0), .val (.slice x1 y1 z1)]),(8, .v (I x))],H:=fun _=>[],ok:=fun i _=>i≤2,m:=fun x=>2 - x }
   0 (HeadP.of [] ⟨rfl,rfl,rfl,rfl,trivial⟩ trivial) (Nat.zero_le _) (fun _=>⟨rfl,rfl⟩) (fun (i:Nat) G' hG hx=>W.mk ?_)
  dsimp only at hx
  replace h0:=h0.grow hG
  replace h1:=h1.grow hG
  dsimp only
  (conv=>whnf)
  refine IteP.mk (fun hlt=>W.mk ?_) (fun hge=>W.mk ?_)<;>(conv=>whnf)
  ·rcases (by omega:i = 0∨i = 1) with rfl | rfl
   ·refine PurP.of _ (idx23_0 (.slice x0 y0 z0) (.slice x1 y1 z1)) (W.mk ?_)
    (conv=>whnf)
    refine ScaP.g (ok2 (slRd intE) intRd fun _ _=>True) (x:=(l0,q)) ⟨_,_,rfl,h0,rfl,trivial⟩ (fun v hv=>W.mk ?_)
    subst hv
    dsimp only
    (conv=>whnf)
    refine ForkP.mk (fun hq=>W.mk ?_) (fun hq=>W.mk ?_)<;>(conv=>whnf)
    ·refine OblP.mk (by simp only [inR,onK];omega) (W.mk ?_)
     (conv=>whnf)
     repeat' (refine ob ?_ ?_;(first | trivial | omega | (simp only [inR];omega) | exact ble (by rfl) | exact SlR.some ‹_› (by omega));(conv=>whnf))
     refine RoundP.of 1 (HeadP.of [] ⟨rfl,by show SV.v (I _) = _;simp only [onK,hq];rfl,rfl,rfl,trivial⟩ trivial) (by show (_:Nat)≤2;omega) (by simp only;omega)
    ·repeat' (refine ob ?_ ?_;(first | trivial | omega | (simp only [inR];omega) | exact ble (by rfl) | exact SlR.some ‹_› (by omega));(conv=>whnf))
     refine RoundP.of 1 (HeadP.of [] ⟨rfl,by show SV.v (I _) = _;simp only [onK,hq];rfl,rfl,rfl,trivial⟩ trivial) (by show (_:Nat)≤2;omega) (by simp only;omega)
   ·refine PurP.of _ (idx23_1 (.slice x0 y0 z0) (.slice x1 y1 z1)) (W.mk ?_)
    (conv=>whnf)
    refine ScaP.g (ok2 (slRd intE) intRd fun _ _=>True) (x:=(l1,q)) ⟨_,_,rfl,h1,rfl,trivial⟩ (fun v hv=>W.mk ?_)
    subst hv
    dsimp only
    (conv=>whnf)
    refine ForkP.mk (fun hq=>W.mk ?_) (fun hq=>W.mk ?_)<;>(conv=>whnf)
    ·refine OblP.mk (by simp only [inR,onK];omega) (W.mk ?_)
     (conv=>whnf)
     repeat' (refine ob ?_ ?_;(first | trivial | omega | (simp only [inR];omega) | exact ble (by rfl) | exact SlR.some ‹_› (by omega));(conv=>whnf))
     refine RoundP.of 2 (HeadP.of [] ⟨rfl,by show SV.v (I _) = _;simp only [onK,onF,hq];rfl,rfl,rfl,trivial⟩ trivial) (by show (_:Nat)≤2;omega) (by simp only;omega)
    ·repeat' (refine ob ?_ ?_;(first | trivial | omega | (simp only [inR];omega) | exact ble (by rfl) | exact SlR.some ‹_› (by omega));(conv=>whnf))
     refine RoundP.of 2 (HeadP.of [] ⟨rfl,by show SV.v (I (b2 (l0.contains q) + b2 (l1.contains q))) = SV.v (I (b2 (l0.contains q)));rw [hq];exact congrArg (fun z=>SV.v (I z)) (Int.add_zero _),rfl,rfl,trivial⟩ trivial) (by show (_:Nat)≤2;omega) (by simp only;omega)
  ·have:i = 2:=by omega
   subst this
   exact FinP.mk rfl
def votesF (d:Dv) (m:Int):List Int:=(if mayF d m 0 then [0] else [])++(if mayF d m 1 then [1] else [])++(if mayF d m 2 then [2] else [])
def tabK:Tab Try.prog:=Tab.cons 106 _ on106 body106 tabJ
theorem votes80:Sound Try.prog 80 id (grel (args2 dvRd intRd fun _ _=>True) fun x v G=>SlV u8E G v (votesF x.1 x.2)):=by
  refine comp80.grel tabK (ok2 _ _ _) (fun args G s h=>?_) (fun x v G G' hg h=>h.grow hg) (fun args G x h=>?_)
  · obtain ⟨v,w,rfl,_⟩:=h;simp
  · obtain ⟨d,m⟩:=x
    obtain ⟨u,v1,rfl,⟨w0,w1,w2,w3,w4,w5,rfl,hd⟩,rfl,_⟩:=h
    dsimp only at hd
    have ha:LobV G (.agg #[w0,w1]) d.a:=⟨_,_,rfl,hd.a0,hd.a1⟩
    have hn:LobV G (.agg #[w2,w3]) d.n:=⟨_,_,rfl,hd.n0,hd.n1⟩
    obtain ⟨x0,y0,z0,rfl,la0,ya0⟩:=id hd.a0
    obtain ⟨x1,y1,z1,rfl,la1,ya1⟩:=id hd.a1
    obtain ⟨x2,y2,z2,rfl,ln0,yn0⟩:=id hd.n0
    obtain ⟨x3,y3,z3,rfl,ln1,yn1⟩:=id hd.n1
    obtain ⟨x4,y4,z4,rfl,lps,yps⟩:=id hd.ps
    obtain ⟨x5,y5,z5,rfl,lqs,yqs⟩:=id hd.qs
    dsimp only
    (conv=>whnf)
    refine ScaP.g (ok2 lobRd intRd fun _ _=>True) (x:=(d.a,m)) ⟨_,_,rfl,ha,rfl,trivial⟩ (fun v hv=>W.mk ?_)
    subst hv
    dsimp only
    (conv=>whnf)
    refine ScaP.g (ok2 lobRd intRd fun _ _=>True) (x:=(d.n,m)) ⟨_,_,rfl,hn,rfl,trivial⟩ (fun v hv=>W.mk ?_)
    subst hv
    dsimp only
    (conv=>whnf)
    repeat' (first | (refine IteP.mk (fun _=>W.mk ?_) (fun _=>W.mk ?_)<;>first | (exfalso;omega) | (conv=>whnf)) | (refine ob ?_ ?_;(first | trivial | omega | (simp only [inR];omega) | exact ble (by rfl) | exact SlR.some ‹_› (by omega));(conv=>whnf)))
    all_goals first
      | (exfalso;omega)
      | (refine PubP.mk (fun a1 c1 G1 hg1 hp=>W.mk ?_)
         (conv=>whnf)
         refine FinP.mk ?_
         refine PubRow.slV hp ?_ ?_ (by decide)
         · simp [votesF,mayF,u8E, *]
         · simp [votesF,mayF, *])
      | (refine FinP.mk ?_
         have:votesF d m = []:=by simp [votesF,mayF, *]
         dsimp only
         rw [this]
         exact SlV.nil)
end Go.Proofs.Ytgpfejgohclheaa

namespace Go.Proofs.Ytgpfejgohclheaa
open Go.Pal
set_option maxRecDepth 100000
theorem und22:Try.prog.underlying 22 = some (.slice 3):=by kernel_rfl
theorem clone53:Sound Try.prog 53 id (gown 3 1 (args1 (slRd intE) fun l=>l.length≤8796093022207) fun l n vs=>Row intE l n vs):=by
 refine comp53.gown (Tab.nil _) (ok1 _ _) (fun args G s h=>?_) (fun args G l h=>?_)
 ·obtain ⟨v,rfl,_⟩:=h;simp
 ·obtain ⟨v,rfl,⟨a,n,c,rfl,hl,hn⟩,hb⟩:=h
  have hlen:=hl.len
  obtain ⟨q1,q2,q3⟩:=hl.all
  (conv=>whnf)
  refine PurP.of _ (pur_sl_nil und22 a n c 0 0) (W.mk ?_)
  (conv=>whnf)
  refine ForkP.mk (fun hf=>W.mk ?_) (fun hf=>W.mk ?_)<;>(conv=>whnf)
  ·refine OwnFin.mk ?_
   have:l = []:=by
    by_cases h0:n = 0
    ·exact List.eq_nil_of_length_eq_zero (by omega)
    ·have:=hl.some h0;rw [this] at hf;cases hf
   subst this;exact Row.nil
  ·refine OblP.mk (fun h=>hl.some h) (W.mk ?_);(conv=>whnf)
   refine RdP.at q1 q2 (W.mk ?_);(conv=>whnf)
   refine OblP.mk q3 (W.mk ?_);(conv=>whnf)
   refine OblP.mk rfl (W.mk ?_);(conv=>whnf)
   refine OblP.mk (by omega) (W.mk ?_);(conv=>whnf)
   refine OwnFin.mk ⟨rfl,rfl,rfl, ?_⟩
   simp only [Nat.zero_add,List.nil_append]
   exact Row.of_all l hlen
def mnF (l:List Int):Int:=match l with
 | []=>0
 | h :: t=>t.foldl min h
theorem mnF_snoc {l:List Int} (h:l≠[]) (x:Int):mnF (l++[x]) = min (mnF l) x:=by
 cases l with
 | nil=>exact absurd rfl h
 | cons h t=>simp [mnF]
theorem min69:Sound Try.prog 69 id (gsca (args1 (slRd intE) fun l=>l≠[]) fun l v=>v = I (mnF l)):=by
 refine comp69.gsca (Tab.nil _) (fun args G s h=>?_) (fun args G l h=>?_)
 ·obtain ⟨v,rfl,_⟩:=h;simp
 ·obtain ⟨v,rfl,⟨a,n,c,rfl,hl,hn⟩,hne⟩:=h
  have hlen:=hl.len
  have hpos:0 < l.length:=List.length_pos_iff.2 hne
  have h0:=hl.el hpos
  (conv=>whnf)
  refine IteP.mk (fun h=>by exfalso;omega) (fun h=>W.mk ?_)
  (conv=>whnf)
  repeat' (first | (refine ob ?_ ?_;(first | trivial | omega | (simp only [inR];omega) | exact ble (by rfl) | exact SlR.some ‹_› (by omega));(conv=>whnf)) | (first | (refine ra ‹_› (by rfl) ?_;(conv=>whnf)) | (refine rb ‹_› (by rfl) ?_;(conv=>whnf)) | (refine rc ‹_› (by rfl) ?_;(conv=>whnf)) | (refine rd ‹_› (by rfl) ?_;(conv=>whnf))))
  refine LoopP.of { α:=Nat × Int,fr:=fun x=>[(0, .v (.slice a n c)),(3, .v (I x.2)),(4, .v (I x.1))],H:=fun _=>[],ok:=fun x _=>1≤x.1∧x.1≤l.length∧mnF (l.take x.1) = x.2,m:=fun x=>l.length - x.1 }
   (1,l[0]) (HeadP.of [] ⟨rfl,rfl,rfl,trivial⟩ trivial) ⟨Nat.le_refl _,hpos,by cases l<;>first | exact absurd rfl hne | simp [mnF]⟩ (fun _=>⟨rfl,rfl⟩) (fun x G' hG hx=>W.mk ?_)
  obtain ⟨i,m⟩:=x
  obtain ⟨hi0,hi,hx⟩:=hx
  dsimp only at hi0 hi hx
  replace hl:=SlR.grow (G:=G) (G':=G') (fun _ _ h=>h) hl hG
  dsimp only
  (conv=>whnf)
  refine IteP.mk (fun hlt=>W.mk ?_) (fun hge=>W.mk ?_)<;>(conv=>whnf)
  ·have hlt:i < l.length:=by omega
   have hc:=hl.el hlt
   repeat' (first | (refine ob ?_ ?_;(first | trivial | omega | (simp only [inR];omega) | exact ble (by rfl) | exact SlR.some ‹_› (by omega));(conv=>whnf)) | (first | (refine ra ‹_› (by rfl) ?_;(conv=>whnf)) | (refine rb ‹_› (by rfl) ?_;(conv=>whnf)) | (refine rc ‹_› (by rfl) ?_;(conv=>whnf)) | (refine rd ‹_› (by rfl) ?_;(conv=>whnf))))
   refine RoundP.of (i + 1,min m l[i]) (HeadP.of [] ⟨rfl,rfl,rfl,trivial⟩ trivial) ⟨by simp only;omega,hlt, ?_⟩ (by simp only;omega)
   show mnF (l.take (i + 1)) = min m l[i]
   rw [List.take_succ_eq_append_getElem hlt,mnF_snoc (by intro h;rw [List.take_eq_nil_iff] at h;rcases h with h | h;omega;exact hne h),hx]
  ·have:i = l.length:=by omega
   subst this
   rw [List.take_length] at hx
   refine FinP.mk ?_
   show I m = I (mnF l);rw [hx]
def mxF (l:List Int):Int:=match l with
 | []=>0
 | h :: t=>t.foldl max h
theorem mxF_snoc {l:List Int} (h:l≠[]) (x:Int):mxF (l++[x]) = max (mxF l) x:=by
 cases l with
 | nil=>exact absurd rfl h
 | cons h t=>simp [mxF]
theorem max70:Sound Try.prog 70 id (gsca (args1 (slRd intE) fun l=>l≠[]) fun l v=>v = I (mxF l)):=by
 refine comp70.gsca (Tab.nil _) (fun args G s h=>?_) (fun args G l h=>?_)
 ·obtain ⟨v,rfl,_⟩:=h;simp
 ·obtain ⟨v,rfl,⟨a,n,c,rfl,hl,hn⟩,hne⟩:=h
  have hlen:=hl.len
  have hpos:0 < l.length:=List.length_pos_iff.2 hne
  have h0:=hl.el hpos
  (conv=>whnf)
  refine IteP.mk (fun h=>by exfalso;omega) (fun h=>W.mk ?_)
  (conv=>whnf)
  repeat' (first | (refine ob ?_ ?_;(first | trivial | omega | (simp only [inR];omega) | exact ble (by rfl) | exact SlR.some ‹_› (by omega));(conv=>whnf)) | (first | (refine ra ‹_› (by rfl) ?_;(conv=>whnf)) | (refine rb ‹_› (by rfl) ?_;(conv=>whnf)) | (refine rc ‹_› (by rfl) ?_;(conv=>whnf)) | (refine rd ‹_› (by rfl) ?_;(conv=>whnf))))
  refine LoopP.of { α:=Nat × Int,fr:=fun x=>[(0, .v (.slice a n c)),(3, .v (I x.2)),(4, .v (I x.1))],H:=fun _=>[],ok:=fun x _=>1≤x.1∧x.1≤l.length∧mxF (l.take x.1) = x.2,m:=fun x=>l.length - x.1 }
   (1,l[0]) (HeadP.of [] ⟨rfl,rfl,rfl,trivial⟩ trivial) ⟨Nat.le_refl _,hpos,by cases l<;>first | exact absurd rfl hne | simp [mxF]⟩ (fun _=>⟨rfl,rfl⟩) (fun x G' hG hx=>W.mk ?_)
  obtain ⟨i,m⟩:=x
  obtain ⟨hi0,hi,hx⟩:=hx
  dsimp only at hi0 hi hx
  replace hl:=SlR.grow (G:=G) (G':=G') (fun _ _ h=>h) hl hG
  dsimp only
  (conv=>whnf)
  refine IteP.mk (fun hlt=>W.mk ?_) (fun hge=>W.mk ?_)<;>(conv=>whnf)
  ·have hlt:i < l.length:=by omega
   have hc:=hl.el hlt
   repeat' (first | (refine ob ?_ ?_;(first | trivial | omega | (simp only [inR];omega) | exact ble (by rfl) | exact SlR.some ‹_› (by omega));(conv=>whnf)) | (first | (refine ra ‹_› (by rfl) ?_;(conv=>whnf)) | (refine rb ‹_› (by rfl) ?_;(conv=>whnf)) | (refine rc ‹_› (by rfl) ?_;(conv=>whnf)) | (refine rd ‹_› (by rfl) ?_;(conv=>whnf))))
   refine RoundP.of (i + 1,max m l[i]) (HeadP.of [] ⟨rfl,rfl,rfl,trivial⟩ trivial) ⟨by simp only;omega,hlt, ?_⟩ (by simp only;omega)
   show mxF (l.take (i + 1)) = max m l[i]
   rw [List.take_succ_eq_append_getElem hlt,mxF_snoc (by intro h;rw [List.take_eq_nil_iff] at h;rcases h with h | h;omega;exact hne h),hx]
  ·have:i = l.length:=by omega
   subst this
   rw [List.take_length] at hx
   refine FinP.mk ?_
   show I m = I (mxF l);rw [hx]
def tabL:Tab Try.prog:=Tab.cons 69 _ min69 body69 (Tab.cons 70 _ max70 body70 (Tab.nil _))
theorem least42:Sound Try.prog 42 id (gsca (args1 (slRd intE) fun l=>l≠[]) fun l v=>v = I (mnF l)):=by
 refine comp42.gsca tabL (fun args G s h=>?_) (fun args G l h=>?_)
 ·obtain ⟨v,rfl,_⟩:=h;simp
 ·obtain ⟨v,rfl,⟨a,n,c,rfl,hl,hn⟩,hne⟩:=h
  (conv=>whnf)
  refine ScaP.g (ok1 (slRd intE) fun l=>l≠[]) (x:=l) ⟨_,rfl,⟨a,n,c,rfl,hl,hn⟩,hne⟩ (fun v hv=>W.mk ?_)
  subst hv
  (conv=>whnf)
  exact FinP.mk rfl
theorem greatest43:Sound Try.prog 43 id (gsca (args1 (slRd intE) fun l=>l≠[]) fun l v=>v = I (mxF l)):=by
 refine comp43.gsca tabL (fun args G s h=>?_) (fun args G l h=>?_)
 ·obtain ⟨v,rfl,_⟩:=h;simp
 ·obtain ⟨v,rfl,⟨a,n,c,rfl,hl,hn⟩,hne⟩:=h
  (conv=>whnf)
  refine ScaP.g (ok1 (slRd intE) fun l=>l≠[]) (x:=l) ⟨_,rfl,⟨a,n,c,rfl,hl,hn⟩,hne⟩ (fun v hv=>W.mk ?_)
  subst hv
  (conv=>whnf)
  exact FinP.mk rfl
end Go.Proofs.Ytgpfejgohclheaa
