/- The reference's sittings: paused, stretches. The reference's takes. The program's sittings: the fault of one; copies. The program's sittings: the stretches, one after the other. The program's sittings: takes. The program's sittings: valid, checked. What other seats need of L1I .. L1Y, for the takes alone. Which take stands at a moment. The second law: each second is in one take, or paused. Plain. The second law, plain: which take holds a moment. The second law: walked. Who speaks: the closed example; seconds counted. The laws' own functions: drawn values without a bound; thin, valid, ready, copies. The drawn values of this layer, opened; a law's row. Who speaks: the statement. -/
import Derived.Test.YtefnikpoimaiiaaME
import Derived.Test.YtefnikpoimaiiaaMD
import Derived.Test.YtefnikpoimaiiaaRows
set_option linter.unusedSimpArgs false
set_option linter.unusedVariables false
namespace Go.Proofs.Ytefnikpoimaiiaa.L
open Go.Pal

set_option maxRecDepth 100000

theorem goodSpan_iff {last len:Int} {p:Span}:goodSpan last len p = true↔last < p.fr∧0≤p.fr∧p.fr < p.to∧p.to≤len:=by
 simp only [goodSpan,Bool.not_eq_true',Bool.or_eq_false_iff,decide_eq_false_iff_not]
 omega
theorem spansOk_mem {len:Int}:∀ {l:List Span} {last:Int},spansOk len last l = true→∀ p∈l,last < p.fr∧0≤p.fr∧p.fr < p.to∧p.to≤len
 | [],_,_,p,hp=>by cases hp
 | q :: r,last,h,p,hp=>by
  simp only [spansOk,Bool.and_eq_true,goodSpan_iff] at h
  rcases List.mem_cons.1 hp with rfl | hp
  ·exact h.1
  ·have:=spansOk_mem h.2 p hp;omega
theorem spansOk_len {len:Int}:∀ {l:List Span} {last:Int},spansOk len last l = true→l≠[]→last + l.length≤len
 | [],_,_,h=>absurd rfl h
 | q :: r,last,h,_=>by
  simp only [spansOk,Bool.and_eq_true,goodSpan_iff] at h
  by_cases hr:r = []
  ·subst hr;simp;omega
  ·have:=spansOk_len h.2 hr;simp;omega
theorem validF_iff {s:Sit}:validF s = true↔spansOk s.len (-1) s.ps = true∧(1≤s.len∧s.len≤36000)∧(1≤s.long∧s.long≤1200)∧1≤s.short∧s.short≤s.long:=by
 simp only [validF,inF,Bool.and_eq_true,decide_eq_true_eq]
theorem valid_len {s:Sit} (h:validF s = true):s.ps.length≤36001:=by
 rw [validF_iff] at h
 by_cases hr:s.ps = []
 ·simp [hr]
 ·have:=spansOk_len h.1 hr;omega

def pausedF (s:Sit) (n:Int):Bool:=s.ps.any fun p=>inF n p.fr (p.to - 1)
theorem paused14:Sound Try.prog 11 id (gsca (args2 sitRd intRd fun s _=>validF s = true) fun x v=>v = .bool (pausedF x.1 x.2)):=by
 refine comp14.gsca tabA (fun args G s h=>?_) (fun args G x h=>?_)
 ·obtain ⟨v,w,rfl,_⟩:=h;simp
 ·obtain ⟨s,m⟩:=x
  obtain ⟨v,w,rfl,⟨w,rfl,a,n,c,rfl,hl,hn⟩,rfl,hv⟩:=h
  simp only at hl hv
  have hm:=spansOk_mem (validF_iff.1 hv).1
  have hln:=(validF_iff.1 hv).2.1
  (conv=>whnf)
  refine LoopP.of { α:=Nat,fr:=fun x=>[(1, .v (I m)),(2, .c (.ptr 0 0)),(5, .v (I x))],H:=fun _=>[(0, .cells .anon [.val (I s.len), .val (.slice a n c), .val (I s.long), .val (I s.short)] 24)],ok:=fun x _=>x≤s.ps.length∧pausedF s m = (s.ps.drop x).any fun p=>inF m p.fr (p.to - 1),m:=fun x=>s.ps.length - x }
   0 (HeadP.of [] ⟨rfl,rfl,rfl,trivial⟩ ⟨rfl,trivial⟩) ⟨Nat.zero_le _,rfl⟩ (fun _=>⟨rfl,rfl⟩) (fun (x:Nat) G' hG hx=>W.mk ?_)
  obtain ⟨hi,hx⟩:=hx
  replace hl:=SlR.grow (G:=G) (G':=G') (fun _ _ h=>h) hl hG
  have hlen:=hl.len
  (conv=>whnf)
  refine IteP.mk (fun hlt=>W.mk ?_) (fun hge=>W.mk ?_)<;>(conv=>whnf)
  ·have hlt:x < s.ps.length:=by omega
   have hc:=hl.el hlt
   have hp:=hm _ (List.getElem_mem hlt)
   rw [List.drop_eq_getElem_cons hlt,List.any_cons] at hx
   repeat' (first | (refine OblP.mk ⟨_,_,_,rfl⟩ (W.mk ?_);(conv=>whnf)) | (refine ob ?_ ?_;(first | trivial | omega | (simp only [inR];omega) | exact ble (by rfl) | exact SlR.some ‹_› (by omega));(conv=>whnf)) | (first | (refine ra ‹_› (by rfl) ?_;(conv=>whnf)) | (refine rb ‹_› (by rfl) ?_;(conv=>whnf)) | (refine rc ‹_› (by rfl) ?_;(conv=>whnf)) | (refine rd ‹_› (by rfl) ?_;(conv=>whnf))) | (refine ForkP.mk (fun hf=>W.mk ?_) (fun hf=>W.mk ?_)<;>(conv=>whnf)) | (refine FinP.mk ?_))
   ·refine congrArg Value.bool ?_;simp [hx,hf]
   ·exact RoundP.of (x + 1) (HeadP.of [] ⟨rfl,rfl,rfl,trivial⟩ ⟨rfl,trivial⟩) ⟨by show x + 1≤_;omega,by simp [hx,hf]⟩ (by simp only;omega)
  ·have:x = s.ps.length:=by omega
   subst this
   simp only [List.drop_length] at hx
   repeat' (first | (refine IteP.mk (fun _=>W.mk ?_) (fun _=>W.mk ?_)<;>(conv=>whnf)) | (refine ob ?_ ?_;(first | trivial | omega | (simp only [inR];omega) | exact ble (by rfl) | exact SlR.some ‹_› (by omega));(conv=>whnf)) | (refine ForkP.mk (fun _=>W.mk ?_) (fun _=>W.mk ?_)<;>(conv=>whnf)) | (refine ra ‹_› (by rfl) ?_;(conv=>whnf)) | (refine rb ‹_› (by rfl) ?_;(conv=>whnf)) | (refine rc ‹_› (by rfl) ?_;(conv=>whnf)) | (refine rd ‹_› (by rfl) ?_;(conv=>whnf)) | (refine FinP.mk ?_))
   refine congrArg Value.bool ?_;simp [hx]

def stretchesF (len:Int):Int→List Span→List Span
 | fr,[]=>if fr < len then [⟨fr,len⟩] else []
 | fr,p :: r=>(if fr < p.fr then [⟨fr,p.fr⟩] else [])++stretchesF len p.to r
theorem stretches50:Sound Try.prog 65 id (grel (args1 sitRd fun s=>validF s = true) fun s v G=>SlV spanE G v (stretchesF s.len 0 s.ps)):=by
 refine comp50.grel tabA (ok1 _ _) (fun args G s h=>?_) (fun x v G G' hg h=>h.grow hg) (fun args G s h=>?_)
 ·obtain ⟨v,rfl,_⟩:=h;simp
 ·obtain ⟨v,rfl,⟨w,rfl,a,n,c,rfl,hl,hn⟩,hv⟩:=h
  have hvl:=valid_len hv
  (conv=>whnf)
  refine LoopP.of { α:=Nat × Int × List Span × Nat × List Value,fr:=fun x=>[(1, .c (.ptr 0 0)),(3, .c (.row 2 x.2.2.2.1)),(4, .v (I x.2.1)),(5, .v (I x.1))],H:=fun x=>[(0, .cells .anon [.val (I s.len), .val (.slice a n c), .val (I s.long), .val (I s.short)] 24),(2, .row none x.2.2.2.1 x.2.2.2.2 119 2)],ok:=fun x _=>x.1≤s.ps.length∧x.2.2.1.length≤x.1∧Row spanE x.2.2.1 x.2.2.2.1 x.2.2.2.2∧x.2.2.1++stretchesF s.len x.2.1 (s.ps.drop x.1) = stretchesF s.len 0 s.ps,m:=fun x=>s.ps.length - x.1 }
   (0,0,[],0,[]) (HeadP.of [(2,none)] ⟨rfl,rfl,rfl,rfl,trivial⟩ ⟨rfl,rfl,trivial⟩) ⟨Nat.zero_le _,Nat.le_refl _,Row.nil,rfl⟩ (fun _=>⟨rfl,rfl⟩) (fun x G' hG hx=>W.mk ?_)
  obtain ⟨i,fr,out,m,vs⟩:=x
  obtain ⟨hi,ho,hr,hx⟩:=hx
  simp only at hi ho hx hr
  replace hl:=SlR.grow (G:=G) (G':=G') (fun _ _ h=>h) hl hG
  have hlen:=hl.len
  have hm:=hr.n
  (conv=>whnf)
  refine IteP.mk (fun hlt=>W.mk ?_) (fun hge=>W.mk ?_)<;>(conv=>whnf)
  ·have hlt:i < s.ps.length:=by omega
   have hc:=hl.el hlt
   rw [List.drop_eq_getElem_cons hlt,stretchesF] at hx
   repeat' (first | (refine IteP.mk (fun hf=>W.mk ?_) (fun hf=>W.mk ?_)<;>(conv=>whnf)) | (refine ob ?_ ?_;(first | trivial | omega | (simp only [inR];omega) | exact ble (by rfl) | exact SlR.some ‹_› (by omega));(conv=>whnf)) | (first | (refine ra ‹_› (by rfl) ?_;(conv=>whnf)) | (refine rb ‹_› (by rfl) ?_;(conv=>whnf)) | (refine rc ‹_› (by rfl) ?_;(conv=>whnf)) | (refine rd ‹_› (by rfl) ?_;(conv=>whnf))))
   ·refine RoundP.of (i + 1,s.ps[i].to,out++[⟨fr,s.ps[i].fr⟩],m + 1,vs++[I fr,I s.ps[i].fr]) (HeadP.of [(2,some 28)] ⟨rfl,rfl,rfl,rfl,trivial⟩ ⟨rfl,rfl,trivial⟩) ⟨hlt,by simp;omega,hr.snoc _, ?_⟩ (by simp only;omega)
    rw [← hx,if_pos hf];simp
   ·refine RoundP.of (i + 1,s.ps[i].to,out,m,vs) (HeadP.of [] ⟨rfl,rfl,rfl,rfl,trivial⟩ ⟨rfl,rfl,trivial⟩) ⟨hlt,by simp;omega,hr, ?_⟩ (by simp only;omega)
    rw [← hx,if_neg hf];simp
  ·have:i = s.ps.length:=by omega
   subst this
   simp only [List.drop_length,stretchesF] at hx
   repeat' (first | (refine IteP.mk (fun hf=>W.mk ?_) (fun hf=>W.mk ?_)<;>(conv=>whnf)) | (refine ob ?_ ?_;(first | trivial | omega | (simp only [inR];omega) | exact ble (by rfl) | exact SlR.some ‹_› (by omega));(conv=>whnf)))
   ·refine PubP.mk (fun a1 c1 G1 hg1 hp=>W.mk ?_)
    (conv=>whnf)
    refine FinP.mk ?_
    rw [if_pos hf] at hx
    rw [← hx]
    exact (hr.snoc _).pub hp (by omega)
   ·refine PubP.mk (fun a1 c1 G1 hg1 hp=>W.mk ?_)
    (conv=>whnf)
    refine FinP.mk ?_
    rw [if_neg hf,List.append_nil] at hx
    rw [← hx]
    exact hr.pub hp (by omega)
end Go.Proofs.Ytefnikpoimaiiaa.L

namespace Go.Proofs.Ytefnikpoimaiiaa.L
open Go.Pal

set_option maxRecDepth 100000

def tabC:Tab Try.prog:=Tab.cons 65 _ stretches50 body50 (Tab.cons 35 _ valid32 body32 (Tab.cons 11 _ paused14 body14 tabA))
def chain:Int→List Span→Prop
 | _,[]=>True
 | lo,p :: r=>lo≤p.fr∧p.fr < p.to∧chain p.to r
theorem chain_drop:∀ {l:List Span} {lo:Int} (i:Nat) (h:i < l.length),chain lo l→lo≤l[i].fr∧l[i].fr < l[i].to∧chain l[i].to (l.drop (i + 1))
 | p :: r,lo,0,_,hc=>by simpa [chain] using hc
 | p :: r,lo,i + 1,h,hc=>by
  obtain ⟨h1,h2,h3⟩:=hc
  have:=chain_drop i (by simpa using h) h3
  simp only [List.getElem_cons_succ,List.drop_succ_cons]
  exact ⟨by omega,this.2⟩
theorem stretches_chain {len:Int}:∀ {l:List Span} {last fr:Int},spansOk len last l = true→0≤fr→fr≤last + 1→chain fr (stretchesF len fr l)∧∀ p∈stretchesF len fr l,p.to≤len
 | [],last,fr,_,h0,h1=>by
  simp only [stretchesF]
  split
  ·simp [chain];omega
  ·simp [chain]
 | p :: r,last,fr,h,h0,h1=>by
  simp only [spansOk,Bool.and_eq_true,goodSpan_iff] at h
  obtain ⟨i1,i2⟩:=stretches_chain (len:=len) (fr:=p.to) h.2 (by omega) (by omega)
  simp only [stretchesF]
  have low:∀ {l:List Span} {a b:Int},a≤b→chain b l→chain a l:=fun {l a b} hab hc=>by
   cases l with
   | nil=>trivial
   | cons q s=>exact ⟨by have:=hc.1;omega,hc.2⟩
  split
  ·refine ⟨⟨by simp,by simp;omega,low (by simp;omega) i1⟩,fun q hq=>?_⟩
   rcases List.mem_cons.1 hq with rfl | hq
   ·simp;omega
   ·exact i2 q hq
  ·exact ⟨low (by omega) i1,i2⟩

def baseF (a long:Int) (m:Nat):List Span:=(List.range m).map fun j:Nat=>⟨a + j * long,a + (j + 1) * long⟩
theorem baseF_succ (a long:Int) (m:Nat):baseF a long (m + 1) = baseF a long m++[⟨a + m * long,a + (m + 1) * long⟩]:=by
 simp [baseF,List.range_succ]
def cutS (long short:Int) (p:Span):List Span :=
 let m:=((p.to - p.fr) / long).toNat
 if p.fr + m * long = p.to then baseF p.fr long m
 else if short≤p.to - (p.fr + m * long)∨m = 0 then baseF p.fr long m++[⟨p.fr + m * long,p.to⟩]
 else baseF p.fr long (m - 1)++[⟨p.fr + (m - 1:Nat) * long,p.to⟩]
def takesF (s:Sit):List Span:=(stretchesF s.len 0 s.ps).flatMap (cutS s.long s.short)
theorem div_of {a b long:Int} {k:Nat} (h0:1≤long) (h1:a + k * long≤b) (h2:b - (a + k * long) < long):((b - a) / long).toNat = k:=by
 have:(b - a) / long = k:=by
  have h3:=Int.mul_comm (k:Int) long
  rw [Int.ediv_eq_iff_of_pos (by omega)]
  constructor
  ·omega
  ·omega
 omega
theorem row_setTo {l:List Span} {p:Span} {n:Nat} {vs us:List Value} {b:Int} (h:Row spanE (l++[p]) n vs) (hu:us = vs.take ((n - 1) * 2 + 1)++[I b]++vs.drop ((n - 1) * 2 + 1 + 1)):Row spanE (l++[⟨p.fr,b⟩]) n us:=by
 obtain ⟨rfl,rfl⟩:=h
 have hl:((l.map spanE.f).flatten).length = l.length * 2:=by
  clear hu
  induction l with
  | nil=>rfl
  | cons x r ih=>simp only [List.map_cons,List.flatten_cons,List.length_append,ih,List.length_cons];rw [spanE.len];show 2 + _ = _;omega
 refine ⟨by simp, ?_⟩
 subst hu
 simp only [List.length_append,List.length_cons,List.length_nil,List.map_append,List.flatten_append,List.map_cons,List.map_nil,List.flatten_cons,List.flatten_nil,List.append_nil]
 rw [List.take_append,List.drop_append,hl]
 have e1:l.length + (0 + 1) - 1 = l.length:=by omega
 rw [e1,List.take_of_length_le (by omega),List.drop_of_length_le (by omega)]
 have e2:l.length * 2 + 1 - l.length * 2 = 1:=by omega
 have e3:l.length * 2 + 1 + 1 - l.length * 2 = 2:=by omega
 rw [e2,e3]
 simp [spanE]

theorem takes33:Sound Try.prog 36 id (grel (args1 sitRd fun s=>validF s = true) fun s v G=>SlV spanE G v (takesF s)):=by
 refine comp33.grel tabC (ok1 _ _) (fun args G s h=>?_) (fun x v G G' hg h=>h.grow hg) (fun args G s h=>?_)
 ·obtain ⟨v,rfl,_⟩:=h;simp
 ·obtain ⟨v,rfl,⟨w,rfl,a0,n0,c0,rfl,hl0,hn0⟩,hv⟩:=h
  obtain ⟨hv1,hv2,hv3,hv4⟩:=validF_iff.1 hv
  (conv=>whnf)
  refine RelP.g (ok1 sitRd fun s=>validF s = true) (x:=s) ⟨_,rfl,⟨_,rfl,a0,n0,c0,rfl,hl0,hn0⟩,hv⟩ (Grow.refl _) (fun v G1 hg1 hq=>W.mk ?_)
  obtain ⟨a,n,c,rfl,hl,hn⟩:=hq
  obtain ⟨hch,hto⟩:=stretches_chain (fr:=0) hv1 (by omega) (by omega)
  generalize hL:stretchesF s.len 0 s.ps = L at hl hch hto
  have hT:takesF s = L.flatMap (cutS s.long s.short):=by rw [takesF,hL]
  (conv=>whnf)
  refine LoopP.of { α:=Nat × List Span × Nat × List Value,fr:=fun x=>[(1, .c (.ptr 0 0)),(3, .c (.row 2 x.2.2.1)),(4, .v (.slice a n c)),(5, .v (I x.1))],H:=fun x=>[(0, .cells .anon [.val (I s.len), .val (.slice a0 n0 c0), .val (I s.long), .val (I s.short)] 24),(2, .row none x.2.2.1 x.2.2.2 119 2)],ok:=fun x _=>x.1≤L.length∧(x.2.1.length:Int)≤36000∧(∀ h:x.1 < L.length,(x.2.1.length:Int)≤L[x.1].fr)∧Row spanE x.2.1 x.2.2.1 x.2.2.2∧x.2.1++(L.drop x.1).flatMap (cutS s.long s.short) = takesF s,m:=fun x=>L.length - x.1 }
   (0,[],0,[]) (HeadP.of [(2,none)] ⟨rfl,rfl,rfl,rfl,trivial⟩ ⟨rfl,rfl,trivial⟩) ⟨Nat.zero_le _,by simp,fun h=>by have:=(chain_drop 0 h hch).1;simpa using this,Row.nil,by simp [hT]⟩ (fun _=>⟨rfl,rfl⟩) (fun x G2 hg2 hx=>W.mk ?_)
  obtain ⟨i,out,m,vs⟩:=x
  obtain ⟨hi,ho,hfr,hr,hx⟩:=hx
  simp only at hi ho hfr hx hr
  replace hl:=SlR.grow (G:=G1) (G':=G2) (fun _ _ h=>h) hl hg2
  have hlen:=hl.len
  (conv=>whnf)
  refine IteP.mk (fun hlt=>W.mk ?_) (fun hge=>W.mk ?_)<;>(conv=>whnf)
  ·have hlt:i < L.length:=by omega
   have hc:=hl.el hlt
   obtain ⟨q1,q2,q3⟩:=chain_drop i hlt hch
   have q4:=hto _ (List.getElem_mem hlt)
   have hfr:=hfr hlt
   rw [List.drop_eq_getElem_cons hlt,List.flatMap_cons] at hx
   have hnext:∀ h:i + 1 < L.length,L[i].to≤L[i + 1].fr:=fun h=>by
    have:=(chain_drop 0 (by simp;omega) q3).1
    simpa using this
   generalize L[i] = p at hc q1 q2 q3 q4 hfr hx hnext
   repeat' (first | (refine ob ?_ ?_;(first | trivial | omega | (simp only [inR];omega) | exact ble (by rfl) | exact SlR.some ‹_› (by omega));(conv=>whnf)) | (refine ra ‹_› (by rfl) ?_;(conv=>whnf)) | (refine rb ‹_› (by rfl) ?_;(conv=>whnf)) | (refine rc ‹_› (by rfl) ?_;(conv=>whnf)) | (refine rd ‹_› (by rfl) ?_;(conv=>whnf)) | (refine FinP.mk ?_))
   refine LoopP.of { α:=Nat × Nat × List Value,fr:=fun x=>[(1, .c (.ptr 0 0)),(3, .c (.row 2 x.2.1)),(4, .v (.slice a n c)),(5, .v (I i)),(6, .v (I (p.fr + x.1 * s.long))),(7, .v (I x.1))],H:=fun x=>[(0, .cells .anon [.val (I s.len), .val (.slice a0 n0 c0), .val (I s.long), .val (I s.short)] 24),(2, .row none x.2.1 x.2.2 119 2)],ok:=fun x _=>p.fr + x.1 * s.long≤p.to∧Row spanE (out++baseF p.fr s.long x.1) x.2.1 x.2.2∧(x.1:Int)≤x.1 * s.long,m:=fun x=>(p.to - (p.fr + x.1 * s.long)).toNat }
    (0,m,vs) (HeadP.of [] ⟨rfl,rfl,rfl,rfl, ?_,rfl,trivial⟩ ⟨rfl,rfl,trivial⟩) ⟨by simp;omega,by simpa [baseF] using hr,by simp⟩ (fun _=>⟨rfl,rfl⟩) (fun x G3 hg3 hx2=>W.mk ?_)
   ·show SV.v (I _) = SV.v (I _);simp
   obtain ⟨k,m2,vs2⟩:=x
   obtain ⟨hk,hr2,hkl⟩:=hx2
   simp only at hk hr2 hkl
   have hm2:=hr2.n
   simp only [List.length_append,baseF,List.length_map,List.length_range] at hm2
   replace hl:=SlR.grow (G:=G2) (G':=G3) (fun _ _ h=>h) hl hg3
   replace hc:=hc.grow hg3
   have hkm:((k:Int) + 1) * s.long = k * s.long + s.long:=by rw [Int.add_mul,Int.one_mul]
   dsimp only
   (conv=>whnf)
   repeat' (first | (refine ob ?_ ?_;(first | trivial | omega | (simp only [inR];omega) | exact ble (by rfl) | exact SlR.some ‹_› (by omega));(conv=>whnf)) | (refine ra ‹_› (by rfl) ?_;(conv=>whnf)) | (refine rb ‹_› (by rfl) ?_;(conv=>whnf)) | (refine rc ‹_› (by rfl) ?_;(conv=>whnf)) | (refine rd ‹_› (by rfl) ?_;(conv=>whnf)) | (refine FinP.mk ?_))
   refine IteP.mk (fun hge2=>W.mk ?_) (fun hge2=>W.mk ?_)<;>(conv=>whnf)
   ·repeat' (first | (refine ob ?_ ?_;(first | trivial | omega | (simp only [inR];omega) | exact ble (by rfl) | exact SlR.some ‹_› (by omega));(conv=>whnf)) | (refine ra ‹_› (by rfl) ?_;(conv=>whnf)) | (refine rb ‹_› (by rfl) ?_;(conv=>whnf)) | (refine rc ‹_› (by rfl) ?_;(conv=>whnf)) | (refine rd ‹_› (by rfl) ?_;(conv=>whnf)) | (refine FinP.mk ?_))
    have hk1:((k + 1:Nat):Int) * s.long = k * s.long + s.long:=by rw [Int.natCast_add,Int.cast_ofNat_Int,hkm]
    refine RoundP.of (k + 1,m2 + 1,vs2++[I (p.fr + k * s.long),I (p.fr + k * s.long + s.long)]) (HeadP.of [(2,some 36)] ⟨rfl,rfl,rfl,rfl, ?_,rfl,trivial⟩ ⟨rfl,rfl,trivial⟩) ⟨?_, ?_, ?_⟩ ?_
    ·show SV.v (I (p.fr + ((k + 1:Nat):Int) * s.long)) = SV.v (I (p.fr + k * s.long + s.long));rw [hk1,Int.add_assoc]
    ·show p.fr + ((k + 1:Nat):Int) * s.long≤p.to;rw [hk1];omega
    ·simp only [baseF_succ,hkm, ← List.append_assoc, ← Int.add_assoc]
     exact hr2.snoc _
    ·show ((k + 1:Nat):Int)≤((k + 1:Nat):Int) * s.long;rw [hk1];omega
    ·show (p.to - (p.fr + ((k + 1:Nat):Int) * s.long)).toNat < (p.to - (p.fr + (k:Int) * s.long)).toNat;rw [hk1];omega
   ·have hdiv:=div_of (a:=p.fr) (b:=p.to) (long:=s.long) (k:=k) (by omega) (by omega) (by omega)
    have hcut:cutS s.long s.short p = if p.fr + (k * s.long) = p.to then baseF p.fr s.long k else if s.short≤p.to - (p.fr + k * s.long)∨k = 0 then baseF p.fr s.long k++[⟨p.fr + k * s.long,p.to⟩] else baseF p.fr s.long (k - 1)++[⟨p.fr + (k - 1:Nat) * s.long,p.to⟩]:=by
     simp only [cutS,hdiv]
    have key:∀ ts,cutS s.long s.short p = ts→(ts.length:Int)≤p.to - p.fr→((out++ts).length:Int)≤36000∧(∀ h:i + 1 < L.length,((out++ts).length:Int)≤L[i + 1].fr)∧(out++ts)++(L.drop (i + 1)).flatMap (cutS s.long s.short) = takesF s:=fun ts h1 h2=>by
     simp only [List.length_append]
     refine ⟨by omega,fun h=>by have:=hnext h;omega, ?_⟩
     rw [← hx,h1,List.append_assoc]
    have hb:∀ j,(baseF p.fr s.long j).length = j:=fun j=>by simp [baseF]
    have hl2:=hr2.len
    have hl2:vs2.length = m2 * 2:=hl2
    repeat' (first | (refine IteP.mk (fun _=>W.mk ?_) (fun _=>W.mk ?_)<;>(conv=>whnf)) | (refine OblP.mk ?_ (W.mk ?_);(show _≤vs2.length;omega);(conv=>whnf)) | (refine ob ?_ ?_;(first | trivial | omega | (simp only [inR];omega) | exact ble (by rfl) | exact SlR.some ‹_› (by omega));(conv=>whnf)) | (first | (refine ra ‹_› (by rfl) ?_;(conv=>whnf)) | (refine rb ‹_› (by rfl) ?_;(conv=>whnf)) | (refine rc ‹_› (by rfl) ?_;(conv=>whnf)) | (refine rd ‹_› (by rfl) ?_;(conv=>whnf))))
    all_goals try (exfalso;omega)
    ·obtain ⟨k1,k2,k3⟩:=key _ (hcut.trans ((if_neg (by omega)).trans (if_pos (.inl (by omega))))) (by simp only [List.length_append,hb,List.length_singleton];omega)
     refine RoundP.of (i + 1,_,m2 + 1,vs2++[I (p.fr + k * s.long),I p.to]) (HeadP.of [(2,some 75)] ⟨rfl,rfl,rfl,rfl,trivial⟩ ⟨rfl,rfl,trivial⟩) ⟨hlt,k1,k2, ?_,k3⟩ (by simp only;omega)
     simp only [← List.append_assoc]
     exact hr2.snoc _
    ·obtain ⟨k1,k2,k3⟩:=key _ (hcut.trans ((if_neg (by omega)).trans (if_pos (.inr (by omega))))) (by simp only [List.length_append,hb,List.length_singleton];omega)
     refine RoundP.of (i + 1,_,m2 + 1,vs2++[I (p.fr + k * s.long),I p.to]) (HeadP.of [(2,some 75)] ⟨rfl,rfl,rfl,rfl,trivial⟩ ⟨rfl,rfl,trivial⟩) ⟨hlt,k1,k2, ?_,k3⟩ (by simp only;omega)
     simp only [← List.append_assoc]
     exact hr2.snoc _
    ·have hk0:k≠0:=by omega
     obtain ⟨k',rfl⟩:∃ k',k = k' + 1:=⟨k - 1,by omega⟩
     obtain ⟨k1,k2,k3⟩:=key _ (hcut.trans ((if_neg (by omega)).trans (if_neg (by omega)))) (by simp only [List.length_append,hb,List.length_singleton];omega)
     refine RoundP.of (i + 1,_,m2,vs2.take (((m2:Int) - 1).toNat * 2 + 1)++[I p.to]++vs2.drop (((m2:Int) - 1).toNat * 2 + 1 + 1)) (HeadP.of [] ⟨rfl,rfl,rfl,rfl,trivial⟩ ⟨rfl,rfl,trivial⟩) ⟨hlt,k1,k2, ?_,k3⟩ (by simp only;omega)
     rw [baseF_succ, ← List.append_assoc] at hr2
     have:=row_setTo (b:=p.to) hr2 rfl
     rw [show ((m2:Int) - 1).toNat = m2 - 1 by omega]
     simp only [Nat.add_sub_cancel, ← List.append_assoc]
     exact this
    ·obtain ⟨k1,k2,k3⟩:=key _ (hcut.trans (if_pos (by omega))) (by simp only [hb];omega)
     refine RoundP.of (i + 1,_,m2,vs2) (HeadP.of [] ⟨rfl,rfl,rfl,rfl,trivial⟩ ⟨rfl,rfl,trivial⟩) ⟨hlt,k1,k2,hr2,k3⟩ (by simp only;omega)
  ·have:i = L.length:=by omega
   subst this
   simp only [List.drop_length,List.flatMap_nil,List.append_nil] at hx
   have hm:=hr.n
   refine PubP.mk (fun a1 c1 G1 hg1 hp=>W.mk ?_)
   (conv=>whnf)
   refine FinP.mk ?_
   rw [← hx]
   exact hr.pub hp (by omega)
end Go.Proofs.Ytefnikpoimaiiaa.L

namespace Go.Proofs.Ytefnikpoimaiiaa.L
open Go.Pal

set_option maxRecDepth 100000

def tabD:Tab Try.prog:=Tab.cons 36 _ takes33 body33 tabC

def faultF (s:Sit):Int:=if validF s = true then (if 40 < (takesF s).length then 3 else 0) else 1
theorem fault10:Sound Try.prog 9 id (gsca (args1 sitRd fun _=>True) fun s v=>v = I (faultF s)):=by
 refine comp10.gsca tabD (fun args G s h=>?_) (fun args G s h=>?_)
 ·obtain ⟨v,rfl,_⟩:=h;simp
 ·obtain ⟨v,rfl,⟨w,rfl,a,n,c,rfl,hl,hn⟩,_⟩:=h
  (conv=>whnf)
  refine ScaP.g (ok1 sitRd fun _=>True) (x:=s) ⟨_,rfl,⟨_,rfl,a,n,c,rfl,hl,hn⟩,trivial⟩ (fun v hv=>W.mk ?_)
  subst hv
  (conv=>whnf)
  refine ForkP.mk (fun hf=>W.mk ?_) (fun hf=>W.mk ?_)<;>(conv=>whnf)
  ·refine RelP.g (ok1 sitRd fun s=>validF s = true) (x:=s) ⟨_,rfl,⟨_,rfl,a,n,c,rfl,hl,hn⟩,hf⟩ (Grow.refl _) (fun v G1 hg1 hq=>W.mk ?_)
   obtain ⟨a1,n1,c1,rfl,hl1,hn1⟩:=hq
   have:=hl1.len
   (conv=>whnf)
   refine IteP.mk (fun h=>W.mk ?_) (fun h=>W.mk ?_)<;>(conv=>whnf)<;>refine FinP.mk ?_
   ·show I 3 = I (faultF s);rw [faultF,if_pos hf,if_pos (by omega)]
   ·show I 0 = I (faultF s);rw [faultF,if_pos hf,if_neg (by omega)]
  ·refine FinP.mk ?_
   show I 1 = I (faultF s);rw [faultF,if_neg (by simp [hf])]

theorem und27:Try.prog.underlying 47 = some (.slice 54):=by kernel_rfl
theorem clone70:Sound Try.prog 145 id (gown 54 2 (args1 (slRd spanE) fun l=>l.length≤8796093022207) fun l n vs=>Row spanE l n vs):=by
 refine comp70.gown (Tab.nil _) (ok1 _ _) (fun args G s h=>?_) (fun args G l h=>?_)
 ·obtain ⟨v,rfl,_⟩:=h;simp
 ·obtain ⟨v,rfl,⟨a,n,c,rfl,hl,hn⟩,hb⟩:=h
  have hlen:=hl.len
  obtain ⟨q1,q2,q3⟩:=hl.all
  (conv=>whnf)
  refine PurP.of _ (pur_sl_nil und27 a n c 0 0) (W.mk ?_)
  (conv=>whnf)
  refine ForkP.mk (fun hf=>W.mk ?_) (fun hf=>W.mk ?_)<;>(conv=>whnf)
  ·refine OwnFin.mk ?_
   have:l = []:=by
    by_cases h0:n = 0
    ·exact List.eq_nil_of_length_eq_zero (by omega)
    ·have:=hl.some h0;rw [this] at hf;cases hf
   subst this;exact Row.nil
  ·refine OblP.mk (fun h=>hl.some h) (W.mk ?_);(conv=>whnf)
   refine RdP.at q1 q2 (W.mk ?_);(conv=>whnf)
   refine OblP.mk q3 (W.mk ?_);(conv=>whnf)
   refine OblP.mk rfl (W.mk ?_);(conv=>whnf)
   refine OblP.mk (by omega) (W.mk ?_);(conv=>whnf)
   refine OwnFin.mk ⟨rfl,rfl,rfl, ?_⟩
   simp only [Nat.zero_add,List.nil_append]
   exact Row.of_all l hlen
end Go.Proofs.Ytefnikpoimaiiaa.L

namespace Go.Proofs.Ytefnikpoimaiiaa.L
open Go.Pal

set_option maxRecDepth 100000

def tabE:Tab Try.prog:=Tab.cons 9 _ fault10 body10 (Tab.cons 145 _ clone70 body70 (tabD))

def walkF:Int→List Span→List Span
 | _,[]=>[]
 | fr,p :: r=>(if fr < p.fr then [⟨fr,p.fr⟩] else [])++walkF p.to r
theorem walk_eq {len:Int}:∀ {l:List Span} {fr:Int},stretchesF len fr l = walkF fr (l++[⟨len,len⟩])
 | [],fr=>by simp [stretchesF,walkF]
 | p :: r,fr=>by simp [stretchesF,walkF,walk_eq (l:=r)]
def spanV (p:Span):List Value:=[.agg #[I p.fr,I p.to]]
def SitC (G:Hp) (b:Nat) (s:Sit):Prop:=∃ w,CellsAt G b 0 [I s.len,w,I s.long,I s.short]∧SlV spanE G w s.ps
def strS (b:Nat) (s:Sit):PSpec:=.seq (fun l args G Ys=>args = [.func (.yield l) #[] #[]]∧SitC G b s∧validF s = true∧Ys = (stretchesF s.len 0 s.ps).map spanV) (fun _ _=>True)
theorem str69 (b:Nat) (s:Sit):Sound Try.prog 144 (fun args=>(#[]:Array Value).toList++args++(#[.pointer (some ⟨b,0,none⟩)]:Array Value).toList) (strS b s):=by
 refine comp69.seq (Tab.cons 103 _ long61 body61 tabE) (fun l args G Ys h=>?_) (fun l Y k args G Ys h hseg=>?_)
 ·obtain ⟨rfl,_⟩:=h;simp
 ·obtain ⟨rfl,⟨w,hc,a,n,c,rfl,hl,hn⟩,hv,rfl⟩:=h
  obtain ⟨hv1,hv2,hv3,hv4⟩:=validF_iff.1 hv
  have hvl:=valid_len hv
  have hm:=spansOk_mem hv1
  have hlen:=hl.len
  rw [walk_eq] at hseg ⊢
  (conv=>whnf)
  repeat' (first | (refine ob ?_ ?_;(first | trivial | omega | (simp only [inR];omega) | exact ble (by rfl) | exact SlR.some ‹_› (by omega));(conv=>whnf)) | (refine ra ‹_› (by rfl) ?_;(conv=>whnf)) | (refine rb ‹_› (by rfl) ?_;(conv=>whnf)) | (refine rc ‹_› (by rfl) ?_;(conv=>whnf)) | (refine rd ‹_› (by rfl) ?_;(conv=>whnf)) | (refine FinP.mk ?_))
  refine OwnP.g (ok1 (slRd spanE) fun l=>l.length≤8796093022207) (x:=s.ps) ⟨_,rfl,⟨a,n,c,rfl,hl,hn⟩,by omega⟩ (Grow.refl _) (fun n1 vs1 G1 hg1 hr=>W.mk ?_)
  have hc1:=hc.grow hg1
  have hn1:=hr.n
  (conv=>whnf)
  repeat' (first | (refine ob ?_ ?_;(first | trivial | omega | (simp only [inR];omega) | exact ble (by rfl) | exact SlR.some ‹_› (by omega));(conv=>whnf)) | (refine ra ‹_› (by rfl) ?_;(conv=>whnf)) | (refine rb ‹_› (by rfl) ?_;(conv=>whnf)) | (refine rc ‹_› (by rfl) ?_;(conv=>whnf)) | (refine rd ‹_› (by rfl) ?_;(conv=>whnf)) | (refine FinP.mk ?_))
  have hr2:=hr.snoc ⟨s.len,s.len⟩ (us:=[I s.len,I s.len])
  generalize hP:s.ps++[⟨s.len,s.len⟩] = ps' at hseg hr2
  have hm':∀ p∈ps',0≤p.fr∧p.fr≤36000∧0≤p.to∧p.to≤36000:=fun p hp=>by
   rw [← hP] at hp
   rcases List.mem_append.1 hp with hp | hp
   ·have:=hm p hp;omega
   ·simp at hp;subst hp;simp;omega
  have hlen':ps'.length = n1 + 1:=by rw [← hP];simp;omega
  refine LoopP.of { α:=Nat × Int × List Span,fr:=fun x=>[(0, .v (.func (.yield l) #[] #[])),(3, .v (I x.2.1)),(16, .c (.row 1 (n1 + 1))),(17, .v (I (n1 + 1:Nat))),(18, .v (I x.1)),(POS, .c (.pos (k + x.2.2.length) false))],H:=fun x=>[(1, .row none (n1 + 1) (vs1++[I s.len,I s.len]) 54 2)],ok:=fun x _=>x.1≤n1 + 1∧0≤x.2.1∧x.2.1≤36000∧x.2.2++walkF x.2.1 (ps'.drop x.1) = walkF 0 ps',m:=fun x=>n1 + 1 - x.1 }
   (0,0,[]) (HeadP.of [(1,some 10)] ⟨rfl,rfl,rfl,rfl,rfl,rfl,trivial⟩ ⟨rfl,trivial⟩) ⟨Nat.zero_le _,by simp,by simp,rfl⟩ (fun _=>⟨rfl,rfl⟩) (fun x G' hG hx=>W.mk ?_)
  obtain ⟨i,fr,out⟩:=x
  obtain ⟨hi,hf0,hf1,hx⟩:=hx
  simp only at hi hf0 hf1 hx
  dsimp only
  (conv=>whnf)
  refine IteP.mk (fun hlt=>W.mk ?_) (fun hge=>W.mk ?_)<;>(conv=>whnf)
  ·have hlt:i < ps'.length:=by omega
   have hp:=hm' _ (List.getElem_mem hlt)
   rw [List.drop_eq_getElem_cons hlt,walkF] at hx
   repeat' (first | (refine ob ?_ ?_;(first | trivial | omega | (simp only [inR];omega) | exact ble (by rfl) | exact SlR.some ‹_› (by omega));(conv=>whnf)) | (refine ra ‹_› (by rfl) ?_;(conv=>whnf)) | (refine rb ‹_› (by rfl) ?_;(conv=>whnf)) | (refine rc ‹_› (by rfl) ?_;(conv=>whnf)) | (refine rd ‹_› (by rfl) ?_;(conv=>whnf)) | (refine FinP.mk ?_))
   refine EqP.row hr2 hlt (W.mk ?_);(conv=>whnf)
   refine OblP.mk ⟨_,_,rfl,by simp only [inR];omega⟩ (W.mk ?_);(conv=>whnf)
   refine IteP.mk (fun hf=>W.mk ?_) (fun hf=>W.mk ?_)<;>(conv=>whnf)
   ·refine CallvP.yl rfl (W.mk ?_);(conv=>whnf)
    rw [if_pos (by omega), ← List.append_assoc] at hx
    refine YieldP.mk ?_ (fun G2 hg2=>W.mk ?_) (fun G2 hg2=>W.mk ?_)
    ·rw [seg_get hseg (by rw [List.length_map, ← hx];simp)]
     rw [← hx]
     simp [spanV]
    ·(conv=>whnf)
     repeat' (first | (refine ob ?_ ?_;(first | trivial | omega | (simp only [inR];omega) | exact ble (by rfl) | exact SlR.some ‹_› (by omega));(conv=>whnf)) | (refine ra ‹_› (by rfl) ?_;(conv=>whnf)) | (refine rb ‹_› (by rfl) ?_;(conv=>whnf)) | (refine rc ‹_› (by rfl) ?_;(conv=>whnf)) | (refine rd ‹_› (by rfl) ?_;(conv=>whnf)) | (refine FinP.mk ?_))
     refine RoundP.of (i + 1,ps'[i].to,out++[⟨fr,ps'[i].fr⟩]) (HeadP.of [] ⟨rfl,rfl,rfl,rfl,rfl, ?_,trivial⟩ ⟨rfl,trivial⟩ (h5:=by show SV.c (.pos (k + out.length + 1) false) = SV.c (.pos (k + (out++[_]).length) false);simp [Nat.add_assoc])) ⟨by omega,by simp;omega,by simp;omega,by rw [← hx]⟩ (by simp only;omega)
     show SV.c (.pos (k + (out++[_]).length) false) = SV.c (.pos (k + out.length + 1) false)
     simp [Nat.add_assoc]
    ·(conv=>whnf)
     refine FinP.mk ⟨trivial,fun h=>by cases h⟩
   ·rw [if_neg (by omega),List.nil_append] at hx
    repeat' (first | (refine ob ?_ ?_;(first | trivial | omega | (simp only [inR];omega) | exact ble (by rfl) | exact SlR.some ‹_› (by omega));(conv=>whnf)) | (refine ra ‹_› (by rfl) ?_;(conv=>whnf)) | (refine rb ‹_› (by rfl) ?_;(conv=>whnf)) | (refine rc ‹_› (by rfl) ?_;(conv=>whnf)) | (refine rd ‹_› (by rfl) ?_;(conv=>whnf)) | (refine FinP.mk ?_))
    exact RoundP.of (i + 1,ps'[i].to,out) (HeadP.of [] ⟨rfl,rfl,rfl,rfl,rfl,rfl,trivial⟩ ⟨rfl,trivial⟩) ⟨by omega,by simp;omega,by simp;omega,hx⟩ (by simp only;omega)
  ·rw [List.drop_of_length_le (by omega),walkF,List.append_nil] at hx
   refine FinP.mk ⟨trivial,fun _=>?_⟩
   rw [List.length_map, ← hx]
end Go.Proofs.Ytefnikpoimaiiaa.L

namespace Go.Proofs.Ytefnikpoimaiiaa.L
open Go.Pal

set_option maxRecDepth 100000

theorem SitC.grow {G G':Hp} {b:Nat} {s:Sit} (hg:Grow G G') (h:SitC G b s):SitC G' b s:=let ⟨w,h1,h2⟩:=h;⟨w,h1.grow hg,h2.grow hg⟩
def StrV (G:Hp) (v:Value) (s:Sit):Prop:=∃ b,v = .func (.func 144) #[] #[.pointer (some ⟨b,0,none⟩)]∧SitC G b s
theorem str64:Sound Try.prog 104 id (grel (args1 sitRd fun _=>True) fun s v G=>StrV G v s):=by
 refine comp64.grel tabE (ok1 _ _) (fun args G s h=>?_) (fun x v G G' hg ⟨b,h1,h2⟩=>⟨b,h1,h2.grow hg⟩) (fun args G s h=>?_)
 ·obtain ⟨v,rfl,_⟩:=h;simp
 ·obtain ⟨v,rfl,⟨w,rfl,a,n,c,rfl,hl,hn⟩,hv⟩:=h
  (conv=>whnf)
  refine NameP.mk (fun b=>W.mk ?_)
  (conv=>whnf)
  refine PubAnyP.mk ⟨[0], ?_⟩
  (conv=>whnf)
  intro G' hg _ hc
  refine W.mk ?_
  (conv=>whnf)
  refine FinP.mk ⟨b,rfl,_,hc,a,n,c,rfl,SlR.grow (G:=G) (G':=G') (fun _ _ h=>h) hl hg,hn⟩

def tabF:Tab Try.prog:=Tab.cons 104 _ str64 body64 (Tab.cons 103 _ long61 body61 tabE)

theorem takes52:Sound Try.prog 73 id (grel (args1 sitRd fun s=>validF s = true) fun s v G=>SlV spanE G v (takesF s)):=by
 refine comp52.grel tabF (ok1 _ _) (fun args G s h=>?_) (fun x v G G' hg h=>h.grow hg) (fun args G s h=>?_)
 ·obtain ⟨v,rfl,_⟩:=h;simp
 ·obtain ⟨v,rfl,⟨w,rfl,a0,n0,c0,rfl,hl0,hn0⟩,hv⟩:=h
  obtain ⟨hv1,hv2,hv3,hv4⟩:=validF_iff.1 hv
  (conv=>whnf)
  refine RelP.g (ok1 sitRd fun _=>True) (x:=s) ⟨_,rfl,⟨_,rfl,a0,n0,c0,rfl,hl0,hn0⟩,trivial⟩ (Grow.refl _) (fun v G1 hg1 hq=>W.mk ?_)
  obtain ⟨b,rfl,hsc⟩:=hq
  obtain ⟨hch,hto⟩:=stretches_chain (fr:=0) hv1 (by omega) (by omega)
  have hT:takesF s = (stretchesF s.len 0 s.ps).flatMap (cutS s.long s.short):=rfl
  (conv=>whnf)
  refine RangeP.of ((stretchesF s.len 0 s.ps).map spanV) { α:=Nat × List Span × Nat × List Value,fr:=[(1, .c (.ptr 0 0)),(2, .c (.ptr 1 0))],k:=fun x=>x.1,H:=fun x=>[(0, .cells .anon [.val (I s.len), .val (.slice a0 n0 c0), .val (I s.long), .val (I s.short)] 51),(1, .cells .anon [.row 2 x.2.2.1] 47),(2, .row none x.2.2.1 x.2.2.2 54 2)],ok:=fun x _=>(x.2.1.length:Int)≤36000∧(∀ h:x.1 < (stretchesF s.len 0 s.ps).length,(x.2.1.length:Int)≤(stretchesF s.len 0 s.ps)[x.1].fr)∧Row spanE x.2.1 x.2.2.1 x.2.2.2∧x.2.1++((stretchesF s.len 0 s.ps).drop x.1).flatMap (cutS s.long s.short) = takesF s }
   (0,[],0,[]) (SoundFn.of body69 (str69 b s)) (fun l=>⟨rfl,hsc,hv,rfl⟩) (fun y hy=>by obtain ⟨p,_,rfl⟩:=List.mem_map.1 hy;rfl) rfl (HeadP.of [(2,none)] ⟨rfl,rfl,trivial⟩ ⟨rfl,rfl,rfl,trivial⟩) ⟨by simp,fun h=>by have:=(chain_drop 0 h hch).1;simpa using this,Row.nil,by simp [hT]⟩ ⟨rfl,fun _=>rfl⟩ (fun _ _ _ _ h=>h)
   (fun x y G2 hg2 hx hy=>W.mk ?_) (fun x G2 hg2 hx hk=>W.mk ?_)
  ·obtain ⟨i,out,m,vs⟩:=x
   obtain ⟨ho,hfr,hr,hx⟩:=hx
   simp only at ho hfr hx hr hy
   rw [List.getElem?_map] at hy
   obtain ⟨p,hp,rfl⟩:=Option.map_eq_some_iff.1 hy
   generalize stretchesF s.len 0 s.ps = L at hch hto hT ho hfr hx hp
   have hlt:i < L.length:=(List.getElem?_eq_some_iff.1 hp).1
   have hpe:L[i] = p:=(List.getElem?_eq_some_iff.1 hp).2
   obtain ⟨q1,q2,q3⟩:=chain_drop i hlt hch
   have q4:=hto _ (List.getElem_mem hlt)
   have hfr:=hfr hlt
   rw [List.drop_eq_getElem_cons hlt,List.flatMap_cons] at hx
   have hnext:∀ h:i + 1 < L.length,L[i].to≤L[i + 1].fr:=fun h=>by
    have:=(chain_drop 0 (by simp;omega) q3).1
    simpa using this
   rw [hpe] at q1 q2 q3 q4 hfr hx hnext
   clear hpe
   dsimp only [spanV]
   (conv=>whnf)
   refine OblP.mk ⟨_,_,rfl,by simp only [inR];omega⟩ (W.mk ?_);(conv=>whnf)
   obtain ⟨K,hK⟩:∃ K:Nat,(p.to - p.fr) / s.long = K:=⟨((p.to - p.fr) / s.long).toNat,by have:=Int.ediv_nonneg (show 0≤p.to - p.fr by omega) (show 0≤s.long by omega);omega⟩
   have hK1:(K:Int) * s.long≤p.to - p.fr:=by have:=Int.ediv_mul_le (p.to - p.fr) (show s.long≠0 by omega);rw [hK] at this;exact this
   have hK2:p.to - p.fr < K * s.long + s.long:=by have:=Int.lt_ediv_add_one_mul_self (p.to - p.fr) (show 0 < s.long by omega);rw [hK,Int.add_mul,Int.one_mul] at this;exact this
   have hcut:cutS s.long s.short p = if p.fr + K * s.long = p.to then baseF p.fr s.long K else if s.short≤p.to - (p.fr + K * s.long)∨K = 0 then baseF p.fr s.long K++[⟨p.fr + K * s.long,p.to⟩] else baseF p.fr s.long (K - 1)++[⟨p.fr + (K - 1:Nat) * s.long,p.to⟩]:=by
    simp only [cutS,hK,Int.toNat_natCast]
   have hKl:∀ j:Nat,j≤K→(j:Int) * s.long≤K * s.long∧(j:Int)≤j * s.long:=fun j hj=>⟨Int.mul_le_mul_of_nonneg_right (by omega) (by omega),by have:=Int.mul_le_mul_of_nonneg_left (show (1:Int)≤s.long by omega) (show (0:Int)≤j by omega);omega⟩
   have hKK:=hKl K (Nat.le_refl _)
   have key:∀ ts,cutS s.long s.short p = ts→(ts.length:Int)≤p.to - p.fr→((out++ts).length:Int)≤36000∧(∀ h:i + 1 < L.length,((out++ts).length:Int)≤L[i + 1].fr)∧(out++ts)++(L.drop (i + 1)).flatMap (cutS s.long s.short) = takesF s:=fun ts h1 h2=>by
    simp only [List.length_append]
    refine ⟨by omega,fun h=>by have:=hnext h;omega, ?_⟩
    rw [← hx,h1,List.append_assoc]
   have hb:∀ j,(baseF p.fr s.long j).length = j:=fun j=>by simp [baseF]
   have hrn:=hr.n
   repeat' (first | (refine ob ?_ ?_;(first | trivial | omega | (simp only [inR];omega) | exact ble (by rfl) | exact SlR.some ‹_› (by omega));(conv=>whnf)) | (refine ra ‹_› (by rfl) ?_;(conv=>whnf)) | (refine rb ‹_› (by rfl) ?_;(conv=>whnf)) | (refine rc ‹_› (by rfl) ?_;(conv=>whnf)) | (refine rd ‹_› (by rfl) ?_;(conv=>whnf)) | (refine FinP.mk ?_))
   rw [hK]
   refine LoopP.of { α:=Nat × Nat × List Value,fr:=fun x=>[(1, .c (.ptr 0 0)),(2, .c (.ptr 1 0)),(3, .c (.ptr 4 0)),(4, .v (I K)),(15, .v (I K)),(16, .v (I x.1))],H:=fun x=>[(0, .cells .anon [.val (I s.len), .val (.slice a0 n0 c0), .val (I s.long), .val (I s.short)] 51),(1, .cells .anon [.row 2 x.2.1] 47),(2, .row none x.2.1 x.2.2 54 2),(4, .cells .anon [.val (I p.fr), .val (I p.to)] 54)],ok:=fun x _=>x.1≤K∧Row spanE (out++baseF p.fr s.long x.1) x.2.1 x.2.2,m:=fun x=>K - x.1 }
    (0,m,vs) (HeadP.of [] ⟨rfl,rfl,rfl,rfl,rfl,rfl,trivial⟩ ⟨rfl,rfl,rfl,rfl,trivial⟩) ⟨Nat.zero_le _,by simpa [baseF] using hr⟩ (fun _=>⟨rfl,rfl⟩) (fun x G3 hg3 hx2=>W.mk ?_)
   obtain ⟨k,m2,vs2⟩:=x
   obtain ⟨hk,hr2⟩:=hx2
   simp only at hk hr2
   have hm2:=hr2.n
   simp only [List.length_append,hb] at hm2
   have hkl:=hKl k hk
   have hkm:((k:Int) + 1) * s.long = k * s.long + s.long:=by rw [Int.add_mul,Int.one_mul]
   dsimp only
   (conv=>whnf)
   refine IteP.mk (fun hlt2=>W.mk ?_) (fun hge2=>W.mk ?_)<;>(conv=>whnf)
   ·have hkl1:=hKl (k + 1) (by omega)
    simp only [Int.natCast_add,Int.cast_ofNat_Int,hkm] at hkl1
    repeat' (first | (refine ob ?_ ?_;(first | trivial | omega | (simp only [inR];omega) | exact ble (by rfl) | exact SlR.some ‹_› (by omega));(conv=>whnf)) | (refine OblP.mk (by simp only [inR];rw [hkm];omega) (W.mk ?_);(conv=>whnf)))
    refine RoundP.of (k + 1,m2 + 1,vs2++[I (p.fr + k * s.long),I (p.fr + (k + 1) * s.long)]) (HeadP.of [(2,some 35)] ⟨rfl,rfl,rfl,rfl,rfl,rfl,trivial⟩ ⟨rfl,rfl,rfl,rfl,trivial⟩) ⟨by simp only;omega, ?_⟩ (by simp only;omega)
    simp only [baseF_succ, ← List.append_assoc]
    exact hr2.snoc _
   ·have:k = K:=by omega
    subst this
    have hl2:vs2.length = m2 * 2:=hr2.len
    repeat' (first | (refine IteP.mk (fun _=>W.mk ?_) (fun _=>W.mk ?_)<;>(conv=>whnf)) | (refine OblP.mk ?_ (W.mk ?_);(show _≤vs2.length;omega);(conv=>whnf)) | (refine OblP.mk ⟨_,_,rfl,by simp only [inR];omega⟩ (W.mk ?_);(conv=>whnf)) | (refine ob ?_ ?_;(first | trivial | omega | (simp only [inR];omega) | exact ble (by rfl) | exact SlR.some ‹_› (by omega));(conv=>whnf)) | (first | (refine ra ‹_› (by rfl) ?_;(conv=>whnf)) | (refine rb ‹_› (by rfl) ?_;(conv=>whnf)) | (refine rc ‹_› (by rfl) ?_;(conv=>whnf)) | (refine rd ‹_› (by rfl) ?_;(conv=>whnf))))
    all_goals try (exfalso;omega)
    ·obtain ⟨k1,k2,k3⟩:=key _ (hcut.trans (if_pos (by omega))) (by simp only [hb];omega)
     exact RoundR.of (i + 1,_,m2,vs2) [] ⟨rfl,rfl,rfl,trivial⟩ ⟨k1,k2,hr2,k3⟩ rfl
    ·obtain ⟨k1,k2,k3⟩:=key _ (hcut.trans ((if_neg (by omega)).trans (if_pos (.inl (by omega))))) (by simp only [List.length_append,hb,List.length_singleton];omega)
     refine RoundR.of (i + 1,_,m2 + 1,vs2++[I (p.fr + k * s.long),I p.to]) [(2,some 68)] ⟨rfl,rfl,rfl,trivial⟩ ⟨k1,k2, ?_,k3⟩ rfl
     simp only [← List.append_assoc]
     exact hr2.snoc _
    ·obtain ⟨k1,k2,k3⟩:=key _ (hcut.trans ((if_neg (by omega)).trans (if_pos (.inr (by omega))))) (by simp only [List.length_append,hb,List.length_singleton];omega)
     refine RoundR.of (i + 1,_,m2 + 1,vs2++[I (p.fr + k * s.long),I p.to]) [(2,some 68)] ⟨rfl,rfl,rfl,trivial⟩ ⟨k1,k2, ?_,k3⟩ rfl
     simp only [← List.append_assoc]
     exact hr2.snoc _
    ·obtain ⟨k',rfl⟩:∃ k',k = k' + 1:=⟨k - 1,by omega⟩
     obtain ⟨k1,k2,k3⟩:=key _ (hcut.trans ((if_neg (by omega)).trans (if_neg (by omega)))) (by simp only [List.length_append,hb,List.length_singleton];omega)
     refine RoundR.of (i + 1,_,m2,vs2.take (((m2:Int) - 1).toNat * 2 + 1)++[I p.to]++vs2.drop (((m2:Int) - 1).toNat * 2 + 1 + 1)) [] ⟨rfl,rfl,rfl,trivial⟩ ⟨k1,k2, ?_,k3⟩ rfl
     rw [baseF_succ, ← List.append_assoc] at hr2
     have:=row_setTo (b:=p.to) hr2 rfl
     rw [show ((m2:Int) - 1).toNat = m2 - 1 by omega]
     simp only [Nat.add_sub_cancel, ← List.append_assoc]
     exact this
  ·obtain ⟨i,out,m,vs⟩:=x
   obtain ⟨ho,hfr,hr,hx⟩:=hx
   simp only at ho hr hx hk
   have hm:=hr.n
   rw [hk,List.length_map,List.drop_length,List.flatMap_nil,List.append_nil] at hx
   dsimp only
   (conv=>whnf)
   refine PubP.mk (fun a1 c1 G3 hg3 hp=>W.mk ?_)
   (conv=>whnf)
   refine FinP.mk ?_
   rw [← hx]
   exact hr.pub hp (by omega)
end Go.Proofs.Ytefnikpoimaiiaa.L

namespace Go.Proofs.Ytefnikpoimaiiaa.L
open Go.Pal

set_option maxRecDepth 100000

def tabG:Tab Try.prog:=Tab.cons 73 _ takes52 body52 tabF
def Calm (s:Sit):Prop:=∀ p∈s.ps,inR .i64 (p.to - p.fr)
theorem valid_calm {s:Sit} (h:validF s = true):Calm s:=fun p hp=>by
 obtain ⟨h1,h2,_⟩:=validF_iff.1 h
 have:=spansOk_mem h1 p hp
 simp only [inR];omega

theorem valid51:Sound Try.prog 72 id (gsca (args1 sitRd fun s=>Calm s) fun s v=>v = .bool (validF s)):=by
 refine comp51.gsca tabG (fun args G s h=>?_) (fun args G s h=>?_)
 ·obtain ⟨v,rfl,_⟩:=h;simp
 ·obtain ⟨v,rfl,⟨w,rfl,a,n,c,rfl,hl,hn⟩,hcalm⟩:=h
  have hlen:=hl.len
  (conv=>whnf)
  refine LoopP.of { α:=Nat × Int,fr:=fun x=>[(1, .c (.ptr 0 0)),(3, .v (I x.2)),(4, .v (.bool true)),(8, .v (.slice a n c)),(9, .v (I n)),(10, .v (I x.1))],H:=fun _=>[(0, .cells .anon [.val (I s.len), .val (.slice a n c), .val (I s.long), .val (I s.short)] 51)],ok:=fun x _=>x.1≤s.ps.length∧-1≤x.2∧spansOk s.len (-1) s.ps = spansOk s.len x.2 (s.ps.drop x.1),m:=fun x=>s.ps.length - x.1 }
   (0, -1) (HeadP.of [] ⟨rfl,rfl,rfl,rfl,rfl,rfl,trivial⟩ ⟨rfl,trivial⟩) ⟨Nat.zero_le _,by simp,rfl⟩ (fun _=>⟨rfl,rfl⟩) (fun x G' hG hx=>W.mk ?_)
  obtain ⟨i,last⟩:=x
  obtain ⟨hi,hla,hx⟩:=hx
  simp only at hi hla hx
  replace hl:=SlR.grow (G:=G) (G':=G') (fun _ _ h=>h) hl hG
  dsimp only
  (conv=>whnf)
  refine IteP.mk (fun hlt=>W.mk ?_) (fun hge=>W.mk ?_)<;>(conv=>whnf)
  ·have hlt:i < s.ps.length:=by omega
   have hc:=hl.el hlt
   have hcp:=hcalm _ (List.getElem_mem hlt)
   rw [List.drop_eq_getElem_cons hlt] at hx
   generalize s.ps[i] = p at hc hcp hx
   have hgs:goodSpan last s.len p = (decide (last < p.fr) && (decide (0 < p.to - p.fr) && decide (p.to≤s.len))):=by
    rw [Bool.eq_iff_iff,goodSpan_iff];simp only [Bool.and_eq_true,decide_eq_true_eq];omega
   rw [spansOk,hgs] at hx
   repeat' (first | (refine IteP.mk (fun _=>W.mk ?_) (fun _=>W.mk ?_)<;>(conv=>whnf)) | (refine OblP.mk ⟨_,_,rfl,hcp⟩ (W.mk ?_);(conv=>whnf)) | (refine ob ?_ ?_;(first | trivial | omega | (simp only [inR];omega) | exact ble (by rfl) | exact SlR.some ‹_› (by omega));(conv=>whnf)) | (first | (refine ra ‹_› (by rfl) ?_;(conv=>whnf)) | (refine rb ‹_› (by rfl) ?_;(conv=>whnf)) | (refine rc ‹_› (by rfl) ?_;(conv=>whnf)) | (refine rd ‹_› (by rfl) ?_;(conv=>whnf))))
   rotate_right
   ·have hb:(decide (last < p.fr) && (decide (0 < p.to - p.fr) && decide (p.to≤s.len))) = true:=by simp only [Bool.and_eq_true,decide_eq_true_eq];omega
    exact RoundP.of (i + 1,p.to) (HeadP.of [] ⟨rfl,rfl,rfl,rfl,rfl,rfl,trivial⟩ ⟨rfl,trivial⟩) ⟨by simp only;omega,by simp only [inR] at hcp;simp only;omega,by rw [hx,hb];rfl⟩ (by simp only;omega)
   all_goals
    have hb:(decide (last < p.fr) && (decide (0 < p.to - p.fr) && decide (p.to≤s.len))) = false:=by simp only [Bool.and_eq_false_iff,decide_eq_false_iff_not];omega
    refine FinP.mk ?_
    show Value.bool false = .bool (validF s)
    rw [validF,hx,hb];rfl
  ·have:i = s.ps.length:=by omega
   subst this
   simp only [List.drop_length,spansOk] at hx
   repeat' (first | (refine OblP.mk ⟨_,_,_,rfl⟩ (W.mk ?_);(conv=>whnf)) | (refine ForkP.mk (fun _=>W.mk ?_) (fun _=>W.mk ?_)<;>(conv=>whnf)) | (refine FinP.mk ?_))
   all_goals (refine congrArg Value.bool ?_;simp only [validF,hx];simp [*])
def ResV (G:Hp) (v:Value) (e:Int) (l:List Span):Prop:=∃ w,v = .tuple #[w,I e]∧(if e = 0 then SlV spanE G w l else w = .slice none 0 0)
theorem ResV.grow {G G':Hp} {v:Value} {e:Int} {l:List Span} (hg:Grow G G') (h:ResV G v e l):ResV G' v e l:=by
 obtain ⟨w,h1,h2⟩:=h
 refine ⟨w,h1, ?_⟩
 split at h2
 ·rename_i he;rw [if_pos he];exact h2.grow hg
 ·rename_i he;rw [if_neg he];exact h2
def tabH:Tab Try.prog:=Tab.cons 72 _ valid51 body51 tabG
theorem check35:Sound Try.prog 42 id (grel (args1 sitRd fun s=>Calm s) fun s v G=>ResV G v (faultF s) (takesF s)):=by
 refine comp35.grel tabH (ok1 _ _) (fun args G s h=>?_) (fun x v G G' hg h=>h.grow hg) (fun args G s h=>?_)
 ·obtain ⟨v,rfl,_⟩:=h;simp
 ·obtain ⟨v,rfl,⟨w,rfl,a,n,c,rfl,hl,hn⟩,hcalm⟩:=h
  (conv=>whnf)
  refine ScaP.g (ok1 sitRd fun s=>Calm s) (x:=s) ⟨_,rfl,⟨_,rfl,a,n,c,rfl,hl,hn⟩,hcalm⟩ (fun v hv=>W.mk ?_)
  subst hv
  (conv=>whnf)
  refine ForkP.mk (fun hf=>W.mk ?_) (fun hf=>W.mk ?_)<;>(conv=>whnf)
  ·refine RelP.g (ok1 sitRd fun s=>validF s = true) (x:=s) ⟨_,rfl,⟨_,rfl,a,n,c,rfl,hl,hn⟩,hf⟩ (Grow.refl _) (fun v G1 hg1 hq=>W.mk ?_)
   obtain ⟨a1,n1,c1,rfl,hl1,hn1⟩:=hq
   have:=hl1.len
   (conv=>whnf)
   refine IteP.mk (fun h=>W.mk ?_) (fun h=>W.mk ?_)<;>(conv=>whnf)<;>refine FinP.mk ?_
   ·have hf3:faultF s = 3:=by rw [faultF,if_pos hf,if_pos (by omega)]
    rw [hf3];exact ⟨_,rfl,rfl⟩
   ·have hf3:faultF s = 0:=by rw [faultF,if_pos hf,if_neg (by omega)]
    rw [hf3];exact ⟨_,rfl,a1,n1,c1,rfl,hl1,hn1⟩
  ·refine FinP.mk ?_
   have hf3:faultF s = 1:=by rw [faultF,if_neg (by simp [hf])]
   rw [hf3];exact ⟨_,rfl,rfl⟩
def tabI:Tab Try.prog:=Tab.cons 42 _ check35 body35 tabH
theorem takes12:Sound Try.prog 14 id (grel (args1 sitRd fun s=>Calm s) fun s v G=>ResV G v (faultF s) (takesF s)):=by
 refine comp12.grel tabI (ok1 _ _) (fun args G s h=>?_) (fun x v G G' hg h=>h.grow hg) (fun args G s h=>?_)
 ·obtain ⟨v,rfl,_⟩:=h;simp
 ·obtain ⟨v,rfl,⟨w,rfl,a,n,c,rfl,hl,hn⟩,hcalm⟩:=h
  (conv=>whnf)
  refine RelP.g (ok1 sitRd fun s=>Calm s) (x:=s) ⟨_,rfl,⟨_,rfl,a,n,c,rfl,hl,hn⟩,hcalm⟩ (Grow.refl _) (fun v G1 hg1 hq=>W.mk ?_)
  obtain ⟨w,rfl,hq⟩:=hq
  split at hq
  ·rename_i he
   obtain ⟨a1,n1,c1,rfl,hl1,hn1⟩:=hq
   (conv=>whnf)
   exact FinP.mk ⟨_,rfl,by rw [if_pos he];exact ⟨a1,n1,c1,rfl,hl1,hn1⟩⟩
  ·rename_i he
   subst hq
   (conv=>whnf)
   exact FinP.mk ⟨_,rfl,by rw [if_neg he]⟩
end Go.Proofs.Ytefnikpoimaiiaa.L

namespace Go.Proofs.Ytefnikpoimaiiaa.L
open Go.Pal

set_option maxRecDepth 100000

def spanRd:Rd Span:=⟨fun _ v p=>v = .agg #[I p.fr,I p.to],fun {_ _ x y} h h'=>by rw [h] at h';cases x;cases y;simp at h';simp [h'],fun {_ _ _ _} _ h=>h⟩
abbrev ptr (b:Nat):Value:=.pointer (some ⟨b,0,none⟩)
theorem sitting13:Sound Try.prog 15 id (grel (args1 sitRd fun s=>s.ps.length≤1000) fun s v G=>SitV G v s):=by
 refine comp13.grel (Tab.nil _) (ok1 _ _) (fun args G s h=>?_) (fun x v G G' hg h=>sitRd.grow hg h) (fun args G s h=>?_)
 ·obtain ⟨v,rfl,_⟩:=h;simp
 ·obtain ⟨v,rfl,⟨w,rfl,a,n,c,rfl,hl,hn⟩,hb⟩:=h
  have hlen:=hl.len
  (conv=>whnf)
  refine LoopP.of { α:=Nat × Nat × List Value,fr:=fun x=>[(1, .c (.ptr 0 0)),(2, .c (.ptr 1 0)),(3, .c (.ptr 9 0)),(4, .v (I x.1))],H:=fun x=>[(0, .cells .anon [.val (I s.len), .val (.slice a n c), .val (I s.long), .val (I s.short)] 24),(1, .cells .anon [.val (I 0), .val (.slice none 0 0), .val (I 0), .val (I 0)] 51),(9, .cells .anon [.val (I s.len), .row 10 x.2.1, .val (I s.long), .val (I s.short)] 51),(10, .row none x.2.1 x.2.2 54 2)],ok:=fun x _=>x.1≤s.ps.length∧Row spanE (s.ps.take x.1) x.2.1 x.2.2,m:=fun x=>s.ps.length - x.1 }
   (0,0,[]) (HeadP.of [(10,none)] ⟨rfl,rfl,rfl,rfl,trivial⟩ ⟨rfl,rfl,rfl,rfl,trivial⟩) ⟨Nat.zero_le _,Row.nil⟩ (fun _=>⟨rfl,rfl⟩) (fun x G' hG hx=>W.mk ?_)
  obtain ⟨i,m,vs⟩:=x
  obtain ⟨hi,hr⟩:=hx
  dsimp only at hi hr
  dsimp only
  replace hl:=SlR.grow (G:=G) (G':=G') (fun _ _ h=>h) hl hG
  have hm:=hr.n
  simp only [List.length_take] at hm
  (conv=>whnf)
  refine IteP.mk (fun hlt=>W.mk ?_) (fun hge=>W.mk ?_)<;>(conv=>whnf)
  ·have hlt:i < s.ps.length:=by omega
   have hc:=hl.el hlt
   repeat' (first | (refine ob ?_ ?_;(first | trivial | omega | (simp only [inR];omega) | exact ble (by rfl) | exact SlR.some ‹_› (by omega));(conv=>whnf)) | (first | (refine ra ‹_› (by rfl) ?_;(conv=>whnf)) | (refine rb ‹_› (by rfl) ?_;(conv=>whnf)) | (refine rc ‹_› (by rfl) ?_;(conv=>whnf)) | (refine rd ‹_› (by rfl) ?_;(conv=>whnf))))
   have et:s.ps.take (i + 1) = s.ps.take i++[s.ps[i]]:=List.take_succ_eq_append_getElem hlt
   exact RoundP.of (i + 1,m + 1,vs++[I s.ps[i].fr,I s.ps[i].to]) (HeadP.of [(10,some 33)] ⟨rfl,rfl,rfl,rfl,trivial⟩ ⟨rfl,rfl,rfl,rfl,trivial⟩) ⟨hlt,by show Row spanE (s.ps.take (i + 1)) _ _;rw [et];exact hr.snoc _⟩ (by simp only;omega)
  ·have:i = s.ps.length:=by omega
   subst this
   rw [List.take_length] at hr
   refine PubP.mk (fun a1 c1 G1 hg1 hp=>W.mk ?_)
   (conv=>whnf)
   exact FinP.mk ⟨_,rfl,hr.pub hp (by omega)⟩
def tabY:Tab Try.prog:=Tab.cons 9 _ fault10 body10 (Tab.cons 14 _ takes12 body12 (Tab.cons 15 _ sitting13 body13 (Tab.cons 11 _ paused14 body14 (Tab.cons 42 _ check35 body35 (Tab.cons 43 _ in37 body37 tabH)))))
theorem fault_valid {s:Sit} (h:faultF s = 0):validF s = true∧(takesF s).length≤40:=by
 unfold faultF at h
 split at h
 ·rename_i hv
  split at h
  ·cases h
  ·exact ⟨hv,by omega⟩
 ·cases h
theorem base_bd {a long:Int} (h0:1≤long):∀ {m:Nat}, ∀ q∈baseF a long m,a≤q.fr∧q.fr≤q.to∧q.to≤a + m * long
 | 0,q,hq=>by simp [baseF] at hq
 | m + 1,q,hq=>by
  rw [baseF_succ] at hq
  have e:((m + 1:Nat):Int) * long = m * long + long:=by rw [Int.natCast_add,Int.add_mul];omega
  have e':((m:Int) + 1) * long = m * long + long:=by rw [Int.add_mul];omega
  have hp:0≤(m:Int) * long:=Int.mul_nonneg (by omega) (by omega)
  rcases List.mem_append.1 hq with hq | hq
  ·have:=base_bd h0 (m:=m) q hq
   rw [e];omega
  ·simp only [List.mem_singleton] at hq
   subst hq
   simp only
   rw [e,e'];omega
theorem cut_bd {long short:Int} {p:Span} (h0:1≤long) (hp:p.fr≤p.to):∀ q∈cutS long short p,p.fr≤q.fr∧q.fr≤q.to∧q.to≤p.to:=by
 intro q hq
 have hd:0≤(p.to - p.fr) / long:=Int.ediv_nonneg (by omega) (by omega)
 have hmul:((p.to - p.fr) / long).toNat * long≤p.to - p.fr:=by
  have:=Int.ediv_mul_le (p.to - p.fr) (show long≠0 by omega)
  rwa [Int.toNat_of_nonneg hd]
 have hn:0≤(((p.to - p.fr) / long).toNat:Int) * long:=Int.mul_nonneg (by omega) (by omega)
 simp only [cutS] at hq
 generalize ((p.to - p.fr) / long).toNat = m at hq hmul hn
 have hb:∀ k:Nat,k≤m→(0≤(k:Int) * long∧(k:Int) * long≤m * long)∧∀ q∈baseF p.fr long k,p.fr≤q.fr∧q.fr≤q.to∧q.to≤p.to:=fun k hk=>by
  have h1:(k:Int) * long≤m * long:=Int.mul_le_mul_of_nonneg_right (by omega) (by omega)
  have h2:0≤(k:Int) * long:=Int.mul_nonneg (by omega) (by omega)
  refine ⟨⟨h2,h1⟩,fun q hq=>?_⟩
  have:=base_bd h0 q hq
  omega
 split at hq
 ·exact (hb m (Nat.le_refl _)).2 q hq
 ·split at hq
  ·rcases List.mem_append.1 hq with hq | hq
   ·exact (hb m (Nat.le_refl _)).2 q hq
   ·simp only [List.mem_singleton] at hq
    subst hq
    simp only;omega
  ·rcases List.mem_append.1 hq with hq | hq
   ·exact (hb (m - 1) (by omega)).2 q hq
   ·simp only [List.mem_singleton] at hq
    subst hq
    have:=(hb (m - 1) (by omega)).1
    simp only;omega
theorem chain_mem:∀ {l:List Span} {lo:Int},chain lo l→∀ p∈l,lo≤p.fr∧p.fr < p.to:=fun {l lo} h p hp=>by
 obtain ⟨i,hi,e⟩:=List.getElem_of_mem hp
 have:=chain_drop i hi h
 rw [← e];exact ⟨this.1,this.2.1⟩
theorem takes_bd {s:Sit} (h:validF s = true):∀ q∈takesF s,0≤q.fr∧q.fr≤q.to∧q.to≤s.len:=by
 intro q hq
 obtain ⟨h1,h2,h3,h4⟩:=validF_iff.1 h
 obtain ⟨c1,c2⟩:=stretches_chain (fr:=0) h1 (Int.le_refl _) (by omega)
 obtain ⟨p,hp,hq⟩:=List.mem_flatMap.1 hq
 have k1:=chain_mem c1 p hp
 have k2:=c2 p hp
 have:=cut_bd (by omega) (by omega) q hq
 omega
end Go.Proofs.Ytefnikpoimaiiaa.L

namespace Go.Proofs.Ytefnikpoimaiiaa.L
open Go.Pal

set_option maxRecDepth 100000

abbrev ledN (b:Nat) (n:Int):List LE:=[⟨b,false, .cells [I n] 3⟩]
abbrev closN (b:Nat):Value:=.func (.func 45) #[] #[ptr b]
theorem finN {H:Nat→Option OB} {b:Nat} {n:Int} (h:H 0 = some (.cells (.named b) [.val (I n)] 3)):finL H 0 (ledN b n) []:=⟨.cells [I n] 3,⟨_,h,rfl⟩,trivial,rfl,rfl⟩
def tabZ:Tab Try.prog:=Tab.cons 46 _ has40 body40 tabY
def hasN (b:Nat) (n:Int):PSpec:=.st (fun args ls _=>(∃ p:Span,args = [.agg #[I p.fr,I p.to]])∧ls = ledN b n) (fun args _ v ns _=>∃ p:Span,args = [.agg #[I p.fr,I p.to]]∧v = .bool (hasF p.fr p.to n)∧ns = [])
theorem has39 (b:Nat) (n:Int):Sound Try.prog 45 (fun a=>(#[]:Array Value).toList++a++(#[ptr b]:Array Value).toList) (hasN b n):=by
 refine ⟨fun args ls v ns G G' hg h=>h,fun args ls G Wd hsub hls hnd hpre=>?_⟩
 obtain ⟨⟨p,rfl⟩,rfl⟩:=hpre
 refine st_sound tabZ comp39 (svs:=[.agg [.val (I p.fr), .val (I p.to)], .c (.ptr 0 0)]) (obs:=[.cells (.named b) [.val (I n)] 3]) (by simp) hsub hls hnd (Nat.le_refl _) ?_ ?_ ?_
 ·refine ⟨⟨[I p.fr,I p.to],rfl,relL_vals _ [I p.fr,I p.to]⟩,fun c hc=>?_,⟨_,rfl,rfl⟩,(Nat.le_of_ble_eq_true rfl:0 < 1),trivial⟩
  simp at hc;rcases hc with rfl | rfl<;>trivial
 ·refine ⟨⟨_,rfl,relL_vals _ [I n], ?_⟩,trivial⟩
  intro c hc;simp at hc;subst hc;trivial
 ·(conv=>whnf)
  refine OblP.mk ⟨_,_,_,rfl⟩ (W.mk ?_)
  (conv=>whnf)
  refine ForkP.mk (fun hm=>W.mk ?_) (fun hm=>W.mk ?_)<;>(conv=>whnf)<;>refine FinS.mk ⟨_,finN rfl,p,rfl, ?_,rfl⟩<;>rw [hm]<;>rfl

def atF (n:Int) (l:List Span) (k:Nat):Int:=match l with
 | []=>-1
 | p :: t=>if hasF p.fr p.to n then (k:Int) else atF n t (k + 1)
def atS:PSpec:=.st (fun args ls G=>∃ b n,(∃ (w:Value) (l:List Span),args = [w,closN b]∧SlV spanE G w l)∧ls = ledN b n) (fun args ls v ns G=>∃ (b:Nat) (n:Int) (w:Value) (l:List Span),args = [w,closN b]∧ls = ledN b n∧SlV spanE G w l∧v = I (atF n l 0)∧ns = [])
theorem at38:Sound Try.prog 44 id atS:=by
 refine ⟨fun args ls v ns G G' hg h=>?_,fun args ls G Wd hsub hls hnd hpre=>?_⟩
 ·obtain ⟨b,n,w,l,h1,h0,h2,h3⟩:=h;exact ⟨b,n,w,l,h1,h0,h2.grow hg,h3⟩
 obtain ⟨b,m,⟨w,l,rfl,⟨a,n,c,rfl,hl,hn⟩⟩,rfl⟩:=hpre
 refine st_sound tabZ comp38 (svs:=[.v (.slice a n c), .v (closN b)]) (obs:=[.cells (.named b) [.val (I m)] 3]) (by simp) hsub hls hnd (Nat.le_refl _) ?_ ?_ ?_
 ·exact ⟨rfl,trivial,rfl,trivial,trivial⟩
 ·refine ⟨⟨_,rfl,relL_vals _ [I m], ?_⟩,trivial⟩
  intro c hc;simp at hc;subst hc;trivial
 ·have hlen:=hl.len
  (conv=>whnf)
  refine LoopP.of { α:=Nat,fr:=fun x=>[(0, .v (.slice a n c)),(1, .v (closN b)),(7, .v (I n)),(8, .v (I x))],H:=fun _=>[(0, .cells (.named b) [.val (I m)] 3)],ok:=fun x _=>x≤l.length∧atF m (l.drop x) x = atF m l 0,m:=fun x=>l.length - x }
   0 (HeadP.of [] ⟨rfl,rfl,rfl,rfl,trivial⟩ ⟨rfl,trivial⟩) ⟨Nat.zero_le _,rfl⟩ (fun _=>⟨rfl,rfl⟩) (fun (x:Nat) G' hG hx=>W.mk ?_)
  obtain ⟨hi,hx⟩:=hx
  replace hl:=SlR.grow (G:=G) (G':=G') (fun _ _ h=>h) hl hG
  (conv=>whnf)
  refine IteP.mk (fun hlt=>W.mk ?_) (fun hge=>W.mk ?_)<;>(conv=>whnf)
  ·have hlt:x < l.length:=by omega
   have hc:=hl.el hlt
   rw [List.drop_eq_getElem_cons hlt,atF] at hx
   repeat' (first | (refine ob ?_ ?_;(first | trivial | omega | (simp only [inR];omega) | exact ble (by rfl) | exact SlR.some ‹_› (by omega));(conv=>whnf)) | (first | (refine ra ‹_› (by rfl) ?_;(conv=>whnf)) | (refine rb ‹_› (by rfl) ?_;(conv=>whnf)) | (refine rc ‹_› (by rfl) ?_;(conv=>whnf)) | (refine rd ‹_› (by rfl) ?_;(conv=>whnf))))
   refine CallvP.fn _ (SoundFn.of body39 (has39 b m)) (W.mk ?_)
   (conv=>whnf)
   refine StP.mk ⟨[(0,⟨b,false, .cells [I m] 3⟩)],⟨⟨_,rfl,rfl⟩,trivial⟩,by simp,⟨⟨l[x],rfl⟩,rfl⟩,fun v ns G3 hg3 hpost=>W.mk ?_⟩
   obtain ⟨r,q1,rfl,rfl⟩:=hpost
   simp only [List.cons.injEq,and_true,Value.agg.injEq] at q1
   have hr:r = l[x]:=(spanRd.uniq (G:=G) (v:=.agg #[I l[x].fr,I l[x].to]) rfl (congrArg Value.agg q1)).symm
   subst hr
   (conv=>whnf)
   refine ForkP.mk (fun hm=>W.mk ?_) (fun hm=>W.mk ?_)<;>(conv=>whnf)
   ·refine FinS.mk ⟨_,finN rfl,_,_,_,l,rfl,rfl,⟨a,n,c,rfl,SlR.grow (G:=G') (G':=G3) (fun _ _ h=>h) hl hg3,hn⟩, ?_,rfl⟩
    rw [if_pos hm] at hx
    rw [← hx];rfl
   ·(refine ob ?_ ?_;(first | trivial | omega | (simp only [inR];omega) | exact ble (by rfl) | exact SlR.some ‹_› (by omega));(conv=>whnf))
    rw [if_neg (by rw [hm];decide)] at hx
    exact RoundP.of (x + 1) (HeadP.of [] ⟨rfl,rfl,rfl,rfl,trivial⟩ ⟨rfl,trivial⟩) ⟨hlt,hx⟩ (by simp only;omega)
  ·have:x = l.length:=by omega
   subst this
   rw [List.drop_length] at hx
   refine FinS.mk ⟨_,finN rfl,_,_,_,l,rfl,rfl,⟨a,n,c,rfl,hl,hn⟩, ?_,rfl⟩
   rw [← hx];rfl
def atE (s:Sit) (m:Int):Int:=if faultF s = 0 then (if inF m 0 (s.len - 1) = true then (if atF m (takesF s) 0 < 0 then 7 else 0) else 2) else faultF s
def atV (s:Sit) (m:Int):Int:=if atE s m = 0 then atF m (takesF s) 0 else 0
theorem at15:Sound Try.prog 16 id (gsca (args2 sitRd intRd fun s _=>Calm s) fun x v=>v = .tuple #[I (atV x.1 x.2),I (atE x.1 x.2)]):=by
 refine comp15.gsca (Tab.cons 44 _ at38 body38 tabZ) (fun args G s h=>?_) (fun args G x h=>?_)
 ·obtain ⟨u,v,rfl,_⟩:=h;simp
 ·obtain ⟨s,m⟩:=x
  obtain ⟨u,v,rfl,⟨w,rfl,a,n,c,rfl,hl,hn⟩,rfl,hcalm⟩:=h
  simp only at hl hcalm
  dsimp only
  (conv=>whnf)
  refine RelP.g (ok1 sitRd fun s=>Calm s) (x:=s) ⟨_,rfl,⟨_,rfl,a,n,c,rfl,hl,hn⟩,hcalm⟩ (Grow.refl _) (fun v G1 hg1 hq=>W.mk ?_)
  obtain ⟨w,rfl,hq⟩:=hq
  split at hq
  ·rename_i he
   obtain ⟨a1,n1,c1,rfl,hl1,hn1⟩:=hq
   (conv=>whnf)
   refine IteP.mk (fun h=>W.mk ?_) (fun h=>absurd he h)
   (conv=>whnf)
   obtain ⟨hv,_⟩:=fault_valid he
   have hln:=(validF_iff.1 hv).2.1
   (refine ob ?_ ?_;(first | trivial | omega | (simp only [inR];omega) | exact ble (by rfl) | exact SlR.some ‹_› (by omega));(conv=>whnf))
   refine OblP.mk ⟨_,_,_,rfl⟩ (W.mk ?_)
   (conv=>whnf)
   refine ForkP.mk (fun hm=>W.mk ?_) (fun hm=>W.mk ?_)<;>(conv=>whnf)
   ·refine NameP.mk (fun b=>W.mk ?_)
    (conv=>whnf)
    refine StP.mk ⟨[(1,⟨b,false, .cells [I m] 3⟩)],⟨⟨_,rfl,rfl⟩,trivial⟩,by simp,⟨b,m,⟨_,takesF s,rfl,⟨a1,n1,c1,rfl,hl1,hn1⟩⟩,rfl⟩,fun v ns G3 hg3 hpost=>W.mk ?_⟩
    obtain ⟨b',m',w',l',q1,q0,q2,rfl,rfl⟩:=hpost
    simp only [List.cons.injEq,and_true] at q1
    obtain ⟨rfl,_⟩:=q1
    have hl':l' = takesF s:=q2.uniq (SlV.grow hg3 ⟨a1,n1,c1,rfl,hl1,hn1⟩)
    subst hl'
    have hmm:m' = m:=by
     simp only [List.map_cons,List.map_nil,List.cons.injEq,LE.mk.injEq,LB.cells.injEq,Value.int.injEq,true_and,and_true] at q0
     omega
    subst hmm
    (conv=>whnf)
    refine IteP.mk (fun hq=>W.mk ?_) (fun hq=>W.mk ?_)<;>(conv=>whnf)<;>refine FinP.mk ?_
    ·have e0:atE s m' = 7:=by rw [atE,if_pos he,if_pos hm,if_pos hq]
     rw [atV,if_neg (by rw [e0];decide),e0];rfl
    ·have e0:atE s m' = 0:=by rw [atE,if_pos he,if_pos hm,if_neg hq]
     rw [atV,if_pos e0,e0];rfl
   ·refine FinP.mk ?_
    have e0:atE s m = 2:=by rw [atE,if_pos he,if_neg (by rw [hm];decide)]
    rw [atV,if_neg (by rw [e0];decide),e0];rfl
  ·rename_i he
   subst hq
   (conv=>whnf)
   refine IteP.mk (fun h=>absurd h he) (fun h=>W.mk ?_)
   (conv=>whnf)
   refine FinP.mk ?_
   have e0:atE s m = faultF s:=by rw [atE,if_neg he]
   rw [atV,if_neg (by rw [e0];exact he),e0];rfl
end Go.Proofs.Ytefnikpoimaiiaa.L

namespace Go.Proofs.Ytefnikpoimaiiaa.L
open Go.Pal
def sumL (l:List Span):Int:=(l.map fun p=>p.to - p.fr).sum
theorem sumL_append (l k:List Span):sumL (l++k) = sumL l + sumL k:=by
 induction l with
 | nil=>simp [sumL]
 | cons p r ih=>simp only [sumL,List.cons_append,List.map_cons,List.sum_cons] at *;omega
def Holds (m:Int) (p:Span):Prop:=p.fr≤m∧m < p.to
theorem base_cover {a long m:Int}:∀ {k:Nat},a≤m→m < a + k * long→∃ q∈baseF a long k,Holds m q
 | 0,h1,h2=>by simp at h2;omega
 | k + 1,h1,h2=>by
  have e:((k + 1:Nat):Int) * long = k * long + long:=by rw [Int.natCast_add,Int.add_mul];omega
  have e':((k:Int) + 1) * long = k * long + long:=by rw [Int.add_mul];omega
  rw [e] at h2
  rw [baseF_succ]
  by_cases h:m < a + k * long
  ·obtain ⟨q,hq,hh⟩:=base_cover h1 h
   exact ⟨q,by simp [hq],hh⟩
  ·exact ⟨⟨a + k * long,a + (k + 1) * long⟩,by simp,by simp only [Holds];rw [e'];omega⟩
theorem cut_cover {long short m:Int} {p:Span} (h:Holds m p):∃ q∈cutS long short p,Holds m q:=by
 obtain ⟨h1,h2⟩:=h
 simp only [cutS]
 generalize ((p.to - p.fr) / long).toNat = k
 have last:∀ j:Nat, ∃ q∈baseF p.fr long j++[⟨p.fr + j * long,p.to⟩],Holds m q:=fun j=>by
  by_cases h:m < p.fr + j * long
  ·obtain ⟨q,hq,hh⟩:=base_cover h1 h
   exact ⟨q,by simp [hq],hh⟩
  ·exact ⟨⟨p.fr + j * long,p.to⟩,by simp,by simp only [Holds];omega⟩
 split
 ·exact base_cover h1 (by omega)
 ·split
  ·exact last k
  ·exact last (k - 1)
theorem stretch_cover {len m:Int}:∀ {l:List Span} {fr:Int},fr≤m→m < len→(∃ p∈l,Holds m p)∨∃ q∈stretchesF len fr l,Holds m q
 | [],fr,h1,h2=>by
  right
  simp only [stretchesF]
  rw [if_pos (by omega)]
  exact ⟨⟨fr,len⟩,by simp,h1,h2⟩
 | p :: r,fr,h1,h2=>by
  by_cases ha:m < p.fr
  ·right
   refine ⟨⟨fr,p.fr⟩, ?_,h1,ha⟩
   simp only [stretchesF]
   rw [if_pos (by omega)]
   simp
  ·by_cases hb:m < p.to
   ·exact .inl ⟨p,by simp,by simp only [Holds];omega⟩
   ·rcases stretch_cover (len:=len) (l:=r) (fr:=p.to) (by omega) h2 with ⟨q,hq,hh⟩ | ⟨q,hq,hh⟩
    ·exact .inl ⟨q,by simp [hq],hh⟩
    ·exact .inr ⟨q,by simp only [stretchesF];simp [hq],hh⟩
theorem paused_iff {s:Sit} {m:Int}:pausedF s m = true↔∃ p∈s.ps,Holds m p:=by
 simp only [pausedF,List.any_eq_true,inF,decide_eq_true_eq,Holds]
 constructor
 ·rintro ⟨p,hp,h⟩;exact ⟨p,hp,by omega⟩
 ·rintro ⟨p,hp,h⟩;exact ⟨p,hp,by omega⟩
theorem takes_cover {s:Sit} {m:Int} (h1:0≤m) (h2:m < s.len) (hp:pausedF s m = false):∃ q∈takesF s,Holds m q:=by
 rcases stretch_cover (l:=s.ps) h1 h2 with h | ⟨q,hq,hh⟩
 ·rw [paused_iff.2 h] at hp;cases hp
 ·obtain ⟨t,ht,h⟩:=cut_cover (long:=s.long) (short:=s.short) hh
  exact ⟨t,List.mem_flatMap.2 ⟨q,hq,ht⟩,h⟩
theorem stretch_apart {len:Int}:∀ {l:List Span} {last fr:Int},spansOk len last l = true→0≤fr→fr≤last + 1→∀ q∈stretchesF len fr l, ∀ p∈l,q.to≤p.fr∨p.to≤q.fr
 | [],_,_,_,_,_,_,_,p,hp=>by cases hp
 | t :: r,last,fr,h,h0,h1,q,hq,p,hp=>by
  have hs:=h
  simp only [spansOk,Bool.and_eq_true,goodSpan_iff] at h
  have hch:=(stretches_chain (len:=len) (fr:=t.to) h.2 (by omega) (by omega)).1
  have hmem:=spansOk_mem h.2
  simp only [stretchesF] at hq
  rcases List.mem_append.1 hq with hq | hq
  ·split at hq
   ·simp only [List.mem_singleton] at hq
    subst hq
    rcases List.mem_cons.1 hp with rfl | hp
    ·exact .inl (Int.le_refl _)
    ·have:=hmem p hp;left;simp only;omega
   ·cases hq
  ·rcases List.mem_cons.1 hp with rfl | hp
   ·right;exact (chain_mem hch q hq).1
   ·exact stretch_apart h.2 (by omega) (by omega) q hq p hp
theorem takes_apart {s:Sit} (h:validF s = true) {m:Int} (hp:pausedF s m = true):∀ q∈takesF s, ¬ Holds m q:=by
 intro q hq hh
 obtain ⟨h1,h2,h3,h4⟩:=validF_iff.1 h
 obtain ⟨t,ht,hqt⟩:=List.mem_flatMap.1 hq
 obtain ⟨c1,_⟩:=stretches_chain (fr:=0) h1 (Int.le_refl _) (by omega)
 have:=chain_mem c1 t ht
 have hb:=cut_bd (by omega) (by omega) q hqt
 obtain ⟨p,hp,hpm⟩:=paused_iff.1 hp
 have:=stretch_apart (fr:=0) h1 (Int.le_refl _) (by omega) t ht p hp
 simp only [Holds] at hh hpm
 omega
theorem hasF_iff {p:Span} {m:Int}:hasF p.fr p.to m = true↔Holds m p:=by simp [hasF,Holds]
theorem atF_none {m:Int}:∀ {l:List Span} {k:Nat},(∀ q∈l, ¬ Holds m q)→atF m l k = -1
 | [],_,_=>rfl
 | p :: r,k,h=>by
  rw [atF,if_neg (by rw [hasF_iff];exact h p (by simp))]
  exact atF_none fun q hq=>h q (by simp [hq])
theorem atF_some {m:Int}:∀ {l:List Span} {k:Nat},(∃ q∈l,Holds m q)→∃ i, ∃ h:i < l.length,Holds m l[i]∧atF m l k = ((k + i:Nat):Int)
 | [],_,h=>by obtain ⟨q,hq,_⟩:=h;cases hq
 | p :: r,k,h=>by
  by_cases hm:Holds m p
  ·exact ⟨0,by simp,hm,by rw [atF,if_pos (hasF_iff.2 hm)];rfl⟩
  ·obtain ⟨q,hq,hh⟩:=h
   have:∃ q∈r,Holds m q:=by
    rcases List.mem_cons.1 hq with rfl | hq
    ·exact absurd hh hm
    ·exact ⟨q,hq,hh⟩
   obtain ⟨i,hi,h1,h2⟩:=atF_some (k:=k + 1) this
   refine ⟨i + 1,by simpa using hi,by simpa using h1, ?_⟩
   rw [atF,if_neg (by rw [hasF_iff];exact hm),h2]
   omega
end Go.Proofs.Ytefnikpoimaiiaa.L

namespace Go.Proofs.Ytefnikpoimaiiaa.L
open Go.Pal
end Go.Proofs.Ytefnikpoimaiiaa.L

namespace Go.Proofs.Ytefnikpoimaiiaa.L
open Go.Pal

set_option maxRecDepth 100000

theorem sumL_take {l:List Span} {i:Nat} (h:i < l.length):sumL (l.take (i + 1)) = sumL (l.take i) + (l[i].to - l[i].fr):=by
 rw [List.take_succ_eq_append_getElem h,sumL_append];simp [sumL]
theorem sumL_bd {B:Int}:∀ {l:List Span},(∀ p∈l,0≤p.to - p.fr∧p.to - p.fr≤B)→0≤sumL l∧sumL l≤B * l.length
 | [],_=>by simp [sumL]
 | p :: r,h=>by
  have h1:=sumL_bd (l:=r) fun q hq=>h q (by simp [hq])
  have h2:=h p (by simp)
  have e:sumL (p :: r) = (p.to - p.fr) + sumL r:=by simp [sumL]
  have e2:B * ((p :: r).length:Int) = B + B * r.length:=by simp only [List.length_cons,Int.natCast_add,Int.mul_add];omega
  rw [e,e2];omega

def u16Rd:Rd Nat:=⟨fun _ v x=>v = .int .u16 x∧x < 65536,fun {_ _ _ _} h h'=>by have:=h.1.symm.trans h'.1;simp at this;omega,fun {_ _ _ _} _ h=>h⟩
end Go.Proofs.Ytefnikpoimaiiaa.L

namespace Go.Proofs.Ytefnikpoimaiiaa
open Go.Pal Go.RowKit
set_option maxRecDepth 100000
/-! ### Seconds counted -/
def cnt (P:Nat→Bool):Nat→Int
 | 0=>0
 | i + 1=>cnt P i + cond (P i) 1 0
theorem cnt_mono {P Q:Nat→Bool}:∀ {n:Nat},(∀ i,i < n→P i = true→Q i = true)→cnt P n≤cnt Q n
 | 0,_=>Int.le_refl _
 | n + 1,h=>by
  have ih:=cnt_mono (P:=P) (Q:=Q) (n:=n) fun i hi=>h i (by omega)
  simp only [cnt]
  have:=h n (by omega)
  cases hp:P n with
  | false=>cases Q n<;>simp<;>omega
  | true=>rw [this hp];omega
theorem cnt_or (P Q:Nat→Bool):∀ n,cnt (fun i=>P i || Q i) n≤cnt P n + cnt Q n
 | 0=>Int.le_refl _
 | n + 1=>by
  have ih:=cnt_or P Q n
  simp only [cnt]
  cases P n<;>cases Q n<;>simp<;>omega
theorem cnt_int {fr to:Int} (h0:0≤fr) (h1:fr≤to) (n:Nat):cnt (fun i=>decide (fr≤(i:Int)∧(i:Int) < to)) n≤to - fr:=by
 have key:∀ n:Nat,cnt (fun i=>decide (fr≤(i:Int)∧(i:Int) < to)) n≤(if (n:Int)≤fr then 0 else if (n:Int)≤to then (n:Int) - fr else to - fr):=by
  intro n
  induction n with
  | zero=>simp only [cnt];split<;>(try split)<;>omega
  | succ n ih =>
   simp only [cnt]
   by_cases hh:fr≤(n:Int)∧(n:Int) < to
   ·rw [decide_eq_true hh,cond_true]
    repeat' split at ih
    all_goals (repeat' split)
    all_goals omega
   ·rw [decide_eq_false hh,cond_false]
    repeat' split at ih
    all_goals (repeat' split)
    all_goals omega
 have:=key n
 repeat' split at this
 all_goals omega
theorem cnt_any (n:Nat):∀ {l:List L.Span},(∀ q∈l,0≤q.fr∧q.fr≤q.to)→cnt (fun i=>l.any fun q=>decide (q.fr≤(i:Int)∧(i:Int) < q.to)) n≤L.sumL l
 | [],_=>by
  have:∀ n,cnt (fun _=>false) n = 0:=fun n=>by induction n with
   | zero=>rfl
   | succ n ih=>simp [cnt,ih]
  show cnt (fun _=>false) n≤_
  rw [this];exact Int.le_refl _
 | q :: l,h=>by
  have h1:=cnt_or (fun i=>decide (q.fr≤(i:Int)∧(i:Int) < q.to)) (fun i=>l.any fun q=>decide (q.fr≤(i:Int)∧(i:Int) < q.to)) n
  have h2:=cnt_int (h q (by simp)).1 (h q (by simp)).2 n
  have h3:=cnt_any n (l:=l) fun x hx=>h x (by simp [hx])
  have h4:L.sumL (q :: l) = (q.to - q.fr) + L.sumL l:=by simp [L.sumL]
  have h5:cnt (fun i=>(q :: l).any fun q=>decide (q.fr≤(i:Int)∧(i:Int) < q.to)) n≤cnt (fun i=>decide (q.fr≤(i:Int)∧(i:Int) < q.to) || l.any fun q=>decide (q.fr≤(i:Int)∧(i:Int) < q.to)) n:=cnt_mono fun i _ h=>by simpa using h
  omega
theorem cnt_takes {x:L.Sit} (hv:L.validF x = true) {n:Nat} (hn:(n:Int) = x.len):cnt (fun i=>!L.pausedF x i) n≤L.sumL (L.takesF x):=by
 refine Int.le_trans (cnt_mono (Q:=fun i=>(L.takesF x).any fun q=>decide (q.fr≤(i:Int)∧(i:Int) < q.to)) fun i hi hp=>?_) (cnt_any n fun q hq=>?_)
 ·obtain ⟨q,h1,h2⟩:=L.takes_cover (s:=x) (m:=i) (by omega) (by omega) (by simpa using hp)
  exact List.any_eq_true.2 ⟨q,h1,decide_eq_true h2⟩
 ·have:=L.takes_bd hv q hq
  exact ⟨this.1,this.2.1⟩
/-! ### The example -/
abbrev sc0:Sc:=⟨1,1,1,0,[⟨1,1⟩]⟩
theorem parts0:partsF sc0 begin4 ⟨1,1⟩ = [(⟨0,0⟩,⟨0,1,0,true⟩)]:=by decide +kernel
theorem sc0_all:ScAll sc0:=by
 refine ⟨⟨by decide,by decide,by decide,by decide,by decide⟩,fun m hm=>?_,fun m hm i h1 h2=>?_⟩
 ·have:m = ⟨1,1⟩:=by simpa using hm
  subst this;exact ⟨by decide,by decide⟩
 ·have:m = ⟨1,1⟩:=by simpa using hm
  subst this
  have h1:(1:Int)≤i:=h1
  have:∀ i:Nat,i < 15→1≤i→(1:Nat).testBit i = false:=by decide
  exact ⟨this i h2 (by omega),this i h2 (by omega)⟩
theorem rs0:∃ y,Rs sc0 1 y:=⟨⟨0,1,0,true⟩,begin4,rfl,⟨1,1⟩,rfl,⟨0,0⟩,by rw [parts0];simp⟩
abbrev sit0:L.Sit:=⟨5,[],9,1⟩
theorem fault0:L.faultF sit0 = 0:=by decide +kernel
theorem takes0:L.takesF sit0 = [⟨0,5⟩]:=by decide +kernel
def tabG8:Tab Try.prog:=Tab.cons 14 _ L.takes12 L.body12 (Tab.cons 12 _ tell12 body12 (Tab.nil _))
theorem sits8:Sound Try.prog 8 id (gsca (fun args _ (_:Unit)=>args = []) fun _ v=>v = .bool true):=by
 refine comp8.gsca tabG8 (fun args G s h=>?_) (fun args G s h=>?_)
 ·have h:args = []:=h
  subst h;simp
 ·have h:args = []:=h
  subst h
  (conv=>whnf)
  refine RelP.g (ok1 L.sitRd fun s=>L.Calm s) (x:=sit0) ⟨_,rfl,⟨_,rfl,SlV.nil⟩,fun p hp=>by simp at hp⟩ (Grow.refl _) (fun v G1 hg1 hq=>W.mk ?_)
  rw [fault0,takes0] at hq
  obtain ⟨w,rfl,hw⟩:=hq
  rw [if_pos rfl] at hw
  obtain ⟨a,n,c,rfl,hl,_⟩:=hw
  have hn:n = 1:=hl.len.symm
  subst hn
  have hel:=hl.el (i:=0) (by decide)
  (conv=>whnf)
  refine PubP.mk (fun a2 c2 G2 hg2 hp=>W.mk ?_)
  (conv=>whnf)
  refine RelP.g (ok1 scRd ScAll) (x:=sc0) ⟨_,rfl,⟨_,rfl,⟨a2,1,c2,rfl,hp.sl rfl rfl,by decide⟩⟩,sc0_all⟩ (Grow.refl _) (fun v G3 hg3 hq=>W.mk ?_)
  obtain ⟨w,e,rfl,⟨_,_,h1⟩ | ⟨rfl,_,out,y,hout,htel⟩⟩:=hq
  ·exact absurd rs0 h1
  obtain ⟨l',x',m',p',rfl,⟨rfl,rfl⟩,hm',hp'⟩:=htel
  have hm':(⟨1,1⟩:Mo) = m':=by simpa using hm'
  subst hm'
  rw [parts0] at hp'
  have hp0:p' = ⟨0,0⟩:=by simp at hp';exact hp'.1
  subst hp0
  obtain ⟨a3,n3,c3,rfl,hl3,_⟩:=hout
  have hn3:n3 = 1:=hl3.len.symm
  subst hn3
  have hel3:=hl3.el (i:=0) (by decide)
  (conv=>whnf)
  refine IteP.mk (fun _=>W.mk ?_) (fun h=>absurd rfl h)
  (conv=>whnf)
  refine IteP.mk (fun _=>W.mk ?_) (fun h=>absurd rfl h)
  (conv=>whnf)
  refine OblP.mk ⟨by decide,by decide⟩ (W.mk ?_)
  (conv=>whnf)
  refine OblP.mk (hl.some (by decide)) (W.mk ?_)
  (conv=>whnf)
  refine RdP.at (cs:=[I 0,I 5]) (hel.grow (hg2.trans hg3)) rfl (W.mk ?_)
  (conv=>whnf)
  refine PurP.of _ (pur_eq2 (t:=54) (e:=3) (by kernel_rfl) (by kernel_rfl) (by kernel_rfl) (by kernel_rfl) (by kernel_rfl) (by kernel_rfl) (by kernel_rfl) 0 5 0 5) (W.mk ?_)
  (conv=>whnf)
  refine ForkP.mk (fun _=>W.mk ?_) (fun h=>by cases h)
  (conv=>whnf)
  refine IteP.mk (fun _=>W.mk ?_) (fun h=>absurd rfl h)
  (conv=>whnf)
  refine IteP.mk (fun _=>W.mk ?_) (fun h=>absurd rfl h)
  (conv=>whnf)
  refine OblP.mk ⟨by decide,by decide⟩ (W.mk ?_)
  (conv=>whnf)
  refine OblP.mk (hl3.some (by decide)) (W.mk ?_)
  (conv=>whnf)
  refine RdP.at (cs:=[I 0,I 0]) hel3 rfl (W.mk ?_)
  (conv=>whnf)
  refine PurP.of _ (pur_eq2 (t:=58) (e:=3) (by kernel_rfl) (by kernel_rfl) (by kernel_rfl) (by kernel_rfl) (by kernel_rfl) (by kernel_rfl) (by kernel_rfl) 0 0 0 0) (W.mk ?_)
  (conv=>whnf)
  refine ForkP.mk (fun _=>W.mk ?_) (fun h=>by cases h)
  (conv=>whnf)
  exact FinP.mk rfl
end Go.Proofs.Ytefnikpoimaiiaa

namespace Go.Proofs.Ytefnikpoimaiiaa.L
open Go.Pal

set_option maxRecDepth 100000
def SlU {α:Type} (e:El α) (G:Hp) (v:Value) (l:List α):Prop:=∃ a n c,v = .slice a n c∧SlR e.k e.R G a n c l
theorem SlU.uniq {α:Type} {e:El α} {G:Hp} {v:Value} {x y:List α} (h:SlU e G v x) (h':SlU e G v y):x = y:=by
 obtain ⟨a,n,c,rfl,h⟩:=h
 obtain ⟨a',n',c',e',h'⟩:=h'
 cases e'
 exact h.uniq (fun cs x y h1 h2=>e.inj (h1.symm.trans h2)) h'
theorem SlU.grow {α:Type} {e:El α} {G G':Hp} {v:Value} {x:List α} (hg:Grow G G') (h:SlU e G v x):SlU e G' v x:=by
 obtain ⟨a,n,c,rfl,h⟩:=h
 exact ⟨a,n,c,rfl,SlR.grow (G:=G) (G':=G') (fun _ _ h=>h) h hg⟩
theorem SlU.v {α:Type} {e:El α} {G:Hp} {v:Value} {x:List α} (h:SlU e G v x) (hb:x.length≤140737488355328):SlV e G v x:=by
 obtain ⟨a,n,c,rfl,h⟩:=h
 exact ⟨a,n,c,rfl,h,by rw [← h.len];exact hb⟩
theorem SlV.u {α:Type} {e:El α} {G:Hp} {v:Value} {x:List α} (h:SlV e G v x):SlU e G v x:=by
 obtain ⟨a,n,c,rfl,h,_⟩:=h;exact ⟨a,n,c,rfl,h⟩
def SitU (G:Hp) (v:Value) (s:Sit):Prop:=∃ w,v = .agg #[I s.len,w,I s.long,I s.short]∧SlU spanE G w s.ps
end Go.Proofs.Ytefnikpoimaiiaa.L

namespace Go.Proofs.Ytefnikpoimaiiaa.L
open Go.Pal Go.ChangeShapes

theorem SlR.map {α β:Type} {k:Nat} {R:Hp→List Value→α→Prop} {R':Hp→List Value→β→Prop} {G:Hp} {a:Option Addr} {n c:Nat} {l:List α} (f:α→β) (hf:∀ cs x,R G cs x→R' G cs (f x)) (h:SlR k R G a n c l):SlR k R' G a n c (l.map f) :=
 ⟨by rw [List.length_map,h.len],h.cap,h.some,fun i hi=>by
  obtain ⟨cs,h1,h2,h3⟩:=h.at_ i (by simpa using hi)
  exact ⟨cs,h1,h2,by rw [List.getElem_map];exact hf _ _ h3⟩⟩
theorem und3:Try.prog.underlying 3 = some (.int .i64):=by kernel_rfl
theorem o3:Opens Try.prog 3 (cdInt .i64):=.int und3
abbrev cdSpan:=cdPair (cdInt .i64) (cdPair (cdInt .i64) cdUnit)
theorem o41:Opens Try.prog 119 cdSpan:=.struct (fs:=[(3,0),(3,1)]) (by kernel_rfl) (by kernel_rfl) (OpensF.cons o3 (OpensF.cons o3 OpensF.nil))
theorem o22:Opens Try.prog 22 (cdSl cdSpan):=.slice (e:=119) (by kernel_rfl) o41 (by decide)
abbrev cdSit:=cdPair (cdInt .i64) (cdPair (cdSl cdSpan) (cdPair (cdInt .i64) (cdPair (cdInt .i64) cdUnit)))
theorem o24:Opens Try.prog 24 cdSit:=.struct (fs:=[(3,0),(22,1),(3,2),(3,3)]) (by kernel_rfl) (by kernel_rfl) (OpensF.cons o3 (OpensF.cons o22 (OpensF.cons o3 (OpensF.cons o3 OpensF.nil))))
theorem o38:Opens Try.prog 37 (cdInt .u16):=.int (by kernel_rfl)
theorem o5:Opens Try.prog 5 (cdInt .u8):=.int (by kernel_rfl)
theorem span_cd {G:Hp} {cs:List Value} {x} (h:cdSpan.R G cs x):spanE.R G cs ⟨x.1,x.2.1⟩:=by
 obtain ⟨_,_,rfl,⟨rfl,_⟩,_,_,rfl,⟨rfl,_⟩,rfl⟩:=h;rfl
theorem sit_val {G:Hp} {v:Value} (h:∃ x,VR cdSit true G v x):∃ s,SitU G v s:=by
 obtain ⟨x,cs,rfl,_,_,e,⟨rfl,_⟩,_,_,rfl,⟨a,n,c,rfl,hl,_⟩,_,_,rfl,⟨rfl,_⟩,_,_,rfl,⟨rfl,_⟩,rfl⟩:=h
 refine ⟨⟨x.1,x.2.1.map fun p=>⟨p.1,p.2.1⟩,x.2.2.1,x.2.2.2.1⟩, .slice a n c, ?_,a,n,c,rfl,SlR.map _ (fun _ _ h=>span_cd h) hl⟩
 simp at e
 exact congrArg Value.agg (Array.toList_inj.1 e)
theorem ownK:ownKnob Try.checked.prog.godebug = none:=by kernel_rfl
theorem laidK:laidOutB Try.checked.prog = true:=by kernel_rfl
theorem boolK:Try.checked.prog.underlying 4 = some .bool:=by kernel_rfl
abbrev sit0:Value:=.agg #[.int .i64 0, .slice none 0 0, .int .i64 0, .int .i64 0]
end Go.Proofs.Ytefnikpoimaiiaa.L

namespace Go.Proofs.Ytefnikpoimaiiaa
open Go.Pal Go.RowKit
set_option maxRecDepth 100000
/-! ### Moments where nobody speaks -/
abbrev nb:Mo:=⟨32768,32768⟩
def mkF (P:Nat→Bool) (ms:List Mo) (i:Nat):List Mo:=ms.mapIdx fun k m=>cond (decide (k < i) && P k) nb m
theorem mkF_len {P:Nat→Bool} {ms:List Mo} {i:Nat}:(mkF P ms i).length = ms.length:=by simp [mkF]
theorem mkF_get {P:Nat→Bool} {ms:List Mo} {i k:Nat}:(mkF P ms i)[k]? = (ms[k]?).map fun m=>cond (decide (k < i) && P k) nb m:=by simp [mkF]
theorem mkF_zero {P:Nat→Bool} {ms:List Mo}:mkF P ms 0 = ms:=by
 apply List.ext_getElem?
 intro k
 rw [mkF_get]
 simp
theorem mkF_set {P:Nat→Bool} {ms:List Mo} {i:Nat} (hi:i < ms.length) (h:P i = true):(mkF P ms i).set i nb = mkF P ms (i + 1):=by
 apply List.ext_getElem?
 intro k
 by_cases e:i = k
 ·subst e
  rw [List.getElem?_set_self (by rw [mkF_len];exact hi),mkF_get,List.getElem?_eq_getElem hi]
  simp [h]
 ·rw [List.getElem?_set_ne e,mkF_get,mkF_get]
  congr 1
  funext m
  rw [show decide (k < i + 1) = decide (k < i) from decide_eq_decide.2 (by omega)]
theorem mkF_keep {P:Nat→Bool} {ms:List Mo} {i:Nat} (h:P i = false):mkF P ms i = mkF P ms (i + 1):=by
 apply List.ext_getElem?
 intro k
 rw [mkF_get,mkF_get]
 congr 1
 funext m
 by_cases e:i = k
 ·subst e;simp [h]
 ·rw [show decide (k < i + 1) = decide (k < i) from decide_eq_decide.2 (by omega)]
def mkS (P:Nat→Bool) (s:Sc):Sc:=⟨s.persons,s.least,s.most,s.short,mkF P s.ms s.ms.length⟩
theorem mem_mkF {P:Nat→Bool} {ms:List Mo} {i:Nat} {m:Mo} (h:m∈mkF P ms i):m = nb∨m∈ms:=by
 obtain ⟨k,hk⟩:=List.getElem?_of_mem h
 rw [mkF_get,Option.map_eq_some_iff] at hk
 obtain ⟨m',h1,h2⟩:=hk
 cases hc:(decide (k < i) && P k) with
 | true=>rw [hc] at h2;exact .inl h2.symm
 | false=>rw [hc] at h2;exact .inr (h2 ▸ List.mem_of_getElem? h1)
theorem mkS_all {P:Nat→Bool} {s:Sc} (h:RefOk s) (hm:MsOk s):ScAll (mkS P s):=by
 refine ⟨⟨h.ok.p,h.ok.m,h.ok.l,h.ok.sh,by show (mkF _ _ _).length≤40;rw [mkF_len];exact h.ok.n⟩,fun m hmm=>?_,fun m hmm i h1 h2=>?_⟩
 ·rcases mem_mkF hmm with rfl | h3
  ·exact ⟨by decide,by decide⟩
  ·exact hm m h3
 ·rcases mem_mkF hmm with rfl | h3
  ·have:∀ i:Nat,i < 15→(32768:Nat).testBit i = false:=by decide
   exact ⟨this i h2,this i h2⟩
  ·exact h.fit m h3 i h1 h2
theorem mkS_nb {P:Nat→Bool} {s:Sc} {i:Nat} (hi:i < s.ms.length) (h:P i = true):(mkS P s).ms[i]? = some nb:=by
 show (mkF P s.ms s.ms.length)[i]? = _
 rw [mkF_get,List.getElem?_eq_getElem hi]
 simp [hi,h]
def tabH3:Tab Try.prog:=Tab.cons 13 _ who13 body13 (Tab.cons 15 _ L.sitting13 L.body13 (Tab.cons 14 _ L.takes12 L.body12 (Tab.cons 16 _ L.at15 L.body15 (Tab.cons 11 _ L.paused14 L.body14 (Tab.cons 8 _ sits8 body8 (Tab.nil _))))))
/-! ### Pairs of numbers of any kind,compared -/
open Go in
theorem eq2k_run {P : Program} {t e : TypeId} {k : IntKind} (hu : (match P.underlying t with | some (.struct _) => true | _ => false) = true) (hf : (P.fieldsOf t).toList.map (fun f => (f.type, f.offset)) = [(e, 0), (e, 1)]) (hn : (P.fieldsOf t).toList.all (fun f => f.name != "_") = true) (he : P.underlying e = some (.int k)) (hz : szT P e = some 1)
  (hs:P.stoodInHeld t = false) (w:World) (a b c d:Int):(Op.equalIn 10000 t (.agg #[.int k a, .int k b]) (.agg #[.int k c, .int k d])).run P w = .ok (decide (a = c∧b = d)) w:=by
 have hS:P.underlying t = some (.struct (P.fieldsOf t)):=by
  unfold Program.fieldsOf
  cases hx:P.underlying t with
  | none=>rw [hx] at hu;cases hu
  | some u=>cases u<;>first | rfl | (rw [hx] at hu;cases hu)
 rw [show (10000:Nat) = 9999 + 1 from rfl,run_equalIn_struct w 9999 t _ _ hS hs]
 generalize (P.fieldsOf t).toList = fs at hf hn
 have hag:aggT P e = some false:=by simp [aggT,he]
 have hsz:=run_sizeOf' (P:=P) (W:=w) (t:=e) (n:=1) hz
 have hgg:=run_isAgg' (P:=P) (W:=w) (t:=e) (g:=false) hag
 obtain ⟨f1,f2,rfl⟩:∃ f1 f2,fs = [f1,f2]:=by
  have hl:=congrArg List.length hf
  simp only [List.length_map,List.length_cons,List.length_nil] at hl
  cases fs with
  | nil=>cases hl
  | cons f1 fs =>
   cases fs with
   | nil=>cases hl
   | cons f2 fs =>
    cases fs with
    | nil=>exact ⟨f1,f2,rfl⟩
    | cons f3 fs=>simp at hl
 ·
  simp only [List.map_cons,List.map_nil,List.cons.injEq,Prod.mk.injEq,and_true] at hf
  obtain ⟨⟨t1,o1⟩,t2,o2⟩:=hf
  simp only [List.all_cons,List.all_nil,Bool.and_true,Bool.and_eq_true,bne_iff_ne,ne_eq] at hn
  have he1:=fun a b=>run_equalIn_int (P:=P) w 9998 e k k a b he
  simp only [Op.eqFields,t1,o1,t2,o2,hn.1,hn.2,ne_eq,not_false_eq_true,if_true]
  simp [part,hsz,hgg,he1,Result.andThen]
  by_cases h1:a = c
  ·subst h1
   by_cases h2:b = d
   ·subst h2;simp [he1]
   ·simp [he1,h2]
  ·simp [h1]
open Go in
theorem pur_ne2k {P : Program} {t e : TypeId} {k : IntKind} (hu : (match P.underlying t with | some (.struct _) => true | _ => false) = true) (hf : (P.fieldsOf t).toList.map (fun f => (f.type, f.offset)) = [(e, 0), (e, 1)]) (hn : (P.fieldsOf t).toList.all (fun f => f.name != "_") = true) (he : P.underlying e = some (.int k)) (hz : szT P e = some 1)
  (hs:P.stoodInHeld t = false) (hg:P.eqGuardType P.depth t = false) (a b c d:Int):∀ w,((POp.bin .neq t).sem [.agg #[.int k a, .int k b], .agg #[.int k c, .int k d]]).run P w = .ok (.bool (!decide (a = c∧b = d))) w:=fun w=>by
 have e1:(POp.bin .neq t).sem [.agg #[.int k a, .int k b], .agg #[.int k c, .int k d]] = (do eqGuard .neq t (.tmp 0) (.tmp 0) (.agg #[.int k a, .int k b]) (.agg #[.int k c, .int k d]);binOp .neq t (.agg #[.int k a, .int k b]) (.agg #[.int k c, .int k d])):=rfl
 rw [e1]
 simp [run_eqGuard_agg w .neq t _ _ _ _ hg,run_neq_struct,eq2k_run hu hf hn he hz hs w,Result.andThen]
/-! ### Which take has a second -/
theorem at_paused {x:L.Sit} (hf:L.faultF x = 0) (hv:L.validF x = true) {j:Nat} (hj:(j:Int) < x.len) (hp:L.pausedF x j = true):L.atE x j = 7:=by
 rw [L.atE,if_pos hf,if_pos (by simp only [L.inF,decide_eq_true_eq];omega),L.atF_none (L.takes_apart hv hp)];rfl
theorem at_take {x:L.Sit} (hf:L.faultF x = 0) {j:Nat} (hj:(j:Int) < x.len) (hp:L.pausedF x j = false):∃ k, ∃ h:k < (L.takesF x).length,L.Holds j (L.takesF x)[k]∧L.atE x j = 0∧L.atV x j = k:=by
 obtain ⟨k,hk,hh,he⟩:=L.atF_some (m:=(j:Int)) (k:=0) (L.takes_cover (by omega) hj hp)
 have h7:L.atE x j = 0:=by
  rw [L.atE,if_pos hf,if_pos (by simp only [L.inF,decide_eq_true_eq];omega),he,if_neg (by omega)]
 exact ⟨k,hk,hh,h7,by rw [L.atV,if_pos h7,he];omega⟩
set_option maxHeartbeats 4000000 in
theorem law3 (x:L.Sit) (y:Sc) (hms:MsOk y):Sound Try.prog 3 id (.hp (fun args p G=>p = (fun _=>none)∧∃ v w,args = [v,w]∧L.SitU G v x∧ScU G w y) fun _ _ v _ _=>v = .bool true):=by
 refine comp3.hp tabH3 (fun args p G h=>?_) (fun args p v p' G G' hg h=>h) (fun args p G h=>?_)
 ·obtain ⟨_,v,w,rfl,_⟩:=h;simp
 ·obtain ⟨rfl,v,w,rfl,⟨w1,rfl,a,n,c,rfl,hl⟩,⟨a2,n2,c2,rfl,hl2⟩⟩:=h
  have hln:=hl.len
  have hln2:=hl2.len
  (conv=>whnf)
  refine IteP.mk (fun h60=>W.mk ?_) (fun h60=>W.mk ?_)<;>(conv=>whnf)
  ·refine CallH.mk _ sits8 body8 (W.mk ?_)
   (conv=>whnf)
   refine ScaP.mk ⟨(),rfl⟩ (fun v hv=>W.mk ?_)
   obtain ⟨_,_,rfl⟩:=hv
   (conv=>whnf)
   refine ForkP.mk (fun _=>W.mk ?_) (fun h=>by cases h)
   (conv=>whnf)
   refine NmP.mk ⟨[],W.mk ?_⟩
   (conv=>whnf)
   exact FinHp.of rfl rfl
  have h60:¬ (n:Int) > 60:=h60
  refine CallH.mk _ thin6 body6 (W.mk ?_)
  (conv=>whnf)
  refine ScaP.g (ok1 scuRd fun _=>True) (x:=y) ⟨_,rfl,⟨a2,n2,c2,rfl,hl2⟩,trivial⟩ (fun v hv=>W.mk ?_)
  subst hv
  (conv=>whnf)
  refine ForkP.mk (fun h45=>W.mk ?_) (fun h45=>W.mk ?_)<;>(conv=>whnf)
  rotate_left
  ·refine CallH.mk _ sits8 body8 (W.mk ?_)
   (conv=>whnf)
   refine ScaP.mk ⟨(),rfl⟩ (fun v hv=>W.mk ?_)
   obtain ⟨_,_,rfl⟩:=hv
   (conv=>whnf)
   refine ForkP.mk (fun _=>W.mk ?_) (fun h=>by cases h)
   (conv=>whnf)
   refine NmP.mk ⟨[],W.mk ?_⟩
   (conv=>whnf)
   exact FinHp.of rfl rfl
  have h45:y.ms.length≤45:=of_decide_eq_true h45
  refine CallH.mk _ fault7 body7 (W.mk ?_)
  (conv=>whnf)
  refine ScaP.g (ok1 scuRd MsOk) (x:=y) ⟨_,rfl,⟨a2,n2,c2,rfl,hl2⟩,hms⟩ (fun v hv=>W.mk ?_)
  obtain ⟨e,rfl,hfo⟩:=hv
  (conv=>whnf)
  refine IteP.mk (fun h0=>W.mk ?_) (fun h0=>W.mk ?_)<;>(conv=>whnf)
  rotate_left
  ·refine CallH.mk _ sits8 body8 (W.mk ?_)
   (conv=>whnf)
   refine ScaP.mk ⟨(),rfl⟩ (fun v hv=>W.mk ?_)
   obtain ⟨_,_,rfl⟩:=hv
   (conv=>whnf)
   refine ForkP.mk (fun _=>W.mk ?_) (fun h=>by cases h)
   (conv=>whnf)
   refine NmP.mk ⟨[],W.mk ?_⟩
   (conv=>whnf)
   exact FinHp.of rfl rfl
  have hro:RefOk y:=hfo h0
  refine IteP.mk (fun hz=>W.mk ?_) (fun hz=>W.mk ?_)<;>(conv=>whnf)
  ·refine CallH.mk _ sits8 body8 (W.mk ?_)
   (conv=>whnf)
   refine ScaP.mk ⟨(),rfl⟩ (fun v hv=>W.mk ?_)
   obtain ⟨_,_,rfl⟩:=hv
   (conv=>whnf)
   refine ForkP.mk (fun _=>W.mk ?_) (fun h=>by cases h)
   (conv=>whnf)
   refine NmP.mk ⟨[],W.mk ?_⟩
   (conv=>whnf)
   exact FinHp.of rfl rfl
  have hz:¬ (n2:Int) = 0:=hz
  have h40:=hro.ok.n
  refine CallH.mk _ L.fault10 L.body10 (W.mk ?_)
  (conv=>whnf)
  have hsv:L.SitV G (.agg #[I n2, .slice a n c,I x.long,I x.short]) ⟨n2,x.ps,x.long,x.short⟩:=⟨_,rfl,a,n,c,rfl,hl,by omega⟩
  refine ScaP.g (ok1 L.sitRd fun _=>True) (x:=⟨n2,x.ps,x.long,x.short⟩) ⟨_,rfl,hsv,trivial⟩ (fun v hv=>W.mk ?_)
  subst hv
  (conv=>whnf)
  refine IteP.mk (fun hf=>W.mk ?_) (fun hf=>W.mk ?_)<;>(conv=>whnf)
  rotate_left
  ·refine CallH.mk _ sits8 body8 (W.mk ?_)
   (conv=>whnf)
   refine ScaP.mk ⟨(),rfl⟩ (fun v hv=>W.mk ?_)
   obtain ⟨_,_,rfl⟩:=hv
   (conv=>whnf)
   refine ForkP.mk (fun _=>W.mk ?_) (fun h=>by cases h)
   (conv=>whnf)
   refine NmP.mk ⟨[],W.mk ?_⟩
   (conv=>whnf)
   exact FinHp.of rfl rfl
  have hf:L.faultF ⟨n2,x.ps,x.long,x.short⟩ = 0:=hf
  obtain ⟨hv,hl40⟩:=L.fault_valid hf
  have hcalm:=L.valid_calm hv
  let P:Nat→Bool:=fun k=>L.pausedF ⟨n2,x.ps,x.long,x.short⟩ k
  refine CallH.mk _ (scene10h y h45) body10 (W.mk ?_)
  (conv=>whnf)
  refine HpcP.mk ⟨⟨_,rfl,⟨a2,n2,c2,rfl,hl2⟩⟩,rfl⟩ (fun v p1 G1 hg1 hq=>W.mk ?_)
  obtain ⟨sw,rfl,hrow⟩:=hq
  rcases hrow with ⟨rfl,h0⟩ | ⟨bo,co,rest,rfl,hbo,ho1,ho2,ho3⟩
  ·rw [h0] at hln2;simp at hln2;omega
  (conv=>whnf)
  refine LoopP.of { α:=Nat × Hp,fr:=fun z=>[(2, .c (.ptr 1000 0)),(5, .c (.ptr 1037 0)),(6, .v (I z.1))],H:=fun z=>[(0, .heap z.2),(1000, .cells .anon ([I n2, .slice a n c,I x.long,I x.short].map .val) 24),(1037, .cells .anon ((scL y (.slice (some ⟨bo,0,none⟩) y.ms.length co)).map .val) 34)],ok:=fun z _=>z.1≤y.ms.length∧z.2 bo = some (.cells (flat moE (mkF P y.ms z.1)++rest).toArray 39 (0,0)),m:=fun z=>y.ms.length - z.1 }
   (0,p1) (HeadP.of [] ⟨rfl,rfl,rfl,trivial⟩ ⟨rfl,rfl,rfl,trivial⟩) ⟨Nat.zero_le _,by show p1 bo = some (Obj.cells (flat moE (mkF P y.ms 0)++rest).toArray 39 (0,0));rw [mkF_zero];exact hbo⟩ (fun _=>⟨rfl,rfl⟩) (fun z G' hG hz2=>W.mk ?_)
  obtain ⟨i,p⟩:=z
  obtain ⟨hi,hb⟩:=hz2
  dsimp only at hi hb
  dsimp only
  replace hl:=SlR.grow (G:=G) (G':=G') (fun _ _ h=>h) hl (hg1.trans hG)
  have hsv:L.SitV G' (.agg #[I n2, .slice a n c,I x.long,I x.short]) ⟨n2,x.ps,x.long,x.short⟩:=⟨_,rfl,a,n,c,rfl,hl,by omega⟩
  have hml:(mkF P y.ms i).length = y.ms.length:=mkF_len
  (conv=>whnf)
  refine IteP.mk (fun hlt=>W.mk ?_) (fun hge=>W.mk ?_)<;>(conv=>whnf)
  ·have hlt:i < y.ms.length:=by have hlt:(i:Int) < (y.ms.length:Nat):=hlt;omega
   refine CallH.mk _ L.paused14 L.body14 (W.mk ?_)
   (conv=>whnf)
   refine ScaP.g (ok2 L.sitRd intRd fun s _=>L.validF s = true) (x:=(⟨n2,x.ps,x.long,x.short⟩,(i:Int))) ⟨_,_,rfl,hsv,rfl,hv⟩ (fun v hv2=>W.mk ?_)
   subst hv2
   (conv=>whnf)
   refine ForkP.mk (fun hp=>W.mk ?_) (fun hp=>W.mk ?_)<;>(conv=>whnf)
   ·have hp:P i = true:=hp
    refine OblP.mk ⟨by omega,by omega⟩ (W.mk ?_)
    (conv=>whnf)
    have hlen:(flat moE (mkF P y.ms i)++rest).length = co * 2:=by rw [List.length_append,flat_len,hml,ho1,show moE.k = 2 from rfl];omega
    refine OblP.mk rfl (W.mk ?_)
    (conv=>whnf)
    refine HpkP.mk ⟨_,39,hb,W.mk ?_⟩
    (conv=>whnf)
    refine OblP.mk ?_ (W.mk ?_)
    ·show 0 + i * 2 + 2≤_
     rw [hlen];omega
    (conv=>whnf)
    (refine ob ?_ ?_;(first | trivial | omega | (simp only [inR];omega) | exact ble (by rfl) | exact SlR.some ‹_› (by omega));(conv=>whnf))
    refine RoundP.of (i + 1,_) (HeadP.of [] ⟨rfl,rfl,rfl,trivial⟩ ⟨rfl,rfl,rfl,trivial⟩) ⟨hlt, ?_⟩ (by show y.ms.length - (i + 1) < y.ms.length - i;omega)
    have e1:=flat_set moE (mkF P y.ms i) rest [U 32768,U 32768] (d:=0) (n:=2) (x:=nb) (by rw [hml];exact hlt) (by decide) rfl
    rw [mkF_set hlt hp] at e1
    have e2:(flat moE (mkF P y.ms i)++rest).take (0 + i * 2)++[U 32768,U 32768]++(flat moE (mkF P y.ms i)++rest).drop (0 + i * 2 + 2) = flat moE (mkF P y.ms (i + 1))++rest:=by rw [Nat.zero_add];exact e1
    show upd p bo (some (Obj.cells ((flat moE (mkF P y.ms i)++rest).take (0 + i * 2)++[U 32768,U 32768]++(flat moE (mkF P y.ms i)++rest).drop (0 + i * 2 + 2)).toArray 39 (0,0))) bo = some (Obj.cells (flat moE (mkF P y.ms (i + 1))++rest).toArray 39 (0,0))
    rw [e2]
    exact upd_same _ _ _
   ·have hp:P i = false:=hp
    (refine ob ?_ ?_;(first | trivial | omega | (simp only [inR];omega) | exact ble (by rfl) | exact SlR.some ‹_› (by omega));(conv=>whnf))
    exact RoundP.of (i + 1,_) (HeadP.of [] ⟨rfl,rfl,rfl,trivial⟩ ⟨rfl,rfl,rfl,trivial⟩) ⟨hlt,by show p bo = some (Obj.cells (flat moE (mkF P y.ms (i + 1))++rest).toArray 39 (0,0));rw [← mkF_keep hp];exact hb⟩ (by show y.ms.length - (i + 1) < y.ms.length - i;omega)
  ·have hin:i = y.ms.length:=by have hge:¬ (i:Int) < (y.ms.length:Nat):=hge;omega
   subst hin
   refine CallH.pub (PubAnyP.mk ⟨[0], ?_⟩)
   (conv=>whnf)
   intro G2 hg2 hp2
   (conv=>whnf)
   refine W.mk (CallH.mk _ tell12 body12 (W.mk ?_))
   (conv=>whnf)
   have hrow:RowH moE 39 p (.slice (some ⟨bo,0,none⟩) y.ms.length co) (mkF P y.ms y.ms.length):=.inr ⟨bo,co,rest,by rw [hml],hb,by rw [hml];exact ho1,by rw [hml];exact ho2,ho3⟩
   have hsc:ScV G2 (.agg (scL y (.slice (some ⟨bo,0,none⟩) y.ms.length co)).toArray) (mkS P y):=⟨_,rfl,hrow.slV hp2 (by omega)⟩
   have hall:=mkS_all (P:=P) hro hms
   refine RelP.g (ok1 scRd ScAll) (x:=mkS P y) ⟨_,rfl,hsc,hall⟩ (Grow.refl _) (fun v G3 hg3 hq=>W.mk ?_)
   obtain ⟨w1,e1,rfl,hq⟩:=hq
   obtain ⟨aw,nw,cw,rfl⟩:=TellV.sl hq
   (conv=>whnf)
   refine RelP.g (ok1 scRd ScAll) (x:=mkS P y) ⟨_,rfl,hsc.grow hg3,hall⟩ (Grow.refl _) (fun v G4 hg4 hq2=>W.mk ?_)
   obtain ⟨w2,e2,rfl,hq2⟩:=hq2
   obtain ⟨at_,nt,ct,rfl⟩:=WhoV.sl hq2
   have hgs:=(hg2.trans hg3).trans hg4
   have hsv4:=L.sitRd.grow hgs hsv
   (conv=>whnf)
   refine RelP.g (ok1 L.sitRd fun s=>s.ps.length≤1000) (x:=⟨n2,x.ps,x.long,x.short⟩) ⟨_,rfl,hsv4,by show x.ps.length≤1000;omega⟩ (Grow.refl _) (fun v G5 hg5 hq3=>W.mk ?_)
   obtain ⟨_,rfl,sa,sn,sc,rfl,hsl⟩:=hq3
   have hsv5:L.sitRd.R G5 (.agg #[I n2, .slice sa sn sc,I x.long,I x.short]) ⟨n2,x.ps,x.long,x.short⟩:=⟨_,rfl,sa,sn,sc,rfl,hsl⟩
   (conv=>whnf)
   refine RelP.g (ok1 L.sitRd fun s=>L.Calm s) (x:=⟨n2,x.ps,x.long,x.short⟩) ⟨_,rfl,hsv5,hcalm⟩ (Grow.refl _) (fun v G6 hg6 hq4=>W.mk ?_)
   obtain ⟨lv,rfl,hlv⟩:=hq4
   rw [if_pos hf] at hlv
   obtain ⟨la,ln,lc,rfl,hll,hlb⟩:=hlv
   rw [hf]
   (conv=>whnf)
   refine IteP.mk (fun _=>W.mk ?_) (fun h=>absurd rfl h)
   (conv=>whnf)
   have hee:e1 = e2:=by
    rcases hq with ⟨h1,_,h2⟩ | ⟨h1,h2,_⟩<;>rcases hq2 with ⟨h3,_,h4⟩ | ⟨h3,h4,_⟩
    ·rw [h1,h3]
    ·exact absurd h4 h2
    ·exact absurd h2 h4
    ·rw [h1,h3]
   subst hee
   refine IteP.mk (fun _=>W.mk ?_) (fun h=>absurd rfl h)
   (conv=>whnf)
   refine IteP.mk (fun he0=>W.mk ?_) (fun he0=>W.mk ?_)<;>(conv=>whnf)
   rotate_left
   ·have he10:e1 = 10:=by
     rcases hq with ⟨h1,_⟩ | ⟨h1,_⟩
     ·exact h1
     ·exact absurd h1 he0
    subst he10
    refine IteP.mk (fun _=>W.mk ?_) (fun h=>absurd rfl h)
    (conv=>whnf)
    refine ScaP.mk ⟨(),rfl⟩ (fun v hv=>W.mk ?_)
    obtain ⟨_,_,rfl⟩:=hv
    (conv=>whnf)
    refine ForkP.mk (fun _=>W.mk ?_) (fun h=>by cases h)
    (conv=>whnf)
    refine NmP.mk ⟨[],W.mk ?_⟩
    (conv=>whnf)
    exact FinHp.mk ⟨fun _=>none,(fun b o e=>by cases e),rfl⟩
   have he0:e1 = 0:=he0
   subst he0
   rcases hq with ⟨h1,_⟩ | ⟨_,_,out,yT,⟨_,_,_,heq,hout,_⟩,htel⟩
   ·cases h1
   cases heq
   rcases hq2 with ⟨h1,_⟩ | ⟨_,_,ws,⟨_,_,_,heq,hws,_⟩,hwok⟩
   ·cases h1
   cases heq
   have hol:out.length = y.ms.length:=by rw [htel.len];exact mkF_len
   have hwl:ws.length = y.ms.length:=by rw [hwok.len];exact mkF_len
   have hol2:=hout.len
   have hwl2:=hws.len
   refine IteP.mk (fun _=>W.mk ?_) (fun h=>absurd (show (nw:Int) = n2 by omega) h)
   (conv=>whnf)
   refine IteP.mk (fun _=>W.mk ?_) (fun h=>absurd (show (nt:Int) = n2 by omega) h)
   (conv=>whnf)
   have hll0:=hll
   have hlnl:=hll.len
   have hl40':(L.takesF ⟨n2,x.ps,x.long,x.short⟩).length≤40:=hl40
   have hbd:=L.takes_bd hv
   have htl:∀ p∈L.takesF ⟨n2,x.ps,x.long,x.short⟩,0≤p.to - p.fr∧p.to - p.fr≤36000:=fun p hp=>by
    have h1:=hbd p hp
    obtain ⟨_,h2,h3,h4⟩:=L.validF_iff.1 hv
    simp only at h1 h2 h3 h4
    omega
   refine LoopP.of { α:=Nat × Unit,fr:=fun z=>[(2, .c (.ptr 1000 0)),(7, .v (.slice aw nw cw)),(9, .v (.slice at_ nt ct)),(11, .v (.slice la ln lc)),(13, .v (I (L.sumL ((L.takesF ⟨n2,x.ps,x.long,x.short⟩).take z.1)))),(14, .v (I z.1))],H:=fun _=>[(1000, .cells .anon ([I n2, .slice a n c,I x.long,I x.short].map .val) 24)],ok:=fun z _=>z.1≤ln,m:=fun z=>ln - z.1 }
    (0,()) (HeadP.of [] ⟨rfl,rfl,rfl,rfl,rfl,rfl,trivial⟩ ⟨rfl,trivial⟩) (Nat.zero_le _) (fun _=>⟨rfl,rfl⟩) (fun z G7 hG7 hz2=>W.mk ?_)
   obtain ⟨i,_⟩:=z
   have hi:i≤ln:=hz2
   clear hz2
   dsimp only
   replace hll:=SlR.grow (G:=G6) (G':=G7) (fun _ _ h=>h) hll hG7
   have hsb:=L.sumL_bd (B:=36000) (l:=(L.takesF ⟨n2,x.ps,x.long,x.short⟩).take i) fun p hp=>htl p (List.take_subset _ _ hp)
   have hti:((L.takesF ⟨n2,x.ps,x.long,x.short⟩).take i).length = i:=by rw [List.length_take];omega
   rw [hti] at hsb
   (conv=>whnf)
   refine IteP.mk (fun hlt=>W.mk ?_) (fun hge=>W.mk ?_)<;>(conv=>whnf)
   ·have hlt:i < (L.takesF ⟨n2,x.ps,x.long,x.short⟩).length:=by have hlt:(i:Int) < ln:=hlt;omega
    have hc:=hll.el hlt
    have hb:=htl _ (List.getElem_mem hlt)
    have hs1:=L.sumL_take hlt
    repeat' (first | (refine ob ?_ ?_;(first | trivial | omega | (simp only [inR];omega) | exact ble (by rfl) | exact SlR.some ‹_› (by omega));(conv=>whnf)) | (first | (refine ra ‹_› (by rfl) ?_;(conv=>whnf)) | (refine rb ‹_› (by rfl) ?_;(conv=>whnf)) | (refine rc ‹_› (by rfl) ?_;(conv=>whnf)) | (refine rd ‹_› (by rfl) ?_;(conv=>whnf))))
    exact RoundP.of (i + 1,()) (HeadP.of [] ⟨rfl,rfl,rfl,rfl,congrArg (fun z=>SV.v (I z)) hs1,rfl,trivial⟩ ⟨rfl,trivial⟩) (by show i + 1≤ln;omega) (by show ln - (i + 1) < ln - i;omega)
   ·have hge:¬ (i:Int) < ln:=hge
    have hin:i = (L.takesF ⟨n2,x.ps,x.long,x.short⟩).length:=by omega
    rw [hin,List.take_length] at hsb ⊢
    clear hll
    generalize hS:L.sumL (L.takesF ⟨n2,x.ps,x.long,x.short⟩) = S at hsb ⊢
    refine LoopP.of { α:=Nat × Nat,fr:=fun z=>[(2, .c (.ptr 1000 0)),(7, .v (.slice aw nw cw)),(9, .v (.slice at_ nt ct)),(11, .v (.slice la ln lc)),(13, .v (I (S - z.2))),(15, .v (I z.1))],H:=fun _=>[(1000, .cells .anon ([I n2, .slice a n c,I x.long,I x.short].map .val) 24)],ok:=fun z _=>z.1≤n2∧(z.2:Int)≤cnt (fun i=>!P i) z.1∧z.2≤z.1,m:=fun z=>n2 - z.1 }
     (0,0) (HeadP.of [] ⟨rfl,rfl,rfl,rfl,congrArg (fun z=>SV.v (I z)) (show S - ((0:Nat):Int) = S by omega),rfl,trivial⟩ ⟨rfl,trivial⟩) ⟨Nat.zero_le _,Int.le_refl 0,Nat.le_refl 0⟩ (fun _=>⟨rfl,rfl⟩) (fun z G8 hG8 hz2=>W.mk ?_)
    obtain ⟨j,k⟩:=z
    obtain ⟨hj,hk,hkj⟩:=hz2
    dsimp only at hj hk hkj
    dsimp only
    replace hl:=SlR.grow (G:=G') (G':=G8) (fun _ _ h=>h) hl ((((hgs.trans hg5).trans hg6).trans hG7).trans hG8)
    replace hll0:=SlR.grow (G:=G6) (G':=G8) (fun _ _ h=>h) hll0 (hG7.trans hG8)
    replace hout:=SlR.grow (G:=G3) (G':=G8) (fun _ _ h=>h) hout ((((hg4.trans hg5).trans hg6).trans hG7).trans hG8)
    replace hws:=SlR.grow (G:=G4) (G':=G8) (fun _ _ h=>h) hws (((hg5.trans hg6).trans hG7).trans hG8)
    have hsv8:L.SitV G8 (.agg #[I n2, .slice a n c,I x.long,I x.short]) ⟨n2,x.ps,x.long,x.short⟩:=⟨_,rfl,a,n,c,rfl,hl,by omega⟩
    (conv=>whnf)
    refine IteP.mk (fun hlt=>W.mk ?_) (fun hge=>W.mk ?_)<;>(conv=>whnf)
    ·have hlt:(j:Int) < n2:=hlt
     refine RelP.g (ok1 L.sitRd fun s=>s.ps.length≤1000) (x:=⟨n2,x.ps,x.long,x.short⟩) ⟨_,rfl,hsv8,by show x.ps.length≤1000;omega⟩ (Grow.refl _) (fun v G9 hg9 hq3=>W.mk ?_)
     obtain ⟨_,rfl,sa,sn,sc,rfl,hsl⟩:=hq3
     have hsv9:L.sitRd.R G9 (.agg #[I n2, .slice sa sn sc,I x.long,I x.short]) ⟨n2,x.ps,x.long,x.short⟩:=⟨_,rfl,sa,sn,sc,rfl,hsl⟩
     replace hll0:=SlR.grow (G:=G8) (G':=G9) (fun _ _ h=>h) hll0 hg9
     replace hout:=SlR.grow (G:=G8) (G':=G9) (fun _ _ h=>h) hout hg9
     replace hws:=SlR.grow (G:=G8) (G':=G9) (fun _ _ h=>h) hws hg9
     (conv=>whnf)
     refine ScaP.g (ok2 L.sitRd intRd fun s _=>L.Calm s) (x:=(⟨n2,x.ps,x.long,x.short⟩,(j:Int))) ⟨_,_,rfl,hsv9,rfl,hcalm⟩ (fun v hv=>W.mk ?_)
     subst hv
     dsimp only
     have hA1:=at_paused (x:=⟨n2,x.ps,x.long,x.short⟩) hf hv hlt
     have hA2:=at_take (x:=⟨n2,x.ps,x.long,x.short⟩) hf hlt
     generalize L.atE ⟨n2,x.ps,x.long,x.short⟩ j = ev at hA1 hA2
     generalize L.atV ⟨n2,x.ps,x.long,x.short⟩ j = vv at hA2
     have hjo:j < out.length:=by omega
     have hjw:j < ws.length:=by omega
     have hjy:j < y.ms.length:=by omega
     have hel:=hout.el hjo
     have hew:=hws.el hjw
     have hmsl:(mkS P y).ms.length = y.ms.length:=mkF_len
     (conv=>whnf)
     refine ScaP.g (ok2 L.sitRd intRd fun s _=>L.validF s = true) (x:=(⟨n2,x.ps,x.long,x.short⟩,(j:Int))) ⟨_,_,rfl,L.sitRd.grow hg9 hsv8,rfl,hv⟩ (fun v hv2=>W.mk ?_)
     subst hv2
     (conv=>whnf)
     refine ForkP.mk (fun hp=>W.mk ?_) (fun hp=>W.mk ?_)
     ·have hp:P j = true:=hp
      have hev:=hA1 hp
      subst hev
      have hoj:out[j] = ⟨-1, -1⟩:=by
       obtain ⟨x',m,y',h1,h2,_⟩:=htel.at j _ (List.getElem?_eq_getElem hjo)
       rw [mkS_nb hjy hp] at h1
       cases h1
       exact parts_nobody hall.ok h2
      have hwj:ws[j] = (32768,32768):=by
       have:=hwok.lo j (by omega) (mkS_nb hjy hp)
       rw [List.getElem?_eq_getElem hjw] at this
       injection this
      rw [hoj] at hel
      rw [hwj] at hew
      (conv=>whnf)
      refine IteP.mk (fun _=>W.mk ?_) (fun h=>absurd rfl h)
      (conv=>whnf)
      refine OblP.mk ⟨by omega,by omega⟩ (W.mk ?_)
      (conv=>whnf)
      refine OblP.mk (hout.some (by omega)) (W.mk ?_)
      (conv=>whnf)
      refine RdP.at (cs:=[I (-1),I (-1)]) hel rfl (W.mk ?_)
      (conv=>whnf)
      refine PurP.of _ (pur_ne2 (t:=58) (e:=3) (by kernel_rfl) (by kernel_rfl) (by kernel_rfl) (by kernel_rfl) (by kernel_rfl) (by kernel_rfl) (by kernel_rfl) (-1) (-1) (-1) (-1)) (W.mk ?_)
      (conv=>whnf)
      refine ForkP.mk (fun h=>by cases h) (fun _=>W.mk ?_)
      (conv=>whnf)
      refine OblP.mk ⟨by omega,by omega⟩ (W.mk ?_)
      (conv=>whnf)
      refine OblP.mk (hws.some (by omega)) (W.mk ?_)
      (conv=>whnf)
      refine RdP.at (cs:=[U 32768,U 32768]) hew rfl (W.mk ?_)
      (conv=>whnf)
      refine PurP.of _ (pur_ne2k (t:=59) (e:=37) (k:=.u16) (by kernel_rfl) (by kernel_rfl) (by kernel_rfl) (by kernel_rfl) (by kernel_rfl) (by kernel_rfl) (by kernel_rfl) 32768 32768 32768 32768) (W.mk ?_)
      (conv=>whnf)
      refine ForkP.mk (fun h=>by cases h) (fun _=>W.mk ?_)
      (conv=>whnf)
      (refine ob ?_ ?_;(first | trivial | omega | (simp only [inR];omega) | exact ble (by rfl) | exact SlR.some ‹_› (by omega));(conv=>whnf))
      exact RoundP.of (j + 1,k) (HeadP.of [] ⟨rfl,rfl,rfl,rfl,rfl,rfl,trivial⟩ ⟨rfl,trivial⟩) ⟨by show j + 1≤n2;omega,by simp only [cnt,hp,Bool.not_true,cond_false];omega,by show k≤j + 1;omega⟩ (by show n2 - (j + 1) < n2 - j;omega)
     ·have hp:P j = false:=hp
      obtain ⟨t,htk,hho,hev,hvv⟩:=hA2 hp
      subst hev
      subst hvv
      have helt:=hll0.el htk
      obtain ⟨hh1,hh2⟩:=hho
      (conv=>whnf)
      refine IteP.mk (fun _=>W.mk ?_) (fun h=>absurd rfl h)
      (conv=>whnf)
      refine IteP.mk (fun h=>absurd (show (t:Int) < 0 from h) (by omega)) (fun _=>W.mk ?_)
      (conv=>whnf)
      refine IteP.mk (fun h=>absurd (show (t:Int) ≥ ln from h) (by omega)) (fun _=>W.mk ?_)
      (conv=>whnf)
      refine OblP.mk ⟨by omega,by omega⟩ (W.mk ?_)
      (conv=>whnf)
      refine OblP.mk (hll0.some (by omega)) (W.mk ?_)
      (conv=>whnf)
      refine RdP.at (cs:=[I (L.takesF ⟨n2,x.ps,x.long,x.short⟩)[t].fr]) (CellsAt.drop (d:=0) (n:=1) helt) rfl (W.mk ?_)
      (conv=>whnf)
      refine IteP.mk (fun h=>absurd (show (j:Int) < _ from h) (by omega)) (fun _=>W.mk ?_)
      (conv=>whnf)
      refine OblP.mk ⟨by omega,by omega⟩ (W.mk ?_)
      (conv=>whnf)
      refine OblP.mk (hll0.some (by omega)) (W.mk ?_)
      (conv=>whnf)
      refine RdP.at (cs:=[I (L.takesF ⟨n2,x.ps,x.long,x.short⟩)[t].to]) (CellsAt.drop (d:=1) (n:=1) helt) rfl (W.mk ?_)
      (conv=>whnf)
      refine IteP.mk (fun h=>absurd (show (j:Int) ≥ _ from h) (by omega)) (fun _=>W.mk ?_)
      (conv=>whnf)
      refine OblP.mk ⟨by omega,by omega⟩ (W.mk ?_)
      (conv=>whnf)
      refine OblP.mk (hout.some (by omega)) (W.mk ?_)
      (conv=>whnf)
      refine RdP.at (cs:=[I out[j].h]) (CellsAt.drop (d:=0) (n:=1) hel) rfl (W.mk ?_)
      (conv=>whnf)
      refine IteP.mk (fun hh=>W.mk ?_) (fun hh=>W.mk ?_)<;>(conv=>whnf)
      ·(refine ob ?_ ?_;(first | trivial | omega | (simp only [inR];omega) | exact ble (by rfl) | exact SlR.some ‹_› (by omega));(conv=>whnf))
       (refine ob ?_ ?_;(first | trivial | omega | (simp only [inR];omega) | exact ble (by rfl) | exact SlR.some ‹_› (by omega));(conv=>whnf))
       refine RoundP.of (j + 1,k + 1) (HeadP.of [] ⟨rfl,rfl,rfl,rfl,congrArg (fun z=>SV.v (I z)) (show S - ((k + 1:Nat):Int) = S - k - 1 by omega),rfl,trivial⟩ ⟨rfl,trivial⟩) ⟨by show j + 1≤n2;omega,by simp only [cnt,hp,Bool.not_false,cond_true];omega,by show k + 1≤j + 1;omega⟩ (by show n2 - (j + 1) < n2 - j;omega)
      ·(refine ob ?_ ?_;(first | trivial | omega | (simp only [inR];omega) | exact ble (by rfl) | exact SlR.some ‹_› (by omega));(conv=>whnf))
       exact RoundP.of (j + 1,k) (HeadP.of [] ⟨rfl,rfl,rfl,rfl,rfl,rfl,trivial⟩ ⟨rfl,trivial⟩) ⟨by show j + 1≤n2;omega,by simp only [cnt,hp,Bool.not_false,cond_true];omega,by show k≤j + 1;omega⟩ (by show n2 - (j + 1) < n2 - j;omega)
    ·have hge:¬ (j:Int) < n2:=hge
     have hjn:j = n2:=by omega
     have hct:=cnt_takes (x:=⟨n2,x.ps,x.long,x.short⟩) hv (n:=n2) rfl
     rw [hS] at hct
     have hct:cnt (fun i=>!P i) n2≤S:=hct
     rw [hjn] at hk
     refine IteP.mk (fun _=>W.mk ?_) (fun h=>absurd (show S - (k:Int) ≥ 0 by omega) h)
     (conv=>whnf)
     refine ScaP.mk ⟨(),rfl⟩ (fun v hv=>W.mk ?_)
     obtain ⟨_,_,rfl⟩:=hv
     (conv=>whnf)
     refine ForkP.mk (fun _=>W.mk ?_) (fun h=>by cases h)
     (conv=>whnf)
     refine NmP.mk ⟨[],W.mk ?_⟩
     (conv=>whnf)
     exact FinHp.mk ⟨fun _=>none,(fun b o e=>by cases e),rfl⟩
end Go.Proofs.Ytefnikpoimaiiaa
