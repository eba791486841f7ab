/- Readings; the functions of layer 1 that only compute. The reference's sittings: valid, paused, stretches, takes. The reference's sittings: paused, stretches. The reference's takes. The program's sittings: the fault of one; copies. The program's sittings: the stretches, one after the other. The program's sittings: takes. The program's sittings: valid, checked. The work: sums, when a take is done. The work: the worst; what may come next. The work: states as keys of a map. The work: states given on, begun. The work: who may take the next. The least list, and how far any goes: plain. The walk of the search: its contract. The least list: the function that searches. -/
import Derived.Test.YtefnikpoimaiiaaGreatMP
import Derived.Test.YtefnikpoimaiiaaGreatMC
set_option linter.unusedSimpArgs false
set_option linter.unusedVariables false
namespace Go.Proofs.YtefnikpoimaiiaaGreat.L
open Go.Pal

structure Span where
 fr:Int
 to:Int
deriving DecidableEq,Repr
structure Sit where
 len:Int
 ps:List Span
 long:Int
 short:Int
deriving DecidableEq,Repr
structure Rep where
 lo:Int
 hi:Int
 rest:Int
deriving DecidableEq,Repr
structure Off where
 crew:List Rep
 due:Int
 delay:Int
deriving DecidableEq,Repr

def spanE:El Span:=⟨2,fun p=>[I p.fr,I p.to],fun {x y} h=>by cases x;cases y;simp at h;simp [h],fun _=>rfl,fun _ v hv=>by simp at hv;rcases hv with rfl | rfl<;>rfl⟩
def repE:El Rep:=⟨3,fun p=>[I p.lo,I p.hi,I p.rest],fun {x y} h=>by cases x;cases y;simp at h;simp [h],fun _=>rfl,fun _ v hv=>by simp at hv;rcases hv with rfl | rfl | rfl<;>rfl⟩
def intE:El Int:=⟨1,fun p=>[I p],fun {x y} h=>by simp at h;exact h,fun _=>rfl,fun _ v hv=>by simp at hv;rw [hv];rfl⟩

def SitV (G:Hp) (v:Value) (s:Sit):Prop:=∃ w,v = .agg #[I s.len,w,I s.long,I s.short]∧SlV spanE G w s.ps
def sitRd:Rd Sit:=⟨SitV,fun {_ _ x y} ⟨w,h,h1⟩ ⟨w',h',h1'⟩=>by
  subst h;simp at h';obtain ⟨e1,e2,e3,e4⟩:=h';subst e2;have:=h1.uniq h1';cases x;cases y;simp_all,fun hg ⟨w,h,h1⟩=>⟨w,h,h1.grow hg⟩⟩
def OffV (G:Hp) (v:Value) (s:Off):Prop:=∃ w,v = .agg #[w,I s.due,I s.delay]∧SlV repE G w s.crew
def offRd:Rd Off:=⟨OffV,fun {_ _ x y} ⟨w,h,h1⟩ ⟨w',h',h1'⟩=>by
  subst h;simp at h';obtain ⟨e1,e2,e3⟩:=h';subst e1;have:=h1.uniq h1';cases x;cases y;simp_all,fun hg ⟨w,h,h1⟩=>⟨w,h,h1.grow hg⟩⟩

/-! ### In,within,long,has -/
def inF (n lo hi:Int):Bool:=decide (lo≤n∧n≤hi)
def inS:PSpec:=.fn (fun args _=>∃ n lo hi,args = [I n,I lo,I hi]) (fun args=>match args with | [.int _ n, .int _ lo, .int _ hi]=>.bool (inF n lo hi) | _=>undef)
set_option maxRecDepth 100000
theorem in36:Sound Tryz.prog 46 id inS:=by
 refine comp36.fn (Tab.nil _) (fun args G h=>?_) (fun args G h=>?_)
 ·obtain ⟨n,lo,hi,rfl⟩:=h;simp
 ·obtain ⟨n,lo,hi,rfl⟩:=h
  (conv=>whnf)
  repeat' (first | (refine IteP.mk (fun _=>W.mk ?_) (fun _=>W.mk ?_)<;>(conv=>whnf)) | (refine ob ?_ ?_;(first | trivial | omega | (simp only [inR];omega) | exact ble (by rfl) | exact SlR.some ‹_› (by omega));(conv=>whnf)) | (refine ForkP.mk (fun _=>W.mk ?_) (fun _=>W.mk ?_)<;>(conv=>whnf)) | (refine ra ‹_› (by rfl) ?_;(conv=>whnf)) | (refine rb ‹_› (by rfl) ?_;(conv=>whnf)) | (refine rc ‹_› (by rfl) ?_;(conv=>whnf)) | (refine rd ‹_› (by rfl) ?_;(conv=>whnf)) | (refine FinP.mk ?_))
  all_goals (refine congrArg Value.bool ?_;simp [inF, *])
theorem in37:Sound Tryz.prog 53 id inS:=by
 refine comp37.fn (Tab.nil _) (fun args G h=>?_) (fun args G h=>?_)
 ·obtain ⟨n,lo,hi,rfl⟩:=h;simp
 ·obtain ⟨n,lo,hi,rfl⟩:=h
  (conv=>whnf)
  repeat' (first | (refine IteP.mk (fun _=>W.mk ?_) (fun _=>W.mk ?_)<;>(conv=>whnf)) | (refine ob ?_ ?_;(first | trivial | omega | (simp only [inR];omega) | exact ble (by rfl) | exact SlR.some ‹_› (by omega));(conv=>whnf)) | (refine ForkP.mk (fun _=>W.mk ?_) (fun _=>W.mk ?_)<;>(conv=>whnf)) | (refine ra ‹_› (by rfl) ?_;(conv=>whnf)) | (refine rb ‹_› (by rfl) ?_;(conv=>whnf)) | (refine rc ‹_› (by rfl) ?_;(conv=>whnf)) | (refine rd ‹_› (by rfl) ?_;(conv=>whnf)) | (refine FinP.mk ?_))
  all_goals (refine congrArg Value.bool ?_;simp [inF, *])
def longS:PSpec:=.fn (fun args _=>∃ a b:Int,args = [.agg #[I a,I b]]∧inR .i64 (b - a)) (fun args=>match args with | [v]=>(match lst v with | [.int _ a, .int _ b]=>I (b - a) | _=>undef) | _=>undef)
theorem long61:Sound Tryz.prog 108 id longS:=by
 refine comp61.fn (Tab.nil _) (fun args G h=>?_) (fun args G h=>?_)
 ·obtain ⟨a,b,rfl,_⟩:=h;simp
 ·obtain ⟨a,b,rfl,hb⟩:=h
  simp only [inR] at hb
  (conv=>whnf)
  repeat' (first | (refine IteP.mk (fun _=>W.mk ?_) (fun _=>W.mk ?_)<;>(conv=>whnf)) | (refine ob ?_ ?_;(first | trivial | omega | (simp only [inR];omega) | exact ble (by rfl) | exact SlR.some ‹_› (by omega));(conv=>whnf)) | (refine ForkP.mk (fun _=>W.mk ?_) (fun _=>W.mk ?_)<;>(conv=>whnf)) | (refine ra ‹_› (by rfl) ?_;(conv=>whnf)) | (refine rb ‹_› (by rfl) ?_;(conv=>whnf)) | (refine rc ‹_› (by rfl) ?_;(conv=>whnf)) | (refine rd ‹_› (by rfl) ?_;(conv=>whnf)) | (refine FinP.mk ?_))
  all_goals rfl
def hasF (a b n:Int):Bool:=decide (a≤n∧n < b)
def hasS:PSpec:=.fn (fun args _=>∃ a b n:Int,args = [.agg #[I a,I b],I n]) (fun args=>match args with | [v, .int _ n]=>(match lst v with | [.int _ a, .int _ b]=>.bool (hasF a b n) | _=>undef) | _=>undef)
theorem has40:Sound Tryz.prog 56 id hasS:=by
 refine comp40.fn (Tab.nil _) (fun args G h=>?_) (fun args G h=>?_)
 ·obtain ⟨a,b,n,rfl⟩:=h;simp
 ·obtain ⟨a,b,n,rfl⟩:=h
  (conv=>whnf)
  repeat' (first | (refine IteP.mk (fun _=>W.mk ?_) (fun _=>W.mk ?_)<;>(conv=>whnf)) | (refine ob ?_ ?_;(first | trivial | omega | (simp only [inR];omega) | exact ble (by rfl) | exact SlR.some ‹_› (by omega));(conv=>whnf)) | (refine ForkP.mk (fun _=>W.mk ?_) (fun _=>W.mk ?_)<;>(conv=>whnf)) | (refine ra ‹_› (by rfl) ?_;(conv=>whnf)) | (refine rb ‹_› (by rfl) ?_;(conv=>whnf)) | (refine rc ‹_› (by rfl) ?_;(conv=>whnf)) | (refine rd ‹_› (by rfl) ?_;(conv=>whnf)) | (refine FinP.mk ?_))
  all_goals (refine congrArg Value.bool ?_;simp [hasF, *])
end Go.Proofs.YtefnikpoimaiiaaGreat.L

namespace Go.Proofs.YtefnikpoimaiiaaGreat.L
open Go.Pal

set_option maxRecDepth 100000

def tabA:Tab Tryz.prog:=Tab.cons 46 inS in36 body36 (Tab.cons 53 inS in37 body37 (Tab.cons 108 longS long61 body61 (Tab.cons 56 hasS has40 body40 (Tab.nil _))))

def goodSpan (last len:Int) (p:Span):Bool:=!(p.fr≤last || p.fr < 0 || p.fr ≥ p.to || p.to > len)
def spansOk (len:Int):Int→List Span→Bool
 | _,[]=>true
 | last,p :: r=>goodSpan last len p && spansOk len p.to r
def validF (s:Sit):Bool:=spansOk s.len (-1) s.ps && (inF s.len 1 36000 && (inF s.long 1 1200 && inF s.short 1 s.long))

theorem valid32:Sound Tryz.prog 44 id (gsca (args1 sitRd fun _=>True) fun s v=>v = .bool (validF s)):=by
 refine comp32.gsca tabA (fun args G s h=>?_) (fun args G s h=>?_)
 ·obtain ⟨v,rfl,_⟩:=h;simp
 ·obtain ⟨v,rfl,⟨w,rfl,a,n,c,rfl,hl,hn⟩,_⟩:=h
  (conv=>whnf)
  refine LoopP.of { α:=Nat × Int,fr:=fun x=>[(1, .c (.ptr 0 0)),(3, .v (I x.2)),(4, .v (I x.1))],H:=fun _=>[(0, .cells .anon [.val (I s.len), .val (.slice a n c), .val (I s.long), .val (I s.short)] 52)],ok:=fun x _=>x.1≤s.ps.length∧spansOk s.len (-1) s.ps = spansOk s.len x.2 (s.ps.drop x.1),m:=fun x=>s.ps.length - x.1 }
   (0, -1) (HeadP.of [] ⟨rfl,rfl,rfl,trivial⟩ ⟨rfl,trivial⟩) ⟨Nat.zero_le _,rfl⟩ (fun _=>⟨rfl,rfl⟩) (fun x G' hG hx=>W.mk ?_)
  obtain ⟨i,last⟩:=x
  obtain ⟨hi,hx⟩:=hx
  simp only at hi hx
  replace hl:=SlR.grow (G:=G) (G':=G') (fun _ _ h=>h) hl hG
  have hlen:=hl.len
  (conv=>whnf)
  refine IteP.mk (fun hlt=>W.mk ?_) (fun hge=>W.mk ?_)<;>(conv=>whnf)
  ·have hlt:i < s.ps.length:=by omega
   have hc:=hl.el hlt
   rw [List.drop_eq_getElem_cons hlt] at hx
   repeat' (first | (refine IteP.mk (fun _=>W.mk ?_) (fun _=>W.mk ?_)<;>(conv=>whnf)) | (refine ob ?_ ?_;(first | trivial | omega | (simp only [inR];omega) | exact ble (by rfl) | exact SlR.some ‹_› (by omega));(conv=>whnf)) | (refine ForkP.mk (fun _=>W.mk ?_) (fun _=>W.mk ?_)<;>(conv=>whnf)) | (refine ra ‹_› (by rfl) ?_;(conv=>whnf)) | (refine rb ‹_› (by rfl) ?_;(conv=>whnf)) | (refine rc ‹_› (by rfl) ?_;(conv=>whnf)) | (refine rd ‹_› (by rfl) ?_;(conv=>whnf)) | (refine FinP.mk ?_))
   all_goals first
    | (refine congrArg Value.bool ?_;simp only [validF,hx,spansOk,goodSpan];simp [*];done)
    | skip
   ·refine RoundP.of (i + 1,s.ps[i].to) (HeadP.of [] ⟨rfl,rfl,rfl,trivial⟩ ⟨rfl,trivial⟩) ⟨by simp only;omega, ?_⟩ (by simp only;omega)
    simp only [hx,spansOk,goodSpan]
    simp [*]
  ·have:i = s.ps.length:=by omega
   subst this
   simp only [List.drop_length,spansOk] at hx
   repeat' (first | (refine OblP.mk ⟨_,_,_,rfl⟩ (W.mk ?_);(conv=>whnf)) | (refine ForkP.mk (fun _=>W.mk ?_) (fun _=>W.mk ?_)<;>(conv=>whnf)) | (refine FinP.mk ?_))
   all_goals (refine congrArg Value.bool ?_;simp only [validF,hx];simp [*])
end Go.Proofs.YtefnikpoimaiiaaGreat.L

namespace Go.Proofs.YtefnikpoimaiiaaGreat.L
open Go.Pal

set_option maxRecDepth 100000

theorem goodSpan_iff {last len:Int} {p:Span}:goodSpan last len p = true↔last < p.fr∧0≤p.fr∧p.fr < p.to∧p.to≤len:=by
 simp only [goodSpan,Bool.not_eq_true',Bool.or_eq_false_iff,decide_eq_false_iff_not]
 omega
theorem spansOk_mem {len:Int}:∀ {l:List Span} {last:Int},spansOk len last l = true→∀ p∈l,last < p.fr∧0≤p.fr∧p.fr < p.to∧p.to≤len
 | [],_,_,p,hp=>by cases hp
 | q :: r,last,h,p,hp=>by
  simp only [spansOk,Bool.and_eq_true,goodSpan_iff] at h
  rcases List.mem_cons.1 hp with rfl | hp
  ·exact h.1
  ·have:=spansOk_mem h.2 p hp;omega
theorem spansOk_len {len:Int}:∀ {l:List Span} {last:Int},spansOk len last l = true→l≠[]→last + l.length≤len
 | [],_,_,h=>absurd rfl h
 | q :: r,last,h,_=>by
  simp only [spansOk,Bool.and_eq_true,goodSpan_iff] at h
  by_cases hr:r = []
  ·subst hr;simp;omega
  ·have:=spansOk_len h.2 hr;simp;omega
theorem validF_iff {s:Sit}:validF s = true↔spansOk s.len (-1) s.ps = true∧(1≤s.len∧s.len≤36000)∧(1≤s.long∧s.long≤1200)∧1≤s.short∧s.short≤s.long:=by
 simp only [validF,inF,Bool.and_eq_true,decide_eq_true_eq]
theorem valid_len {s:Sit} (h:validF s = true):s.ps.length≤36001:=by
 rw [validF_iff] at h
 by_cases hr:s.ps = []
 ·simp [hr]
 ·have:=spansOk_len h.1 hr;omega

def stretchesF (len:Int):Int→List Span→List Span
 | fr,[]=>if fr < len then [⟨fr,len⟩] else []
 | fr,p :: r=>(if fr < p.fr then [⟨fr,p.fr⟩] else [])++stretchesF len p.to r
theorem stretches50:Sound Tryz.prog 75 id (grel (args1 sitRd fun s=>validF s = true) fun s v G=>SlV spanE G v (stretchesF s.len 0 s.ps)):=by
 refine comp50.grel tabA (ok1 _ _) (fun args G s h=>?_) (fun x v G G' hg h=>h.grow hg) (fun args G s h=>?_)
 ·obtain ⟨v,rfl,_⟩:=h;simp
 ·obtain ⟨v,rfl,⟨w,rfl,a,n,c,rfl,hl,hn⟩,hv⟩:=h
  have hvl:=valid_len hv
  (conv=>whnf)
  refine LoopP.of { α:=Nat × Int × List Span × Nat × List Value,fr:=fun x=>[(1, .c (.ptr 0 0)),(3, .c (.row 2 x.2.2.2.1)),(4, .v (I x.2.1)),(5, .v (I x.1))],H:=fun x=>[(0, .cells .anon [.val (I s.len), .val (.slice a n c), .val (I s.long), .val (I s.short)] 52),(2, .row none x.2.2.2.1 x.2.2.2.2 142 2)],ok:=fun x _=>x.1≤s.ps.length∧x.2.2.1.length≤x.1∧Row spanE x.2.2.1 x.2.2.2.1 x.2.2.2.2∧x.2.2.1++stretchesF s.len x.2.1 (s.ps.drop x.1) = stretchesF s.len 0 s.ps,m:=fun x=>s.ps.length - x.1 }
   (0,0,[],0,[]) (HeadP.of [(2,none)] ⟨rfl,rfl,rfl,rfl,trivial⟩ ⟨rfl,rfl,trivial⟩) ⟨Nat.zero_le _,Nat.le_refl _,Row.nil,rfl⟩ (fun _=>⟨rfl,rfl⟩) (fun x G' hG hx=>W.mk ?_)
  obtain ⟨i,fr,out,m,vs⟩:=x
  obtain ⟨hi,ho,hr,hx⟩:=hx
  simp only at hi ho hx hr
  replace hl:=SlR.grow (G:=G) (G':=G') (fun _ _ h=>h) hl hG
  have hlen:=hl.len
  have hm:=hr.n
  (conv=>whnf)
  refine IteP.mk (fun hlt=>W.mk ?_) (fun hge=>W.mk ?_)<;>(conv=>whnf)
  ·have hlt:i < s.ps.length:=by omega
   have hc:=hl.el hlt
   rw [List.drop_eq_getElem_cons hlt,stretchesF] at hx
   repeat' (first | (refine IteP.mk (fun hf=>W.mk ?_) (fun hf=>W.mk ?_)<;>(conv=>whnf)) | (refine ob ?_ ?_;(first | trivial | omega | (simp only [inR];omega) | exact ble (by rfl) | exact SlR.some ‹_› (by omega));(conv=>whnf)) | (first | (refine ra ‹_› (by rfl) ?_;(conv=>whnf)) | (refine rb ‹_› (by rfl) ?_;(conv=>whnf)) | (refine rc ‹_› (by rfl) ?_;(conv=>whnf)) | (refine rd ‹_› (by rfl) ?_;(conv=>whnf))))
   ·refine RoundP.of (i + 1,s.ps[i].to,out++[⟨fr,s.ps[i].fr⟩],m + 1,vs++[I fr,I s.ps[i].fr]) (HeadP.of [(2,some 28)] ⟨rfl,rfl,rfl,rfl,trivial⟩ ⟨rfl,rfl,trivial⟩) ⟨hlt,by simp;omega,hr.snoc _, ?_⟩ (by simp only;omega)
    rw [← hx,if_pos hf];simp
   ·refine RoundP.of (i + 1,s.ps[i].to,out,m,vs) (HeadP.of [] ⟨rfl,rfl,rfl,rfl,trivial⟩ ⟨rfl,rfl,trivial⟩) ⟨hlt,by simp;omega,hr, ?_⟩ (by simp only;omega)
    rw [← hx,if_neg hf];simp
  ·have:i = s.ps.length:=by omega
   subst this
   simp only [List.drop_length,stretchesF] at hx
   repeat' (first | (refine IteP.mk (fun hf=>W.mk ?_) (fun hf=>W.mk ?_)<;>(conv=>whnf)) | (refine ob ?_ ?_;(first | trivial | omega | (simp only [inR];omega) | exact ble (by rfl) | exact SlR.some ‹_› (by omega));(conv=>whnf)))
   ·refine PubP.mk (fun a1 c1 G1 hg1 hp=>W.mk ?_)
    (conv=>whnf)
    refine FinP.mk ?_
    rw [if_pos hf] at hx
    rw [← hx]
    exact (hr.snoc _).pub hp (by omega)
   ·refine PubP.mk (fun a1 c1 G1 hg1 hp=>W.mk ?_)
    (conv=>whnf)
    refine FinP.mk ?_
    rw [if_neg hf,List.append_nil] at hx
    rw [← hx]
    exact hr.pub hp (by omega)
end Go.Proofs.YtefnikpoimaiiaaGreat.L

namespace Go.Proofs.YtefnikpoimaiiaaGreat.L
open Go.Pal

set_option maxRecDepth 100000

def tabC:Tab Tryz.prog:=Tab.cons 75 _ stretches50 body50 (Tab.cons 44 _ valid32 body32 (tabA))
def chain:Int→List Span→Prop
 | _,[]=>True
 | lo,p :: r=>lo≤p.fr∧p.fr < p.to∧chain p.to r
theorem chain_drop:∀ {l:List Span} {lo:Int} (i:Nat) (h:i < l.length),chain lo l→lo≤l[i].fr∧l[i].fr < l[i].to∧chain l[i].to (l.drop (i + 1))
 | p :: r,lo,0,_,hc=>by simpa [chain] using hc
 | p :: r,lo,i + 1,h,hc=>by
  obtain ⟨h1,h2,h3⟩:=hc
  have:=chain_drop i (by simpa using h) h3
  simp only [List.getElem_cons_succ,List.drop_succ_cons]
  exact ⟨by omega,this.2⟩
theorem stretches_chain {len:Int}:∀ {l:List Span} {last fr:Int},spansOk len last l = true→0≤fr→fr≤last + 1→chain fr (stretchesF len fr l)∧∀ p∈stretchesF len fr l,p.to≤len
 | [],last,fr,_,h0,h1=>by
  simp only [stretchesF]
  split
  ·simp [chain];omega
  ·simp [chain]
 | p :: r,last,fr,h,h0,h1=>by
  simp only [spansOk,Bool.and_eq_true,goodSpan_iff] at h
  obtain ⟨i1,i2⟩:=stretches_chain (len:=len) (fr:=p.to) h.2 (by omega) (by omega)
  simp only [stretchesF]
  have low:∀ {l:List Span} {a b:Int},a≤b→chain b l→chain a l:=fun {l a b} hab hc=>by
   cases l with
   | nil=>trivial
   | cons q s=>exact ⟨by have:=hc.1;omega,hc.2⟩
  split
  ·refine ⟨⟨by simp,by simp;omega,low (by simp;omega) i1⟩,fun q hq=>?_⟩
   rcases List.mem_cons.1 hq with rfl | hq
   ·simp;omega
   ·exact i2 q hq
  ·exact ⟨low (by omega) i1,i2⟩

def baseF (a long:Int) (m:Nat):List Span:=(List.range m).map fun j:Nat=>⟨a + j * long,a + (j + 1) * long⟩
theorem baseF_succ (a long:Int) (m:Nat):baseF a long (m + 1) = baseF a long m++[⟨a + m * long,a + (m + 1) * long⟩]:=by
 simp [baseF,List.range_succ]
def cutS (long short:Int) (p:Span):List Span :=
 let m:=((p.to - p.fr) / long).toNat
 if p.fr + m * long = p.to then baseF p.fr long m
 else if short≤p.to - (p.fr + m * long)∨m = 0 then baseF p.fr long m++[⟨p.fr + m * long,p.to⟩]
 else baseF p.fr long (m - 1)++[⟨p.fr + (m - 1:Nat) * long,p.to⟩]
def takesF (s:Sit):List Span:=(stretchesF s.len 0 s.ps).flatMap (cutS s.long s.short)
theorem div_of {a b long:Int} {k:Nat} (h0:1≤long) (h1:a + k * long≤b) (h2:b - (a + k * long) < long):((b - a) / long).toNat = k:=by
 have:(b - a) / long = k:=by
  have h3:=Int.mul_comm (k:Int) long
  rw [Int.ediv_eq_iff_of_pos (by omega)]
  constructor
  ·omega
  ·omega
 omega
theorem row_setTo {l:List Span} {p:Span} {n:Nat} {vs us:List Value} {b:Int} (h:Row spanE (l++[p]) n vs) (hu:us = vs.take ((n - 1) * 2 + 1)++[I b]++vs.drop ((n - 1) * 2 + 1 + 1)):Row spanE (l++[⟨p.fr,b⟩]) n us:=by
 obtain ⟨rfl,rfl⟩:=h
 have hl:((l.map spanE.f).flatten).length = l.length * 2:=by
  clear hu
  induction l with
  | nil=>rfl
  | cons x r ih=>simp only [List.map_cons,List.flatten_cons,List.length_append,ih,List.length_cons];rw [spanE.len];show 2 + _ = _;omega
 refine ⟨by simp, ?_⟩
 subst hu
 simp only [List.length_append,List.length_cons,List.length_nil,List.map_append,List.flatten_append,List.map_cons,List.map_nil,List.flatten_cons,List.flatten_nil,List.append_nil]
 rw [List.take_append,List.drop_append,hl]
 have e1:l.length + (0 + 1) - 1 = l.length:=by omega
 rw [e1,List.take_of_length_le (by omega),List.drop_of_length_le (by omega)]
 have e2:l.length * 2 + 1 - l.length * 2 = 1:=by omega
 have e3:l.length * 2 + 1 + 1 - l.length * 2 = 2:=by omega
 rw [e2,e3]
 simp [spanE]

theorem takes33:Sound Tryz.prog 45 id (grel (args1 sitRd fun s=>validF s = true) fun s v G=>SlV spanE G v (takesF s)):=by
 refine comp33.grel tabC (ok1 _ _) (fun args G s h=>?_) (fun x v G G' hg h=>h.grow hg) (fun args G s h=>?_)
 ·obtain ⟨v,rfl,_⟩:=h;simp
 ·obtain ⟨v,rfl,⟨w,rfl,a0,n0,c0,rfl,hl0,hn0⟩,hv⟩:=h
  obtain ⟨hv1,hv2,hv3,hv4⟩:=validF_iff.1 hv
  (conv=>whnf)
  refine RelP.g (ok1 sitRd fun s=>validF s = true) (x:=s) ⟨_,rfl,⟨_,rfl,a0,n0,c0,rfl,hl0,hn0⟩,hv⟩ (Grow.refl _) (fun v G1 hg1 hq=>W.mk ?_)
  obtain ⟨a,n,c,rfl,hl,hn⟩:=hq
  obtain ⟨hch,hto⟩:=stretches_chain (fr:=0) hv1 (by omega) (by omega)
  generalize hL:stretchesF s.len 0 s.ps = L at hl hch hto
  have hT:takesF s = L.flatMap (cutS s.long s.short):=by rw [takesF,hL]
  (conv=>whnf)
  refine LoopP.of { α:=Nat × List Span × Nat × List Value,fr:=fun x=>[(1, .c (.ptr 0 0)),(3, .c (.row 2 x.2.2.1)),(4, .v (.slice a n c)),(5, .v (I x.1))],H:=fun x=>[(0, .cells .anon [.val (I s.len), .val (.slice a0 n0 c0), .val (I s.long), .val (I s.short)] 52),(2, .row none x.2.2.1 x.2.2.2 142 2)],ok:=fun x _=>x.1≤L.length∧(x.2.1.length:Int)≤36000∧(∀ h:x.1 < L.length,(x.2.1.length:Int)≤L[x.1].fr)∧Row spanE x.2.1 x.2.2.1 x.2.2.2∧x.2.1++(L.drop x.1).flatMap (cutS s.long s.short) = takesF s,m:=fun x=>L.length - x.1 }
   (0,[],0,[]) (HeadP.of [(2,none)] ⟨rfl,rfl,rfl,rfl,trivial⟩ ⟨rfl,rfl,trivial⟩) ⟨Nat.zero_le _,by simp,fun h=>by have:=(chain_drop 0 h hch).1;simpa using this,Row.nil,by simp [hT]⟩ (fun _=>⟨rfl,rfl⟩) (fun x G2 hg2 hx=>W.mk ?_)
  obtain ⟨i,out,m,vs⟩:=x
  obtain ⟨hi,ho,hfr,hr,hx⟩:=hx
  simp only at hi ho hfr hx hr
  replace hl:=SlR.grow (G:=G1) (G':=G2) (fun _ _ h=>h) hl hg2
  have hlen:=hl.len
  (conv=>whnf)
  refine IteP.mk (fun hlt=>W.mk ?_) (fun hge=>W.mk ?_)<;>(conv=>whnf)
  ·have hlt:i < L.length:=by omega
   have hc:=hl.el hlt
   obtain ⟨q1,q2,q3⟩:=chain_drop i hlt hch
   have q4:=hto _ (List.getElem_mem hlt)
   have hfr:=hfr hlt
   rw [List.drop_eq_getElem_cons hlt,List.flatMap_cons] at hx
   have hnext:∀ h:i + 1 < L.length,L[i].to≤L[i + 1].fr:=fun h=>by
    have:=(chain_drop 0 (by simp;omega) q3).1
    simpa using this
   generalize L[i] = p at hc q1 q2 q3 q4 hfr hx hnext
   repeat' (first | (refine ob ?_ ?_;(first | trivial | omega | (simp only [inR];omega) | exact ble (by rfl) | exact SlR.some ‹_› (by omega));(conv=>whnf)) | (refine ra ‹_› (by rfl) ?_;(conv=>whnf)) | (refine rb ‹_› (by rfl) ?_;(conv=>whnf)) | (refine rc ‹_› (by rfl) ?_;(conv=>whnf)) | (refine rd ‹_› (by rfl) ?_;(conv=>whnf)) | (refine FinP.mk ?_))
   refine LoopP.of { α:=Nat × Nat × List Value,fr:=fun x=>[(1, .c (.ptr 0 0)),(3, .c (.row 2 x.2.1)),(4, .v (.slice a n c)),(5, .v (I i)),(6, .v (I (p.fr + x.1 * s.long))),(7, .v (I x.1))],H:=fun x=>[(0, .cells .anon [.val (I s.len), .val (.slice a0 n0 c0), .val (I s.long), .val (I s.short)] 52),(2, .row none x.2.1 x.2.2 142 2)],ok:=fun x _=>p.fr + x.1 * s.long≤p.to∧Row spanE (out++baseF p.fr s.long x.1) x.2.1 x.2.2∧(x.1:Int)≤x.1 * s.long,m:=fun x=>(p.to - (p.fr + x.1 * s.long)).toNat }
    (0,m,vs) (HeadP.of [] ⟨rfl,rfl,rfl,rfl, ?_,rfl,trivial⟩ ⟨rfl,rfl,trivial⟩) ⟨by simp;omega,by simpa [baseF] using hr,by simp⟩ (fun _=>⟨rfl,rfl⟩) (fun x G3 hg3 hx2=>W.mk ?_)
   ·show SV.v (I _) = SV.v (I _);simp
   obtain ⟨k,m2,vs2⟩:=x
   obtain ⟨hk,hr2,hkl⟩:=hx2
   simp only at hk hr2 hkl
   have hm2:=hr2.n
   simp only [List.length_append,baseF,List.length_map,List.length_range] at hm2
   replace hl:=SlR.grow (G:=G2) (G':=G3) (fun _ _ h=>h) hl hg3
   replace hc:=hc.grow hg3
   have hkm:((k:Int) + 1) * s.long = k * s.long + s.long:=by rw [Int.add_mul,Int.one_mul]
   dsimp only
   (conv=>whnf)
   repeat' (first | (refine ob ?_ ?_;(first | trivial | omega | (simp only [inR];omega) | exact ble (by rfl) | exact SlR.some ‹_› (by omega));(conv=>whnf)) | (refine ra ‹_› (by rfl) ?_;(conv=>whnf)) | (refine rb ‹_› (by rfl) ?_;(conv=>whnf)) | (refine rc ‹_› (by rfl) ?_;(conv=>whnf)) | (refine rd ‹_› (by rfl) ?_;(conv=>whnf)) | (refine FinP.mk ?_))
   refine IteP.mk (fun hge2=>W.mk ?_) (fun hge2=>W.mk ?_)<;>(conv=>whnf)
   ·repeat' (first | (refine ob ?_ ?_;(first | trivial | omega | (simp only [inR];omega) | exact ble (by rfl) | exact SlR.some ‹_› (by omega));(conv=>whnf)) | (refine ra ‹_› (by rfl) ?_;(conv=>whnf)) | (refine rb ‹_› (by rfl) ?_;(conv=>whnf)) | (refine rc ‹_› (by rfl) ?_;(conv=>whnf)) | (refine rd ‹_› (by rfl) ?_;(conv=>whnf)) | (refine FinP.mk ?_))
    have hk1:((k + 1:Nat):Int) * s.long = k * s.long + s.long:=by rw [Int.natCast_add,Int.cast_ofNat_Int,hkm]
    refine RoundP.of (k + 1,m2 + 1,vs2++[I (p.fr + k * s.long),I (p.fr + k * s.long + s.long)]) (HeadP.of [(2,some 36)] ⟨rfl,rfl,rfl,rfl, ?_,rfl,trivial⟩ ⟨rfl,rfl,trivial⟩) ⟨?_, ?_, ?_⟩ ?_
    ·show SV.v (I (p.fr + ((k + 1:Nat):Int) * s.long)) = SV.v (I (p.fr + k * s.long + s.long));rw [hk1,Int.add_assoc]
    ·show p.fr + ((k + 1:Nat):Int) * s.long≤p.to;rw [hk1];omega
    ·simp only [baseF_succ,hkm, ← List.append_assoc, ← Int.add_assoc]
     exact hr2.snoc _
    ·show ((k + 1:Nat):Int)≤((k + 1:Nat):Int) * s.long;rw [hk1];omega
    ·show (p.to - (p.fr + ((k + 1:Nat):Int) * s.long)).toNat < (p.to - (p.fr + (k:Int) * s.long)).toNat;rw [hk1];omega
   ·have hdiv:=div_of (a:=p.fr) (b:=p.to) (long:=s.long) (k:=k) (by omega) (by omega) (by omega)
    have hcut:cutS s.long s.short p = if p.fr + (k * s.long) = p.to then baseF p.fr s.long k else if s.short≤p.to - (p.fr + k * s.long)∨k = 0 then baseF p.fr s.long k++[⟨p.fr + k * s.long,p.to⟩] else baseF p.fr s.long (k - 1)++[⟨p.fr + (k - 1:Nat) * s.long,p.to⟩]:=by
     simp only [cutS,hdiv]
    have key:∀ ts,cutS s.long s.short p = ts→(ts.length:Int)≤p.to - p.fr→((out++ts).length:Int)≤36000∧(∀ h:i + 1 < L.length,((out++ts).length:Int)≤L[i + 1].fr)∧(out++ts)++(L.drop (i + 1)).flatMap (cutS s.long s.short) = takesF s:=fun ts h1 h2=>by
     simp only [List.length_append]
     refine ⟨by omega,fun h=>by have:=hnext h;omega, ?_⟩
     rw [← hx,h1,List.append_assoc]
    have hb:∀ j,(baseF p.fr s.long j).length = j:=fun j=>by simp [baseF]
    have hl2:=hr2.len
    have hl2:vs2.length = m2 * 2:=hl2
    repeat' (first | (refine IteP.mk (fun _=>W.mk ?_) (fun _=>W.mk ?_)<;>(conv=>whnf)) | (refine OblP.mk ?_ (W.mk ?_);(show _≤vs2.length;omega);(conv=>whnf)) | (refine ob ?_ ?_;(first | trivial | omega | (simp only [inR];omega) | exact ble (by rfl) | exact SlR.some ‹_› (by omega));(conv=>whnf)) | (first | (refine ra ‹_› (by rfl) ?_;(conv=>whnf)) | (refine rb ‹_› (by rfl) ?_;(conv=>whnf)) | (refine rc ‹_› (by rfl) ?_;(conv=>whnf)) | (refine rd ‹_› (by rfl) ?_;(conv=>whnf))))
    all_goals try (exfalso;omega)
    ·obtain ⟨k1,k2,k3⟩:=key _ (hcut.trans ((if_neg (by omega)).trans (if_pos (.inl (by omega))))) (by simp only [List.length_append,hb,List.length_singleton];omega)
     refine RoundP.of (i + 1,_,m2 + 1,vs2++[I (p.fr + k * s.long),I p.to]) (HeadP.of [(2,some 75)] ⟨rfl,rfl,rfl,rfl,trivial⟩ ⟨rfl,rfl,trivial⟩) ⟨hlt,k1,k2, ?_,k3⟩ (by simp only;omega)
     simp only [← List.append_assoc]
     exact hr2.snoc _
    ·obtain ⟨k1,k2,k3⟩:=key _ (hcut.trans ((if_neg (by omega)).trans (if_pos (.inr (by omega))))) (by simp only [List.length_append,hb,List.length_singleton];omega)
     refine RoundP.of (i + 1,_,m2 + 1,vs2++[I (p.fr + k * s.long),I p.to]) (HeadP.of [(2,some 75)] ⟨rfl,rfl,rfl,rfl,trivial⟩ ⟨rfl,rfl,trivial⟩) ⟨hlt,k1,k2, ?_,k3⟩ (by simp only;omega)
     simp only [← List.append_assoc]
     exact hr2.snoc _
    ·have hk0:k≠0:=by omega
     obtain ⟨k',rfl⟩:∃ k',k = k' + 1:=⟨k - 1,by omega⟩
     obtain ⟨k1,k2,k3⟩:=key _ (hcut.trans ((if_neg (by omega)).trans (if_neg (by omega)))) (by simp only [List.length_append,hb,List.length_singleton];omega)
     refine RoundP.of (i + 1,_,m2,vs2.take (((m2:Int) - 1).toNat * 2 + 1)++[I p.to]++vs2.drop (((m2:Int) - 1).toNat * 2 + 1 + 1)) (HeadP.of [] ⟨rfl,rfl,rfl,rfl,trivial⟩ ⟨rfl,rfl,trivial⟩) ⟨hlt,k1,k2, ?_,k3⟩ (by simp only;omega)
     rw [baseF_succ, ← List.append_assoc] at hr2
     have:=row_setTo (b:=p.to) hr2 rfl
     rw [show ((m2:Int) - 1).toNat = m2 - 1 by omega]
     simp only [Nat.add_sub_cancel, ← List.append_assoc]
     exact this
    ·obtain ⟨k1,k2,k3⟩:=key _ (hcut.trans (if_pos (by omega))) (by simp only [hb];omega)
     refine RoundP.of (i + 1,_,m2,vs2) (HeadP.of [] ⟨rfl,rfl,rfl,rfl,trivial⟩ ⟨rfl,rfl,trivial⟩) ⟨hlt,k1,k2,hr2,k3⟩ (by simp only;omega)
  ·have:i = L.length:=by omega
   subst this
   simp only [List.drop_length,List.flatMap_nil,List.append_nil] at hx
   have hm:=hr.n
   refine PubP.mk (fun a1 c1 G1 hg1 hp=>W.mk ?_)
   (conv=>whnf)
   refine FinP.mk ?_
   rw [← hx]
   exact hr.pub hp (by omega)
end Go.Proofs.YtefnikpoimaiiaaGreat.L

namespace Go.Proofs.YtefnikpoimaiiaaGreat.L
open Go.Pal

set_option maxRecDepth 100000

def tabD:Tab Tryz.prog:=Tab.cons 45 _ takes33 body33 tabC

def faultF (s:Sit):Int:=if validF s = true then (if 40 < (takesF s).length then 3 else 0) else 1
theorem fault10:Sound Tryz.prog 16 id (gsca (args1 sitRd fun _=>True) fun s v=>v = I (faultF s)):=by
 refine comp10.gsca tabD (fun args G s h=>?_) (fun args G s h=>?_)
 ·obtain ⟨v,rfl,_⟩:=h;simp
 ·obtain ⟨v,rfl,⟨w,rfl,a,n,c,rfl,hl,hn⟩,_⟩:=h
  (conv=>whnf)
  refine ScaP.g (ok1 sitRd fun _=>True) (x:=s) ⟨_,rfl,⟨_,rfl,a,n,c,rfl,hl,hn⟩,trivial⟩ (fun v hv=>W.mk ?_)
  subst hv
  (conv=>whnf)
  refine ForkP.mk (fun hf=>W.mk ?_) (fun hf=>W.mk ?_)<;>(conv=>whnf)
  ·refine RelP.g (ok1 sitRd fun s=>validF s = true) (x:=s) ⟨_,rfl,⟨_,rfl,a,n,c,rfl,hl,hn⟩,hf⟩ (Grow.refl _) (fun v G1 hg1 hq=>W.mk ?_)
   obtain ⟨a1,n1,c1,rfl,hl1,hn1⟩:=hq
   have:=hl1.len
   (conv=>whnf)
   refine IteP.mk (fun h=>W.mk ?_) (fun h=>W.mk ?_)<;>(conv=>whnf)<;>refine FinP.mk ?_
   ·show I 3 = I (faultF s);rw [faultF,if_pos hf,if_pos (by omega)]
   ·show I 0 = I (faultF s);rw [faultF,if_pos hf,if_neg (by omega)]
  ·refine FinP.mk ?_
   show I 1 = I (faultF s);rw [faultF,if_neg (by simp [hf])]

theorem und27:Tryz.prog.underlying 67 = some (.slice 143):=by kernel_rfl
theorem und46:Tryz.prog.underlying 30 = some (.slice 3):=by kernel_rfl
theorem clone70:Sound Tryz.prog 171 id (gown 143 2 (args1 (slRd spanE) fun l=>l.length≤8796093022207) fun l n vs=>Row spanE l n vs):=by
 refine comp70.gown (Tab.nil _) (ok1 _ _) (fun args G s h=>?_) (fun args G l h=>?_)
 ·obtain ⟨v,rfl,_⟩:=h;simp
 ·obtain ⟨v,rfl,⟨a,n,c,rfl,hl,hn⟩,hb⟩:=h
  have hlen:=hl.len
  obtain ⟨q1,q2,q3⟩:=hl.all
  (conv=>whnf)
  refine PurP.of _ (pur_sl_nil und27 a n c 0 0) (W.mk ?_)
  (conv=>whnf)
  refine ForkP.mk (fun hf=>W.mk ?_) (fun hf=>W.mk ?_)<;>(conv=>whnf)
  ·refine OwnFin.mk ?_
   have:l = []:=by
    by_cases h0:n = 0
    ·exact List.eq_nil_of_length_eq_zero (by omega)
    ·have:=hl.some h0;rw [this] at hf;cases hf
   subst this;exact Row.nil
  ·refine OblP.mk (fun h=>hl.some h) (W.mk ?_);(conv=>whnf)
   refine RdP.at q1 q2 (W.mk ?_);(conv=>whnf)
   refine OblP.mk q3 (W.mk ?_);(conv=>whnf)
   refine OblP.mk rfl (W.mk ?_);(conv=>whnf)
   refine OblP.mk (by omega) (W.mk ?_);(conv=>whnf)
   refine OwnFin.mk ⟨rfl,rfl,rfl, ?_⟩
   simp only [Nat.zero_add,List.nil_append]
   exact Row.of_all l hlen
theorem clone56:Sound Tryz.prog 80 id (gown 3 1 (args1 (slRd intE) fun l=>l.length≤8796093022207) fun l n vs=>Row intE l n vs):=by
 refine comp56.gown (Tab.nil _) (ok1 _ _) (fun args G s h=>?_) (fun args G l h=>?_)
 ·obtain ⟨v,rfl,_⟩:=h;simp
 ·obtain ⟨v,rfl,⟨a,n,c,rfl,hl,hn⟩,hb⟩:=h
  have hlen:=hl.len
  obtain ⟨q1,q2,q3⟩:=hl.all
  (conv=>whnf)
  refine PurP.of _ (pur_sl_nil und46 a n c 0 0) (W.mk ?_)
  (conv=>whnf)
  refine ForkP.mk (fun hf=>W.mk ?_) (fun hf=>W.mk ?_)<;>(conv=>whnf)
  ·refine OwnFin.mk ?_
   have:l = []:=by
    by_cases h0:n = 0
    ·exact List.eq_nil_of_length_eq_zero (by omega)
    ·have:=hl.some h0;rw [this] at hf;cases hf
   subst this;exact Row.nil
  ·refine OblP.mk (fun h=>hl.some h) (W.mk ?_);(conv=>whnf)
   refine RdP.at q1 q2 (W.mk ?_);(conv=>whnf)
   refine OblP.mk q3 (W.mk ?_);(conv=>whnf)
   refine OblP.mk rfl (W.mk ?_);(conv=>whnf)
   refine OblP.mk (by omega) (W.mk ?_);(conv=>whnf)
   refine OwnFin.mk ⟨rfl,rfl,rfl, ?_⟩
   simp only [Nat.zero_add,List.nil_append]
   exact Row.of_all l hlen
end Go.Proofs.YtefnikpoimaiiaaGreat.L

namespace Go.Proofs.YtefnikpoimaiiaaGreat.L
open Go.Pal

set_option maxRecDepth 100000

def tabE:Tab Tryz.prog:=Tab.cons 16 _ fault10 body10 (Tab.cons 171 _ clone70 body70 (Tab.cons 80 _ clone56 body56 tabD))

def walkF:Int→List Span→List Span
 | _,[]=>[]
 | fr,p :: r=>(if fr < p.fr then [⟨fr,p.fr⟩] else [])++walkF p.to r
theorem walk_eq {len:Int}:∀ {l:List Span} {fr:Int},stretchesF len fr l = walkF fr (l++[⟨len,len⟩])
 | [],fr=>by simp [stretchesF,walkF]
 | p :: r,fr=>by simp [stretchesF,walkF,walk_eq (l:=r)]
def spanV (p:Span):List Value:=[.agg #[I p.fr,I p.to]]
def SitC (G:Hp) (b:Nat) (s:Sit):Prop:=∃ w,CellsAt G b 0 [I s.len,w,I s.long,I s.short]∧SlV spanE G w s.ps
def strS (b:Nat) (s:Sit):PSpec:=.seq (fun l args G Ys=>args = [.func (.yield l) #[] #[]]∧SitC G b s∧validF s = true∧Ys = (stretchesF s.len 0 s.ps).map spanV) (fun _ _=>True)
theorem str69 (b:Nat) (s:Sit):Sound Tryz.prog 170 (fun args=>(#[]:Array Value).toList++args++(#[.pointer (some ⟨b,0,none⟩)]:Array Value).toList) (strS b s):=by
 refine comp69.seq (Tab.cons 108 _ long61 body61 tabE) (fun l args G Ys h=>?_) (fun l Y k args G Ys h hseg=>?_)
 ·obtain ⟨rfl,_⟩:=h;simp
 ·obtain ⟨rfl,⟨w,hc,a,n,c,rfl,hl,hn⟩,hv,rfl⟩:=h
  obtain ⟨hv1,hv2,hv3,hv4⟩:=validF_iff.1 hv
  have hvl:=valid_len hv
  have hm:=spansOk_mem hv1
  have hlen:=hl.len
  rw [walk_eq] at hseg ⊢
  (conv=>whnf)
  repeat' (first | (refine ob ?_ ?_;(first | trivial | omega | (simp only [inR];omega) | exact ble (by rfl) | exact SlR.some ‹_› (by omega));(conv=>whnf)) | (refine ra ‹_› (by rfl) ?_;(conv=>whnf)) | (refine rb ‹_› (by rfl) ?_;(conv=>whnf)) | (refine rc ‹_› (by rfl) ?_;(conv=>whnf)) | (refine rd ‹_› (by rfl) ?_;(conv=>whnf)) | (refine FinP.mk ?_))
  refine OwnP.g (ok1 (slRd spanE) fun l=>l.length≤8796093022207) (x:=s.ps) ⟨_,rfl,⟨a,n,c,rfl,hl,hn⟩,by omega⟩ (Grow.refl _) (fun n1 vs1 G1 hg1 hr=>W.mk ?_)
  have hc1:=hc.grow hg1
  have hn1:=hr.n
  (conv=>whnf)
  repeat' (first | (refine ob ?_ ?_;(first | trivial | omega | (simp only [inR];omega) | exact ble (by rfl) | exact SlR.some ‹_› (by omega));(conv=>whnf)) | (refine ra ‹_› (by rfl) ?_;(conv=>whnf)) | (refine rb ‹_› (by rfl) ?_;(conv=>whnf)) | (refine rc ‹_› (by rfl) ?_;(conv=>whnf)) | (refine rd ‹_› (by rfl) ?_;(conv=>whnf)) | (refine FinP.mk ?_))
  have hr2:=hr.snoc ⟨s.len,s.len⟩ (us:=[I s.len,I s.len])
  generalize hP:s.ps++[⟨s.len,s.len⟩] = ps' at hseg hr2
  have hm':∀ p∈ps',0≤p.fr∧p.fr≤36000∧0≤p.to∧p.to≤36000:=fun p hp=>by
   rw [← hP] at hp
   rcases List.mem_append.1 hp with hp | hp
   ·have:=hm p hp;omega
   ·simp at hp;subst hp;simp;omega
  have hlen':ps'.length = n1 + 1:=by rw [← hP];simp;omega
  refine LoopP.of { α:=Nat × Int × List Span,fr:=fun x=>[(0, .v (.func (.yield l) #[] #[])),(3, .v (I x.2.1)),(16, .c (.row 1 (n1 + 1))),(17, .v (I (n1 + 1:Nat))),(18, .v (I x.1)),(POS, .c (.pos (k + x.2.2.length) false))],H:=fun x=>[(1, .row none (n1 + 1) (vs1++[I s.len,I s.len]) 143 2)],ok:=fun x _=>x.1≤n1 + 1∧0≤x.2.1∧x.2.1≤36000∧x.2.2++walkF x.2.1 (ps'.drop x.1) = walkF 0 ps',m:=fun x=>n1 + 1 - x.1 }
   (0,0,[]) (HeadP.of [(1,some 10)] ⟨rfl,rfl,rfl,rfl,rfl,rfl,trivial⟩ ⟨rfl,trivial⟩) ⟨Nat.zero_le _,by simp,by simp,rfl⟩ (fun _=>⟨rfl,rfl⟩) (fun x G' hG hx=>W.mk ?_)
  obtain ⟨i,fr,out⟩:=x
  obtain ⟨hi,hf0,hf1,hx⟩:=hx
  simp only at hi hf0 hf1 hx
  dsimp only
  (conv=>whnf)
  refine IteP.mk (fun hlt=>W.mk ?_) (fun hge=>W.mk ?_)<;>(conv=>whnf)
  ·have hlt:i < ps'.length:=by omega
   have hp:=hm' _ (List.getElem_mem hlt)
   rw [List.drop_eq_getElem_cons hlt,walkF] at hx
   repeat' (first | (refine ob ?_ ?_;(first | trivial | omega | (simp only [inR];omega) | exact ble (by rfl) | exact SlR.some ‹_› (by omega));(conv=>whnf)) | (refine ra ‹_› (by rfl) ?_;(conv=>whnf)) | (refine rb ‹_› (by rfl) ?_;(conv=>whnf)) | (refine rc ‹_› (by rfl) ?_;(conv=>whnf)) | (refine rd ‹_› (by rfl) ?_;(conv=>whnf)) | (refine FinP.mk ?_))
   refine EqP.row hr2 hlt (W.mk ?_);(conv=>whnf)
   refine OblP.mk ⟨_,_,rfl,by simp only [inR];omega⟩ (W.mk ?_);(conv=>whnf)
   refine IteP.mk (fun hf=>W.mk ?_) (fun hf=>W.mk ?_)<;>(conv=>whnf)
   ·refine CallvP.yl rfl (W.mk ?_);(conv=>whnf)
    rw [if_pos (by omega), ← List.append_assoc] at hx
    refine YieldP.mk ?_ (fun G2 hg2=>W.mk ?_) (fun G2 hg2=>W.mk ?_)
    ·rw [seg_get hseg (by rw [List.length_map, ← hx];simp)]
     rw [← hx]
     simp [spanV]
    ·(conv=>whnf)
     repeat' (first | (refine ob ?_ ?_;(first | trivial | omega | (simp only [inR];omega) | exact ble (by rfl) | exact SlR.some ‹_› (by omega));(conv=>whnf)) | (refine ra ‹_› (by rfl) ?_;(conv=>whnf)) | (refine rb ‹_› (by rfl) ?_;(conv=>whnf)) | (refine rc ‹_› (by rfl) ?_;(conv=>whnf)) | (refine rd ‹_› (by rfl) ?_;(conv=>whnf)) | (refine FinP.mk ?_))
     refine RoundP.of (i + 1,ps'[i].to,out++[⟨fr,ps'[i].fr⟩]) (HeadP.of [] ⟨rfl,rfl,rfl,rfl,rfl, ?_,trivial⟩ ⟨rfl,trivial⟩ (h5:=by show SV.c (.pos (k + out.length + 1) false) = SV.c (.pos (k + (out++[_]).length) false);simp [Nat.add_assoc])) ⟨by omega,by simp;omega,by simp;omega,by rw [← hx]⟩ (by simp only;omega)
     show SV.c (.pos (k + (out++[_]).length) false) = SV.c (.pos (k + out.length + 1) false)
     simp [Nat.add_assoc]
    ·(conv=>whnf)
     refine FinP.mk ⟨trivial,fun h=>by cases h⟩
   ·rw [if_neg (by omega),List.nil_append] at hx
    repeat' (first | (refine ob ?_ ?_;(first | trivial | omega | (simp only [inR];omega) | exact ble (by rfl) | exact SlR.some ‹_› (by omega));(conv=>whnf)) | (refine ra ‹_› (by rfl) ?_;(conv=>whnf)) | (refine rb ‹_› (by rfl) ?_;(conv=>whnf)) | (refine rc ‹_› (by rfl) ?_;(conv=>whnf)) | (refine rd ‹_› (by rfl) ?_;(conv=>whnf)) | (refine FinP.mk ?_))
    exact RoundP.of (i + 1,ps'[i].to,out) (HeadP.of [] ⟨rfl,rfl,rfl,rfl,rfl,rfl,trivial⟩ ⟨rfl,trivial⟩) ⟨by omega,by simp;omega,by simp;omega,hx⟩ (by simp only;omega)
  ·rw [List.drop_of_length_le (by omega),walkF,List.append_nil] at hx
   refine FinP.mk ⟨trivial,fun _=>?_⟩
   rw [List.length_map, ← hx]
end Go.Proofs.YtefnikpoimaiiaaGreat.L

namespace Go.Proofs.YtefnikpoimaiiaaGreat.L
open Go.Pal

set_option maxRecDepth 100000

theorem SitC.grow {G G':Hp} {b:Nat} {s:Sit} (hg:Grow G G') (h:SitC G b s):SitC G' b s:=let ⟨w,h1,h2⟩:=h;⟨w,h1.grow hg,h2.grow hg⟩
def StrV (G:Hp) (v:Value) (s:Sit):Prop:=∃ b,v = .func (.func 170) #[] #[.pointer (some ⟨b,0,none⟩)]∧SitC G b s
theorem str64:Sound Tryz.prog 109 id (grel (args1 sitRd fun _=>True) fun s v G=>StrV G v s):=by
 refine comp64.grel tabE (ok1 _ _) (fun args G s h=>?_) (fun x v G G' hg ⟨b,h1,h2⟩=>⟨b,h1,h2.grow hg⟩) (fun args G s h=>?_)
 ·obtain ⟨v,rfl,_⟩:=h;simp
 ·obtain ⟨v,rfl,⟨w,rfl,a,n,c,rfl,hl,hn⟩,hv⟩:=h
  (conv=>whnf)
  refine NameP.mk (fun b=>W.mk ?_)
  (conv=>whnf)
  refine PubAnyP.mk ⟨[0], ?_⟩
  (conv=>whnf)
  intro G' hg _ hc
  refine W.mk ?_
  (conv=>whnf)
  refine FinP.mk ⟨b,rfl,_,hc,a,n,c,rfl,SlR.grow (G:=G) (G':=G') (fun _ _ h=>h) hl hg,hn⟩

def tabF:Tab Tryz.prog:=Tab.cons 109 _ str64 body64 (Tab.cons 108 _ long61 body61 tabE)

theorem takes52:Sound Tryz.prog 83 id (grel (args1 sitRd fun s=>validF s = true) fun s v G=>SlV spanE G v (takesF s)):=by
 refine comp52.grel tabF (ok1 _ _) (fun args G s h=>?_) (fun x v G G' hg h=>h.grow hg) (fun args G s h=>?_)
 ·obtain ⟨v,rfl,_⟩:=h;simp
 ·obtain ⟨v,rfl,⟨w,rfl,a0,n0,c0,rfl,hl0,hn0⟩,hv⟩:=h
  obtain ⟨hv1,hv2,hv3,hv4⟩:=validF_iff.1 hv
  (conv=>whnf)
  refine RelP.g (ok1 sitRd fun _=>True) (x:=s) ⟨_,rfl,⟨_,rfl,a0,n0,c0,rfl,hl0,hn0⟩,trivial⟩ (Grow.refl _) (fun v G1 hg1 hq=>W.mk ?_)
  obtain ⟨b,rfl,hsc⟩:=hq
  obtain ⟨hch,hto⟩:=stretches_chain (fr:=0) hv1 (by omega) (by omega)
  have hT:takesF s = (stretchesF s.len 0 s.ps).flatMap (cutS s.long s.short):=rfl
  (conv=>whnf)
  refine RangeP.of ((stretchesF s.len 0 s.ps).map spanV) { α:=Nat × List Span × Nat × List Value,fr:=[(1, .c (.ptr 0 0)),(2, .c (.ptr 1 0))],k:=fun x=>x.1,H:=fun x=>[(0, .cells .anon [.val (I s.len), .val (.slice a0 n0 c0), .val (I s.long), .val (I s.short)] 69),(1, .cells .anon [.row 2 x.2.2.1] 67),(2, .row none x.2.2.1 x.2.2.2 143 2)],ok:=fun x _=>(x.2.1.length:Int)≤36000∧(∀ h:x.1 < (stretchesF s.len 0 s.ps).length,(x.2.1.length:Int)≤(stretchesF s.len 0 s.ps)[x.1].fr)∧Row spanE x.2.1 x.2.2.1 x.2.2.2∧x.2.1++((stretchesF s.len 0 s.ps).drop x.1).flatMap (cutS s.long s.short) = takesF s }
   (0,[],0,[]) (SoundFn.of body69 (str69 b s)) (fun l=>⟨rfl,hsc,hv,rfl⟩) (fun y hy=>by obtain ⟨p,_,rfl⟩:=List.mem_map.1 hy;rfl) rfl (HeadP.of [(2,none)] ⟨rfl,rfl,trivial⟩ ⟨rfl,rfl,rfl,trivial⟩) ⟨by simp,fun h=>by have:=(chain_drop 0 h hch).1;simpa using this,Row.nil,by simp [hT]⟩ ⟨rfl,fun _=>rfl⟩ (fun _ _ _ _ h=>h)
   (fun x y G2 hg2 hx hy=>W.mk ?_) (fun x G2 hg2 hx hk=>W.mk ?_)
  ·obtain ⟨i,out,m,vs⟩:=x
   obtain ⟨ho,hfr,hr,hx⟩:=hx
   simp only at ho hfr hx hr hy
   rw [List.getElem?_map] at hy
   obtain ⟨p,hp,rfl⟩:=Option.map_eq_some_iff.1 hy
   generalize stretchesF s.len 0 s.ps = L at hch hto hT ho hfr hx hp
   have hlt:i < L.length:=(List.getElem?_eq_some_iff.1 hp).1
   have hpe:L[i] = p:=(List.getElem?_eq_some_iff.1 hp).2
   obtain ⟨q1,q2,q3⟩:=chain_drop i hlt hch
   have q4:=hto _ (List.getElem_mem hlt)
   have hfr:=hfr hlt
   rw [List.drop_eq_getElem_cons hlt,List.flatMap_cons] at hx
   have hnext:∀ h:i + 1 < L.length,L[i].to≤L[i + 1].fr:=fun h=>by
    have:=(chain_drop 0 (by simp;omega) q3).1
    simpa using this
   rw [hpe] at q1 q2 q3 q4 hfr hx hnext
   clear hpe
   dsimp only [spanV]
   (conv=>whnf)
   refine OblP.mk ⟨_,_,rfl,by simp only [inR];omega⟩ (W.mk ?_);(conv=>whnf)
   obtain ⟨K,hK⟩:∃ K:Nat,(p.to - p.fr) / s.long = K:=⟨((p.to - p.fr) / s.long).toNat,by have:=Int.ediv_nonneg (show 0≤p.to - p.fr by omega) (show 0≤s.long by omega);omega⟩
   have hK1:(K:Int) * s.long≤p.to - p.fr:=by have:=Int.ediv_mul_le (p.to - p.fr) (show s.long≠0 by omega);rw [hK] at this;exact this
   have hK2:p.to - p.fr < K * s.long + s.long:=by have:=Int.lt_ediv_add_one_mul_self (p.to - p.fr) (show 0 < s.long by omega);rw [hK,Int.add_mul,Int.one_mul] at this;exact this
   have hcut:cutS s.long s.short p = if p.fr + K * s.long = p.to then baseF p.fr s.long K else if s.short≤p.to - (p.fr + K * s.long)∨K = 0 then baseF p.fr s.long K++[⟨p.fr + K * s.long,p.to⟩] else baseF p.fr s.long (K - 1)++[⟨p.fr + (K - 1:Nat) * s.long,p.to⟩]:=by
    simp only [cutS,hK,Int.toNat_natCast]
   have hKl:∀ j:Nat,j≤K→(j:Int) * s.long≤K * s.long∧(j:Int)≤j * s.long:=fun j hj=>⟨Int.mul_le_mul_of_nonneg_right (by omega) (by omega),by have:=Int.mul_le_mul_of_nonneg_left (show (1:Int)≤s.long by omega) (show (0:Int)≤j by omega);omega⟩
   have hKK:=hKl K (Nat.le_refl _)
   have key:∀ ts,cutS s.long s.short p = ts→(ts.length:Int)≤p.to - p.fr→((out++ts).length:Int)≤36000∧(∀ h:i + 1 < L.length,((out++ts).length:Int)≤L[i + 1].fr)∧(out++ts)++(L.drop (i + 1)).flatMap (cutS s.long s.short) = takesF s:=fun ts h1 h2=>by
    simp only [List.length_append]
    refine ⟨by omega,fun h=>by have:=hnext h;omega, ?_⟩
    rw [← hx,h1,List.append_assoc]
   have hb:∀ j,(baseF p.fr s.long j).length = j:=fun j=>by simp [baseF]
   have hrn:=hr.n
   repeat' (first | (refine ob ?_ ?_;(first | trivial | omega | (simp only [inR];omega) | exact ble (by rfl) | exact SlR.some ‹_› (by omega));(conv=>whnf)) | (refine ra ‹_› (by rfl) ?_;(conv=>whnf)) | (refine rb ‹_› (by rfl) ?_;(conv=>whnf)) | (refine rc ‹_› (by rfl) ?_;(conv=>whnf)) | (refine rd ‹_› (by rfl) ?_;(conv=>whnf)) | (refine FinP.mk ?_))
   rw [hK]
   refine LoopP.of { α:=Nat × Nat × List Value,fr:=fun x=>[(1, .c (.ptr 0 0)),(2, .c (.ptr 1 0)),(3, .c (.ptr 4 0)),(4, .v (I K)),(15, .v (I K)),(16, .v (I x.1))],H:=fun x=>[(0, .cells .anon [.val (I s.len), .val (.slice a0 n0 c0), .val (I s.long), .val (I s.short)] 69),(1, .cells .anon [.row 2 x.2.1] 67),(2, .row none x.2.1 x.2.2 143 2),(4, .cells .anon [.val (I p.fr), .val (I p.to)] 143)],ok:=fun x _=>x.1≤K∧Row spanE (out++baseF p.fr s.long x.1) x.2.1 x.2.2,m:=fun x=>K - x.1 }
    (0,m,vs) (HeadP.of [] ⟨rfl,rfl,rfl,rfl,rfl,rfl,trivial⟩ ⟨rfl,rfl,rfl,rfl,trivial⟩) ⟨Nat.zero_le _,by simpa [baseF] using hr⟩ (fun _=>⟨rfl,rfl⟩) (fun x G3 hg3 hx2=>W.mk ?_)
   obtain ⟨k,m2,vs2⟩:=x
   obtain ⟨hk,hr2⟩:=hx2
   simp only at hk hr2
   have hm2:=hr2.n
   simp only [List.length_append,hb] at hm2
   have hkl:=hKl k hk
   have hkm:((k:Int) + 1) * s.long = k * s.long + s.long:=by rw [Int.add_mul,Int.one_mul]
   dsimp only
   (conv=>whnf)
   refine IteP.mk (fun hlt2=>W.mk ?_) (fun hge2=>W.mk ?_)<;>(conv=>whnf)
   ·have hkl1:=hKl (k + 1) (by omega)
    simp only [Int.natCast_add,Int.cast_ofNat_Int,hkm] at hkl1
    repeat' (first | (refine ob ?_ ?_;(first | trivial | omega | (simp only [inR];omega) | exact ble (by rfl) | exact SlR.some ‹_› (by omega));(conv=>whnf)) | (refine OblP.mk (by simp only [inR];rw [hkm];omega) (W.mk ?_);(conv=>whnf)))
    refine RoundP.of (k + 1,m2 + 1,vs2++[I (p.fr + k * s.long),I (p.fr + (k + 1) * s.long)]) (HeadP.of [(2,some 35)] ⟨rfl,rfl,rfl,rfl,rfl,rfl,trivial⟩ ⟨rfl,rfl,rfl,rfl,trivial⟩) ⟨by simp only;omega, ?_⟩ (by simp only;omega)
    simp only [baseF_succ, ← List.append_assoc]
    exact hr2.snoc _
   ·have:k = K:=by omega
    subst this
    have hl2:vs2.length = m2 * 2:=hr2.len
    repeat' (first | (refine IteP.mk (fun _=>W.mk ?_) (fun _=>W.mk ?_)<;>(conv=>whnf)) | (refine OblP.mk ?_ (W.mk ?_);(show _≤vs2.length;omega);(conv=>whnf)) | (refine OblP.mk ⟨_,_,rfl,by simp only [inR];omega⟩ (W.mk ?_);(conv=>whnf)) | (refine ob ?_ ?_;(first | trivial | omega | (simp only [inR];omega) | exact ble (by rfl) | exact SlR.some ‹_› (by omega));(conv=>whnf)) | (first | (refine ra ‹_› (by rfl) ?_;(conv=>whnf)) | (refine rb ‹_› (by rfl) ?_;(conv=>whnf)) | (refine rc ‹_› (by rfl) ?_;(conv=>whnf)) | (refine rd ‹_› (by rfl) ?_;(conv=>whnf))))
    all_goals try (exfalso;omega)
    ·obtain ⟨k1,k2,k3⟩:=key _ (hcut.trans (if_pos (by omega))) (by simp only [hb];omega)
     exact RoundR.of (i + 1,_,m2,vs2) [] ⟨rfl,rfl,rfl,trivial⟩ ⟨k1,k2,hr2,k3⟩ rfl
    ·obtain ⟨k1,k2,k3⟩:=key _ (hcut.trans ((if_neg (by omega)).trans (if_pos (.inl (by omega))))) (by simp only [List.length_append,hb,List.length_singleton];omega)
     refine RoundR.of (i + 1,_,m2 + 1,vs2++[I (p.fr + k * s.long),I p.to]) [(2,some 68)] ⟨rfl,rfl,rfl,trivial⟩ ⟨k1,k2, ?_,k3⟩ rfl
     simp only [← List.append_assoc]
     exact hr2.snoc _
    ·obtain ⟨k1,k2,k3⟩:=key _ (hcut.trans ((if_neg (by omega)).trans (if_pos (.inr (by omega))))) (by simp only [List.length_append,hb,List.length_singleton];omega)
     refine RoundR.of (i + 1,_,m2 + 1,vs2++[I (p.fr + k * s.long),I p.to]) [(2,some 68)] ⟨rfl,rfl,rfl,trivial⟩ ⟨k1,k2, ?_,k3⟩ rfl
     simp only [← List.append_assoc]
     exact hr2.snoc _
    ·obtain ⟨k',rfl⟩:∃ k',k = k' + 1:=⟨k - 1,by omega⟩
     obtain ⟨k1,k2,k3⟩:=key _ (hcut.trans ((if_neg (by omega)).trans (if_neg (by omega)))) (by simp only [List.length_append,hb,List.length_singleton];omega)
     refine RoundR.of (i + 1,_,m2,vs2.take (((m2:Int) - 1).toNat * 2 + 1)++[I p.to]++vs2.drop (((m2:Int) - 1).toNat * 2 + 1 + 1)) [] ⟨rfl,rfl,rfl,trivial⟩ ⟨k1,k2, ?_,k3⟩ rfl
     rw [baseF_succ, ← List.append_assoc] at hr2
     have:=row_setTo (b:=p.to) hr2 rfl
     rw [show ((m2:Int) - 1).toNat = m2 - 1 by omega]
     simp only [Nat.add_sub_cancel, ← List.append_assoc]
     exact this
  ·obtain ⟨i,out,m,vs⟩:=x
   obtain ⟨ho,hfr,hr,hx⟩:=hx
   simp only at ho hr hx hk
   have hm:=hr.n
   rw [hk,List.length_map,List.drop_length,List.flatMap_nil,List.append_nil] at hx
   dsimp only
   (conv=>whnf)
   refine PubP.mk (fun a1 c1 G3 hg3 hp=>W.mk ?_)
   (conv=>whnf)
   refine FinP.mk ?_
   rw [← hx]
   exact hr.pub hp (by omega)
end Go.Proofs.YtefnikpoimaiiaaGreat.L

namespace Go.Proofs.YtefnikpoimaiiaaGreat.L
open Go.Pal

set_option maxRecDepth 100000

def tabG:Tab Tryz.prog:=Tab.cons 83 _ takes52 body52 tabF
def Calm (s:Sit):Prop:=∀ p∈s.ps,inR .i64 (p.to - p.fr)
theorem valid_calm {s:Sit} (h:validF s = true):Calm s:=fun p hp=>by
 obtain ⟨h1,h2,_⟩:=validF_iff.1 h
 have:=spansOk_mem h1 p hp
 simp only [inR];omega

theorem valid51:Sound Tryz.prog 82 id (gsca (args1 sitRd fun s=>Calm s) fun s v=>v = .bool (validF s)):=by
 refine comp51.gsca tabG (fun args G s h=>?_) (fun args G s h=>?_)
 ·obtain ⟨v,rfl,_⟩:=h;simp
 ·obtain ⟨v,rfl,⟨w,rfl,a,n,c,rfl,hl,hn⟩,hcalm⟩:=h
  have hlen:=hl.len
  (conv=>whnf)
  refine LoopP.of { α:=Nat × Int,fr:=fun x=>[(1, .c (.ptr 0 0)),(3, .v (I x.2)),(4, .v (.bool true)),(8, .v (.slice a n c)),(9, .v (I n)),(10, .v (I x.1))],H:=fun _=>[(0, .cells .anon [.val (I s.len), .val (.slice a n c), .val (I s.long), .val (I s.short)] 69)],ok:=fun x _=>x.1≤s.ps.length∧-1≤x.2∧spansOk s.len (-1) s.ps = spansOk s.len x.2 (s.ps.drop x.1),m:=fun x=>s.ps.length - x.1 }
   (0, -1) (HeadP.of [] ⟨rfl,rfl,rfl,rfl,rfl,rfl,trivial⟩ ⟨rfl,trivial⟩) ⟨Nat.zero_le _,by simp,rfl⟩ (fun _=>⟨rfl,rfl⟩) (fun x G' hG hx=>W.mk ?_)
  obtain ⟨i,last⟩:=x
  obtain ⟨hi,hla,hx⟩:=hx
  simp only at hi hla hx
  replace hl:=SlR.grow (G:=G) (G':=G') (fun _ _ h=>h) hl hG
  dsimp only
  (conv=>whnf)
  refine IteP.mk (fun hlt=>W.mk ?_) (fun hge=>W.mk ?_)<;>(conv=>whnf)
  ·have hlt:i < s.ps.length:=by omega
   have hc:=hl.el hlt
   have hcp:=hcalm _ (List.getElem_mem hlt)
   rw [List.drop_eq_getElem_cons hlt] at hx
   generalize s.ps[i] = p at hc hcp hx
   have hgs:goodSpan last s.len p = (decide (last < p.fr) && (decide (0 < p.to - p.fr) && decide (p.to≤s.len))):=by
    rw [Bool.eq_iff_iff,goodSpan_iff];simp only [Bool.and_eq_true,decide_eq_true_eq];omega
   rw [spansOk,hgs] at hx
   repeat' (first | (refine IteP.mk (fun _=>W.mk ?_) (fun _=>W.mk ?_)<;>(conv=>whnf)) | (refine OblP.mk ⟨_,_,rfl,hcp⟩ (W.mk ?_);(conv=>whnf)) | (refine ob ?_ ?_;(first | trivial | omega | (simp only [inR];omega) | exact ble (by rfl) | exact SlR.some ‹_› (by omega));(conv=>whnf)) | (first | (refine ra ‹_› (by rfl) ?_;(conv=>whnf)) | (refine rb ‹_› (by rfl) ?_;(conv=>whnf)) | (refine rc ‹_› (by rfl) ?_;(conv=>whnf)) | (refine rd ‹_› (by rfl) ?_;(conv=>whnf))))
   rotate_right
   ·have hb:(decide (last < p.fr) && (decide (0 < p.to - p.fr) && decide (p.to≤s.len))) = true:=by simp only [Bool.and_eq_true,decide_eq_true_eq];omega
    exact RoundP.of (i + 1,p.to) (HeadP.of [] ⟨rfl,rfl,rfl,rfl,rfl,rfl,trivial⟩ ⟨rfl,trivial⟩) ⟨by simp only;omega,by simp only [inR] at hcp;simp only;omega,by rw [hx,hb];rfl⟩ (by simp only;omega)
   all_goals
    have hb:(decide (last < p.fr) && (decide (0 < p.to - p.fr) && decide (p.to≤s.len))) = false:=by simp only [Bool.and_eq_false_iff,decide_eq_false_iff_not];omega
    refine FinP.mk ?_
    show Value.bool false = .bool (validF s)
    rw [validF,hx,hb];rfl
  ·have:i = s.ps.length:=by omega
   subst this
   simp only [List.drop_length,spansOk] at hx
   repeat' (first | (refine OblP.mk ⟨_,_,_,rfl⟩ (W.mk ?_);(conv=>whnf)) | (refine ForkP.mk (fun _=>W.mk ?_) (fun _=>W.mk ?_)<;>(conv=>whnf)) | (refine FinP.mk ?_))
   all_goals (refine congrArg Value.bool ?_;simp only [validF,hx];simp [*])
def ResV (G:Hp) (v:Value) (e:Int) (l:List Span):Prop:=∃ w,v = .tuple #[w,I e]∧(if e = 0 then SlV spanE G w l else w = .slice none 0 0)
theorem ResV.grow {G G':Hp} {v:Value} {e:Int} {l:List Span} (hg:Grow G G') (h:ResV G v e l):ResV G' v e l:=by
 obtain ⟨w,h1,h2⟩:=h
 refine ⟨w,h1, ?_⟩
 split at h2
 ·rename_i he;rw [if_pos he];exact h2.grow hg
 ·rename_i he;rw [if_neg he];exact h2
def tabH:Tab Tryz.prog:=Tab.cons 82 _ valid51 body51 tabG
theorem check35:Sound Tryz.prog 52 id (grel (args1 sitRd fun s=>Calm s) fun s v G=>ResV G v (faultF s) (takesF s)):=by
 refine comp35.grel tabH (ok1 _ _) (fun args G s h=>?_) (fun x v G G' hg h=>h.grow hg) (fun args G s h=>?_)
 ·obtain ⟨v,rfl,_⟩:=h;simp
 ·obtain ⟨v,rfl,⟨w,rfl,a,n,c,rfl,hl,hn⟩,hcalm⟩:=h
  (conv=>whnf)
  refine ScaP.g (ok1 sitRd fun s=>Calm s) (x:=s) ⟨_,rfl,⟨_,rfl,a,n,c,rfl,hl,hn⟩,hcalm⟩ (fun v hv=>W.mk ?_)
  subst hv
  (conv=>whnf)
  refine ForkP.mk (fun hf=>W.mk ?_) (fun hf=>W.mk ?_)<;>(conv=>whnf)
  ·refine RelP.g (ok1 sitRd fun s=>validF s = true) (x:=s) ⟨_,rfl,⟨_,rfl,a,n,c,rfl,hl,hn⟩,hf⟩ (Grow.refl _) (fun v G1 hg1 hq=>W.mk ?_)
   obtain ⟨a1,n1,c1,rfl,hl1,hn1⟩:=hq
   have:=hl1.len
   (conv=>whnf)
   refine IteP.mk (fun h=>W.mk ?_) (fun h=>W.mk ?_)<;>(conv=>whnf)<;>refine FinP.mk ?_
   ·have hf3:faultF s = 3:=by rw [faultF,if_pos hf,if_pos (by omega)]
    rw [hf3];exact ⟨_,rfl,rfl⟩
   ·have hf3:faultF s = 0:=by rw [faultF,if_pos hf,if_neg (by omega)]
    rw [hf3];exact ⟨_,rfl,a1,n1,c1,rfl,hl1,hn1⟩
  ·refine FinP.mk ?_
   have hf3:faultF s = 1:=by rw [faultF,if_neg (by simp [hf])]
   rw [hf3];exact ⟨_,rfl,rfl⟩
def tabI:Tab Tryz.prog:=Tab.cons 52 _ check35 body35 tabH
end Go.Proofs.YtefnikpoimaiiaaGreat.L

namespace Go.Proofs.YtefnikpoimaiiaaGreat.L
open Go.Pal

set_option maxRecDepth 100000

def natRd:Rd Nat:=⟨fun _ v x=>v = I x,fun {_ _ _ _} h h'=>by rw [h] at h';simp at h';omega,fun {_ _ _ _} _ h=>h⟩
def spanRd:Rd Span:=⟨fun _ v p=>v = .agg #[I p.fr,I p.to],fun {_ _ x y} h h'=>by rw [h] at h';cases x;cases y;simp at h';simp [h'],fun {_ _ _ _} _ h=>h⟩

def tabJ:Tab Tryz.prog:=(tabI)
abbrev Small (x:Int):Prop:=-100000000000000000≤x∧x≤100000000000000000
theorem sum_small:∀ {l:List Int},(∀ x∈l,Small x)→-100000000000000000 * l.length≤l.sum∧l.sum≤100000000000000000 * l.length
 | [],_=>by simp
 | x :: r,h=>by
  have:=sum_small (l:=r) fun y hy=>h y (by simp [hy])
  have:=h x (by simp)
  simp only [List.sum_cons,List.length_cons];omega
theorem sum_take:∀ {l:List Int} {i:Nat} (h:i < l.length),(l.take (i + 1)).sum = (l.take i).sum + l[i]
 | x :: r,0,_=>by simp
 | x :: r,i + 1,h=>by
  have:=sum_take (l:=r) (i:=i) (by simpa using h)
  simp only [List.take_succ_cons,List.sum_cons,List.getElem_cons_succ,this];omega
theorem sum60:Sound Tryz.prog 207 id (gsca (args1 (slRd intE) fun l=>l.length≤5∧∀ x∈l,Small x) fun l v=>v = I l.sum):=by
 refine comp60.gsca tabJ (fun args G s h=>?_) (fun args G l h=>?_)
 ·obtain ⟨v,rfl,_⟩:=h;simp
 ·obtain ⟨v,rfl,⟨a,n,c,rfl,hl,hn⟩,h5,hs⟩:=h
  have hlen:=hl.len
  have hall:=sum_small hs
  (conv=>whnf)
  refine LoopP.of { α:=Nat,fr:=fun x=>[(2, .v (I (l.take x).sum)),(5, .v (.slice a n c)),(6, .v (I n)),(7, .v (I x))],H:=fun _=>[],ok:=fun x _=>x≤l.length,m:=fun x=>l.length - x }
   0 (HeadP.of [] ⟨rfl,rfl,rfl,rfl,trivial⟩ trivial) (Nat.zero_le _) (fun _=>⟨rfl,rfl⟩) (fun (x:Nat) G' hG hx=>W.mk ?_)
  replace hl:=SlR.grow (G:=G) (G':=G') (fun _ _ h=>h) hl hG
  dsimp only at hx
  dsimp only
  (conv=>whnf)
  refine IteP.mk (fun hlt=>W.mk ?_) (fun hge=>W.mk ?_)<;>(conv=>whnf)
  ·have hlt:x < l.length:=by omega
   have hc:=hl.el hlt
   have hx1:=hs _ (List.getElem_mem hlt)
   have hx2:=sum_small (l:=l.take x) fun y hy=>hs y (List.take_sublist _ _ |>.subset hy)
   have hx3:(l.take (x + 1)).sum = (l.take x).sum + l[x]:=sum_take hlt
   simp only [List.length_take] at hx2
   repeat' (first | (refine IteP.mk (fun _=>W.mk ?_) (fun _=>W.mk ?_)<;>(conv=>whnf)) | (refine ob ?_ ?_;(first | trivial | omega | (simp only [inR];omega) | exact ble (by rfl) | exact SlR.some ‹_› (by omega));(conv=>whnf)) | (refine ForkP.mk (fun _=>W.mk ?_) (fun _=>W.mk ?_)<;>(conv=>whnf)) | (refine ra ‹_› (by rfl) ?_;(conv=>whnf)) | (refine rb ‹_› (by rfl) ?_;(conv=>whnf)) | (refine rc ‹_› (by rfl) ?_;(conv=>whnf)) | (refine rd ‹_› (by rfl) ?_;(conv=>whnf)) | (refine FinP.mk ?_))
   exact RoundP.of (x + 1) (HeadP.of [] ⟨by rw [hx3];rfl,rfl,rfl,rfl,trivial⟩ trivial) (by show x + 1≤_;omega) (by simp only;omega)
  ·have:x = l.length:=by omega
   subst this
   repeat' (first | (refine IteP.mk (fun _=>W.mk ?_) (fun _=>W.mk ?_)<;>(conv=>whnf)) | (refine ob ?_ ?_;(first | trivial | omega | (simp only [inR];omega) | exact ble (by rfl) | exact SlR.some ‹_› (by omega));(conv=>whnf)) | (refine ForkP.mk (fun _=>W.mk ?_) (fun _=>W.mk ?_)<;>(conv=>whnf)) | (refine ra ‹_› (by rfl) ?_;(conv=>whnf)) | (refine rb ‹_› (by rfl) ?_;(conv=>whnf)) | (refine rc ‹_› (by rfl) ?_;(conv=>whnf)) | (refine rd ‹_› (by rfl) ?_;(conv=>whnf)) | (refine FinP.mk ?_))
   show I (l.take l.length).sum = _
   rw [List.take_length]

structure Slow where
 slow:Int
 delay:Int
deriving DecidableEq,Repr
def slowRd:Rd Slow:=⟨fun _ v p=>v = .agg #[I p.slow,I p.delay],fun {_ _ x y} h h'=>by rw [h] at h';cases x;cases y;simp at h';simp [h'],fun {_ _ _ _} _ h=>h⟩
abbrev Little (x:Int):Prop:=0≤x∧x≤1000000
def doneF (p:Span) (s:Slow):Int:=p.to + (p.to - p.fr) * s.slow + s.delay
theorem mul_little {a b:Int} (ha:-1000000≤a∧a≤1000000) (hb:Little b):-1000000000000≤a * b∧a * b≤1000000000000:=by
 obtain ⟨h1,h2⟩:=hb
 have e1:a * b≤1000000 * b:=Int.mul_le_mul_of_nonneg_right ha.2 h1
 have e2:-1000000 * b≤a * b:=Int.mul_le_mul_of_nonneg_right ha.1 h1
 omega
theorem done_bd {p:Span} {s:Slow} (h1:Little p.fr) (h2:Little p.to) (h3:Little s.slow) (h4:Little s.delay):-2000000000000≤doneF p s∧doneF p s≤2000000000000:=by
 have:=mul_little (a:=p.to - p.fr) (b:=s.slow) (by omega) h3
 simp only [doneF];omega
theorem done47:Sound Tryz.prog 169 id (gsca (args2 spanRd slowRd fun p s=>Little p.fr∧Little p.to∧Little s.slow∧Little s.delay) fun x v=>v = I (doneF x.1 x.2)):=by
 refine comp47.gsca (Tab.cons 207 _ sum60 body60 tabJ) (fun args G s h=>?_) (fun args G x h=>?_)
 ·obtain ⟨v,w,rfl,_⟩:=h;simp
 ·obtain ⟨p,s⟩:=x
  obtain ⟨v,w,rfl,rfl,rfl,h1,h2,h3,h4⟩:=h
  simp only at h1 h2 h3 h4
  have hm:=mul_little (a:=p.to - p.fr) (b:=s.slow) (by omega) h3
  (conv=>whnf)
  refine OblP.mk ⟨_,_,rfl,by simp only [inR];omega⟩ (W.mk ?_)
  (conv=>whnf)
  repeat' (refine ob ?_ ?_;(first | trivial | omega | (simp only [inR];omega) | exact ble (by rfl) | exact SlR.some ‹_› (by omega));(conv=>whnf))
  refine RelP.mk trivial (fun v G1 hg1 hq=>W.mk ?_)
  obtain ⟨a,c,rfl,hp⟩:=hq
  (conv=>whnf)
  refine ScaP.g (ok1 (slRd intE) _) (x:=[p.to,(p.to - p.fr) * s.slow,s.delay]) ⟨_,rfl,hp.slV rfl rfl (by decide),by simp,by simp [Small];omega⟩ (fun v hv=>W.mk ?_)
  subst hv
  repeat' (first | (refine IteP.mk (fun _=>W.mk ?_) (fun _=>W.mk ?_)<;>(conv=>whnf)) | (refine ob ?_ ?_;(first | trivial | omega | (simp only [inR];omega) | exact ble (by rfl) | exact SlR.some ‹_› (by omega));(conv=>whnf)) | (refine ForkP.mk (fun _=>W.mk ?_) (fun _=>W.mk ?_)<;>(conv=>whnf)) | (refine ra ‹_› (by rfl) ?_;(conv=>whnf)) | (refine rb ‹_› (by rfl) ?_;(conv=>whnf)) | (refine rc ‹_› (by rfl) ?_;(conv=>whnf)) | (refine rd ‹_› (by rfl) ?_;(conv=>whnf)) | (refine FinP.mk ?_))
  refine congrArg I ?_
  simp [doneF];omega
end Go.Proofs.YtefnikpoimaiiaaGreat.L

namespace Go.Proofs.YtefnikpoimaiiaaGreat.L
open Go.Pal

set_option maxRecDepth 100000

def tabK:Tab Tryz.prog:=Tab.cons 169 _ done47 body47 (Tab.cons 207 _ sum60 body60 tabJ)
structure Wk where
 s:Sit
 o:Off
 t:List Span
deriving DecidableEq,Repr
def WorkV (G:Hp) (v:Value) (x:Wk):Prop:=∃ b w1 w2 w3,v = .pointer (some ⟨b,0,none⟩)∧CellsAt G b 0 [I x.s.len,w1,I x.s.long,I x.s.short,w2,I x.o.due,I x.o.delay,w3]∧SlV spanE G w1 x.s.ps∧SlV repE G w2 x.o.crew∧SlV spanE G w3 x.t
theorem WorkV.uniq {G:Hp} {v:Value} {x y:Wk} (h:WorkV G v x) (h':WorkV G v y):x = y:=by
 obtain ⟨b,w1,w2,w3,rfl,c,h1,h2,h3⟩:=h
 obtain ⟨b',w1',w2',w3',e,c',h1',h2',h3'⟩:=h'
 cases e
 have e:=c.eq c' rfl
 simp only [List.cons.injEq,and_true,Value.int.injEq,true_and] at e
 obtain ⟨e1,rfl,e2,e3,rfl,e4,e5,rfl⟩:=e
 have g1:=h1.uniq h1';have g2:=h2.uniq h2';have g3:=h3.uniq h3'
 obtain ⟨⟨_,_,_,_⟩,⟨_,_,_⟩,_⟩:=x
 obtain ⟨⟨_,_,_,_⟩,⟨_,_,_⟩,_⟩:=y
 simp_all
theorem WorkV.grow {G G':Hp} {v:Value} {x:Wk} (hg:Grow G G') (h:WorkV G v x):WorkV G' v x:=by
 obtain ⟨b,w1,w2,w3,e,c,h1,h2,h3⟩:=h
 exact ⟨b,w1,w2,w3,e,c.grow hg,h1.grow hg,h2.grow hg,h3.grow hg⟩
def workRd:Rd Wk:=⟨WorkV,fun h h'=>h.uniq h',fun hg h=>h.grow hg⟩

def doneW (x:Wk) (n i:Nat):Int:=doneF (x.t.getD n ⟨0,0⟩) ⟨(x.o.crew.getD i ⟨0,0,0⟩).hi,x.o.delay⟩
structure Fine (x:Wk):Prop where
 t:∀ p∈x.t,Little p.fr∧Little p.to
 r:∀ p∈x.o.crew,Little p.lo∧Little p.hi∧Little p.rest
 due:Little x.o.due
 delay:Little x.o.delay
theorem worst48:Sound Tryz.prog 107 id (gsca (args3 workRd natRd natRd fun x n i=>Fine x∧n < x.t.length∧i < x.o.crew.length) fun x v=>v = I (doneW x.1 x.2.1 x.2.2)):=by
 refine comp48.gsca tabK (fun args G s h=>?_) (fun args G x h=>?_)
 ·obtain ⟨u,v,w,rfl,_⟩:=h;simp
 ·obtain ⟨x,n,i⟩:=x
  obtain ⟨u,v,w,rfl,⟨b,w1,w2,w3,rfl,c,⟨a1,n1,c1,rfl,l1,hn1⟩,⟨a2,n2,c2,rfl,l2,hn2⟩,⟨a3,n3,c3,rfl,l3,hn3⟩⟩,rfl,rfl,hf,hn,hi⟩:=h
  simp only at hf hn hi c l1 l2 l3
  have e2:=l2.len
  have e3:=l3.len
  have k2:=l2.el hi
  have k3:=l3.el hn
  have f3:=hf.t _ (List.getElem_mem hn)
  have f2:=hf.r _ (List.getElem_mem hi)
  (conv=>whnf)
  repeat' (first | (refine ob ?_ ?_;(first | trivial | omega | (simp only [inR];omega) | exact ble (by rfl) | exact SlR.some ‹_› (by omega));(conv=>whnf)) | (first | (refine ra ‹_› (by rfl) ?_;(conv=>whnf)) | (refine rb ‹_› (by rfl) ?_;(conv=>whnf)) | (refine rc ‹_› (by rfl) ?_;(conv=>whnf)) | (refine rd ‹_› (by rfl) ?_;(conv=>whnf))))
  refine ScaP.g (ok2 spanRd slowRd fun p s=>Little p.fr∧Little p.to∧Little s.slow∧Little s.delay) (x:=(x.t[n],⟨x.o.crew[i].hi,x.o.delay⟩)) ⟨_,_,rfl,rfl,rfl,f3.1,f3.2,f2.2.1,hf.delay⟩ (fun v hv=>W.mk ?_)
  subst hv
  repeat' (first | (refine IteP.mk (fun _=>W.mk ?_) (fun _=>W.mk ?_)<;>(conv=>whnf)) | (refine ob ?_ ?_;(first | trivial | omega | (simp only [inR];omega) | exact ble (by rfl) | exact SlR.some ‹_› (by omega));(conv=>whnf)) | (refine ForkP.mk (fun _=>W.mk ?_) (fun _=>W.mk ?_)<;>(conv=>whnf)) | (refine ra ‹_› (by rfl) ?_;(conv=>whnf)) | (refine rb ‹_› (by rfl) ?_;(conv=>whnf)) | (refine rc ‹_› (by rfl) ?_;(conv=>whnf)) | (refine rd ‹_› (by rfl) ?_;(conv=>whnf)) | (refine FinP.mk ?_))
  refine congrArg I ?_
  simp [doneW,hn,hi]
end Go.Proofs.YtefnikpoimaiiaaGreat.L

namespace Go.Proofs.YtefnikpoimaiiaaGreat.L
open Go.Pal Go

set_option maxRecDepth 100000
structure Stt where
 n:Nat
 had:List Int
 five:had.length = 5
deriving DecidableEq
def Stt.cells (s:Stt):List Value:=I s.n :: s.had.map I
def Stt.val (s:Stt):Value:=.agg s.cells.toArray
theorem Stt.cells_inj {x y:Stt} (h:x.cells = y.cells):x = y:=by
 obtain ⟨n,l,h1⟩:=x
 obtain ⟨m,k,h2⟩:=y
 simp only [Stt.cells,List.cons.injEq,Value.int.injEq,true_and] at h
 obtain ⟨e1,e2⟩:=h
 have e3:l = k:=by
  have:Function.Injective I:=fun a b h=>by simpa using h
  exact (List.map_inj_right (fun a b h=>this h)).1 e2
 have e1:n = m:=by omega
 subst e1 e3;rfl
def Stt.Ok (s:Stt):Prop:=inR .i64 s.n∧∀ x∈s.had,inR .i64 x
theorem u110 : Tryz.prog.underlying 198 = some (.struct #[{ name := "take", type := 3, offset := 0, embedded := false, tag := "", pkgPath := "palantype/take", byteOffset := 0 }, { name := "had", type := 196, offset := 1, embedded := false, tag := "", pkgPath := "palantype/take", byteOffset := 8 }]) := by kernel_rfl
theorem u108:Tryz.prog.underlying 196 = some (.array 5 3):=by kernel_rfl
theorem u3:Tryz.prog.underlying 3 = some (.int .i64):=by kernel_rfl
theorem c110:Tryz.prog.cellsOf 198 = 6:=by kernel_rfl
theorem c108:Tryz.prog.cellsOf 196 = 5:=by kernel_rfl
theorem c3:Tryz.prog.cellsOf 3 = 1:=by kernel_rfl
theorem wf_i64 {a:Int} (h:inR .i64 a):(Lit.int .i64 a).wf = true:=by
 simp only [inR] at h
 simp only [Lit.wf,Bool.and_eq_true,decide_eq_true_eq]
 exact h
theorem keyLits_int {D:Nat} {a:Int} (h:inR .i64 a):Tryz.prog.keyLits (D + 1) 3 [I a] = some [.int .i64 a]:=by
 simp only [Program.keyLits,u3]
 rw [if_pos ⟨trivial,wf_i64 h⟩]
theorem keyOf_five {n a b c d e:Int} (h1:inR .i64 n) (ha:inR .i64 a) (hb:inR .i64 b) (hc:inR .i64 c) (hd:inR .i64 d) (he:inR .i64 e):keyOf Tryz.prog 198 (.agg #[I n,I a,I b,I c,I d,I e]) = some (.string (keyBytes [.int .i64 n, .int .i64 a, .int .i64 b, .int .i64 c, .int .i64 d, .int .i64 e])):=by
 have kt:Tryz.prog.keyType 198 = true:=by kernel_rfl
 obtain ⟨m,hs⟩:∃ m,Tryz.prog.types.size + 1 = m + 3:=by
  have hs:Tryz.prog.types.size + 1 = (Tryz.prog.types.size - 2) + 3:=by kernel_rfl
  exact ⟨_,hs⟩
 have hf:(Value.agg #[I n,I a,I b,I c,I d,I e]).formed Tryz.prog 198 = true:=by
  simp only [Value.formed,u110,c110];rfl
 have hc5:Tryz.prog.keyLits (m + 2) 196 [I a,I b,I c,I d,I e] = some [.int .i64 a, .int .i64 b, .int .i64 c, .int .i64 d, .int .i64 e]:=by
  unfold Program.keyLits
  simp only [u108]
  rw [if_pos (by rw [c108];rfl)]
  have:List.range 5 = [0,1,2,3,4]:=rfl
  rw [this]
  simp [c3,keyLits_int ha,keyLits_int hb,keyLits_int hc,keyLits_int hd,keyLits_int he]
 unfold keyOf
 simp only [u110,kt,hf,Bool.and_self,if_true]
 rw [hs]
 unfold Program.keyLits
 simp only [u110]
 rw [if_pos ⟨by rw [c110];rfl,by kernel_rfl⟩]
 simp [Value.cells,c108,c3,keyLits_int h1,hc5]
theorem stt_keyOf {s:Stt} (h:s.Ok):∃ l,keyOf Tryz.prog 198 s.val = some l:=by
 obtain ⟨n,l,h5⟩:=s
 obtain ⟨h1,h2⟩:=h
 simp only at h1 h2
 match l,h5 with
 | [a,b,c,d,e],_ =>
  refine ⟨_,keyOf_five h1 (h2 a (by simp)) (h2 b (by simp)) (h2 c (by simp)) (h2 d (by simp)) (h2 e (by simp))⟩
theorem law110:WideMaps.KeyLaw Tryz.prog 198:=deep_law (m:=5) (by decide) (by kernel_rfl) (by kernel_rfl) (by rw [u110])
theorem stt_same (s:Stt):Instr.sameBits 10000 s.val s.val = true:=by
 have:∀ l:List Value,(∀ v∈l, ∃ a,v = I a)→(l.zip l).all (fun (x,y)=>Instr.sameBits 9999 x y) = true:=by
  intro l h
  induction l with
  | nil=>rfl
  | cons x r ih =>
   obtain ⟨a,rfl⟩:=h x (by simp)
   simp only [List.zip_cons_cons,List.all_cons,ih (fun v hv=>h v (by simp [hv])),Bool.and_true]
   simp [Instr.sameBits]
 show Instr.sameBits (9999 + 1) (.agg _) (.agg _) = true
 simp only [Instr.sameBits,beq_self_eq_true,Bool.true_and]
 exact this _ (fun v hv=>by
  simp only [Stt.cells,List.mem_cons,List.mem_map] at hv
  rcases hv with rfl | ⟨a,_,rfl⟩
  ·exact ⟨_,rfl⟩
  ·exact ⟨_,rfl⟩)
theorem Stt.val_inj {x y:Stt} (h:x.val = y.val):x = y:=by
 refine Stt.cells_inj ?_
 simp only [Stt.val,Value.agg.injEq] at h
 have:=congrArg Array.toList h
 simpa using this
structure Dead (es:Array MapEntry) (D:List Stt):Prop where
 eq:es.toList.map (fun e=>(e.key,e.val)) = D.map fun s=>(s.val, .bool true)
 ok:∀ s∈D,s.Ok
 nd:D.Nodup
theorem Dead.nil:Dead #[] []:=⟨rfl,(fun s h=>by cases h),List.nodup_nil⟩
theorem Dead.keys {es:Array MapEntry} {D:List Stt} (h:Dead es D):es.toList.map (·.key) = D.map (·.val):=by
 have:=congrArg (List.map Prod.fst) h.eq
 simpa [List.map_map,Function.comp_def] using this
theorem Dead.find {es:Array MapEntry} {D:List Stt} (h:Dead es D) {s:Stt} (hs:s.Ok):(s ∉ D∧KeyFind Tryz.prog 198 s.val es none)∨(s∈D∧∃ j,KeyFind Tryz.prog 198 s.val es (some j)∧lookV (.bool false) false es (some j) = .bool true∧∀ c,Dead (putE es c s.val (.bool true) (some j)).1 D):=by
 obtain ⟨l,hl⟩:=stt_keyOf hs
 have hmem:∀ e∈es.toList, ∃ t∈D,e.key = t.val∧e.val = .bool true:=fun e he=>by
  have:(e.key,e.val)∈es.toList.map (fun e=>(e.key,e.val)):=List.mem_map.2 ⟨e,he,rfl⟩
  rw [h.eq] at this
  obtain ⟨t,ht,e1⟩:=List.mem_map.1 this
  simp only [Prod.mk.injEq] at e1
  exact ⟨t,ht,e1.1.symm,e1.2.symm⟩
 have hnd:(es.toList.map (·.key)).Nodup:=by
  rw [h.keys]
  exact h.nd.map _ (fun a b hab e=>hab (Stt.val_inj e))
 rcases keyFind_of law110 hl (stt_same s) (es:=es) (fun e he=>by obtain ⟨t,ht,e1,_⟩:=hmem e he;rw [e1];exact stt_keyOf (h.ok t ht)) hnd with ⟨h1,h2⟩ | ⟨j,e,h1,h2,h3⟩
 ·refine .inl ⟨fun hin=>?_,h1⟩
  have:s.val∈es.toList.map (·.key):=by rw [h.keys];exact List.mem_map.2 ⟨s,hin,rfl⟩
  obtain ⟨e,he,e1⟩:=List.mem_map.1 this
  exact h2 e he e1
 ·have h2':es.toList[j]? = some e:=by simpa using h2
  obtain ⟨t,ht,e1,e2⟩:=hmem e (List.mem_of_getElem? h2')
  have:s = t:=Stt.val_inj (h3.symm.trans e1)
  refine .inr ⟨this ▸ ht,j,h1,by simp [lookV,mapAt,h2,e2],fun c=>⟨?_,h.ok,h.nd⟩⟩
  rw [← h.eq]
  simp only [putE]
  apply List.ext_getElem?
  intro i
  simp only [List.getElem?_map,Array.getElem?_toList,Array.getElem?_modify]
  split
  ·rename_i hij
   subst hij
   simp [h2,h3,e2]
  ·rfl
theorem Dead.put {es:Array MapEntry} {D:List Stt} (h:Dead es D) {s:Stt} (hs:s.Ok) (hn:s ∉ D) {c:Nat}:Dead (putE es c s.val (.bool true) none).1 (D++[s]):=by
 refine ⟨?_,fun t ht=>?_, ?_⟩
 ·simp only [putE,Array.toList_push,List.map_append,h.eq,List.map_cons,List.map_nil]
 ·rcases List.mem_append.1 ht with ht | ht
  ·exact h.ok t ht
  ·simp at ht;subst ht;exact hs
 ·rw [List.nodup_append]
  exact ⟨h.nd,by simp,fun a ha b hb=>by simp at hb;subst hb;exact fun e=>hn (e ▸ ha)⟩
end Go.Proofs.YtefnikpoimaiiaaGreat.L

namespace Go.Proofs.YtefnikpoimaiiaaGreat.L
open Go.Pal

set_option maxRecDepth 100000

def sttRd:Rd Stt:=⟨fun _ v s=>v = s.val,fun {_ _ _ _} h h'=>Stt.val_inj (h.symm.trans h'),fun {_ _ _ _} _ h=>h⟩
def giveF (s:Stt) (i:Nat):Stt:=⟨s.n + 1,s.had.set i s.n,by simp [s.five]⟩
theorem given55:Sound Tryz.prog 79 id (gsca (args2 sttRd natRd fun s i=>i < 5∧s.n≤1000000) fun x v=>v = (giveF x.1 x.2).val):=by
 refine comp55.gsca tabK (fun args G s h=>?_) (fun args G x h=>?_)
 ·obtain ⟨v,w,rfl,_⟩:=h;simp
 ·obtain ⟨⟨n,l,h5⟩,i⟩:=x
  obtain ⟨v,w,rfl,rfl,rfl,hi,hn⟩:=h
  simp only at hi hn
  match l,h5 with
  | [a,b,c,d,e],_ =>
   have:i = 0∨i = 1∨i = 2∨i = 3∨i = 4:=by omega
   rcases this with rfl | rfl | rfl | rfl | rfl<;>(dsimp only;(conv=>whnf);(refine ob ?_ ?_;(first | trivial | omega | (simp only [inR];omega) | exact ble (by rfl) | exact SlR.some ‹_› (by omega));(conv=>whnf));(refine ob ?_ ?_;(first | trivial | omega | (simp only [inR];omega) | exact ble (by rfl) | exact SlR.some ‹_› (by omega));(conv=>whnf));(refine ob ?_ ?_;(first | trivial | omega | (simp only [inR];omega) | exact ble (by rfl) | exact SlR.some ‹_› (by omega));(conv=>whnf));refine FinP.mk ?_;rfl)
theorem Stt.cases (s:Stt):∃ n a b c d e h,s = ⟨n,[a,b,c,d,e],h⟩:=by
 obtain ⟨n,l,h⟩:=s
 match l,h with
 | [a,b,c,d,e],h=>exact ⟨n,a,b,c,d,e,h,rfl⟩
def startF:Stt:=⟨0,[-1, -1, -1, -1, -1],rfl⟩
def beginF (l:List Int):Stt:=l.foldl (fun s i=>giveF s i.toNat) startF
theorem begin_n:∀ (l:List Int) (s:Stt),(l.foldl (fun s i=>giveF s i.toNat) s).n = s.n + l.length
 | [],_=>rfl
 | x :: r,s=>by rw [List.foldl_cons,begin_n r];simp [giveF];omega
theorem begin_snoc {l:List Int} {i:Nat} (h:i < l.length):beginF (l.take (i + 1)) = giveF (beginF (l.take i)) l[i].toNat:=by
 rw [beginF,List.take_succ_eq_append_getElem h,List.foldl_append];rfl
def negC (x:Nat):List S1:=.val (I 0) :: (List.replicate x (.val (I (-1)))++List.replicate (5 - x) (.val (I 0)))
theorem allBd_val {b:Nat} {l:List S1} (h:∀ c∈l, ∃ v,c = .val v):allBd b l = true:=by
 induction l with
 | nil=>rfl
 | cons c r ih =>
  obtain ⟨v,rfl⟩:=h c (by simp)
  exact ih fun c hc=>h c (by simp [hc])
theorem negC_bd {b x:Nat}:allBd b (negC x) = true:=allBd_val fun c hc=>by
 simp only [negC,List.mem_cons,List.mem_append,List.mem_replicate] at hc
 rcases hc with rfl | ⟨_,rfl⟩ | ⟨_,rfl⟩<;>exact ⟨_,rfl⟩
def tabL:Tab Tryz.prog:=Tab.cons 79 _ given55 body55 (Tab.cons 107 _ worst48 body48 tabK)
theorem begin57:Sound Tryz.prog 81 id (gsca (args1 (slRd intE) fun l=>l.length≤1000000∧∀ x∈l,0≤x∧x < 5) fun l v=>v = (beginF l).val):=by
 refine comp57.gsca tabL (fun args G s h=>?_) (fun args G l h=>?_)
 ·obtain ⟨v,rfl,_⟩:=h;simp
 ·obtain ⟨v,rfl,⟨a,n,c,rfl,hl,hn⟩,hmax,hr⟩:=h
  have hlen:=hl.len
  (conv=>whnf)
  refine LoopP.of { α:=Nat,fr:=fun x=>[(0, .v (.slice a n c)),(2, .c (.ptr 0 0)),(3, .c (.ptr 1 0)),(7, .v (I x))],H:=fun x=>[(0, .cells .anon [.val (I 0), .val (I 0), .val (I 0), .val (I 0), .val (I 0), .val (I 0)] 198),(1, .cells .anon (negC x) 198)],ok:=fun x _=>x≤5,m:=fun x=>5 - x }
   0 (HeadP.of [] ⟨rfl,rfl,rfl,rfl,trivial⟩ ⟨rfl,rfl,trivial⟩) (Nat.zero_le _) (fun x=>⟨rfl,by simp only [HBd,OB.bd,negC_bd];rfl⟩) (fun (x:Nat) G' hG hx=>W.mk ?_)
  dsimp only at hx
  dsimp only
  (conv=>whnf)
  refine IteP.mk (fun hlt=>W.mk ?_) (fun hge=>W.mk ?_)<;>(conv=>whnf)
  ·have:x = 0∨x = 1∨x = 2∨x = 3∨x = 4:=by omega
   rcases this with rfl | rfl | rfl | rfl | rfl<;>(repeat ((refine ob ?_ ?_;(first | trivial | omega | (simp only [inR];omega) | exact ble (by rfl) | exact SlR.some ‹_› (by omega));(conv=>whnf))))<;>(first | exact RoundP.of (1:Nat) (HeadP.of [] ⟨rfl,rfl,rfl,rfl,trivial⟩ ⟨rfl,rfl,trivial⟩) (Nat.le_of_ble_eq_true rfl) (Nat.le_of_ble_eq_true rfl) | exact RoundP.of (2:Nat) (HeadP.of [] ⟨rfl,rfl,rfl,rfl,trivial⟩ ⟨rfl,rfl,trivial⟩) (Nat.le_of_ble_eq_true rfl) (Nat.le_of_ble_eq_true rfl) | exact RoundP.of (3:Nat) (HeadP.of [] ⟨rfl,rfl,rfl,rfl,trivial⟩ ⟨rfl,rfl,trivial⟩) (Nat.le_of_ble_eq_true rfl) (Nat.le_of_ble_eq_true rfl) | exact RoundP.of (4:Nat) (HeadP.of [] ⟨rfl,rfl,rfl,rfl,trivial⟩ ⟨rfl,rfl,trivial⟩) (Nat.le_of_ble_eq_true rfl) (Nat.le_of_ble_eq_true rfl) | exact RoundP.of (5:Nat) (HeadP.of [] ⟨rfl,rfl,rfl,rfl,trivial⟩ ⟨rfl,rfl,trivial⟩) (Nat.le_of_ble_eq_true rfl) (Nat.le_of_ble_eq_true rfl))
  ·have:x = 5:=by omega
   subst this
   replace hl:=SlR.grow (G:=G) (G':=G') (fun _ _ h=>h) hl hG
   clear hG hx hge
   refine LoopP.of { α:=Nat × Nat × Int × Int × Int × Int × Int,fr:=fun x=>[(2, .c (.ptr 0 0)),(3, .c (.ptr 1 0)),(14, .v (.slice a n c)),(15, .v (I n)),(16, .v (I x.1))],H:=fun x=>[(0, .cells .anon [.val (I 0), .val (I 0), .val (I 0), .val (I 0), .val (I 0), .val (I 0)] 198),(1, .cells .anon [.val (I x.2.1), .val (I x.2.2.1), .val (I x.2.2.2.1), .val (I x.2.2.2.2.1), .val (I x.2.2.2.2.2.1), .val (I x.2.2.2.2.2.2)] 198)],ok:=fun x _=>x.1≤l.length∧x.2.1 = x.1∧∃ h,beginF (l.take x.1) = ⟨x.2.1,[x.2.2.1,x.2.2.2.1,x.2.2.2.2.1,x.2.2.2.2.2.1,x.2.2.2.2.2.2],h⟩,m:=fun x=>l.length - x.1 }
    (0,0, -1, -1, -1, -1, -1) (HeadP.of [] ⟨rfl,rfl,rfl,rfl,rfl,trivial⟩ ⟨rfl,rfl,trivial⟩) ⟨Nat.zero_le _,rfl,rfl,rfl⟩ (fun _=>⟨rfl,rfl⟩) (fun x G2 hG hx=>W.mk ?_)
   obtain ⟨i,m,x1,x2,x3,x4,x5⟩:=x
   obtain ⟨hi,hm,h5,hb⟩:=hx
   dsimp only at hi hm hb
   replace hl:=SlR.grow (G:=G') (G':=G2) (fun _ _ h=>h) hl hG
   dsimp only
   (conv=>whnf)
   refine IteP.mk (fun hlt=>W.mk ?_) (fun hge=>W.mk ?_)<;>(conv=>whnf)
   ·have hlt:i < l.length:=by omega
    have hc:=hl.el hlt
    have hx:=hr _ (List.getElem_mem hlt)
    repeat' (first | (refine ob ?_ ?_;(first | trivial | omega | (simp only [inR];omega) | exact ble (by rfl) | exact SlR.some ‹_› (by omega));(conv=>whnf)) | (first | (refine ra ‹_› (by rfl) ?_;(conv=>whnf)) | (refine rb ‹_› (by rfl) ?_;(conv=>whnf)) | (refine rc ‹_› (by rfl) ?_;(conv=>whnf)) | (refine rd ‹_› (by rfl) ?_;(conv=>whnf))))
    refine ScaP.g (ok2 sttRd natRd fun s i=>i < 5∧s.n≤1000000) (x:=(beginF (l.take i),l[i].toNat)) ⟨_,_,rfl,by rw [hb];rfl,by show I l[i] = I _;congr 1;omega,by simp only;omega,by rw [hb];simp only;omega⟩ (fun v hv=>W.mk ?_)
    have hs:=begin_snoc hlt
    simp only [← hs] at hv
    obtain ⟨n',y1,y2,y3,y4,y5,h5',e⟩:=Stt.cases (beginF (l.take (i + 1)))
    have hn':n' = i + 1:=by
     have:=begin_n (l.take (i + 1)) startF
     have e2:=congrArg Stt.n e
     simp only [beginF] at e2
     rw [this] at e2
     simp [startF] at e2
     omega
    rw [e] at hv
    subst hv
    (conv=>whnf)
    repeat' (refine ob ?_ ?_;(first | trivial | omega | (simp only [inR];omega) | exact ble (by rfl) | exact SlR.some ‹_› (by omega));(conv=>whnf))
    exact RoundP.of (i + 1,n',y1,y2,y3,y4,y5) (HeadP.of [] ⟨rfl,rfl,rfl,rfl,rfl,trivial⟩ ⟨rfl,rfl,trivial⟩) ⟨hlt,hn',h5',e⟩ (by simp only;omega)
   ·have:i = l.length:=by omega
    subst this
    rw [List.take_length] at hb
    repeat' (refine ob ?_ ?_;(first | trivial | omega | (simp only [inR];omega) | exact ble (by rfl) | exact SlR.some ‹_› (by omega));(conv=>whnf))
    refine FinP.mk ?_
    rw [hb];rfl
end Go.Proofs.YtefnikpoimaiiaaGreat.L

namespace Go.Proofs.YtefnikpoimaiiaaGreat.L
open Go.Pal

set_option maxRecDepth 100000

def tabM:Tab Tryz.prog:=Tab.cons 81 _ begin57 body57 tabL
def takeN (x:Wk) (n:Nat):Span:=x.t.getD n ⟨0,0⟩
def hadN (s:Stt) (i:Nat):Int:=s.had.getD i (-1)
def restN (x:Wk) (i:Nat):Int:=(x.o.crew.getD i ⟨0,0,0⟩).rest
def mayF (x:Wk) (s:Stt) (i:Nat):Bool:=decide (doneW x s.n i≤(takeN x s.n).to + x.o.due) && (decide (hadN s i = -1) || decide (doneW x (hadN s i).toNat i + restN x i≤(takeN x s.n).fr))
def HadOk (x:Wk) (s:Stt):Prop:=∀ j∈s.had,j = -1∨(0≤j∧j < x.t.length)
theorem HadOk.at {x:Wk} {s:Stt} (h:HadOk x s) {i:Nat} (hi:i < 5):hadN s i = -1∨(0≤hadN s i∧hadN s i < x.t.length):=by
 have hlt:i < s.had.length:=by rw [s.five];exact hi
 have:hadN s i = s.had[i]:=by simp [hadN,hlt]
 rw [this];exact h _ (List.getElem_mem hlt)
abbrev I64 (n:Nat):Int:=n
theorem may53:Sound Tryz.prog 77 id (gsca (args3 workRd sttRd natRd fun x s i=>Fine x∧s.n < x.t.length∧i < x.o.crew.length∧x.o.crew.length≤5∧HadOk x s) fun x v=>v = .bool (mayF x.1 x.2.1 x.2.2)):=by
 refine comp53.gsca tabM (fun args G s h=>?_) (fun args G x h=>?_)
 ·obtain ⟨u,v,w,rfl,_⟩:=h;simp
 ·obtain ⟨x,s,i⟩:=x
  obtain ⟨u,v,w,rfl,hw,rfl,rfl,hf,hn,hi,h5,hh⟩:=h
  simp only at hf hn hi h5 hh hw
  have hw0:=hw
  obtain ⟨b,w1,w2,w3,rfl,c,⟨a1,n1,c1,rfl,l1,hn1⟩,⟨a2,n2,c2,rfl,l2,hn2⟩,⟨a3,n3,c3,rfl,l3,hn3⟩⟩:=hw
  have e2:=l2.len
  have e3:=l3.len
  have k2:=l2.el hi
  have k3:=l3.el hn
  have f3:=hf.t _ (List.getElem_mem hn)
  have f2:=hf.r _ (List.getElem_mem hi)
  have hat:=hh.at (i:=i) (by omega)
  have hhad:∀ j,hadN s i = (j:Int)→j = -1∨0≤j:=fun j e=>by omega
  have et:takeN x s.n = x.t[s.n]:=by simp [takeN,hn]
  have er:restN x i = x.o.crew[i].rest:=by simp [restN,hi]
  have hb1:-2000000000000≤doneW x s.n i∧doneW x s.n i≤2000000000000:=by
   have:=done_bd (p:=x.t[s.n]) (s:=⟨x.o.crew[i].hi,x.o.delay⟩) f3.1 f3.2 f2.2.1 hf.delay
   simpa [doneW,hn,hi] using this
  obtain ⟨m,y0,y1,y2,y3,y4,h5',e⟩:=Stt.cases s
  have em:s.n = m:=by rw [e]
  subst em
  rw [e]
  dsimp only
  (conv=>whnf)
  refine ScaP.g (ok3 workRd natRd natRd fun x n i=>Fine x∧n < x.t.length∧i < x.o.crew.length) (x:=(x,s.n,i)) ⟨_,_,_,rfl,hw0,rfl,rfl,hf,hn,hi⟩ (fun v hv=>W.mk ?_)
  subst hv
  (conv=>whnf)
  have hd:=hf.due
  repeat' (first | (refine ob ?_ ?_;(first | trivial | omega | (simp only [inR];omega) | exact ble (by rfl) | exact SlR.some ‹_› (by omega));(conv=>whnf)) | (first | (refine ra ‹_› (by rfl) ?_;(conv=>whnf)) | (refine rb ‹_› (by rfl) ?_;(conv=>whnf)) | (refine rc ‹_› (by rfl) ?_;(conv=>whnf)) | (refine rd ‹_› (by rfl) ?_;(conv=>whnf))))
  refine IteP.mk (fun hb2=>W.mk ?_) (fun hb2=>W.mk ?_)<;>(conv=>whnf)
  ·refine FinP.mk ?_
   have:mayF x s i = false:=by
    simp only [mayF,Bool.and_eq_false_iff,decide_eq_false_iff_not,et]
    left
    simp only at hb2
    omega
   rw [← e,this];rfl
  ·simp only at hb2
   have hmay:mayF x s i = (decide (hadN s i = -1) || decide (doneW x (hadN s i).toNat i + restN x i≤(takeN x s.n).fr)):=by
    have:decide (doneW x s.n i≤(takeN x s.n).to + x.o.due) = true:=by rw [decide_eq_true_eq,et];omega
    rw [mayF,this,Bool.true_and]
   rw [et,er] at hmay
   have i5:i = 0∨i = 1∨i = 2∨i = 3∨i = 4:=by omega
   have fin:∀ y:Int,hadN s i = y→y≠-1→∃ hl:y.toNat < x.t.length,y = I64 y.toNat∧-2000000000000≤doneW x y.toNat i∧doneW x y.toNat i≤2000000000000:=fun y hy hne=>by
    have hl:y.toNat < x.t.length:=by omega
    have f3:=hf.t _ (List.getElem_mem hl)
    have:=done_bd (p:=x.t[y.toNat]) (s:=⟨x.o.crew[i].hi,x.o.delay⟩) f3.1 f3.2 f2.2.1 hf.delay
    exact ⟨hl,by simp only [I64];omega,by simpa [doneW,hl,hi] using this⟩
   have hyk:∀ k y,i = k→[y0,y1,y2,y3,y4][k]? = some y→hadN s i = y:=fun k y e1 e2=>by
    subst e1;rw [e];simp only [hadN,List.getD_eq_getElem?_getD,e2,Option.getD_some]
   rcases i5 with rfl | rfl | rfl | rfl | rfl
   ·replace fin:=fin y0 (hyk 0 y0 rfl rfl)
    rw [hyk 0 y0 rfl rfl] at hmay
    rw [hyk 0 y0 rfl rfl] at hat
    clear hhad
    (refine ob ?_ ?_;(first | trivial | omega | (simp only [inR];omega) | exact ble (by rfl) | exact SlR.some ‹_› (by omega));(conv=>whnf))
    refine EqsP.mk ⟨[.val (I y0)],rfl,rfl,W.mk ?_⟩
    (conv=>whnf)
    refine IteP.mk (fun hm1=>W.mk ?_) (fun hm1=>W.mk ?_)<;>(conv=>whnf)
    ·refine FinP.mk ?_
     rw [hm1] at hmay
     rw [← e,hmay];rfl
    ·obtain ⟨hl,hyn,hb3,hb4⟩:=fin hm1
     repeat' (first | (refine ob ?_ ?_;(first | trivial | omega | (simp only [inR];omega) | exact ble (by rfl) | exact SlR.some ‹_› (by omega));(conv=>whnf)) | (first | (refine ra ‹_› (by rfl) ?_;(conv=>whnf)) | (refine rb ‹_› (by rfl) ?_;(conv=>whnf)) | (refine rc ‹_› (by rfl) ?_;(conv=>whnf)) | (refine rd ‹_› (by rfl) ?_;(conv=>whnf))))
     refine ScaP.g (ok3 workRd natRd natRd fun x n i=>Fine x∧n < x.t.length∧i < x.o.crew.length) (x:=(x,y0.toNat,0)) ⟨_,_,_,rfl,hw0,congrArg I hyn,rfl,hf,hl,hi⟩ (fun v hv=>W.mk ?_)
     subst hv
     dsimp only
     (conv=>whnf)
     repeat' (first | (refine ob ?_ ?_;(first | trivial | omega | (simp only [inR];omega) | exact ble (by rfl) | exact SlR.some ‹_› (by omega));(conv=>whnf)) | (first | (refine ra ‹_› (by rfl) ?_;(conv=>whnf)) | (refine rb ‹_› (by rfl) ?_;(conv=>whnf)) | (refine rc ‹_› (by rfl) ?_;(conv=>whnf)) | (refine rd ‹_› (by rfl) ?_;(conv=>whnf))))
     refine IteP.mk (fun hm2=>W.mk ?_) (fun hm2=>W.mk ?_)<;>(conv=>whnf)
     ·refine FinP.mk ?_
      rw [decide_eq_false hm1,decide_eq_true (by omega)] at hmay
      rw [← e,hmay];rfl
     ·refine FinP.mk ?_
      rw [decide_eq_false hm1,decide_eq_false (by omega)] at hmay
      rw [← e,hmay];rfl
   ·replace fin:=fin y1 (hyk 1 y1 rfl rfl)
    rw [hyk 1 y1 rfl rfl] at hmay
    rw [hyk 1 y1 rfl rfl] at hat
    clear hhad
    (refine ob ?_ ?_;(first | trivial | omega | (simp only [inR];omega) | exact ble (by rfl) | exact SlR.some ‹_› (by omega));(conv=>whnf))
    refine EqsP.mk ⟨[.val (I y1)],rfl,rfl,W.mk ?_⟩
    (conv=>whnf)
    refine IteP.mk (fun hm1=>W.mk ?_) (fun hm1=>W.mk ?_)<;>(conv=>whnf)
    ·refine FinP.mk ?_
     rw [hm1] at hmay
     rw [← e,hmay];rfl
    ·obtain ⟨hl,hyn,hb3,hb4⟩:=fin hm1
     repeat' (first | (refine ob ?_ ?_;(first | trivial | omega | (simp only [inR];omega) | exact ble (by rfl) | exact SlR.some ‹_› (by omega));(conv=>whnf)) | (first | (refine ra ‹_› (by rfl) ?_;(conv=>whnf)) | (refine rb ‹_› (by rfl) ?_;(conv=>whnf)) | (refine rc ‹_› (by rfl) ?_;(conv=>whnf)) | (refine rd ‹_› (by rfl) ?_;(conv=>whnf))))
     refine ScaP.g (ok3 workRd natRd natRd fun x n i=>Fine x∧n < x.t.length∧i < x.o.crew.length) (x:=(x,y1.toNat,1)) ⟨_,_,_,rfl,hw0,congrArg I hyn,rfl,hf,hl,hi⟩ (fun v hv=>W.mk ?_)
     subst hv
     dsimp only
     (conv=>whnf)
     repeat' (first | (refine ob ?_ ?_;(first | trivial | omega | (simp only [inR];omega) | exact ble (by rfl) | exact SlR.some ‹_› (by omega));(conv=>whnf)) | (first | (refine ra ‹_› (by rfl) ?_;(conv=>whnf)) | (refine rb ‹_› (by rfl) ?_;(conv=>whnf)) | (refine rc ‹_› (by rfl) ?_;(conv=>whnf)) | (refine rd ‹_› (by rfl) ?_;(conv=>whnf))))
     refine IteP.mk (fun hm2=>W.mk ?_) (fun hm2=>W.mk ?_)<;>(conv=>whnf)
     ·refine FinP.mk ?_
      rw [decide_eq_false hm1,decide_eq_true (by omega)] at hmay
      rw [← e,hmay];rfl
     ·refine FinP.mk ?_
      rw [decide_eq_false hm1,decide_eq_false (by omega)] at hmay
      rw [← e,hmay];rfl
   ·replace fin:=fin y2 (hyk 2 y2 rfl rfl)
    rw [hyk 2 y2 rfl rfl] at hmay
    rw [hyk 2 y2 rfl rfl] at hat
    clear hhad
    (refine ob ?_ ?_;(first | trivial | omega | (simp only [inR];omega) | exact ble (by rfl) | exact SlR.some ‹_› (by omega));(conv=>whnf))
    refine EqsP.mk ⟨[.val (I y2)],rfl,rfl,W.mk ?_⟩
    (conv=>whnf)
    refine IteP.mk (fun hm1=>W.mk ?_) (fun hm1=>W.mk ?_)<;>(conv=>whnf)
    ·refine FinP.mk ?_
     rw [hm1] at hmay
     rw [← e,hmay];rfl
    ·obtain ⟨hl,hyn,hb3,hb4⟩:=fin hm1
     repeat' (first | (refine ob ?_ ?_;(first | trivial | omega | (simp only [inR];omega) | exact ble (by rfl) | exact SlR.some ‹_› (by omega));(conv=>whnf)) | (first | (refine ra ‹_› (by rfl) ?_;(conv=>whnf)) | (refine rb ‹_› (by rfl) ?_;(conv=>whnf)) | (refine rc ‹_› (by rfl) ?_;(conv=>whnf)) | (refine rd ‹_› (by rfl) ?_;(conv=>whnf))))
     refine ScaP.g (ok3 workRd natRd natRd fun x n i=>Fine x∧n < x.t.length∧i < x.o.crew.length) (x:=(x,y2.toNat,2)) ⟨_,_,_,rfl,hw0,congrArg I hyn,rfl,hf,hl,hi⟩ (fun v hv=>W.mk ?_)
     subst hv
     dsimp only
     (conv=>whnf)
     repeat' (first | (refine ob ?_ ?_;(first | trivial | omega | (simp only [inR];omega) | exact ble (by rfl) | exact SlR.some ‹_› (by omega));(conv=>whnf)) | (first | (refine ra ‹_› (by rfl) ?_;(conv=>whnf)) | (refine rb ‹_› (by rfl) ?_;(conv=>whnf)) | (refine rc ‹_› (by rfl) ?_;(conv=>whnf)) | (refine rd ‹_› (by rfl) ?_;(conv=>whnf))))
     refine IteP.mk (fun hm2=>W.mk ?_) (fun hm2=>W.mk ?_)<;>(conv=>whnf)
     ·refine FinP.mk ?_
      rw [decide_eq_false hm1,decide_eq_true (by omega)] at hmay
      rw [← e,hmay];rfl
     ·refine FinP.mk ?_
      rw [decide_eq_false hm1,decide_eq_false (by omega)] at hmay
      rw [← e,hmay];rfl
   ·replace fin:=fin y3 (hyk 3 y3 rfl rfl)
    rw [hyk 3 y3 rfl rfl] at hmay
    rw [hyk 3 y3 rfl rfl] at hat
    clear hhad
    (refine ob ?_ ?_;(first | trivial | omega | (simp only [inR];omega) | exact ble (by rfl) | exact SlR.some ‹_› (by omega));(conv=>whnf))
    refine EqsP.mk ⟨[.val (I y3)],rfl,rfl,W.mk ?_⟩
    (conv=>whnf)
    refine IteP.mk (fun hm1=>W.mk ?_) (fun hm1=>W.mk ?_)<;>(conv=>whnf)
    ·refine FinP.mk ?_
     rw [hm1] at hmay
     rw [← e,hmay];rfl
    ·obtain ⟨hl,hyn,hb3,hb4⟩:=fin hm1
     repeat' (first | (refine ob ?_ ?_;(first | trivial | omega | (simp only [inR];omega) | exact ble (by rfl) | exact SlR.some ‹_› (by omega));(conv=>whnf)) | (first | (refine ra ‹_› (by rfl) ?_;(conv=>whnf)) | (refine rb ‹_› (by rfl) ?_;(conv=>whnf)) | (refine rc ‹_› (by rfl) ?_;(conv=>whnf)) | (refine rd ‹_› (by rfl) ?_;(conv=>whnf))))
     refine ScaP.g (ok3 workRd natRd natRd fun x n i=>Fine x∧n < x.t.length∧i < x.o.crew.length) (x:=(x,y3.toNat,3)) ⟨_,_,_,rfl,hw0,congrArg I hyn,rfl,hf,hl,hi⟩ (fun v hv=>W.mk ?_)
     subst hv
     dsimp only
     (conv=>whnf)
     repeat' (first | (refine ob ?_ ?_;(first | trivial | omega | (simp only [inR];omega) | exact ble (by rfl) | exact SlR.some ‹_› (by omega));(conv=>whnf)) | (first | (refine ra ‹_› (by rfl) ?_;(conv=>whnf)) | (refine rb ‹_› (by rfl) ?_;(conv=>whnf)) | (refine rc ‹_› (by rfl) ?_;(conv=>whnf)) | (refine rd ‹_› (by rfl) ?_;(conv=>whnf))))
     refine IteP.mk (fun hm2=>W.mk ?_) (fun hm2=>W.mk ?_)<;>(conv=>whnf)
     ·refine FinP.mk ?_
      rw [decide_eq_false hm1,decide_eq_true (by omega)] at hmay
      rw [← e,hmay];rfl
     ·refine FinP.mk ?_
      rw [decide_eq_false hm1,decide_eq_false (by omega)] at hmay
      rw [← e,hmay];rfl
   ·replace fin:=fin y4 (hyk 4 y4 rfl rfl)
    rw [hyk 4 y4 rfl rfl] at hmay
    rw [hyk 4 y4 rfl rfl] at hat
    clear hhad
    (refine ob ?_ ?_;(first | trivial | omega | (simp only [inR];omega) | exact ble (by rfl) | exact SlR.some ‹_› (by omega));(conv=>whnf))
    refine EqsP.mk ⟨[.val (I y4)],rfl,rfl,W.mk ?_⟩
    (conv=>whnf)
    refine IteP.mk (fun hm1=>W.mk ?_) (fun hm1=>W.mk ?_)<;>(conv=>whnf)
    ·refine FinP.mk ?_
     rw [hm1] at hmay
     rw [← e,hmay];rfl
    ·obtain ⟨hl,hyn,hb3,hb4⟩:=fin hm1
     repeat' (first | (refine ob ?_ ?_;(first | trivial | omega | (simp only [inR];omega) | exact ble (by rfl) | exact SlR.some ‹_› (by omega));(conv=>whnf)) | (first | (refine ra ‹_› (by rfl) ?_;(conv=>whnf)) | (refine rb ‹_› (by rfl) ?_;(conv=>whnf)) | (refine rc ‹_› (by rfl) ?_;(conv=>whnf)) | (refine rd ‹_› (by rfl) ?_;(conv=>whnf))))
     refine ScaP.g (ok3 workRd natRd natRd fun x n i=>Fine x∧n < x.t.length∧i < x.o.crew.length) (x:=(x,y4.toNat,4)) ⟨_,_,_,rfl,hw0,congrArg I hyn,rfl,hf,hl,hi⟩ (fun v hv=>W.mk ?_)
     subst hv
     dsimp only
     (conv=>whnf)
     repeat' (first | (refine ob ?_ ?_;(first | trivial | omega | (simp only [inR];omega) | exact ble (by rfl) | exact SlR.some ‹_› (by omega));(conv=>whnf)) | (first | (refine ra ‹_› (by rfl) ?_;(conv=>whnf)) | (refine rb ‹_› (by rfl) ?_;(conv=>whnf)) | (refine rc ‹_› (by rfl) ?_;(conv=>whnf)) | (refine rd ‹_› (by rfl) ?_;(conv=>whnf))))
     refine IteP.mk (fun hm2=>W.mk ?_) (fun hm2=>W.mk ?_)<;>(conv=>whnf)
     ·refine FinP.mk ?_
      rw [decide_eq_false hm1,decide_eq_true (by omega)] at hmay
      rw [← e,hmay];rfl
     ·refine FinP.mk ?_
      rw [decide_eq_false hm1,decide_eq_false (by omega)] at hmay
      rw [← e,hmay];rfl
end Go.Proofs.YtefnikpoimaiiaaGreat.L

namespace Go.Proofs.YtefnikpoimaiiaaGreat.L
open Go.Pal
def canF (x:Wk) (skip:Int) (s:Stt) (i:Nat):Bool:=!decide ((i:Int) = skip) && mayF x s i
def goF {α:Type} (x:Wk) (skip:Int) (s:Stt) (rec:Stt→Option (List α)) (f:Nat→α):List Nat→Option (List α)
 | []=>none
 | i :: r=>match canF x skip s i with
  | true=>match rec (giveF s i) with
   | some e=>some (f i :: e)
   | none=>goF x skip s rec f r
  | false=>goF x skip s rec f r
def crewL (x:Wk):List Nat:=List.range x.o.crew.length
def leastF (x:Wk) (skip:Int):Nat→Stt→Option (List Int)
 | 0,_=>some []
 | f + 1,s=>goF x skip s (leastF x skip f) (fun i=>(i:Int)) (crewL x)
def farF (x:Wk) (skip:Int) (s:Stt) (rec:Stt→Nat):List Nat→Nat
 | []=>s.n
 | i :: r=>match canF x skip s i with
  | true=>max (rec (giveF s i)) (farF x skip s rec r)
  | false=>farF x skip s rec r
def reachF (x:Wk) (skip:Int):Nat→Stt→Nat
 | 0,s=>s.n
 | f + 1,s=>farF x skip s (reachF x skip f) (crewL x)

variable {x:Wk} {skip:Int}

theorem farF_ge {s:Stt} {rec:Stt→Nat}:∀ {l:List Nat},s.n≤farF x skip s rec l
 | []=>Nat.le_refl _
 | i :: r=>by
  have:=farF_ge (s:=s) (rec:=rec) (l:=r)
  unfold farF;split<;>omega
theorem reach_ge:∀ {f:Nat} {s:Stt},s.n≤reachF x skip f s
 | 0,_=>Nat.le_refl _
 | f + 1,_=>farF_ge
theorem reach_le:∀ {f:Nat} {s:Stt},reachF x skip f s≤s.n + f
 | 0,_=>Nat.le_refl _
 | f + 1,s=>by
  have:∀ l,farF x skip s (reachF x skip f) l≤s.n + (f + 1):=by
   intro l
   induction l with
   | nil=>simp [farF]
   | cons i r ih =>
    have:=reach_le (f:=f) (s:=giveF s i)
    simp only [giveF] at this
    unfold farF
    split
    ·simp only [giveF] at *;omega
    ·exact ih
  exact this _
theorem reach_full:∀ {f:Nat} {s:Stt} {e:List Int},leastF x skip f s = some e→reachF x skip f s = s.n + f∧e.length = f
 | 0,_,e,h=>by cases h;exact ⟨rfl,rfl⟩
 | f + 1,s,e,h=>by
  have key:∀ l e,goF x skip s (leastF x skip f) (fun i=>(i:Int)) l = some e→s.n + (f + 1)≤farF x skip s (reachF x skip f) l∧e.length = f + 1:=by
   intro l
   induction l with
   | nil=>intro e h;cases h
   | cons i r ih =>
    intro e h
    unfold goF at h
    unfold farF
    split at h
    ·rename_i hc
     split at h
     ·rename_i e' he
      cases h
      have:=reach_full he
      simp only [giveF] at this
      simp only [List.length_cons,this.2,and_true]
      have h1:=this.1
      simp only [giveF] at *
      omega
     ·have:=ih e h
      omega
    ·rename_i hc
     exact ih e h
  obtain ⟨h1,h2⟩:=key _ _ h
  have:=reach_le (x:=x) (skip:=skip) (f:=f + 1) (s:=s)
  have e:reachF x skip (f + 1) s = farF x skip s (reachF x skip f) (crewL x):=rfl
  exact ⟨by omega,h2⟩
structure DeadOk (x:Wk) (skip:Int) (D:List Stt) (r:Nat):Prop where
 out:∀ d∈D,d.n < x.t.length→leastF x skip (x.t.length - d.n) d = none∧reachF x skip (x.t.length - d.n) d≤r
theorem DeadOk.mono {D:List Stt} {r r':Nat} (h:DeadOk x skip D r) (hr:r≤r'):DeadOk x skip D r':=⟨fun d hd hn=>⟨(h.out d hd hn).1,Nat.le_trans (h.out d hd hn).2 hr⟩⟩
theorem DeadOk.snoc {D:List Stt} {r:Nat} {s:Stt} (h:DeadOk x skip D r) (h1:leastF x skip (x.t.length - s.n) s = none) (h2:reachF x skip (x.t.length - s.n) s≤r):DeadOk x skip (D++[s]) r:=⟨fun d hd hn=>by
 rcases List.mem_append.1 hd with hd | hd
 ·exact h.out d hd hn
 ·simp at hd;subst hd;exact ⟨h1,h2⟩⟩

theorem HadOk.give {s:Stt} {i:Nat} (h:HadOk x s) (hn:s.n < x.t.length):HadOk x (giveF s i):=by
 intro j hj
 simp only [giveF] at hj
 rcases List.mem_or_eq_of_mem_set hj with hj | rfl
 ·exact h j hj
 ·right;omega
theorem HadOk.ok {s:Stt} (h:HadOk x s) (hn:s.n≤x.t.length) (hb:x.t.length≤140737488355328):s.Ok:=by
 refine ⟨by simp only [inR];omega,fun j hj=>?_⟩
 rcases h j hj with h | h<;>simp only [inR]<;>omega
end Go.Proofs.YtefnikpoimaiiaaGreat.L

namespace Go.Proofs.YtefnikpoimaiiaaGreat.L
open Go.Pal

set_option maxRecDepth 100000

abbrev ptr (b:Nat):Value:=.pointer (some ⟨b,0,none⟩)
structure Bk where
 b0:Nat
 b1:Nat
 b2:Nat
 b3:Nat
 b4:Nat
 b5:Nat
 b6:Nat
abbrev Bk.caps (B:Bk):Array Value:=#[ptr B.b0,ptr B.b1,ptr B.b2,ptr B.b3,ptr B.b4,ptr B.b5]
abbrev selfV (B:Bk):Value:=.func (.func 78) #[] B.caps
abbrev mayV (w:Value):Value:=.func (.func 77) #[w] #[]
abbrev ledL (B:Bk) (wv:Value) (skip:Int) (r:Nat) (es:Array MapEntry) (c:Nat):List LE :=
 [⟨B.b0,true, .cells [I r] 3⟩,⟨B.b1,false, .cells [wv] 134⟩,⟨B.b2,false, .cells [.map (some B.b6)] 192⟩,⟨B.b3,false, .cells [I skip] 3⟩,⟨B.b4,false, .cells [mayV wv] 193⟩,⟨B.b5,false, .cells [selfV B] 194⟩,⟨B.b6,true, .map es c⟩]

section
variable (x:Wk) (skip:Int) (wv:Value) (B:Bk)
def askPre (f:Nat) (args:List Value) (ls:List LE) (G:Hp):Prop:=∃ (st:Stt) (gv:Value) (got:List Int) (r:Nat) (es:Array MapEntry) (c:Nat) (D:List Stt),
 args = [st.val,gv]∧SlV intE G gv got∧got.length = st.n∧WorkV G wv x∧st.n + f = x.t.length∧HadOk x st∧ls = ledL B wv skip r es c∧Dead es D∧DeadOk x skip D r∧r≤x.t.length
def askPost (f:Nat) (args:List Value) (ls:List LE) (v:Value) (ns:List LB) (G:Hp):Prop:=∃ (st:Stt) (gv:Value) (got:List Int) (r:Nat) (es:Array MapEntry) (c:Nat) (r':Nat) (es':Array MapEntry) (c':Nat) (D':List Stt),
 args = [st.val,gv]∧SlV intE G gv got∧ls = ledL B wv skip r es c∧ns = [.cells [I r'] 3, .map es' c']∧Dead es' D'∧DeadOk x skip D' r'∧r' = max r (reachF x skip f st)∧SlV intE G v (got++(leastF x skip f st).getD [])
abbrev askS (f:Nat):PSpec:=.st (askPre x skip wv B f) (askPost x skip wv B f)
end

theorem may_fn {w:Value} {pre:List Value→Hp→Prop} {post:List Value→Hp→Value→Prop} (h:Sound Tryz.prog 77 id (.sca pre post)):SoundFn Tryz.prog (mayV w) (.sca (fun a G=>pre (w :: a) G) (fun a G v=>post (w :: a) G v)):=by
 refine SoundFn.of body53 ?_
 intro args G W h1 h2
 have:=h (w :: args) G W h1 h2
 simpa using this

def tabN:Tab Tryz.prog:=Tab.cons 80 _ clone56 body56 tabM

theorem fin7 {H:Nat→Option OB} {B:Bk} {wb:Nat} {skip:Int} {r:Nat} {es es':Array MapEntry} {c c':Nat} {u:Value} (h0:H 0 = some (.cells (.named B.b0) [.val u] 3)) (h1:H 1 = some (.cells (.named B.b1) [.val (ptr wb)] 134)) (h2:H 2 = some (.cells (.named B.b2) [.mref 6] 192))
  (h3:H 3 = some (.cells (.named B.b3) [.val (I skip)] 3)) (h4:H 4 = some (.cells (.named B.b4) [.val (mayV (ptr wb))] 193)) (h5:H 5 = some (.cells (.named B.b5) [.val (selfV B)] 194)) (h6:H 6 = some (.map (.named B.b6) es' c')) :
  finL H 0 (ledL B (ptr wb) skip r es c) [.cells [u] 3, .map es' c']:=by
 refine ⟨.cells [u] 3,⟨_,h0,rfl⟩,trivial,_,rfl, .cells [ptr wb] 134,⟨_,h1,rfl⟩,trivial,rfl, .cells [.map (some B.b6)] 192,⟨_,h2, ?_⟩,trivial,rfl, .cells [I skip] 3,⟨_,h3,rfl⟩,trivial,rfl, .cells [mayV (ptr wb)] 193,⟨_,h4,rfl⟩,trivial,rfl, .cells [selfV B] 194,⟨_,h5,rfl⟩,trivial,rfl, .map es' c',h6,trivial,_,rfl,rfl⟩
 simp only [toValsH,S1.toValH,h6]
abbrev hsL (B:Bk) (wv:Value) (skip:Int) (r:Nat) (es:Array MapEntry) (c:Nat):List (Nat × LE) :=
 [(0,⟨B.b0,true, .cells [I r] 3⟩),(1,⟨B.b1,false, .cells [wv] 134⟩),(2,⟨B.b2,false, .cells [.map (some B.b6)] 192⟩),(3,⟨B.b3,false, .cells [I skip] 3⟩),(4,⟨B.b4,false, .cells [mayV wv] 193⟩),(5,⟨B.b5,false, .cells [selfV B] 194⟩),(6,⟨B.b6,true, .map es c⟩)]
theorem lend7 {H:Nat→Option OB} {B:Bk} {wb:Nat} {skip:Int} {r:Nat} {es:Array MapEntry} {c:Nat} (h0:H 0 = some (.cells (.named B.b0) [.val (I r)] 3)) (h1:H 1 = some (.cells (.named B.b1) [.val (ptr wb)] 134)) (h2:H 2 = some (.cells (.named B.b2) [.mref 6] 192))
  (h3:H 3 = some (.cells (.named B.b3) [.val (I skip)] 3)) (h4:H 4 = some (.cells (.named B.b4) [.val (mayV (ptr wb))] 193)) (h5:H 5 = some (.cells (.named B.b5) [.val (selfV B)] 194)) (h6:H 6 = some (.map (.named B.b6) es c)) :
  lendOk H (hsL B (ptr wb) skip r es c):=by
 refine ⟨⟨_,h0,rfl⟩,⟨_,h1,rfl⟩,⟨_,h2, ?_⟩,⟨_,h3,rfl⟩,⟨_,h4,rfl⟩,⟨_,h5,rfl⟩,h6,trivial⟩
 simp only [toValsH,S1.toValH,h6]
theorem cutAll {α:Type} {e:El α} {G:Hp} {a:Option Addr} {n c:Nat} {l:List α} (h:SlR e.k e.R G a n c l) (hn:n≤140737488355328) {k:Nat}:SlV e G (.slice (cutA a (0:Int).toNat (n:Int).toNat k) ((n:Int).toNat - (0:Int).toNat) ((n:Int).toNat - (0:Int).toNat)) l:=by
 have e1:cutA a (0:Int).toNat (n:Int).toNat k = a:=by
  unfold cutA
  split
  ·rfl
  ·rename_i h0
   rw [h.some (by simpa using h0)]
   simp [Addr.add]
 rw [e1]
 exact ⟨a,n,n,by simp,⟨h.len,Nat.le_refl _,h.some,h.at_⟩,hn⟩
theorem ask54 {x:Wk} (hf:Fine x) (h5:x.o.crew.length≤5) (hT:x.t.length≤1000000) (skip:Int) (wb:Nat) (B:Bk):∀ f,Sound Tryz.prog 78 (fun a=>(#[]:Array Value).toList++a++B.caps.toList) (askS x skip (ptr wb) B f):=by
  intro f
  induction f using Nat.strongRecOn with | ind f ih =>
  refine ⟨fun args ls v ns G G' hg h=>?_,fun args ls G Wd hsub hls hnd hpre=>?_⟩
  ·obtain ⟨st,gv,got,r,es,c,r',es',c',D',h1,h2,h3,h4,h5,h6,h7,h8⟩:=h
   exact ⟨st,gv,got,r,es,c,r',es',c',D',h1,h2.grow hg,h3,h4,h5,h6,h7,h8.grow hg⟩
  ·obtain ⟨st,gv,got,r,es,c,D,rfl,⟨a,n,cc,rfl,hl,hn⟩,hgl,hw,hfu,hh,rfl,hD,hDo,hr⟩:=hpre
   have hst:st.Ok:=hh.ok (by omega) (by omega)
   have hw0:=hw
   obtain ⟨_,w1,w2,w3,hp,cw,⟨a1,n1,c1,rfl,l1,hn1⟩,⟨a2,n2,c2,rfl,l2,hn2⟩,⟨a3,n3,c3,rfl,l3,hn3⟩⟩:=hw
   cases hp
   have e2:=l2.len
   have e3:=l3.len
   obtain ⟨m,y0,y1,y2,y3,y4,h5',e⟩:=Stt.cases st
   have em:st.n = m:=by rw [e]
   subst em
   refine st_sound tabN comp54 (svs:=[.agg [.val (I st.n), .val (I y0), .val (I y1), .val (I y2), .val (I y3), .val (I y4)], .v (.slice a n cc), .c (.ptr 0 0), .c (.ptr 1 0), .c (.ptr 2 0), .c (.ptr 3 0), .c (.ptr 4 0), .c (.ptr 5 0)])
    (obs:=[.cells (.named B.b0) [.val (I r)] 3, .cells (.named B.b1) [.val (ptr wb)] 134, .cells (.named B.b2) [.mref 6] 192, .cells (.named B.b3) [.val (I skip)] 3, .cells (.named B.b4) [.val (mayV (ptr wb))] 193, .cells (.named B.b5) [.val (selfV B)] 194, .map (.named B.b6) es c])
    (by simp) hsub hls hnd (Nat.le_refl _) ?_ ?_ ?_
   ·refine ⟨⟨[I st.n,I y0,I y1,I y2,I y3,I y4],by rw [e];rfl,relL_vals _ [I st.n,I y0,I y1,I y2,I y3,I y4]⟩,fun c hc=>?_,rfl,trivial,⟨_,rfl,rfl⟩,(Nat.le_of_ble_eq_true rfl:0 < 7),⟨_,rfl,rfl⟩,(Nat.le_of_ble_eq_true rfl:1 < 7),⟨_,rfl,rfl⟩,(Nat.le_of_ble_eq_true rfl:2 < 7),⟨_,rfl,rfl⟩,(Nat.le_of_ble_eq_true rfl:3 < 7),⟨_,rfl,rfl⟩,(Nat.le_of_ble_eq_true rfl:4 < 7),⟨_,rfl,rfl⟩,(Nat.le_of_ble_eq_true rfl:5 < 7),trivial⟩
    simp at hc;rcases hc with rfl | rfl | rfl | rfl | rfl | rfl<;>trivial
   ·refine ⟨⟨_,rfl,relL_vals _ [I r], ?_⟩,⟨_,rfl,relL_vals _ [ptr wb], ?_⟩,⟨_,rfl, ?_, ?_⟩,⟨_,rfl,relL_vals _ [I skip], ?_⟩,⟨_,rfl,relL_vals _ [mayV (ptr wb)], ?_⟩,⟨_,rfl,relL_vals _ [selfV B], ?_⟩,rfl,trivial⟩
    ·intro c hc;simp at hc;subst hc;trivial
    ·intro c hc;simp at hc;subst hc;trivial
    ·exact ⟨⟨rfl,_,rfl⟩,trivial⟩
    ·intro c hc;simp at hc;subst hc;exact (Nat.le_of_ble_eq_true rfl:6 < 7)
    ·intro c hc;simp at hc;subst hc;trivial
    ·intro c hc;simp at hc;subst hc;trivial
    ·intro c hc;simp at hc;subst hc;trivial
   ·(conv=>whnf)
    repeat' (first | (refine ob ?_ ?_;(first | trivial | omega | (simp only [inR];omega) | exact ble (by rfl) | exact SlR.some ‹_› (by omega));(conv=>whnf)) | (first | (refine ra ‹_› (by rfl) ?_;(conv=>whnf)) | (refine rb ‹_› (by rfl) ?_;(conv=>whnf)) | (refine rc ‹_› (by rfl) ?_;(conv=>whnf)) | (refine rd ‹_› (by rfl) ?_;(conv=>whnf))))
    refine IteP.mk (fun hT1=>W.mk ?_) (fun hT1=>W.mk ?_)<;>(conv=>whnf)
    ·have hcap:=hl.cap
     have hf0:f = 0:=by omega
     repeat' (first | (refine ob ?_ ?_;(first | trivial | omega | (simp only [inR];omega) | exact ble (by rfl) | exact SlR.some ‹_› (by omega));(conv=>whnf)) | (first | (refine ra ‹_› (by rfl) ?_;(conv=>whnf)) | (refine rb ‹_› (by rfl) ?_;(conv=>whnf)) | (refine rc ‹_› (by rfl) ?_;(conv=>whnf)) | (refine rd ‹_› (by rfl) ?_;(conv=>whnf))))
     refine FinS.mk ⟨_,fin7 rfl rfl rfl rfl rfl rfl rfl, ?_⟩
     subst hf0
     have hmx:max (r:Int) (st.n:Int) = ((max r st.n:Nat):Int):=by omega
     refine ⟨st,_,got,r,es,c,max r st.n,es,c,D,rfl,⟨a,n,cc,rfl,hl,hn⟩,rfl,by rw [← hmx],hD,hDo.mono (by omega),rfl, ?_⟩
     simp only [leastF,Option.getD_some,List.append_nil]
     exact cutAll hl hn
    ·have hv:st.val = .agg #[I st.n,I y0,I y1,I y2,I y3,I y4]:=by rw [e];rfl
     rcases hD.find hst with ⟨hnot,hk⟩ | ⟨hin,j,hk,hlk,_⟩<;>rw [hv] at hk
     ·refine KeyP.mk ⟨_,hk,W.mk ?_⟩
      (conv=>whnf)
      refine ForkP.mk (fun h=>by cases h) (fun _=>W.mk ?_)
      (conv=>whnf)
      repeat' (first | (refine ob ?_ ?_;(first | trivial | omega | (simp only [inR];omega) | exact ble (by rfl) | exact SlR.some ‹_› (by omega));(conv=>whnf)) | (first | (refine ra ‹_› (by rfl) ?_;(conv=>whnf)) | (refine rb ‹_› (by rfl) ?_;(conv=>whnf)) | (refine rc ‹_› (by rfl) ?_;(conv=>whnf)) | (refine rd ‹_› (by rfl) ?_;(conv=>whnf))))
      obtain ⟨f',rfl⟩:∃ f',f = f' + 1:=⟨f - 1,by omega⟩
      have hmx:max (r:Int) (st.n:Int) = ((max r st.n:Nat):Int):=by omega
      have hmx2:OB.cells (.named B.b0) [.val (I ((max r st.n:Nat):Int))] 3 = OB.cells (.named B.b0) [.val (.int .i64 (max (r:Int) (st.n:Int)))] 3:=by rw [hmx]
      refine LoopP.of { α:=Nat × Nat × Array MapEntry × Nat × List Stt,fr:=fun x=>[(1, .v (.slice a n cc)),(2, .c (.ptr 0 0)),(3, .c (.ptr 1 0)),(4, .c (.ptr 2 0)),(5, .c (.ptr 3 0)),(6, .c (.ptr 4 0)),(7, .c (.ptr 5 0)),(8, .c (.ptr 7 0)),(41, .v (I n2)),(42, .v (I x.1))],H:=fun x=>[(0, .cells (.named B.b0) [.val (I x.2.1)] 3),(1, .cells (.named B.b1) [.val (ptr wb)] 134),(2, .cells (.named B.b2) [.mref 6] 192),(3, .cells (.named B.b3) [.val (I skip)] 3),(4, .cells (.named B.b4) [.val (mayV (ptr wb))] 193),(5, .cells (.named B.b5) [.val (selfV B)] 194),(6, .map (.named B.b6) x.2.2.1 x.2.2.2.1),(7, .cells .anon [.val (I st.n), .val (I y0), .val (I y1), .val (I y2), .val (I y3), .val (I y4)] 198)],ok:=fun z _=>z.1≤x.o.crew.length∧Dead z.2.2.1 z.2.2.2.2∧DeadOk x skip z.2.2.2.2 z.2.1∧st.n≤z.2.1∧z.2.1≤x.t.length∧max z.2.1 (farF x skip st (reachF x skip f') ((crewL x).drop z.1)) = max r (reachF x skip (f' + 1) st)∧goF x skip st (leastF x skip f') (fun i=>(i:Int)) ((crewL x).drop z.1) = leastF x skip (f' + 1) st,m:=fun z=>x.o.crew.length - z.1 }
       (0,max r st.n,es,c,D) (HeadP.of [] ⟨rfl,rfl,rfl,rfl,rfl,rfl,rfl,rfl,rfl,rfl,trivial⟩ ⟨hmx2,rfl,rfl,rfl,rfl,rfl,rfl,rfl,trivial⟩) ⟨Nat.zero_le _,hD,hDo.mono (by simp only;omega),by simp only;omega,by simp only;omega, ?_,rfl⟩ (fun _=>⟨rfl,rfl⟩) (fun z G' hG hx=>W.mk ?_)
      ·show max (max r st.n) (farF x skip st (reachF x skip f') (crewL x)) = max r (farF x skip st (reachF x skip f') (crewL x))
       have:=farF_ge (x:=x) (skip:=skip) (s:=st) (rec:=reachF x skip f') (l:=crewL x)
       omega
      obtain ⟨i,r2,es2,c2,D2⟩:=z
      obtain ⟨hi,hD2,hDo2,hr2,hrT,hmax,hgo⟩:=hx
      dsimp only at hi hD2 hDo2 hr2 hrT hmax hgo
      dsimp only
      replace hl:=SlR.grow (G:=G) (G':=G') (fun _ _ h=>h) hl hG
      replace cw:=cw.grow hG
      replace hw0:=hw0.grow hG
      (conv=>whnf)
      refine IteP.mk (fun hlt=>W.mk ?_) (fun hge=>W.mk ?_)<;>(conv=>whnf)
      ·have hlt:i < x.o.crew.length:=by omega
       have hdrop:(crewL x).drop i = i :: (crewL x).drop (i + 1):=by
        rw [List.drop_eq_getElem_cons (by simpa [crewL] using hlt)];simp [crewL]
       rw [hdrop] at hmax hgo
       unfold farF at hmax
       unfold goF at hgo
       refine IteP.mk (fun hsk=>W.mk ?_) (fun hsk=>W.mk ?_)<;>(conv=>whnf)
       ·have hc:canF x skip st i = false:=by simp [canF,hsk]
        rw [hc] at hmax hgo
        (refine ob ?_ ?_;(first | trivial | omega | (simp only [inR];omega) | exact ble (by rfl) | exact SlR.some ‹_› (by omega));(conv=>whnf))
        exact RoundP.of (i + 1,r2,es2,c2,D2) (HeadP.of [] ⟨rfl,rfl,rfl,rfl,rfl,rfl,rfl,rfl,rfl,rfl,trivial⟩ ⟨rfl,rfl,rfl,rfl,rfl,rfl,rfl,rfl,trivial⟩) ⟨hlt,hD2,hDo2,hr2,hrT,hmax,hgo⟩ (by simp only;omega)
       ·refine CallvP.fn _ (may_fn may53) (W.mk ?_)
        (conv=>whnf)
        refine ScaP.g (ok3 workRd sttRd natRd fun x s i=>Fine x∧s.n < x.t.length∧i < x.o.crew.length∧x.o.crew.length≤5∧HadOk x s) (x:=(x,st,i)) ⟨_,_,_,rfl,hw0,hv.symm,rfl,hf,by simp only;omega,hlt,h5,hh⟩ (fun v hv2=>W.mk ?_)
        subst hv2
        (conv=>whnf)
        refine ForkP.mk (fun hm=>W.mk ?_) (fun hm=>W.mk ?_)<;>(conv=>whnf)
        ·have hm:mayF x st i = true:=hm
         have hc:canF x skip st i = true:=by simp [canF,hm,hsk]
         rw [hc] at hmax hgo
         dsimp only at hmax hgo
         refine ScaP.g (ok2 sttRd natRd fun s i=>i < 5∧s.n≤1000000) (x:=(st,i)) ⟨_,_,rfl,hv.symm,rfl,by simp only;omega,by simp only;omega⟩ (fun v hv3=>W.mk ?_)
         dsimp only at hv3
         obtain ⟨m',z0,z1,z2,z3,z4,h5z,eg⟩:=Stt.cases (giveF st i)
         have hvg:(giveF st i).val = .agg #[I m',I z0,I z1,I z2,I z3,I z4]:=by rw [eg];rfl
         rw [hvg] at hv3
         subst hv3
         (conv=>whnf)
         refine OwnP.g (ok1 (slRd intE) fun l=>l.length≤8796093022207) (x:=got) ⟨_,rfl,⟨a,n,cc,rfl,hl,hn⟩,by show got.length≤_;omega⟩ (Grow.refl _) (fun n3' vs G1 hg1 hq=>W.mk ?_)
         (conv=>whnf)
         have hqn:=hq.n
         repeat' (first | (refine OblP.mk rfl (W.mk ?_);(conv=>whnf)) | (refine ob ?_ ?_;(first | trivial | omega | (simp only [inR];omega) | exact ble (by rfl) | exact SlR.some ‹_› (by omega));(conv=>whnf)))
         refine PubP.mk (fun ga gc G2 hg2 hp=>W.mk ?_)
         (conv=>whnf)
         refine FnvP.mk ⟨askS x skip (ptr wb) B f',SoundFn.of body54 (ih f' (by omega)),W.mk ?_⟩
         have hgg:Grow G' G2:=hg1.trans hg2
         have hslv:SlV intE G2 (.slice ga (n3' + 1) gc) (got++[(i:Int)]):=(hq.snoc (i:Int)).pub hp (by omega)
         have hgn:(giveF st i).n = st.n + 1:=rfl
         refine StP.mk ⟨hsL B (ptr wb) skip r2 es2 c2,lend7 rfl rfl rfl rfl rfl rfl rfl,(by show ([0,1,2,3,4,5,6]:List Nat).Nodup;decide),⟨giveF st i,_,got++[(i:Int)],r2,es2,c2,D2,by rw [hvg],hslv,by simp [hgl,hgn],hw0.grow hgg,by omega,hh.give (by omega),rfl,hD2,hDo2,hrT⟩,fun v ns G3 hg3 hpost=>W.mk ?_⟩
         obtain ⟨st',gv',got',r0',es0',c0',r',es',c',D',q1,q2,q3,rfl,hD3,hDo3,q4,q5⟩:=hpost
         simp only [List.cons.injEq,and_true] at q1
         obtain ⟨q1,rfl⟩:=q1
         have hst':giveF st i = st':=Stt.val_inj (hvg.trans q1)
         subst hst'
         have hgot:got' = got++[(i:Int)]:=q2.uniq (hslv.grow hg3)
         subst hgot
         simp only [List.map_cons,List.cons.injEq,LE.mk.injEq,LB.cells.injEq,Value.int.injEq,true_and,and_true] at q3
         have hr0:r0' = r2:=by omega
         subst hr0
         obtain ⟨ra,rn,rc,rfl,rl,hrn⟩:=q5
         (conv=>whnf)
         have cw3:=cw.grow (hgg.trans hg3)
         have hrl:=rl.len
         repeat' (first | (refine ob ?_ ?_;(first | trivial | omega | (simp only [inR];omega) | exact ble (by rfl) | exact SlR.some ‹_› (by omega));(conv=>whnf)) | (first | (refine ra ‹_› (by rfl) ?_;(conv=>whnf)) | (refine rb ‹_› (by rfl) ?_;(conv=>whnf)) | (refine rc ‹_› (by rfl) ?_;(conv=>whnf)) | (refine rd ‹_› (by rfl) ?_;(conv=>whnf))))
         cases hL:leastF x skip f' (giveF st i) with
         | none =>
          have hf'0:f'≠0:=fun h0=>by subst h0;cases hL
          rw [hL] at hgo rl hrl
          dsimp only at hgo
          simp only [Option.getD_none,List.append_nil,List.length_append,List.length_cons,List.length_nil] at rl hrl
          refine IteP.mk (fun hq1=>W.mk ?_) (fun hq1=>W.mk ?_)
          ·exfalso;omega
          (conv=>whnf)
          (refine ob ?_ ?_;(first | trivial | omega | (simp only [inR];omega) | exact ble (by rfl) | exact SlR.some ‹_› (by omega));(conv=>whnf))
          refine RoundP.of (i + 1,r',es',c',D') (HeadP.of [] ⟨rfl,rfl,rfl,rfl,rfl,rfl,rfl,rfl,rfl,rfl,trivial⟩ ⟨rfl,rfl,rfl,rfl,rfl,rfl,rfl,rfl,trivial⟩) ⟨hlt,hD3,hDo3,by simp only;omega, ?_, ?_,hgo⟩ (by simp only;omega)
          ·have:=reach_le (x:=x) (skip:=skip) (f:=f') (s:=giveF st i)
           simp only;omega
          ·simp only;omega
         | some e' =>
          have hfull:=reach_full hL
          rw [hL] at hgo rl hrl
          dsimp only at hgo
          simp only [Option.getD_some,List.length_append,List.length_cons,List.length_nil] at rl hrl
          refine IteP.mk (fun hq1=>W.mk ?_) (fun hq1=>W.mk ?_)
          ·(conv=>whnf)
           refine FinS.mk ⟨_,fin7 rfl rfl rfl rfl rfl rfl rfl, ?_⟩
           have hfull2:=reach_full hgo.symm
           refine ⟨st,_,got,r,es,c,r',es',c',D',by rw [hv],⟨a,n,cc,rfl,SlR.grow (G:=G') (G':=G3) (fun _ _ h=>h) hl (hgg.trans hg3),hn⟩,rfl,rfl,hD3,hDo3,by omega, ?_⟩
           rw [← hgo]
           simp only [Option.getD_some]
           rw [List.append_assoc] at rl
           exact ⟨ra,rn,rc,rfl,rl,hrn⟩
          ·exfalso;omega
        ·have hm:mayF x st i = false:=hm
         have hc:canF x skip st i = false:=by simp [canF,hm]
         rw [hc] at hmax hgo
         (refine ob ?_ ?_;(first | trivial | omega | (simp only [inR];omega) | exact ble (by rfl) | exact SlR.some ‹_› (by omega));(conv=>whnf))
         exact RoundP.of (i + 1,r2,es2,c2,D2) (HeadP.of [] ⟨rfl,rfl,rfl,rfl,rfl,rfl,rfl,rfl,rfl,rfl,trivial⟩ ⟨rfl,rfl,rfl,rfl,rfl,rfl,rfl,rfl,trivial⟩) ⟨hlt,hD2,hDo2,hr2,hrT,hmax,hgo⟩ (by simp only;omega)
      ·have hi2:i = x.o.crew.length:=by omega
       have hdrop:(crewL x).drop i = []:=by rw [hi2];simp [crewL]
       rw [hdrop] at hmax hgo
       simp only [farF,goF] at hmax hgo
       have hfs:x.t.length - st.n = f' + 1:=by omega
       have post:∀ (es4:Array MapEntry) (c4:Nat) (D4:List Stt),Dead es4 D4→DeadOk x skip D4 r2→askPost x skip (ptr wb) B (f' + 1) [st.val, .slice a n cc] (ledL B (ptr wb) skip r es c) (.slice a n cc) [.cells [I r2] 3, .map es4 c4] G':=fun es4 c4 D4 k1 k2=>by
        refine ⟨st,_,got,r,es,c,r2,es4,c4,D4,rfl,⟨a,n,cc,rfl,hl,hn⟩,rfl,rfl,k1,k2,by omega, ?_⟩
        rw [← hgo]
        simp only [Option.getD_none,List.append_nil]
        exact ⟨a,n,cc,rfl,hl,hn⟩
       rcases hD2.find hst with ⟨hnot2,hk2⟩ | ⟨hin2,j2,hk2,_,hput⟩<;>rw [hv] at hk2
       ·refine KeyP.mk ⟨_,hk2,W.mk ?_⟩
        (conv=>whnf)
        refine FinS.mk ⟨_,fin7 rfl rfl rfl rfl rfl rfl rfl, ?_⟩
        have:=hD2.put hst hnot2 (c:=c2)
        rw [hv] at this
        exact post _ _ _ this (hDo2.snoc (by rw [hfs];exact hgo.symm) (by rw [hfs];omega))
       ·refine KeyP.mk ⟨_,hk2,W.mk ?_⟩
        (conv=>whnf)
        refine FinS.mk ⟨_,fin7 rfl rfl rfl rfl rfl rfl rfl, ?_⟩
        have:=hput c2
        rw [hv] at this
        exact post _ _ _ this hDo2
     ·refine KeyP.mk ⟨_,hk,W.mk ?_⟩
      dsimp only
      rw [hlk]
      (conv=>whnf)
      refine ForkP.mk (fun _=>W.mk ?_) (fun h=>by cases h)
      (conv=>whnf)
      have hcap:=hl.cap
      repeat' (first | (refine ob ?_ ?_;(first | trivial | omega | (simp only [inR];omega) | exact ble (by rfl) | exact SlR.some ‹_› (by omega));(conv=>whnf)) | (first | (refine ra ‹_› (by rfl) ?_;(conv=>whnf)) | (refine rb ‹_› (by rfl) ?_;(conv=>whnf)) | (refine rc ‹_› (by rfl) ?_;(conv=>whnf)) | (refine rd ‹_› (by rfl) ?_;(conv=>whnf))))
      refine FinS.mk ⟨_,fin7 rfl rfl rfl rfl rfl rfl rfl, ?_⟩
      have hdo:=hDo.out st hin (by omega)
      rw [show x.t.length - st.n = f by omega] at hdo
      have hge:=reach_ge (x:=x) (skip:=skip) (f:=f) (s:=st)
      have hmx:max (r:Int) (st.n:Int) = ((max r st.n:Nat):Int):=by omega
      refine ⟨st,_,got,r,es,c,max r st.n,es,c,D,by rw [hv],⟨a,n,cc,rfl,hl,hn⟩,rfl,by rw [← hmx],hD,hDo.mono (by omega),by omega, ?_⟩
      rw [hdo.1]
      simp only [Option.getD_none,List.append_nil]
      exact cutAll hl hn
end Go.Proofs.YtefnikpoimaiiaaGreat.L

namespace Go.Proofs.YtefnikpoimaiiaaGreat.L
open Go.Pal

set_option maxRecDepth 100000

def tabP:Tab Tryz.prog:=Tab.cons 77 _ may53 body53 tabN
def restF (x:Wk) (l:List Int) (skip:Int):List Int:=l++(leastF x skip (x.t.length - l.length) (beginF l)).getD []
def farthestF (x:Wk) (l:List Int) (skip:Int):Nat:=reachF x skip (x.t.length - l.length) (beginF l)
theorem begin_len (l:List Int):(beginF l).n = l.length:=by
 have:=begin_n l startF
 rw [beginF,this];exact Nat.zero_add _
theorem begin_had {x:Wk}:∀ (l:List Int) (s:Stt),HadOk x s→s.n + l.length≤x.t.length→HadOk x (l.foldl (fun s i=>giveF s i.toNat) s)
 | [],_,h,_=>h
 | i :: r,s,h,hl=>by
  simp only [List.length_cons] at hl
  exact begin_had r _ (h.give (by omega)) (by simp only [giveF];omega)
theorem begin_ok {x:Wk} {l:List Int} (h:l.length≤x.t.length):HadOk x (beginF l) :=
 begin_had l startF (fun j hj=>by simp [startF] at hj;exact .inl hj) (by simpa [startF] using h)
abbrev hsK (k0 k1 k2 k3 k4 k5 k6:Nat) (B:Bk) (wv:Value) (skip:Int) (r:Nat) (es:Array MapEntry) (c:Nat):List (Nat × LE) :=
 [(k0,⟨B.b0,true, .cells [I r] 3⟩),(k1,⟨B.b1,false, .cells [wv] 134⟩),(k2,⟨B.b2,false, .cells [.map (some B.b6)] 192⟩),(k3,⟨B.b3,false, .cells [I skip] 3⟩),(k4,⟨B.b4,false, .cells [mayV wv] 193⟩),(k5,⟨B.b5,false, .cells [selfV B] 194⟩),(k6,⟨B.b6,true, .map es c⟩)]
theorem lendK {k0 k1 k2 k3 k4 k5 k6:Nat} {H:Nat→Option OB} {B:Bk} {wb:Nat} {skip:Int} {r:Nat} {es:Array MapEntry} {c:Nat} (h0:H k0 = some (.cells (.named B.b0) [.val (I r)] 3)) (h1:H k1 = some (.cells (.named B.b1) [.val (ptr wb)] 134)) (h2:H k2 = some (.cells (.named B.b2) [.mref k6] 192))
  (h3:H k3 = some (.cells (.named B.b3) [.val (I skip)] 3)) (h4:H k4 = some (.cells (.named B.b4) [.val (mayV (ptr wb))] 193)) (h5:H k5 = some (.cells (.named B.b5) [.val (selfV B)] 194)) (h6:H k6 = some (.map (.named B.b6) es c)) :
  lendOk H (hsK k0 k1 k2 k3 k4 k5 k6 B (ptr wb) skip r es c):=by
 refine ⟨⟨_,h0,rfl⟩,⟨_,h1,rfl⟩,⟨_,h2, ?_⟩,⟨_,h3,rfl⟩,⟨_,h4,rfl⟩,⟨_,h5,rfl⟩,h6,trivial⟩
 simp only [toValsH,S1.toValH,h6]
theorem least44:Sound Tryz.prog 51 id (grel (args3 workRd (slRd intE) intRd fun x l _=>Fine x∧x.o.crew.length≤5∧x.t.length≤1000000∧l.length≤x.t.length∧∀ j∈l,0≤j∧j < 5) fun x v G=>∃ w,v = .tuple #[w,I (farthestF x.1 x.2.1 x.2.2)]∧SlV intE G w (restF x.1 x.2.1 x.2.2)):=by
 refine comp44.grel tabP (ok3 _ _ _ _) (fun args G s h=>?_) (fun x v G G' hg h=>?_) (fun args G x h=>?_)
 ·obtain ⟨u,v,w,rfl,_⟩:=h;simp
 ·obtain ⟨w,rfl,h⟩:=h;exact ⟨w,rfl,h.grow hg⟩
 ·obtain ⟨x,l,skip⟩:=x
  obtain ⟨u,v,w,rfl,hw,hl,rfl,hf,h5,hT,hle,hj⟩:=h
  simp only at hw hl hf h5 hT hle hj
  have hw0:=hw
  obtain ⟨wb,w1,w2,w3,rfl,_⟩:=hw
  have hl0:=hl
  obtain ⟨a,n,c,rfl,hl,hn⟩:=hl
  (conv=>whnf)
  refine NameP.mk (fun b0=>W.mk ?_)
  (conv=>whnf)
  refine NameP.mk (fun b1=>W.mk ?_)
  (conv=>whnf)
  refine NameP.mk (fun b2=>W.mk ?_)
  (conv=>whnf)
  refine NameP.mk (fun b6=>W.mk ?_)
  (conv=>whnf)
  refine NameP.mk (fun b3=>W.mk ?_)
  (conv=>whnf)
  refine NameP.mk (fun b4=>W.mk ?_)
  (conv=>whnf)
  refine NameP.mk (fun b5=>W.mk ?_)
  (conv=>whnf)
  refine ScaP.g (ok1 (slRd intE) fun l=>l.length≤1000000∧∀ x∈l,0≤x∧x < 5) (x:=l) ⟨_,rfl,hl0,by omega,hj⟩ (fun v hv3=>W.mk ?_)
  obtain ⟨m',z0,z1,z2,z3,z4,h5z,eg⟩:=Stt.cases (beginF l)
  have hvg:(beginF l).val = .agg #[I m',I z0,I z1,I z2,I z3,I z4]:=by rw [eg];rfl
  rw [hvg] at hv3
  subst hv3
  (conv=>whnf)
  refine OwnP.g (ok1 (slRd intE) fun l=>l.length≤8796093022207) (x:=l) ⟨_,rfl,hl0,by omega⟩ (Grow.refl _) (fun n3' vs G1 hg1 hq=>W.mk ?_)
  (conv=>whnf)
  have hqn:=hq.n
  refine PubP.mk (fun ga gc G2 hg2 hp=>W.mk ?_)
  (conv=>whnf)
  have hslv:SlV intE G2 (.slice ga n3' gc) l:=hq.pub hp (by omega)
  refine FnvP.mk ⟨askS x skip (ptr wb) ⟨b0,b1,b2,b3,b4,b5,b6⟩ (x.t.length - l.length),SoundFn.of body54 (ask54 hf h5 hT skip wb ⟨b0,b1,b2,b3,b4,b5,b6⟩ _),W.mk ?_⟩
  refine StP.mk ⟨hsK 3 0 5 1 9 11 4 ⟨b0,b1,b2,b3,b4,b5,b6⟩ (ptr wb) skip 0 #[] 0,lendK rfl rfl rfl rfl rfl rfl rfl,(by show ([3,0,5,1,9,11,4]:List Nat).Nodup;decide),⟨beginF l,_,l,0, #[],0,[],by rw [hvg],hslv,(begin_len l).symm,WorkV.grow (hg1.trans hg2) hw0,by rw [begin_len];omega,begin_ok hle,rfl,Dead.nil,⟨fun d hd=>by cases hd⟩,Nat.zero_le _⟩,fun v ns G3 hg3 hpost=>W.mk ?_⟩
  obtain ⟨st',gv',got',r0',es0',c0',r',es',c',D',q1,q2,q3,rfl,hD3,hDo3,q4,q5⟩:=hpost
  simp only [List.cons.injEq,and_true] at q1
  obtain ⟨q1,rfl⟩:=q1
  have hst':beginF l = st':=Stt.val_inj (hvg.trans q1)
  subst hst'
  have hgot:got' = l:=q2.uniq (hslv.grow hg3)
  subst hgot
  simp only [List.map_cons,List.cons.injEq,LE.mk.injEq,LB.cells.injEq,Value.int.injEq,true_and,and_true] at q3
  have hr0:r0' = 0:=by omega
  subst hr0
  obtain ⟨ra,rn,rc,rfl,rl,hrn⟩:=q5
  have hrr:r' = farthestF x got' skip:=by rw [q4];simp [farthestF]
  (conv=>whnf)
  repeat' (refine ob ?_ ?_;(first | trivial | omega | (simp only [inR];omega) | exact ble (by rfl) | exact SlR.some ‹_› (by omega));(conv=>whnf))
  refine FinP.mk ⟨_, ?_,⟨ra,rn,rc,rfl,rl,hrn⟩⟩
  rw [← hrr];rfl
end Go.Proofs.YtefnikpoimaiiaaGreat.L
