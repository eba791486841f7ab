/- The offices: valid. The offices: valid; the work. The work; the rota. The rota. Helpers of the laws: the same lists; the chamber. Awake: the fixed example. The drawn sitting, made. The first law: the lengths. Plain. The first law: walked. Which take stands at a moment. The second law: each second is in one take, or paused. Plain. The second law, plain: which take holds a moment. The second law: walked. The laws' own functions: drawn values without a bound; thin, valid, ready, copies. The drawn values of this layer, opened; a law's row. The work: is there a reporter of the crew for each take; is a list right; what fails; which list is a right rota. What fails; which list is a right rota; the reference's list; a number by a word. When each take is done. A reporter is relieved. Runs: who takes what, one after the other. Plain. -/
import Derived.Test.YtefnikpoimaiiaaGreatMQ
import Derived.Test.YtefnikpoimaiiaaGreatMC
import Derived.Test.YtefnikpoimaiiaaGreatRows
set_option linter.unusedSimpArgs false
set_option linter.unusedVariables false
namespace Go.Proofs.YtefnikpoimaiiaaGreat.L
open Go.Pal

set_option maxRecDepth 100000

def repRd:Rd Rep:=⟨fun _ v p=>v = .agg #[I p.lo,I p.hi,I p.rest],fun {_ _ x y} h h'=>by rw [h] at h';cases x;cases y;simp at h';simp [h'],fun {_ _ _ _} _ h=>h⟩
def fineR (r:Rep):Bool:=decide (0≤r.lo∧r.lo≤r.hi∧r.hi≤20) && inF r.rest 0 36000
theorem fine63:Sound Tryz.prog 106 id (gsca (args1 repRd fun _=>True) fun r v=>v = .bool (fineR r)):=by
 refine comp63.gsca tabP (fun args G s h=>?_) (fun args G r h=>?_)
 ·obtain ⟨v,rfl,_⟩:=h;simp
 ·obtain ⟨v,rfl,rfl,_⟩:=h
  (conv=>whnf)
  repeat' (first | (refine IteP.mk (fun _=>W.mk ?_) (fun _=>W.mk ?_)<;>(conv=>whnf)) | (refine OblP.mk ⟨_,_,_,rfl⟩ (W.mk ?_);(conv=>whnf)) | (refine ob ?_ ?_;(first | trivial | omega | (simp only [inR];omega) | exact ble (by rfl) | exact SlR.some ‹_› (by omega));(conv=>whnf)) | (refine ForkP.mk (fun _=>W.mk ?_) (fun _=>W.mk ?_)<;>(conv=>whnf)) | (refine FinP.mk ?_))
  all_goals (refine congrArg Value.bool ?_;simp [fineR, *]<;>omega)

theorem SoundFn.plain {g:FuncId} {s:PSpec} (hb:HasBody Tryz.prog g) (h:Sound Tryz.prog g id s):SoundFn Tryz.prog (.func (.func g) #[] #[]) s:=by
 refine SoundFn.of hb ?_
 have:(fun args:List Value=>(#[]:Array Value).toList++args++(#[]:Array Value).toList) = id:=by funext a;simp
 rw [this];exact h
abbrev f63:Value:=.func (.func 106) #[] #[]
abbrev ledQ (b:Nat):List LE:=[⟨b,false, .cells [f63] 234⟩]
abbrev closV (b:Nat):Value:=.func (.func 168) #[] #[ptr b]
theorem finQ {H:Nat→Option OB} {b:Nat} (h:H 0 = some (.cells (.named b) [.val f63] 234)):finL H 0 (ledQ b) []:=⟨.cells [f63] 234,⟨_,h,rfl⟩,trivial,rfl,rfl⟩
def notS (b:Nat):PSpec:=.st (fun args ls _=>(∃ r:Rep,args = [.agg #[I r.lo,I r.hi,I r.rest]])∧ls = ledQ b) (fun args _ v ns _=>∃ r:Rep,args = [.agg #[I r.lo,I r.hi,I r.rest]]∧v = .bool (!fineR r)∧ns = [])
theorem not68 (b:Nat):Sound Tryz.prog 168 (fun a=>(#[]:Array Value).toList++a++(#[ptr b]:Array Value).toList) (notS b):=by
 refine ⟨fun args ls v ns G G' hg h=>h,fun args ls G Wd hsub hls hnd hpre=>?_⟩
 obtain ⟨⟨r,rfl⟩,rfl⟩:=hpre
 refine st_sound tabP comp68 (svs:=[.agg [.val (I r.lo), .val (I r.hi), .val (I r.rest)], .c (.ptr 0 0)]) (obs:=[.cells (.named b) [.val f63] 234]) (by simp) hsub hls hnd (Nat.le_refl _) ?_ ?_ ?_
 ·refine ⟨⟨[I r.lo,I r.hi,I r.rest],rfl,relL_vals _ [I r.lo,I r.hi,I r.rest]⟩,fun c hc=>?_,⟨_,rfl,rfl⟩,(Nat.le_of_ble_eq_true rfl:0 < 1),trivial⟩
  simp at hc;rcases hc with rfl | rfl | rfl<;>trivial
 ·refine ⟨⟨_,rfl,relL_vals _ [f63], ?_⟩,trivial⟩
  intro c hc;simp at hc;subst hc;trivial
 ·(conv=>whnf)
  refine CallvP.fn _ (SoundFn.plain body63 fine63) (W.mk ?_)
  (conv=>whnf)
  refine ScaP.g (ok1 repRd fun _=>True) (x:=r) ⟨_,rfl,rfl,trivial⟩ (fun v hv=>W.mk ?_)
  subst hv
  (conv=>whnf)
  refine ForkP.mk (fun hm=>W.mk ?_) (fun hm=>W.mk ?_)<;>(conv=>whnf)<;>refine FinS.mk ⟨_,finQ rfl,r,rfl, ?_,rfl⟩<;>rw [hm]<;>rfl

def idxF (l:List Rep) (k:Nat):Int:=match l with
 | []=>-1
 | r :: t=>if fineR r then idxF t (k + 1) else (k:Int)
def idxS:PSpec:=.st (fun args ls G=>∃ b,(∃ (w:Value) (l:List Rep),args = [w,closV b]∧SlV repE G w l)∧ls = ledQ b) (fun args _ v ns G=>∃ (b:Nat) (w:Value) (l:List Rep),args = [w,closV b]∧SlV repE G w l∧v = I (idxF l 0)∧ns = [])
theorem idx72:Sound Tryz.prog 206 id idxS:=by
 refine ⟨fun args ls v ns G G' hg h=>?_,fun args ls G Wd hsub hls hnd hpre=>?_⟩
 ·obtain ⟨b,w,l,h1,h2,h3⟩:=h;exact ⟨b,w,l,h1,h2.grow hg,h3⟩
 obtain ⟨b,⟨w,l,rfl,⟨a,n,c,rfl,hl,hn⟩⟩,rfl⟩:=hpre
 refine st_sound tabP comp72 (svs:=[.v (.slice a n c), .v (closV b)]) (obs:=[.cells (.named b) [.val f63] 234]) (by simp) hsub hls hnd (Nat.le_refl _) ?_ ?_ ?_
 ·exact ⟨rfl,trivial,rfl,trivial,trivial⟩
 ·refine ⟨⟨_,rfl,relL_vals _ [f63], ?_⟩,trivial⟩
  intro c hc;simp at hc;subst hc;trivial
 ·have hlen:=hl.len
  (conv=>whnf)
  refine LoopP.of { α:=Nat,fr:=fun x=>[(0, .v (.slice a n c)),(1, .v (closV b)),(7, .v (I n)),(8, .v (I x))],H:=fun _=>[(0, .cells (.named b) [.val f63] 234)],ok:=fun x _=>x≤l.length∧idxF (l.drop x) x = idxF l 0,m:=fun x=>l.length - x }
   0 (HeadP.of [] ⟨rfl,rfl,rfl,rfl,trivial⟩ ⟨rfl,trivial⟩) ⟨Nat.zero_le _,rfl⟩ (fun _=>⟨rfl,rfl⟩) (fun (x:Nat) G' hG hx=>W.mk ?_)
  obtain ⟨hi,hx⟩:=hx
  replace hl:=SlR.grow (G:=G) (G':=G') (fun _ _ h=>h) hl hG
  (conv=>whnf)
  refine IteP.mk (fun hlt=>W.mk ?_) (fun hge=>W.mk ?_)<;>(conv=>whnf)
  ·have hlt:x < l.length:=by omega
   have hc:=hl.el hlt
   rw [List.drop_eq_getElem_cons hlt,idxF] at hx
   repeat' (first | (refine ob ?_ ?_;(first | trivial | omega | (simp only [inR];omega) | exact ble (by rfl) | exact SlR.some ‹_› (by omega));(conv=>whnf)) | (first | (refine ra ‹_› (by rfl) ?_;(conv=>whnf)) | (refine rb ‹_› (by rfl) ?_;(conv=>whnf)) | (refine rc ‹_› (by rfl) ?_;(conv=>whnf)) | (refine rd ‹_› (by rfl) ?_;(conv=>whnf))))
   refine CallvP.fn _ (SoundFn.of body68 (not68 b)) (W.mk ?_)
   (conv=>whnf)
   refine StP.mk ⟨[(0,⟨b,false, .cells [f63] 234⟩)],⟨⟨_,rfl,rfl⟩,trivial⟩,by simp,⟨⟨l[x],rfl⟩,rfl⟩,fun v ns G3 hg3 hpost=>W.mk ?_⟩
   obtain ⟨r,q1,rfl,rfl⟩:=hpost
   simp only [List.cons.injEq,and_true,Value.agg.injEq] at q1
   have hr:r = l[x]:=(repRd.uniq (G:=G) (v:=.agg #[I l[x].lo,I l[x].hi,I l[x].rest]) rfl (congrArg Value.agg q1)).symm
   subst hr
   (conv=>whnf)
   refine ForkP.mk (fun hm=>W.mk ?_) (fun hm=>W.mk ?_)<;>(conv=>whnf)
   ·refine FinS.mk ⟨_,finQ rfl,b,_,l,rfl,⟨a,n,c,rfl,SlR.grow (G:=G') (G':=G3) (fun _ _ h=>h) hl hg3,hn⟩, ?_,rfl⟩
    rw [if_neg (by simpa using hm)] at hx
    rw [← hx];rfl
   ·(refine ob ?_ ?_;(first | trivial | omega | (simp only [inR];omega) | exact ble (by rfl) | exact SlR.some ‹_› (by omega));(conv=>whnf))
    rw [if_pos (by simpa using hm)] at hx
    exact RoundP.of (x + 1) (HeadP.of [] ⟨rfl,rfl,rfl,rfl,trivial⟩ ⟨rfl,trivial⟩) ⟨hlt,hx⟩ (by simp only;omega)
  ·have:x = l.length:=by omega
   subst this
   rw [List.drop_length] at hx
   refine FinS.mk ⟨_,finQ rfl,b,_,l,rfl,⟨a,n,c,rfl,hl,hn⟩, ?_,rfl⟩
   rw [← hx];rfl
theorem idxF_all:∀ (l:List Rep) (k:Nat),decide (0≤idxF l k) = !(l.all fineR)
 | [],k=>rfl
 | r :: t,k=>by
  unfold idxF
  cases hf:fineR r with
  | true=>simp only [if_true,List.all_cons,hf,Bool.true_and];exact idxF_all t _
  | false=>simp [hf]
end Go.Proofs.YtefnikpoimaiiaaGreat.L

namespace Go.Proofs.YtefnikpoimaiiaaGreat.L
open Go.Pal

set_option maxRecDepth 100000

def tabR:Tab Tryz.prog:=Tab.cons 206 _ idx72 body72 tabP
def anyS:PSpec:=.st (fun args ls G=>∃ b,(∃ (w:Value) (l:List Rep),args = [w,closV b]∧SlV repE G w l)∧ls = ledQ b) (fun args _ v ns G=>∃ (b:Nat) (w:Value) (l:List Rep),args = [w,closV b]∧SlV repE G w l∧v = .bool (!(l.all fineR))∧ns = [])
theorem any67:Sound Tryz.prog 167 id anyS:=by
 refine ⟨fun args ls v ns G G' hg h=>?_,fun args ls G Wd hsub hls hnd hpre=>?_⟩
 ·obtain ⟨b,w,l,h1,h2,h3⟩:=h;exact ⟨b,w,l,h1,h2.grow hg,h3⟩
 obtain ⟨b,⟨w,l,rfl,⟨a,n,c,rfl,hl,hn⟩⟩,rfl⟩:=hpre
 refine st_sound tabR comp67 (svs:=[.v (.slice a n c), .v (closV b)]) (obs:=[.cells (.named b) [.val f63] 234]) (by simp) hsub hls hnd (Nat.le_refl _) ?_ ?_ ?_
 ·exact ⟨rfl,trivial,rfl,trivial,trivial⟩
 ·refine ⟨⟨_,rfl,relL_vals _ [f63], ?_⟩,trivial⟩
  intro c hc;simp at hc;subst hc;trivial
 ·have hlen:=hl.len
  (conv=>whnf)
  refine StP.mk ⟨[(0,⟨b,false, .cells [f63] 234⟩)],⟨⟨_,rfl,rfl⟩,trivial⟩,by simp,⟨b,⟨_,l,rfl,⟨a,n,c,rfl,hl,hn⟩⟩,rfl⟩,fun v ns G3 hg3 hpost=>W.mk ?_⟩
  obtain ⟨b',w',l',q1,q2,rfl,rfl⟩:=hpost
  simp only [List.cons.injEq,and_true] at q1
  obtain ⟨rfl,_⟩:=q1
  have:l' = l:=q2.uniq (SlV.grow hg3 ⟨a,n,c,rfl,hl,hn⟩)
  subst this
  have hall:=idxF_all l' 0
  (conv=>whnf)
  refine IteP.mk (fun hq=>W.mk ?_) (fun hq=>W.mk ?_)<;>(conv=>whnf)<;>refine FinS.mk ⟨_,finQ rfl,b,_,l',rfl,q2, ?_,rfl⟩<;>rw [← hall]<;>simp [*]<;>rfl
def argsF:GRel (List Rep):=fun args G l=>∃ w,args = [w,f63]∧SlV repE G w l
theorem okF:GOk argsF:=⟨fun _ _ _ _ ⟨v,h,h1⟩ ⟨v',h',h1'⟩=>by rw [h] at h';cases h';exact h1.uniq h1',fun _ _ _ _ hg ⟨v,h,h1⟩=>⟨v,h,h1.grow hg⟩⟩
theorem all62:Sound Tryz.prog 105 id (gsca argsF fun l v=>v = .bool (l.all fineR)):=by
 refine comp62.gsca (Tab.cons 167 _ any67 body67 tabR) (fun args G s h=>?_) (fun args G l h=>?_)
 ·obtain ⟨w,rfl,_⟩:=h;simp
 ·obtain ⟨w,rfl,⟨a,n,c,rfl,hl,hn⟩⟩:=h
  (conv=>whnf)
  refine NameP.mk (fun b=>W.mk ?_)
  (conv=>whnf)
  refine StP.mk ⟨[(0,⟨b,false, .cells [f63] 234⟩)],⟨⟨_,rfl,rfl⟩,trivial⟩,by simp,⟨b,⟨_,l,rfl,⟨a,n,c,rfl,hl,hn⟩⟩,rfl⟩,fun v ns G3 hg3 hpost=>W.mk ?_⟩
  obtain ⟨b',w',l',q1,q2,rfl,rfl⟩:=hpost
  simp only [List.cons.injEq,and_true] at q1
  obtain ⟨rfl,_⟩:=q1
  have:l' = l:=q2.uniq (SlV.grow hg3 ⟨a,n,c,rfl,hl,hn⟩)
  subst this
  (conv=>whnf)
  refine ForkP.mk (fun hm=>W.mk ?_) (fun hm=>W.mk ?_)<;>(conv=>whnf)<;>refine FinP.mk ?_<;>(refine congrArg Value.bool ?_;simpa using hm)
def validO (o:Off):Bool:=inF o.crew.length 1 5 && (o.crew.all fineR && (inF o.due 0 36000 && inF o.delay 0 36000))
theorem valid49:Sound Tryz.prog 76 id (gsca (args1 offRd fun _=>True) fun o v=>v = .bool (validO o)):=by
 refine comp49.gsca (Tab.cons 105 _ all62 body62 (Tab.cons 167 _ any67 body67 tabR)) (fun args G s h=>?_) (fun args G o h=>?_)
 ·obtain ⟨v,rfl,_⟩:=h;simp
 ·obtain ⟨v,rfl,⟨w,rfl,a,n,c,rfl,hl,hn⟩,_⟩:=h
  have hlen:=hl.len
  (conv=>whnf)
  refine OblP.mk ⟨_,_,_,rfl⟩ (W.mk ?_);(conv=>whnf)
  refine ForkP.mk (fun h1=>W.mk ?_) (fun h1=>W.mk ?_)<;>(conv=>whnf)
  ·refine ScaP.g okF (x:=o.crew) ⟨_,rfl,⟨a,n,c,rfl,hl,hn⟩⟩ (fun v hv=>W.mk ?_)
   subst hv
   (conv=>whnf)
   refine ForkP.mk (fun h2=>W.mk ?_) (fun h2=>W.mk ?_)<;>(conv=>whnf)
   ·refine OblP.mk ⟨_,_,_,rfl⟩ (W.mk ?_);(conv=>whnf)
    refine ForkP.mk (fun h3=>W.mk ?_) (fun h3=>W.mk ?_)<;>(conv=>whnf)
    ·refine OblP.mk ⟨_,_,_,rfl⟩ (W.mk ?_);(conv=>whnf)
     repeat' (first | (refine ForkP.mk (fun _=>W.mk ?_) (fun _=>W.mk ?_)<;>(conv=>whnf)) | (refine FinP.mk ?_))
     all_goals (refine congrArg Value.bool ?_;simp_all [validO])
    ·repeat' (first | (refine ForkP.mk (fun _=>W.mk ?_) (fun _=>W.mk ?_)<;>(conv=>whnf)) | (refine FinP.mk ?_))
     all_goals (refine congrArg Value.bool ?_;simp_all [validO])
   ·repeat' (first | (refine ForkP.mk (fun _=>W.mk ?_) (fun _=>W.mk ?_)<;>(conv=>whnf)) | (refine FinP.mk ?_))
    all_goals (refine congrArg Value.bool ?_;rw [validO,hlen,h1,h2];rfl)
  ·repeat' (first | (refine ForkP.mk (fun _=>W.mk ?_) (fun _=>W.mk ?_)<;>(conv=>whnf)) | (refine FinP.mk ?_))
   all_goals (refine congrArg Value.bool ?_;simp_all [validO])
end Go.Proofs.YtefnikpoimaiiaaGreat.L

namespace Go.Proofs.YtefnikpoimaiiaaGreat.L
open Go.Pal

set_option maxRecDepth 100000

def tabS:Tab Tryz.prog:=Tab.cons 76 _ valid49 body49 (Tab.cons 51 _ least44 body44 tabR)
def errW (s:Sit) (o:Off):Int:=if faultF s = 0 then (if validO o then 0 else 1) else faultF s
def wkF (s:Sit) (o:Off):Wk:=⟨s,o,takesF s⟩
def WkR (G:Hp) (v:Value) (s:Sit) (o:Off):Prop:=∃ w,v = .tuple #[w,I (errW s o)]∧(if errW s o = 0 then WorkV G w (wkF s o) else w = .pointer none)
theorem WkR.grow {G G':Hp} {v:Value} {s:Sit} {o:Off} (hg:Grow G G') (h:WkR G v s o):WkR G' v s o:=by
 obtain ⟨w,h1,h2⟩:=h
 refine ⟨w,h1, ?_⟩
 split at h2
 ·rename_i he;rw [if_pos he];exact WorkV.grow hg h2
 ·rename_i he;rw [if_neg he];exact h2
theorem work43:Sound Tryz.prog 50 id (grel (args2 sitRd offRd fun s _=>Calm s) fun x v G=>WkR G v x.1 x.2):=by
 refine comp43.grel tabS (ok2 _ _ _) (fun args G s h=>?_) (fun x v G G' hg h=>WkR.grow hg h) (fun args G x h=>?_)
 ·obtain ⟨v,w,rfl,_⟩:=h;simp
 ·obtain ⟨s,o⟩:=x
  obtain ⟨u,v,rfl,⟨w1,rfl,a,n,c,rfl,hl,hn⟩,⟨w2,rfl,a2,n2,c2,rfl,hl2,hn2⟩,hcalm⟩:=h
  simp only at hl hl2 hcalm
  dsimp only
  (conv=>whnf)
  refine RelP.g (ok1 sitRd fun s=>Calm s) (x:=s) ⟨_,rfl,⟨_,rfl,a,n,c,rfl,hl,hn⟩,hcalm⟩ (Grow.refl _) (fun v G1 hg1 hq=>W.mk ?_)
  obtain ⟨w,rfl,hq⟩:=hq
  split at hq
  ·rename_i he
   obtain ⟨a1,n1,c1,rfl,hl1,hn1⟩:=hq
   (conv=>whnf)
   refine IteP.mk (fun h=>W.mk ?_) (fun h=>absurd he h)
   (conv=>whnf)
   refine ScaP.g (ok1 offRd fun _=>True) (x:=o) ⟨_,rfl,⟨_,rfl,a2,n2,c2,rfl,SlR.grow (G:=G) (G':=G1) (fun _ _ h=>h) hl2 hg1,hn2⟩,trivial⟩ (fun v hv=>W.mk ?_)
   subst hv
   (conv=>whnf)
   refine ForkP.mk (fun h2=>W.mk ?_) (fun h2=>W.mk ?_)<;>(conv=>whnf)
   ·refine PubCP.mk (fun b G2 hg2 hc=>W.mk ?_)
    (conv=>whnf)
    refine FinP.mk ?_
    have e0:errW s o = 0:=by rw [errW,if_pos he,if_pos h2]
    refine ⟨_,by rw [e0];rfl, ?_⟩
    rw [if_pos e0]
    exact ⟨b,_,_,_,rfl,hc,SlV.grow (hg1.trans hg2) ⟨a,n,c,rfl,hl,hn⟩,SlV.grow (hg1.trans hg2) ⟨a2,n2,c2,rfl,hl2,hn2⟩,SlV.grow hg2 ⟨a1,n1,c1,rfl,hl1,hn1⟩⟩
   ·refine FinP.mk ?_
    have e0:errW s o = 1:=by rw [errW,if_pos he,if_neg (by rw [h2];decide)]
    refine ⟨_,by rw [e0];rfl, ?_⟩
    rw [if_neg (by rw [e0];decide)]
  ·rename_i he
   subst hq
   (conv=>whnf)
   refine IteP.mk (fun h=>absurd h he) (fun h=>W.mk ?_)
   (conv=>whnf)
   refine FinP.mk ?_
   have e0:errW s o = faultF s:=by rw [errW,if_neg he]
   refine ⟨_,by rw [e0];rfl, ?_⟩
   rw [if_neg (by rw [e0];exact he)]
end Go.Proofs.YtefnikpoimaiiaaGreat.L

namespace Go.Proofs.YtefnikpoimaiiaaGreat.L
open Go.Pal

set_option maxRecDepth 100000

theorem base_bd {a long:Int} (h0:1≤long):∀ {m:Nat}, ∀ q∈baseF a long m,a≤q.fr∧q.fr≤q.to∧q.to≤a + m * long
 | 0,q,hq=>by simp [baseF] at hq
 | m + 1,q,hq=>by
  rw [baseF_succ] at hq
  have e:((m + 1:Nat):Int) * long = m * long + long:=by rw [Int.natCast_add,Int.add_mul];omega
  have e':((m:Int) + 1) * long = m * long + long:=by rw [Int.add_mul];omega
  have hp:0≤(m:Int) * long:=Int.mul_nonneg (by omega) (by omega)
  rcases List.mem_append.1 hq with hq | hq
  ·have:=base_bd h0 (m:=m) q hq
   rw [e];omega
  ·simp only [List.mem_singleton] at hq
   subst hq
   simp only
   rw [e,e'];omega
theorem cut_bd {long short:Int} {p:Span} (h0:1≤long) (hp:p.fr≤p.to):∀ q∈cutS long short p,p.fr≤q.fr∧q.fr≤q.to∧q.to≤p.to:=by
 intro q hq
 have hd:0≤(p.to - p.fr) / long:=Int.ediv_nonneg (by omega) (by omega)
 have hmul:((p.to - p.fr) / long).toNat * long≤p.to - p.fr:=by
  have:=Int.ediv_mul_le (p.to - p.fr) (show long≠0 by omega)
  rwa [Int.toNat_of_nonneg hd]
 have hn:0≤(((p.to - p.fr) / long).toNat:Int) * long:=Int.mul_nonneg (by omega) (by omega)
 simp only [cutS] at hq
 generalize ((p.to - p.fr) / long).toNat = m at hq hmul hn
 have hb:∀ k:Nat,k≤m→(0≤(k:Int) * long∧(k:Int) * long≤m * long)∧∀ q∈baseF p.fr long k,p.fr≤q.fr∧q.fr≤q.to∧q.to≤p.to:=fun k hk=>by
  have h1:(k:Int) * long≤m * long:=Int.mul_le_mul_of_nonneg_right (by omega) (by omega)
  have h2:0≤(k:Int) * long:=Int.mul_nonneg (by omega) (by omega)
  refine ⟨⟨h2,h1⟩,fun q hq=>?_⟩
  have:=base_bd h0 q hq
  omega
 split at hq
 ·exact (hb m (Nat.le_refl _)).2 q hq
 ·split at hq
  ·rcases List.mem_append.1 hq with hq | hq
   ·exact (hb m (Nat.le_refl _)).2 q hq
   ·simp only [List.mem_singleton] at hq
    subst hq
    simp only;omega
  ·rcases List.mem_append.1 hq with hq | hq
   ·exact (hb (m - 1) (by omega)).2 q hq
   ·simp only [List.mem_singleton] at hq
    subst hq
    have:=(hb (m - 1) (by omega)).1
    simp only;omega
theorem chain_mem:∀ {l:List Span} {lo:Int},chain lo l→∀ p∈l,lo≤p.fr∧p.fr < p.to:=fun {l lo} h p hp=>by
 obtain ⟨i,hi,e⟩:=List.getElem_of_mem hp
 have:=chain_drop i hi h
 rw [← e];exact ⟨this.1,this.2.1⟩
theorem takes_bd {s:Sit} (h:validF s = true):∀ q∈takesF s,0≤q.fr∧q.fr≤q.to∧q.to≤s.len:=by
 intro q hq
 obtain ⟨h1,h2,h3,h4⟩:=validF_iff.1 h
 obtain ⟨c1,c2⟩:=stretches_chain (fr:=0) h1 (Int.le_refl _) (by omega)
 obtain ⟨p,hp,hq⟩:=List.mem_flatMap.1 hq
 have k1:=chain_mem c1 p hp
 have k2:=c2 p hp
 have:=cut_bd (by omega) (by omega) q hq
 omega
theorem err0 {s:Sit} {o:Off} (h:errW s o = 0):validF s = true∧(takesF s).length≤40∧validO o = true:=by
 unfold errW at h
 split at h
 ·rename_i hf
  split at h
  ·rename_i hv
   unfold faultF at hf
   split at hf
   ·rename_i hv2
    split at hf
    ·cases hf
    ·exact ⟨hv2,by omega,hv⟩
   ·cases hf
  ·cases h
 ·rename_i hf;exact absurd h hf
theorem fine0 {s:Sit} {o:Off} (h:errW s o = 0):Fine (wkF s o)∧(1≤o.crew.length∧o.crew.length≤5)∧(takesF s).length≤40:=by
 obtain ⟨h1,h2,h3⟩:=err0 h
 obtain ⟨_,h4,_⟩:=validF_iff.1 h1
 simp only [validO,Bool.and_eq_true,inF,decide_eq_true_eq,List.all_eq_true] at h3
 obtain ⟨k1,k2,k3,k4⟩:=h3
 refine ⟨⟨fun p hp=>?_,fun p hp=>?_, ?_, ?_⟩,by omega,h2⟩
 ·have:=takes_bd h1 p hp
  simp only [Little];omega
 ·have:=k2 p hp
  simp only [fineR,inF,Bool.and_eq_true,decide_eq_true_eq] at this
  simp only [Little];omega
 ·show Little o.due;simp only [Little];omega
 ·show Little o.delay;simp only [Little];omega

def rotaE (s:Sit) (o:Off):Int:=if errW s o = 0 then (if farthestF (wkF s o) [] (-1) < (takesF s).length then 9 else 0) else errW s o
def rotaF (s:Sit) (o:Off):List Int:=restF (wkF s o) [] (-1)
def RotaR (G:Hp) (v:Value) (s:Sit) (o:Off):Prop:=∃ w,v = .tuple #[w,I (rotaE s o)]∧(if rotaE s o = 0 then SlV intE G w (rotaF s o) else w = .slice none 0 0)
theorem RotaR.grow {G G':Hp} {v:Value} {s:Sit} {o:Off} (hg:Grow G G') (h:RotaR G v s o):RotaR G' v s o:=by
 obtain ⟨w,h1,h2⟩:=h
 refine ⟨w,h1, ?_⟩
 split at h2
 ·rename_i he;rw [if_pos he];exact SlV.grow hg h2
 ·rename_i he;rw [if_neg he];exact h2
def tabT:Tab Tryz.prog:=Tab.cons 50 _ work43 body43 tabS
theorem rota17:Sound Tryz.prog 21 id (grel (args2 sitRd offRd fun s _=>Calm s) fun x v G=>RotaR G v x.1 x.2):=by
 refine comp17.grel tabT (ok2 _ _ _) (fun args G s h=>?_) (fun x v G G' hg h=>RotaR.grow hg h) (fun args G x h=>?_)
 ·obtain ⟨v,w,rfl,_⟩:=h;simp
 ·obtain ⟨s,o⟩:=x
  obtain ⟨u,v,rfl,⟨w1,rfl,a,n,c,rfl,hl,hn⟩,⟨w2,rfl,a2,n2,c2,rfl,hl2,hn2⟩,hcalm⟩:=h
  simp only at hl hl2 hcalm
  dsimp only
  (conv=>whnf)
  refine RelP.g (ok2 sitRd offRd fun s _=>Calm s) (x:=(s,o)) ⟨_,_,rfl,⟨_,rfl,a,n,c,rfl,hl,hn⟩,⟨_,rfl,a2,n2,c2,rfl,hl2,hn2⟩,hcalm⟩ (Grow.refl _) (fun v G1 hg1 hq=>W.mk ?_)
  obtain ⟨w,rfl,hq⟩:=hq
  simp only at hq
  dsimp only
  split at hq
  ·rename_i he
   obtain ⟨hf,hc,ht⟩:=fine0 he
   have hq0:=hq
   obtain ⟨b,v1,v2,v3,rfl,cw,_,_,⟨a3,n3,c3,rfl,l3,hn3⟩⟩:=hq
   have e3:=l3.len
   have e3:(takesF s).length = n3:=e3
   (conv=>whnf)
   refine IteP.mk (fun h=>W.mk ?_) (fun h=>absurd he h)
   (conv=>whnf)
   refine RelP.g (ok3 workRd (slRd intE) intRd fun x l _=>Fine x∧x.o.crew.length≤5∧x.t.length≤1000000∧l.length≤x.t.length∧∀ j∈l,0≤j∧j < 5) (x:=(wkF s o,[], -1)) ⟨_,_,_,rfl,hq0,SlV.nil,rfl,hf,hc.2,by show (takesF s).length≤_;omega,Nat.zero_le _,fun j hj=>by cases hj⟩ (Grow.refl _) (fun v G2 hg2 hq2=>W.mk ?_)
   obtain ⟨w4,rfl,a4,n4,c4,rfl,l4,hn4⟩:=hq2
   dsimp only
   have cw2:=cw.grow hg2
   (conv=>whnf)
   repeat' (first | (refine ob ?_ ?_;(first | trivial | omega | (simp only [inR];omega) | exact ble (by rfl) | exact SlR.some ‹_› (by omega));(conv=>whnf)) | (first | (refine ra ‹_› (by rfl) ?_;(conv=>whnf)) | (refine rb ‹_› (by rfl) ?_;(conv=>whnf)) | (refine rc ‹_› (by rfl) ?_;(conv=>whnf)) | (refine rd ‹_› (by rfl) ?_;(conv=>whnf))))
   refine IteP.mk (fun hlt=>W.mk ?_) (fun hlt=>W.mk ?_)<;>(conv=>whnf)<;>refine FinP.mk ?_
   ·have e0:rotaE s o = 9:=by rw [rotaE,if_pos he,if_pos (by omega)]
    refine ⟨_,by rw [e0];rfl, ?_⟩
    rw [if_neg (by rw [e0];decide)]
   ·have e0:rotaE s o = 0:=by rw [rotaE,if_pos he,if_neg (by omega)]
    refine ⟨_,by rw [e0];rfl, ?_⟩
    rw [if_pos e0]
    exact ⟨a4,n4,c4,rfl,l4,hn4⟩
  ·rename_i he
   subst hq
   (conv=>whnf)
   refine IteP.mk (fun h=>absurd h he) (fun h=>W.mk ?_)
   (conv=>whnf)
   refine FinP.mk ?_
   have e0:rotaE s o = errW s o:=by rw [rotaE,if_neg he]
   refine ⟨_,by rw [e0];rfl, ?_⟩
   rw [if_neg (by rw [e0];exact he)]
end Go.Proofs.YtefnikpoimaiiaaGreat.L

namespace Go.Proofs.YtefnikpoimaiiaaGreat.L
open Go.Pal

set_option maxRecDepth 100000

end Go.Proofs.YtefnikpoimaiiaaGreat.L

namespace Go.Proofs.YtefnikpoimaiiaaGreat.L
open Go.Pal

set_option maxRecDepth 100000

theorem okU:GOk (fun args _ (_:Unit)=>args = []):=⟨fun _ _ _ _ _ _=>rfl,fun _ _ _ _ _ h=>h⟩
def tabV:Tab Tryz.prog:=(Tab.cons 21 _ rota17 body17 (((tabT))))
end Go.Proofs.YtefnikpoimaiiaaGreat.L

namespace Go.Proofs.YtefnikpoimaiiaaGreat.L
open Go.Pal

set_option maxRecDepth 100000

theorem sitting13:Sound Tryz.prog 22 id (grel (args1 sitRd fun s=>s.ps.length≤1000) fun s v G=>SitV G v s):=by
 refine comp13.grel (Tab.nil _) (ok1 _ _) (fun args G s h=>?_) (fun x v G G' hg h=>sitRd.grow hg h) (fun args G s h=>?_)
 ·obtain ⟨v,rfl,_⟩:=h;simp
 ·obtain ⟨v,rfl,⟨w,rfl,a,n,c,rfl,hl,hn⟩,hb⟩:=h
  have hlen:=hl.len
  (conv=>whnf)
  refine LoopP.of { α:=Nat × Nat × List Value,fr:=fun x=>[(1, .c (.ptr 0 0)),(2, .c (.ptr 1 0)),(3, .c (.ptr 9 0)),(4, .v (I x.1))],H:=fun x=>[(0, .cells .anon [.val (I s.len), .val (.slice a n c), .val (I s.long), .val (I s.short)] 52),(1, .cells .anon [.val (I 0), .val (.slice none 0 0), .val (I 0), .val (I 0)] 69),(9, .cells .anon [.val (I s.len), .row 10 x.2.1, .val (I s.long), .val (I s.short)] 69),(10, .row none x.2.1 x.2.2 143 2)],ok:=fun x _=>x.1≤s.ps.length∧Row spanE (s.ps.take x.1) x.2.1 x.2.2,m:=fun x=>s.ps.length - x.1 }
   (0,0,[]) (HeadP.of [(10,none)] ⟨rfl,rfl,rfl,rfl,trivial⟩ ⟨rfl,rfl,rfl,rfl,trivial⟩) ⟨Nat.zero_le _,Row.nil⟩ (fun _=>⟨rfl,rfl⟩) (fun x G' hG hx=>W.mk ?_)
  obtain ⟨i,m,vs⟩:=x
  obtain ⟨hi,hr⟩:=hx
  dsimp only at hi hr
  dsimp only
  replace hl:=SlR.grow (G:=G) (G':=G') (fun _ _ h=>h) hl hG
  have hm:=hr.n
  simp only [List.length_take] at hm
  (conv=>whnf)
  refine IteP.mk (fun hlt=>W.mk ?_) (fun hge=>W.mk ?_)<;>(conv=>whnf)
  ·have hlt:i < s.ps.length:=by omega
   have hc:=hl.el hlt
   repeat' (first | (refine ob ?_ ?_;(first | trivial | omega | (simp only [inR];omega) | exact ble (by rfl) | exact SlR.some ‹_› (by omega));(conv=>whnf)) | (first | (refine ra ‹_› (by rfl) ?_;(conv=>whnf)) | (refine rb ‹_› (by rfl) ?_;(conv=>whnf)) | (refine rc ‹_› (by rfl) ?_;(conv=>whnf)) | (refine rd ‹_› (by rfl) ?_;(conv=>whnf))))
   have et:s.ps.take (i + 1) = s.ps.take i++[s.ps[i]]:=List.take_succ_eq_append_getElem hlt
   exact RoundP.of (i + 1,m + 1,vs++[I s.ps[i].fr,I s.ps[i].to]) (HeadP.of [(10,some 33)] ⟨rfl,rfl,rfl,rfl,trivial⟩ ⟨rfl,rfl,rfl,rfl,trivial⟩) ⟨hlt,by show Row spanE (s.ps.take (i + 1)) _ _;rw [et];exact hr.snoc _⟩ (by simp only;omega)
  ·have:i = s.ps.length:=by omega
   subst this
   rw [List.take_length] at hr
   refine PubP.mk (fun a1 c1 G1 hg1 hp=>W.mk ?_)
   (conv=>whnf)
   exact FinP.mk ⟨_,rfl,hr.pub hp (by omega)⟩
end Go.Proofs.YtefnikpoimaiiaaGreat.L

namespace Go.Proofs.YtefnikpoimaiiaaGreat.L
open Go.Pal

end Go.Proofs.YtefnikpoimaiiaaGreat.L

namespace Go.Proofs.YtefnikpoimaiiaaGreat.L
open Go.Pal

set_option maxRecDepth 100000

def tabY:Tab Tryz.prog:=Tab.cons 16 _ fault10 body10 (((Tab.cons 22 _ sitting13 body13 (tabV))))
theorem fault_valid {s:Sit} (h:faultF s = 0):validF s = true∧(takesF s).length≤40:=by
 unfold faultF at h
 split at h
 ·rename_i hv
  split at h
  ·cases h
  ·exact ⟨hv,by omega⟩
 ·cases h
end Go.Proofs.YtefnikpoimaiiaaGreat.L

namespace Go.Proofs.YtefnikpoimaiiaaGreat.L
open Go.Pal

set_option maxRecDepth 100000

abbrev ledN (b:Nat) (n:Int):List LE:=[⟨b,false, .cells [I n] 3⟩]
abbrev closN (b:Nat):Value:=.func (.func 55) #[] #[ptr b]
theorem finN {H:Nat→Option OB} {b:Nat} {n:Int} (h:H 0 = some (.cells (.named b) [.val (I n)] 3)):finL H 0 (ledN b n) []:=⟨.cells [I n] 3,⟨_,h,rfl⟩,trivial,rfl,rfl⟩
def tabZ:Tab Tryz.prog:=Tab.cons 56 _ has40 body40 tabY
def hasN (b:Nat) (n:Int):PSpec:=.st (fun args ls _=>(∃ p:Span,args = [.agg #[I p.fr,I p.to]])∧ls = ledN b n) (fun args _ v ns _=>∃ p:Span,args = [.agg #[I p.fr,I p.to]]∧v = .bool (hasF p.fr p.to n)∧ns = [])
theorem has39 (b:Nat) (n:Int):Sound Tryz.prog 55 (fun a=>(#[]:Array Value).toList++a++(#[ptr b]:Array Value).toList) (hasN b n):=by
 refine ⟨fun args ls v ns G G' hg h=>h,fun args ls G Wd hsub hls hnd hpre=>?_⟩
 obtain ⟨⟨p,rfl⟩,rfl⟩:=hpre
 refine st_sound tabZ comp39 (svs:=[.agg [.val (I p.fr), .val (I p.to)], .c (.ptr 0 0)]) (obs:=[.cells (.named b) [.val (I n)] 3]) (by simp) hsub hls hnd (Nat.le_refl _) ?_ ?_ ?_
 ·refine ⟨⟨[I p.fr,I p.to],rfl,relL_vals _ [I p.fr,I p.to]⟩,fun c hc=>?_,⟨_,rfl,rfl⟩,(Nat.le_of_ble_eq_true rfl:0 < 1),trivial⟩
  simp at hc;rcases hc with rfl | rfl<;>trivial
 ·refine ⟨⟨_,rfl,relL_vals _ [I n], ?_⟩,trivial⟩
  intro c hc;simp at hc;subst hc;trivial
 ·(conv=>whnf)
  refine OblP.mk ⟨_,_,_,rfl⟩ (W.mk ?_)
  (conv=>whnf)
  refine ForkP.mk (fun hm=>W.mk ?_) (fun hm=>W.mk ?_)<;>(conv=>whnf)<;>refine FinS.mk ⟨_,finN rfl,p,rfl, ?_,rfl⟩<;>rw [hm]<;>rfl

def atF (n:Int) (l:List Span) (k:Nat):Int:=match l with
 | []=>-1
 | p :: t=>if hasF p.fr p.to n then (k:Int) else atF n t (k + 1)
def atS:PSpec:=.st (fun args ls G=>∃ b n,(∃ (w:Value) (l:List Span),args = [w,closN b]∧SlV spanE G w l)∧ls = ledN b n) (fun args ls v ns G=>∃ (b:Nat) (n:Int) (w:Value) (l:List Span),args = [w,closN b]∧ls = ledN b n∧SlV spanE G w l∧v = I (atF n l 0)∧ns = [])
theorem at38:Sound Tryz.prog 54 id atS:=by
 refine ⟨fun args ls v ns G G' hg h=>?_,fun args ls G Wd hsub hls hnd hpre=>?_⟩
 ·obtain ⟨b,n,w,l,h1,h0,h2,h3⟩:=h;exact ⟨b,n,w,l,h1,h0,h2.grow hg,h3⟩
 obtain ⟨b,m,⟨w,l,rfl,⟨a,n,c,rfl,hl,hn⟩⟩,rfl⟩:=hpre
 refine st_sound tabZ comp38 (svs:=[.v (.slice a n c), .v (closN b)]) (obs:=[.cells (.named b) [.val (I m)] 3]) (by simp) hsub hls hnd (Nat.le_refl _) ?_ ?_ ?_
 ·exact ⟨rfl,trivial,rfl,trivial,trivial⟩
 ·refine ⟨⟨_,rfl,relL_vals _ [I m], ?_⟩,trivial⟩
  intro c hc;simp at hc;subst hc;trivial
 ·have hlen:=hl.len
  (conv=>whnf)
  refine LoopP.of { α:=Nat,fr:=fun x=>[(0, .v (.slice a n c)),(1, .v (closN b)),(7, .v (I n)),(8, .v (I x))],H:=fun _=>[(0, .cells (.named b) [.val (I m)] 3)],ok:=fun x _=>x≤l.length∧atF m (l.drop x) x = atF m l 0,m:=fun x=>l.length - x }
   0 (HeadP.of [] ⟨rfl,rfl,rfl,rfl,trivial⟩ ⟨rfl,trivial⟩) ⟨Nat.zero_le _,rfl⟩ (fun _=>⟨rfl,rfl⟩) (fun (x:Nat) G' hG hx=>W.mk ?_)
  obtain ⟨hi,hx⟩:=hx
  replace hl:=SlR.grow (G:=G) (G':=G') (fun _ _ h=>h) hl hG
  (conv=>whnf)
  refine IteP.mk (fun hlt=>W.mk ?_) (fun hge=>W.mk ?_)<;>(conv=>whnf)
  ·have hlt:x < l.length:=by omega
   have hc:=hl.el hlt
   rw [List.drop_eq_getElem_cons hlt,atF] at hx
   repeat' (first | (refine ob ?_ ?_;(first | trivial | omega | (simp only [inR];omega) | exact ble (by rfl) | exact SlR.some ‹_› (by omega));(conv=>whnf)) | (first | (refine ra ‹_› (by rfl) ?_;(conv=>whnf)) | (refine rb ‹_› (by rfl) ?_;(conv=>whnf)) | (refine rc ‹_› (by rfl) ?_;(conv=>whnf)) | (refine rd ‹_› (by rfl) ?_;(conv=>whnf))))
   refine CallvP.fn _ (SoundFn.of body39 (has39 b m)) (W.mk ?_)
   (conv=>whnf)
   refine StP.mk ⟨[(0,⟨b,false, .cells [I m] 3⟩)],⟨⟨_,rfl,rfl⟩,trivial⟩,by simp,⟨⟨l[x],rfl⟩,rfl⟩,fun v ns G3 hg3 hpost=>W.mk ?_⟩
   obtain ⟨r,q1,rfl,rfl⟩:=hpost
   simp only [List.cons.injEq,and_true,Value.agg.injEq] at q1
   have hr:r = l[x]:=(spanRd.uniq (G:=G) (v:=.agg #[I l[x].fr,I l[x].to]) rfl (congrArg Value.agg q1)).symm
   subst hr
   (conv=>whnf)
   refine ForkP.mk (fun hm=>W.mk ?_) (fun hm=>W.mk ?_)<;>(conv=>whnf)
   ·refine FinS.mk ⟨_,finN rfl,_,_,_,l,rfl,rfl,⟨a,n,c,rfl,SlR.grow (G:=G') (G':=G3) (fun _ _ h=>h) hl hg3,hn⟩, ?_,rfl⟩
    rw [if_pos hm] at hx
    rw [← hx];rfl
   ·(refine ob ?_ ?_;(first | trivial | omega | (simp only [inR];omega) | exact ble (by rfl) | exact SlR.some ‹_› (by omega));(conv=>whnf))
    rw [if_neg (by rw [hm];decide)] at hx
    exact RoundP.of (x + 1) (HeadP.of [] ⟨rfl,rfl,rfl,rfl,trivial⟩ ⟨rfl,trivial⟩) ⟨hlt,hx⟩ (by simp only;omega)
  ·have:x = l.length:=by omega
   subst this
   rw [List.drop_length] at hx
   refine FinS.mk ⟨_,finN rfl,_,_,_,l,rfl,rfl,⟨a,n,c,rfl,hl,hn⟩, ?_,rfl⟩
   rw [← hx];rfl
def atE (s:Sit) (m:Int):Int:=if faultF s = 0 then (if inF m 0 (s.len - 1) = true then (if atF m (takesF s) 0 < 0 then 7 else 0) else 2) else faultF s
def atV (s:Sit) (m:Int):Int:=if atE s m = 0 then atF m (takesF s) 0 else 0
theorem at15:Sound Tryz.prog 24 id (gsca (args2 sitRd intRd fun s _=>Calm s) fun x v=>v = .tuple #[I (atV x.1 x.2),I (atE x.1 x.2)]):=by
 refine comp15.gsca (Tab.cons 54 _ at38 body38 tabZ) (fun args G s h=>?_) (fun args G x h=>?_)
 ·obtain ⟨u,v,rfl,_⟩:=h;simp
 ·obtain ⟨s,m⟩:=x
  obtain ⟨u,v,rfl,⟨w,rfl,a,n,c,rfl,hl,hn⟩,rfl,hcalm⟩:=h
  simp only at hl hcalm
  dsimp only
  (conv=>whnf)
  refine RelP.g (ok1 sitRd fun s=>Calm s) (x:=s) ⟨_,rfl,⟨_,rfl,a,n,c,rfl,hl,hn⟩,hcalm⟩ (Grow.refl _) (fun v G1 hg1 hq=>W.mk ?_)
  obtain ⟨w,rfl,hq⟩:=hq
  split at hq
  ·rename_i he
   obtain ⟨a1,n1,c1,rfl,hl1,hn1⟩:=hq
   (conv=>whnf)
   refine IteP.mk (fun h=>W.mk ?_) (fun h=>absurd he h)
   (conv=>whnf)
   obtain ⟨hv,_⟩:=fault_valid he
   have hln:=(validF_iff.1 hv).2.1
   (refine ob ?_ ?_;(first | trivial | omega | (simp only [inR];omega) | exact ble (by rfl) | exact SlR.some ‹_› (by omega));(conv=>whnf))
   refine OblP.mk ⟨_,_,_,rfl⟩ (W.mk ?_)
   (conv=>whnf)
   refine ForkP.mk (fun hm=>W.mk ?_) (fun hm=>W.mk ?_)<;>(conv=>whnf)
   ·refine NameP.mk (fun b=>W.mk ?_)
    (conv=>whnf)
    refine StP.mk ⟨[(1,⟨b,false, .cells [I m] 3⟩)],⟨⟨_,rfl,rfl⟩,trivial⟩,by simp,⟨b,m,⟨_,takesF s,rfl,⟨a1,n1,c1,rfl,hl1,hn1⟩⟩,rfl⟩,fun v ns G3 hg3 hpost=>W.mk ?_⟩
    obtain ⟨b',m',w',l',q1,q0,q2,rfl,rfl⟩:=hpost
    simp only [List.cons.injEq,and_true] at q1
    obtain ⟨rfl,_⟩:=q1
    have hl':l' = takesF s:=q2.uniq (SlV.grow hg3 ⟨a1,n1,c1,rfl,hl1,hn1⟩)
    subst hl'
    have hmm:m' = m:=by
     simp only [List.map_cons,List.map_nil,List.cons.injEq,LE.mk.injEq,LB.cells.injEq,Value.int.injEq,true_and,and_true] at q0
     omega
    subst hmm
    (conv=>whnf)
    refine IteP.mk (fun hq=>W.mk ?_) (fun hq=>W.mk ?_)<;>(conv=>whnf)<;>refine FinP.mk ?_
    ·have e0:atE s m' = 7:=by rw [atE,if_pos he,if_pos hm,if_pos hq]
     rw [atV,if_neg (by rw [e0];decide),e0];rfl
    ·have e0:atE s m' = 0:=by rw [atE,if_pos he,if_pos hm,if_neg hq]
     rw [atV,if_pos e0,e0];rfl
   ·refine FinP.mk ?_
    have e0:atE s m = 2:=by rw [atE,if_pos he,if_neg (by rw [hm];decide)]
    rw [atV,if_neg (by rw [e0];decide),e0];rfl
  ·rename_i he
   subst hq
   (conv=>whnf)
   refine IteP.mk (fun h=>absurd h he) (fun h=>W.mk ?_)
   (conv=>whnf)
   refine FinP.mk ?_
   have e0:atE s m = faultF s:=by rw [atE,if_neg he]
   rw [atV,if_neg (by rw [e0];exact he),e0];rfl
end Go.Proofs.YtefnikpoimaiiaaGreat.L

namespace Go.Proofs.YtefnikpoimaiiaaGreat.L
open Go.Pal
def Holds (m:Int) (p:Span):Prop:=p.fr≤m∧m < p.to
theorem hasF_iff {p:Span} {m:Int}:hasF p.fr p.to m = true↔Holds m p:=by simp [hasF,Holds]
theorem atF_none {m:Int}:∀ {l:List Span} {k:Nat},(∀ q∈l, ¬ Holds m q)→atF m l k = -1
 | [],_,_=>rfl
 | p :: r,k,h=>by
  rw [atF,if_neg (by rw [hasF_iff];exact h p (by simp))]
  exact atF_none fun q hq=>h q (by simp [hq])
theorem atF_some {m:Int}:∀ {l:List Span} {k:Nat},(∃ q∈l,Holds m q)→∃ i, ∃ h:i < l.length,Holds m l[i]∧atF m l k = ((k + i:Nat):Int)
 | [],_,h=>by obtain ⟨q,hq,_⟩:=h;cases hq
 | p :: r,k,h=>by
  by_cases hm:Holds m p
  ·exact ⟨0,by simp,hm,by rw [atF,if_pos (hasF_iff.2 hm)];rfl⟩
  ·obtain ⟨q,hq,hh⟩:=h
   have:∃ q∈r,Holds m q:=by
    rcases List.mem_cons.1 hq with rfl | hq
    ·exact absurd hh hm
    ·exact ⟨q,hq,hh⟩
   obtain ⟨i,hi,h1,h2⟩:=atF_some (k:=k + 1) this
   refine ⟨i + 1,by simpa using hi,by simpa using h1, ?_⟩
   rw [atF,if_neg (by rw [hasF_iff];exact hm),h2]
   omega
end Go.Proofs.YtefnikpoimaiiaaGreat.L

namespace Go.Proofs.YtefnikpoimaiiaaGreat.L
open Go.Pal
end Go.Proofs.YtefnikpoimaiiaaGreat.L

namespace Go.Proofs.YtefnikpoimaiiaaGreat.L
open Go.Pal

set_option maxRecDepth 100000

end Go.Proofs.YtefnikpoimaiiaaGreat.L

namespace Go.Proofs.YtefnikpoimaiiaaGreat.L
open Go.Pal

set_option maxRecDepth 100000
def SlU {α:Type} (e:El α) (G:Hp) (v:Value) (l:List α):Prop:=∃ a n c,v = .slice a n c∧SlR e.k e.R G a n c l
theorem SlU.uniq {α:Type} {e:El α} {G:Hp} {v:Value} {x y:List α} (h:SlU e G v x) (h':SlU e G v y):x = y:=by
 obtain ⟨a,n,c,rfl,h⟩:=h
 obtain ⟨a',n',c',e',h'⟩:=h'
 cases e'
 exact h.uniq (fun cs x y h1 h2=>e.inj (h1.symm.trans h2)) h'
theorem SlU.grow {α:Type} {e:El α} {G G':Hp} {v:Value} {x:List α} (hg:Grow G G') (h:SlU e G v x):SlU e G' v x:=by
 obtain ⟨a,n,c,rfl,h⟩:=h
 exact ⟨a,n,c,rfl,SlR.grow (G:=G) (G':=G') (fun _ _ h=>h) h hg⟩
theorem SlU.v {α:Type} {e:El α} {G:Hp} {v:Value} {x:List α} (h:SlU e G v x) (hb:x.length≤140737488355328):SlV e G v x:=by
 obtain ⟨a,n,c,rfl,h⟩:=h
 exact ⟨a,n,c,rfl,h,by rw [← h.len];exact hb⟩
theorem SlV.u {α:Type} {e:El α} {G:Hp} {v:Value} {x:List α} (h:SlV e G v x):SlU e G v x:=by
 obtain ⟨a,n,c,rfl,h,_⟩:=h;exact ⟨a,n,c,rfl,h⟩
def SitU (G:Hp) (v:Value) (s:Sit):Prop:=∃ w,v = .agg #[I s.len,w,I s.long,I s.short]∧SlU spanE G w s.ps
def sitU:Rd Sit:=⟨SitU,fun {_ _ x y} ⟨w,h,h1⟩ ⟨w',h',h1'⟩=>by
  subst h;simp at h';obtain ⟨e1,e2,e3,e4⟩:=h';subst e2;have:=h1.uniq h1';cases x;cases y;simp_all,fun hg ⟨w,h,h1⟩=>⟨w,h,h1.grow hg⟩⟩
def OffU (G:Hp) (v:Value) (s:Off):Prop:=∃ w,v = .agg #[w,I s.due,I s.delay]∧SlU repE G w s.crew
def offU:Rd Off:=⟨OffU,fun {_ _ x y} ⟨w,h,h1⟩ ⟨w',h',h1'⟩=>by
  subst h;simp at h';obtain ⟨e1,e2,e3⟩:=h';subst e1;have:=h1.uniq h1';cases x;cases y;simp_all,fun hg ⟨w,h,h1⟩=>⟨w,h,h1.grow hg⟩⟩

def thinF (s:Sit) (o:Off):Bool:=decide (s.ps.length≤60) && decide (o.crew.length≤8)
theorem thin41:Sound Tryz.prog 15 id (gsca (args2 sitU offU fun _ _=>True) fun x v=>v = .bool (thinF x.1 x.2)):=by
 refine comp41.gsca (Tab.nil _) (fun args G s h=>?_) (fun args G x h=>?_)
 ·obtain ⟨v,w,rfl,_⟩:=h;simp
 ·obtain ⟨s,o⟩:=x
  obtain ⟨u,v,rfl,⟨w1,rfl,a,n,c,rfl,hl⟩,⟨w2,rfl,a2,n2,c2,rfl,hl2⟩,_⟩:=h
  have e1:=hl.len
  have e2:=hl2.len
  dsimp only at e1 e2
  dsimp only
  (conv=>whnf)
  repeat' (first | (refine IteP.mk (fun _=>W.mk ?_) (fun _=>W.mk ?_)<;>(conv=>whnf)) | (refine ob ?_ ?_;(first | trivial | omega | (simp only [inR];omega) | exact ble (by rfl) | exact SlR.some ‹_› (by omega));(conv=>whnf)) | (refine ForkP.mk (fun _=>W.mk ?_) (fun _=>W.mk ?_)<;>(conv=>whnf)) | (refine ra ‹_› (by rfl) ?_;(conv=>whnf)) | (refine rb ‹_› (by rfl) ?_;(conv=>whnf)) | (refine rc ‹_› (by rfl) ?_;(conv=>whnf)) | (refine rd ‹_› (by rfl) ?_;(conv=>whnf)) | (refine FinP.mk ?_))
  all_goals (refine congrArg Value.bool ?_;simp [thinF];omega)
theorem right23:Sound Tryz.prog 17 id (gsca (args1 offRd fun _=>True) fun o v=>v = .bool (validO o)):=by
  refine comp23.gsca tabA (fun args G s h=>?_) (fun args G o h=>?_)
  · obtain ⟨v,rfl,_⟩:=h;simp
  · obtain ⟨v,rfl,⟨w,rfl,a,n,c,rfl,hl,hn⟩,_⟩:=h
    have hlen:=hl.len
    (conv=>whnf)
    refine LoopP.of { α:=Nat,fr:=fun x=>[(1, .c (.ptr 0 0)),(3, .v (I x))],H:=fun _=>[(0, .cells .anon [.val (.slice a n c), .val (I o.due), .val (I o.delay)] 55)],ok:=fun x _=>x≤o.crew.length∧o.crew.all fineR = (o.crew.drop x).all fineR,m:=fun x=>o.crew.length - x }
      0 (HeadP.of [] ⟨rfl,rfl,trivial⟩ ⟨rfl,trivial⟩) ⟨Nat.zero_le _,rfl⟩ (fun _=>⟨rfl,rfl⟩) (fun (x:Nat) G' hG hx=>W.mk ?_)
    obtain ⟨hi,hx⟩:=hx
    replace hl:=SlR.grow (G:=G) (G':=G') (fun _ _ h=>h) hl hG
    (conv=>whnf)
    refine IteP.mk (fun hlt=>W.mk ?_) (fun hge=>W.mk ?_)<;>(conv=>whnf)
    · have hlt:x < o.crew.length:=by omega
      have hc:=hl.el hlt
      rw [List.drop_eq_getElem_cons hlt,List.all_cons] at hx
      generalize o.crew[x] = r at hc hx
      repeat' (first | (refine IteP.mk (fun _=>W.mk ?_) (fun _=>W.mk ?_)<;>(conv=>whnf)) | (refine OblP.mk ⟨_,_,_,rfl⟩ (W.mk ?_);(conv=>whnf)) | (refine ob ?_ ?_;(first | trivial | omega | (simp only [inR];omega) | exact ble (by rfl) | exact SlR.some ‹_› (by omega));(conv=>whnf)) | (first | (refine ra ‹_› (by rfl) ?_;(conv=>whnf)) | (refine rb ‹_› (by rfl) ?_;(conv=>whnf)) | (refine rc ‹_› (by rfl) ?_;(conv=>whnf)) | (refine rd ‹_› (by rfl) ?_;(conv=>whnf))) | (refine ForkP.mk (fun hf=>W.mk ?_) (fun hf=>W.mk ?_)<;>(conv=>whnf)))
      all_goals first
        | (refine FinP.mk ?_
           have hb:fineR r = false:=by simp only [fineR,Bool.and_eq_false_iff,decide_eq_false_iff_not];first | (left;omega) | (right;assumption)
           refine congrArg Value.bool ?_
           rw [validO,hx,hb];simp)
        | (have hb:fineR r = true:=by simp only [fineR,Bool.and_eq_true,decide_eq_true_eq];exact ⟨by omega,by assumption⟩
           exact RoundP.of (x + 1) (HeadP.of [] ⟨rfl,rfl,trivial⟩ ⟨rfl,trivial⟩) ⟨hlt,by rw [hx,hb,Bool.true_and]⟩ (by simp only;omega))
    · have:x = o.crew.length:=by omega
      subst this
      simp only [List.drop_length,List.all_nil] at hx
      repeat' (first | (refine OblP.mk ⟨_,_,_,rfl⟩ (W.mk ?_);(conv=>whnf)) | (refine ForkP.mk (fun _=>W.mk ?_) (fun _=>W.mk ?_)<;>(conv=>whnf)) | (refine FinP.mk ?_))
      all_goals (refine congrArg Value.bool ?_;simp only [validO,hx];simp_all)
theorem office18:Sound Tryz.prog 23 id (grel (args1 offRd fun o=>o.crew.length≤1000) fun o v G=>OffV G v o):=by
 refine comp18.grel (Tab.nil _) (ok1 _ _) (fun args G s h=>?_) (fun x v G G' hg h=>offRd.grow hg h) (fun args G o h=>?_)
 ·obtain ⟨v,rfl,_⟩:=h;simp
 ·obtain ⟨v,rfl,⟨w,rfl,a,n,c,rfl,hl,hn⟩,hb⟩:=h
  have hlen:=hl.len
  (conv=>whnf)
  refine LoopP.of { α:=Nat × Nat × List Value,fr:=fun x=>[(1, .c (.ptr 0 0)),(2, .c (.ptr 1 0)),(3, .c (.ptr 7 0)),(4, .v (I x.1))],H:=fun x=>[(0, .cells .anon [.val (.slice a n c), .val (I o.due), .val (I o.delay)] 55),(1, .cells .anon [.val (.slice none 0 0), .val (I 0), .val (I 0)] 73),(7, .cells .anon [.row 8 x.2.1, .val (I o.due), .val (I o.delay)] 73),(8, .row none x.2.1 x.2.2 146 3)],ok:=fun x _=>x.1≤o.crew.length∧Row repE (o.crew.take x.1) x.2.1 x.2.2,m:=fun x=>o.crew.length - x.1 }
   (0,0,[]) (HeadP.of [(8,none)] ⟨rfl,rfl,rfl,rfl,trivial⟩ ⟨rfl,rfl,rfl,rfl,trivial⟩) ⟨Nat.zero_le _,Row.nil⟩ (fun _=>⟨rfl,rfl⟩) (fun x G' hG hx=>W.mk ?_)
  obtain ⟨i,m,vs⟩:=x
  obtain ⟨hi,hr⟩:=hx
  dsimp only at hi hr
  dsimp only
  replace hl:=SlR.grow (G:=G) (G':=G') (fun _ _ h=>h) hl hG
  have hm:=hr.n
  simp only [List.length_take] at hm
  (conv=>whnf)
  refine IteP.mk (fun hlt=>W.mk ?_) (fun hge=>W.mk ?_)<;>(conv=>whnf)
  ·have hlt:i < o.crew.length:=by omega
   have hc:=hl.el hlt
   repeat' (first | (refine ob ?_ ?_;(first | trivial | omega | (simp only [inR];omega) | exact ble (by rfl) | exact SlR.some ‹_› (by omega));(conv=>whnf)) | (first | (refine ra ‹_› (by rfl) ?_;(conv=>whnf)) | (refine rb ‹_› (by rfl) ?_;(conv=>whnf)) | (refine rc ‹_› (by rfl) ?_;(conv=>whnf)) | (refine rd ‹_› (by rfl) ?_;(conv=>whnf))))
   have et:o.crew.take (i + 1) = o.crew.take i++[o.crew[i]]:=List.take_succ_eq_append_getElem hlt
   exact RoundP.of (i + 1,m + 1,vs++[I o.crew[i].lo,I o.crew[i].hi,I o.crew[i].rest]) (HeadP.of [(8,some 35)] ⟨rfl,rfl,rfl,rfl,trivial⟩ ⟨rfl,rfl,rfl,rfl,trivial⟩) ⟨hlt,by show Row repE (o.crew.take (i + 1)) _ _;rw [et];exact hr.snoc _⟩ (by simp only;omega)
  ·have:i = o.crew.length:=by omega
   subst this
   rw [List.take_length] at hr
   refine PubP.mk (fun a1 c1 G1 hg1 hp=>W.mk ?_)
   (conv=>whnf)
   exact FinP.mk ⟨_,rfl,hr.pub hp (by omega)⟩
def cutF (s:Sit) (m:Int):Sit:=⟨m,s.ps.filter (fun p=>decide (p.to≤m)),s.long,s.short⟩
end Go.Proofs.YtefnikpoimaiiaaGreat.L

namespace Go.Proofs.YtefnikpoimaiiaaGreat.L
open Go.Pal Go.ChangeShapes

theorem SlR.map {α β:Type} {k:Nat} {R:Hp→List Value→α→Prop} {R':Hp→List Value→β→Prop} {G:Hp} {a:Option Addr} {n c:Nat} {l:List α} (f:α→β) (hf:∀ cs x,R G cs x→R' G cs (f x)) (h:SlR k R G a n c l):SlR k R' G a n c (l.map f) :=
 ⟨by rw [List.length_map,h.len],h.cap,h.some,fun i hi=>by
  obtain ⟨cs,h1,h2,h3⟩:=h.at_ i (by simpa using hi)
  exact ⟨cs,h1,h2,by rw [List.getElem_map];exact hf _ _ h3⟩⟩
theorem und3:Tryz.prog.underlying 3 = some (.int .i64):=by kernel_rfl
theorem o3:Opens Tryz.prog 3 (cdInt .i64):=.int und3
abbrev cdSpan:=cdPair (cdInt .i64) (cdPair (cdInt .i64) cdUnit)
theorem o41:Opens Tryz.prog 142 cdSpan:=.struct (fs:=[(3,0),(3,1)]) (by kernel_rfl) (by kernel_rfl) (OpensF.cons o3 (OpensF.cons o3 OpensF.nil))
theorem o22:Opens Tryz.prog 50 (cdSl cdSpan):=.slice (e:=142) (by kernel_rfl) o41 (by decide)
abbrev cdSit:=cdPair (cdInt .i64) (cdPair (cdSl cdSpan) (cdPair (cdInt .i64) (cdPair (cdInt .i64) cdUnit)))
theorem o24:Opens Tryz.prog 52 cdSit:=.struct (fs:=[(3,0),(50,1),(3,2),(3,3)]) (by kernel_rfl) (by kernel_rfl) (OpensF.cons o3 (OpensF.cons o22 (OpensF.cons o3 (OpensF.cons o3 OpensF.nil))))
abbrev cdSlow:=cdPair (cdInt .i64) (cdPair (cdInt .i64) cdUnit)
theorem o60:Opens Tryz.prog 126 cdSlow:=.struct (fs:=[(3,0),(3,1)]) (by kernel_rfl) (by kernel_rfl) (OpensF.cons o3 (OpensF.cons o3 OpensF.nil))
abbrev cdRep:=cdPair cdSlow (cdPair (cdInt .i64) cdUnit)
theorem o62:Opens Tryz.prog 128 cdRep:=.struct (fs:=[(126,0),(3,2)]) (by kernel_rfl) (by kernel_rfl) (OpensF.cons o60 (OpensF.cons o3 OpensF.nil))
theorem o43:Opens Tryz.prog 53 (cdSl cdRep):=.slice (e:=128) (by kernel_rfl) o62 (by decide)
abbrev cdOff:=cdPair (cdSl cdRep) (cdPair (cdInt .i64) (cdPair (cdInt .i64) cdUnit))
theorem o45:Opens Tryz.prog 55 cdOff:=.struct (fs:=[(53,0),(3,1),(3,2)]) (by kernel_rfl) (by kernel_rfl) (OpensF.cons o43 (OpensF.cons o3 (OpensF.cons o3 OpensF.nil)))
theorem o5:Opens Tryz.prog 5 (cdInt .u8):=.int (by kernel_rfl)
theorem span_cd {G:Hp} {cs:List Value} {x} (h:cdSpan.R G cs x):spanE.R G cs ⟨x.1,x.2.1⟩:=by
 obtain ⟨_,_,rfl,⟨rfl,_⟩,_,_,rfl,⟨rfl,_⟩,rfl⟩:=h;rfl
theorem rep_cd {G:Hp} {cs:List Value} {x} (h:cdRep.R G cs x):repE.R G cs ⟨x.1.1,x.1.2.1,x.2.1⟩:=by
 obtain ⟨_,_,rfl,⟨_,_,rfl,⟨rfl,_⟩,_,_,rfl,⟨rfl,_⟩,rfl⟩,_,_,rfl,⟨rfl,_⟩,rfl⟩:=h;rfl
theorem sit_val {G:Hp} {v:Value} (h:∃ x,VR cdSit true G v x):∃ s,SitU G v s:=by
 obtain ⟨x,cs,rfl,_,_,e,⟨rfl,_⟩,_,_,rfl,⟨a,n,c,rfl,hl,_⟩,_,_,rfl,⟨rfl,_⟩,_,_,rfl,⟨rfl,_⟩,rfl⟩:=h
 refine ⟨⟨x.1,x.2.1.map fun p=>⟨p.1,p.2.1⟩,x.2.2.1,x.2.2.2.1⟩, .slice a n c, ?_,a,n,c,rfl,SlR.map _ (fun _ _ h=>span_cd h) hl⟩
 simp at e
 exact congrArg Value.agg (Array.toList_inj.1 e)
theorem off_val {G:Hp} {v:Value} (h:∃ x,VR cdOff true G v x):∃ s,OffU G v s:=by
 obtain ⟨x,cs,rfl,_,_,e,⟨a,n,c,rfl,hl,_⟩,_,_,rfl,⟨rfl,_⟩,_,_,rfl,⟨rfl,_⟩,rfl⟩:=h
 refine ⟨⟨x.1.map fun r=>⟨r.1.1,r.1.2.1,r.2.1⟩,x.2.1,x.2.2.1⟩, .slice a n c, ?_,a,n,c,rfl,SlR.map _ (fun _ _ h=>rep_cd h) hl⟩
 simp at e
 exact congrArg Value.agg (Array.toList_inj.1 e)
theorem ownK:ownKnob Tryz.checked.prog.godebug = none:=by kernel_rfl
theorem laidK:laidOutB Tryz.checked.prog = true:=by kernel_rfl
theorem boolK:Tryz.checked.prog.underlying 4 = some .bool:=by kernel_rfl
abbrev sit0:Value:=.agg #[.int .i64 0, .slice none 0 0, .int .i64 0, .int .i64 0]
abbrev off0:Value:=.agg #[.slice none 0 0, .int .i64 0, .int .i64 0]
end Go.Proofs.YtefnikpoimaiiaaGreat.L

namespace Go.Proofs.YtefnikpoimaiiaaGreat.L
open Go.Pal

set_option maxRecDepth 100000

section
variable (x:Wk) (b1 b2 wb:Nat)
def memF (x:Wk) (r:Int):Bool:=inF r 0 ((x.o.crew.length:Int) - 1)
end
def listedF (x:Wk) (l:List Int):Bool:=decide (l.length = x.t.length) && l.all (memF x)
def rightF (x:Wk) (l:List Int):Bool:=(List.range l.length).all fun k=>mayF x (beginF (l.take k)) (l.getD k 0).toNat
end Go.Proofs.YtefnikpoimaiiaaGreat.L

namespace Go.Proofs.YtefnikpoimaiiaaGreat.L
open Go.Pal

set_option maxRecDepth 100000

abbrev args4 {α β γ δ:Type} (A:Rd α) (B:Rd β) (C:Rd γ) (D:Rd δ) (q:α→β→γ→δ→Prop):GRel (α × β × γ × δ):=fun args G x=>∃ u v w z,args = [u,v,w,z]∧A.R G u x.1∧B.R G v x.2.1∧C.R G w x.2.2.1∧D.R G z x.2.2.2∧q x.1 x.2.1 x.2.2.1 x.2.2.2
end Go.Proofs.YtefnikpoimaiiaaGreat.L

namespace Go.Proofs.YtefnikpoimaiiaaGreat.L
open Go.Pal

set_option maxRecDepth 100000

def repN (o:Off) (i:Int):Rep:=o.crew.getD i.toNat ⟨0,0,0⟩
def realF (o:Off) (r:Int) (p:Slow):Bool:=inF p.slow (repN o r).lo (repN o r).hi && inF p.delay 0 o.delay
def realsF (o:Off) (l:List Int) (r:List Slow):Bool:=(List.range r.length).all fun i=>realF o (l.getD i 0) (r.getD i ⟨0,0⟩)
def doneE (s:Sit) (o:Off) (l:List Int) (r:List Slow):Int:=if errW s o = 0 then (if listedF (wkF s o) l = true then (if r.length = l.length then (if realsF o l r = true then 0 else 1) else 1) else 2) else errW s o
def donesF (t:List Span) (r:List Slow) (k:Nat):List Int:=(List.range k).map fun i=>doneF (t.getD i ⟨0,0⟩) (r.getD i ⟨0,0⟩)
def DoneR (G:Hp) (v:Value) (s:Sit) (o:Off) (l:List Int) (r:List Slow):Prop:=∃ w,v = .tuple #[w,I (doneE s o l r)]∧(if doneE s o l r = 0 then SlV intE G w (donesF (takesF s) r r.length) else w = .slice none 0 0)
theorem DoneR.grow {G G':Hp} {v:Value} {s:Sit} {o:Off} {l r} (hg:Grow G G') (h:DoneR G v s o l r):DoneR G' v s o l r:=by
 obtain ⟨w,h1,h2⟩:=h
 refine ⟨w,h1, ?_⟩
 split at h2
 ·rename_i he;rw [if_pos he];exact SlV.grow hg h2
 ·rename_i he;rw [if_neg he];exact h2
theorem DoneR.bad {G:Hp} {s:Sit} {o:Off} {l:List Int} {r:List Slow} {e:Int} (h:doneE s o l r = e) (hne:e≠0):DoneR G (.tuple #[.slice none 0 0,I e]) s o l r:=⟨_,by rw [h],by rw [if_neg (by rw [h];exact hne)]⟩
end Go.Proofs.YtefnikpoimaiiaaGreat.L

namespace Go.Proofs.YtefnikpoimaiiaaGreat.L
open Go.Pal

set_option maxRecDepth 100000

def beforeF (m:Int) (t:List Span):Nat:=(t.takeWhile fun p=>decide (p.fr < m)).length
def openB (x:Wk) (l:List Int) (k m:Int) (i:Nat):Bool:=decide (l.getD i 0 = k) && decide (m < doneW x i k.toNat)
def openF (x:Wk) (l:List Int) (k m:Int) (n:Nat):List Int:=((List.range n).filter (openB x l k m)).map fun i:Nat=>(i:Int)
def relA (x:Wk) (l:List Int) (k m:Int):List Int:=restF x (l.take (beforeF m x.t)) k
def relE (s:Sit) (o:Off) (l:List Int) (k m:Int):Int:=if errW s o = 0 then (if listedF (wkF s o) l = true then (if rightF (wkF s o) l = true then (if inF k 0 ((o.crew.length:Int) - 1) = true∧inF m 0 s.len = true then (if (relA (wkF s o) l k m).length < (takesF s).length then 7 else 0) else 2) else 9) else 2) else errW s o
def RelR (G:Hp) (v:Value) (s:Sit) (o:Off) (l:List Int) (k m:Int):Prop:=∃ w1 w2,v = .tuple #[w1,w2,I (relE s o l k m)]∧(if relE s o l k m = 0 then SlV intE G w1 (relA (wkF s o) l k m)∧SlV intE G w2 (openF (wkF s o) l k m (beforeF m (takesF s))) else w1 = .slice none 0 0∧w2 = .slice none 0 0)
theorem RelR.grow {G G':Hp} {v:Value} {s:Sit} {o:Off} {l k m} (hg:Grow G G') (h:RelR G v s o l k m):RelR G' v s o l k m:=by
 obtain ⟨w1,w2,h1,h2⟩:=h
 refine ⟨w1,w2,h1, ?_⟩
 split at h2
 ·rename_i he;rw [if_pos he];exact ⟨SlV.grow hg h2.1,SlV.grow hg h2.2⟩
 ·rename_i he;rw [if_neg he];exact h2
theorem RelR.bad {G:Hp} {s:Sit} {o:Off} {l:List Int} {k m e:Int} (h:relE s o l k m = e) (hne:e≠0):RelR G (.tuple #[.slice none 0 0, .slice none 0 0,I e]) s o l k m:=⟨_,_,by rw [h],by rw [if_neg (by rw [h];exact hne)];exact ⟨rfl,rfl⟩⟩
end Go.Proofs.YtefnikpoimaiiaaGreat.L

namespace Go.Proofs.YtefnikpoimaiiaaGreat.L
open Go.Pal

section
variable {x:Wk} {skip:Int}
def Run (x:Wk) (skip:Int):Stt→List Int→Prop
 | _,[]=>True
 | s,j :: r=>∃ i:Nat,j = i∧i < x.o.crew.length∧canF x skip s i = true∧Run x skip (giveF s i) r
theorem goF_some {α:Type} {s:Stt} {rec:Stt→Option (List α)} {f:Nat→α}:∀ {l:List Nat} {e:List α},goF x skip s rec f l = some e→∃ i∈l, ∃ e',canF x skip s i = true∧rec (giveF s i) = some e'∧e = f i :: e'
 | [],e,h=>by cases h
 | i :: r,e,h=>by
  unfold goF at h
  split at h
  ·rename_i hc
   split at h
   ·rename_i e' he
    cases h
    exact ⟨i,by simp,e',hc,he,rfl⟩
   ·obtain ⟨j,h1,h2⟩:=goF_some h
    exact ⟨j,by simp [h1],h2⟩
  ·obtain ⟨j,h1,h2⟩:=goF_some h
   exact ⟨j,by simp [h1],h2⟩
theorem goF_none {α:Type} {s:Stt} {rec:Stt→Option (List α)} {f:Nat→α}:∀ {l:List Nat},goF x skip s rec f l = none→∀ i∈l,canF x skip s i = true→rec (giveF s i) = none
 | [],_,i,hi,_=>by cases hi
 | j :: r,h,i,hi,hc=>by
  unfold goF at h
  rcases List.mem_cons.1 hi with rfl | hi
  ·rw [hc] at h
   cases hr:rec (giveF s i) with
   | none=>rfl
   | some e=>rw [hr] at h;simp at h
  ·split at h
   ·split at h
    ·cases h
    ·exact goF_none h i hi hc
   ·exact goF_none h i hi hc
theorem least_run:∀ {f:Nat} {s:Stt} {e:List Int},leastF x skip f s = some e→e.length = f∧Run x skip s e
 | 0,s,e,h=>by cases h;exact ⟨rfl,trivial⟩
 | f + 1,s,e,h=>by
  obtain ⟨i,hi,e',h1,h2,rfl⟩:=goF_some (show goF x skip s (leastF x skip f) (fun i=>(i:Int)) (crewL x) = some e from h)
  obtain ⟨q1,q2⟩:=least_run h2
  exact ⟨by simp [q1],i,rfl,List.mem_range.1 hi,h1,q2⟩
theorem least_none:∀ {f:Nat} {s:Stt},leastF x skip f s = none→∀ e,e.length = f→¬ Run x skip s e
 | 0,s,h,_,_,_=>by cases h
 | f + 1,s,h,[],he,_=>by cases he
 | f + 1,s,h,j :: r,he,hr=>by
  obtain ⟨i,rfl,hi,hc,hr⟩:=hr
  have:=goF_none (show goF x skip s (leastF x skip f) (fun i=>(i:Int)) (crewL x) = none from h) i (List.mem_range.2 hi) hc
  exact least_none this r (by simpa using he) hr
theorem least_ex {f:Nat} {s:Stt} {e:List Int} (h:e.length = f) (hr:Run x skip s e):∃ e',leastF x skip f s = some e':=by
 cases hl:leastF x skip f s with
 | some e'=>exact ⟨e',rfl⟩
 | none=>exact absurd hr (least_none hl e h)
theorem reach_run:∀ {f:Nat} {s:Stt} {e:List Int},e.length≤f→Run x skip s e→s.n + e.length≤reachF x skip f s
 | f,s,[],_,_=>reach_ge
 | 0,s,j :: r,h,_=>by simp at h
 | f + 1,s,j :: r,h,hr=>by
  obtain ⟨i,rfl,hi,hc,hr⟩:=hr
  have ih:=reach_run (f:=f) (e:=r) (by simpa using h) hr
  have key:∀ l:List Nat,i∈l→reachF x skip f (giveF s i)≤farF x skip s (reachF x skip f) l:=by
   intro l
   induction l with
   | nil=>intro h;cases h
   | cons j t ih2 =>
    intro hm
    unfold farF
    rcases List.mem_cons.1 hm with rfl | hm
    ·rw [hc];dsimp only;omega
    ·have:=ih2 hm
     split<;>omega
  have h2:=key _ (List.mem_range.2 hi)
  have e:reachF x skip (f + 1) s = farF x skip s (reachF x skip f) (crewL x):=rfl
  simp only [giveF,List.length_cons] at *
  rw [e];simp only [crewL];omega
theorem reach_got:∀ {f:Nat} {s:Stt}, ∃ e,e.length≤f∧Run x skip s e∧s.n + e.length = reachF x skip f s
 | 0,s=>⟨[],Nat.le_refl _,trivial,rfl⟩
 | f + 1,s=>by
  have key:∀ l:List Nat,(∀ i∈l,i < x.o.crew.length)→∃ e,e.length≤f + 1∧Run x skip s e∧s.n + e.length = farF x skip s (reachF x skip f) l:=by
   intro l
   induction l with
   | nil=>intro _;exact ⟨[],Nat.zero_le _,trivial,rfl⟩
   | cons i t ih =>
    intro hl
    obtain ⟨e1,h1,h2,h3⟩:=ih (fun i hi=>hl i (by simp [hi]))
    unfold farF
    split
    ·rename_i hc
     obtain ⟨e2,k1,k2,k3⟩:=reach_got (f:=f) (s:=giveF s i)
     by_cases hm:reachF x skip f (giveF s i)≤farF x skip s (reachF x skip f) t
     ·exact ⟨e1,h1,h2,by rw [h3];omega⟩
     ·refine ⟨(i:Int) :: e2,by simp;omega,⟨i,rfl,hl i (by simp),hc,k2⟩, ?_⟩
      simp only [giveF,List.length_cons] at *
      omega
    ·exact ⟨e1,h1,h2,h3⟩
  exact key _ (fun i hi=>List.mem_range.1 hi)
theorem run_mem:∀ {e:List Int} {s:Stt},Run x skip s e→∀ j∈e,0≤j∧j < x.o.crew.length∧j≠skip
 | [],_,_,j,hj=>by cases hj
 | k :: r,s,⟨i,hk,hi,hc,hr⟩,j,hj=>by
  rcases List.mem_cons.1 hj with rfl | hj
  ·subst hk
   refine ⟨by omega,by omega, ?_⟩
   simp only [canF,Bool.and_eq_true,Bool.not_eq_true',decide_eq_false_iff_not] at hc
   exact hc.1
  ·exact run_mem hr j hj
theorem run_iff:∀ {e:List Int} {s:Stt},Run x (-1) s e↔(∀ j∈e,0≤j∧j < x.o.crew.length)∧∀ k,k < e.length→mayF x ((e.take k).foldl (fun s i=>giveF s i.toNat) s) (e.getD k 0).toNat = true
 | [],s=>by simp [Run]
 | j :: r,s=>by
  constructor
  ·intro h
   refine ⟨fun k hk=>let h3:=run_mem h k hk;⟨h3.1,h3.2.1⟩,fun k hk=>?_⟩
   obtain ⟨i,rfl,hi,hc,hr⟩:=h
   cases k with
   | zero =>
    simp only [canF,Bool.and_eq_true] at hc
    simpa using hc.2
   | succ k=>simpa using (run_iff.1 hr).2 k (by simpa using hk)
  ·rintro ⟨h1,h2⟩
   have hj:=h1 j (by simp)
   have h0:=h2 0 (by simp)
   simp only [List.take_zero,List.foldl_nil,List.getD_cons_zero] at h0
   refine ⟨j.toNat,by omega,by omega, ?_,run_iff.2 ⟨fun k hk=>h1 k (by simp [hk]),fun k hk=>by simpa using h2 (k + 1) (by simpa using hk)⟩⟩
   simp only [canF,Bool.and_eq_true,Bool.not_eq_true',decide_eq_false_iff_not]
   exact ⟨by omega,h0⟩
theorem right_run {l:List Int}:(listedF x l = true∧rightF x l = true)↔l.length = x.t.length∧Run x (-1) startF l:=by
 rw [run_iff]
 simp only [listedF,rightF,Bool.and_eq_true,decide_eq_true_eq,List.all_eq_true,memF,inF,List.mem_range,beginF]
 constructor
 ·rintro ⟨⟨h1,h2⟩,h3⟩
  exact ⟨h1,fun j hj=>by have:=h2 j hj;omega,h3⟩
 ·rintro ⟨h1,h2,h3⟩
  exact ⟨⟨h1,fun j hj=>by have:=h2 j hj;omega⟩,h3⟩
end
theorem far_le {x:Wk} {l:List Int} {skip:Int} (h:l.length≤x.t.length):farthestF x l skip≤x.t.length:=by
 have:=reach_le (x:=x) (skip:=skip) (f:=x.t.length - l.length) (s:=beginF l)
 rw [begin_len] at this
 simp only [farthestF];omega
theorem far_iff {x:Wk}:farthestF x [] (-1) = x.t.length↔∃ l,listedF x l = true∧rightF x l = true:=by
 constructor
 ·intro h
  obtain ⟨e,h1,h2,h3⟩:=reach_got (x:=x) (skip:=-1) (f:=x.t.length) (s:=startF)
  refine ⟨e,right_run.2 ⟨?_,h2⟩⟩
  have h3:0 + e.length = farthestF x [] (-1):=h3
  omega
 ·rintro ⟨l,h⟩
  obtain ⟨h1,h2⟩:=right_run.1 h
  have:=reach_run (f:=x.t.length) (by omega) h2
  have h4:startF.n + l.length≤farthestF x [] (-1):=this
  have h5:startF.n = 0:=rfl
  have:=far_le (x:=x) (l:=[]) (skip:=-1) (Nat.zero_le _)
  omega
theorem rest_right {x:Wk} (h:¬ farthestF x [] (-1) < x.t.length):listedF x (restF x [] (-1)) = true∧rightF x (restF x [] (-1)) = true:=by
 have hle:=far_le (x:=x) (l:=[]) (skip:=-1) (Nat.zero_le _)
 obtain ⟨l,hl⟩:=far_iff.1 (by omega:farthestF x [] (-1) = x.t.length)
 obtain ⟨h1,h2⟩:=right_run.1 hl
 obtain ⟨e,he⟩:=least_ex (f:=x.t.length) h1 h2
 have e1:restF x [] (-1) = e:=by
  show []++(leastF x (-1) (x.t.length - 0) startF).getD [] = e
  rw [Nat.sub_zero,he];rfl
 rw [e1]
 obtain ⟨k1,k2⟩:=least_run he
 exact right_run.2 ⟨k1,k2⟩
end Go.Proofs.YtefnikpoimaiiaaGreat.L
