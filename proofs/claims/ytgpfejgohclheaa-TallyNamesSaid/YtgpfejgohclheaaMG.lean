/- Layer 7: a division that is looked at: its cells. Layer 7: the program's doubtful members. Layer 7: the program's first member who clashes. Layer 7: all, ContainsFunc, IndexFunc at four types, for any test. (printed by a program of mine) Layer 7: tests by contracts; listed. Layer 7: pairs and proxies are right. Layer 7: pairs and proxies are right: the walk. Layer 7: the rules of divisions. -/
import Derived.Test.YtgpfejgohclheaaMF
import Derived.Test.YtgpfejgohclheaaME
import Derived.Test.YtgpfejgohclheaaMC
set_option linter.unusedSimpArgs false
set_option linter.unusedVariables false
namespace Go.Proofs.Ytgpfejgohclheaa
open Go.Pal
set_option maxRecDepth 100000

structure Lk where
 d:Dv
 pd:List Bool
 may:List (List Int)
abbrev pdl (p:Nat→Bool):List Value:=(List.range 40).map fun i=>.bool (p i)
abbrev myl (a:Nat→Option Addr) (n c:Nat→Nat):List Value:=(List.range 40).map fun i=>.slice (a i) (n i) (c i)
structure LkC (G:Hp) (w0 w1 w2 w3 w4 w5:Value) (p:Nat→Bool) (a:Nat→Option Addr) (n c:Nat→Nat) (x:Lk):Prop where
 dv:DvC G w0 w1 w2 w3 w4 w5 x.d
 lp:x.pd.length = 40
 pd:∀ i,i < 40→x.pd[i]? = some (p i)
 lm:x.may.length = 40
 may:∀ i,i < 40→∃ l,x.may[i]? = some l∧SlR u8E.k u8E.R G (a i) (n i) (c i) l∧n i≤140737488355328
theorem LkC.grow {G G':Hp} {w0 w1 w2 w3 w4 w5:Value} {p:Nat→Bool} {a:Nat→Option Addr} {n c:Nat→Nat} {x:Lk} (hg:Grow G G') (h:LkC G w0 w1 w2 w3 w4 w5 p a n c x):LkC G' w0 w1 w2 w3 w4 w5 p a n c x :=
 ⟨h.dv.grow hg,h.lp,h.pd,h.lm,fun i hi=>let ⟨l,h1,h2,h3⟩:=h.may i hi;⟨l,h1,SlR.grow (G:=G) (G':=G') (fun _ _ h=>h) h2 hg,h3⟩⟩
abbrev lkl (d:Dv) (w0 w1 w2 w3 w4 w5:Value) (p:Nat→Bool) (a:Nat→Option Addr) (n c:Nat→Nat):List Value:=dvl d w0 w1 w2 w3 w4 w5++pdl p++myl a n c
def LkV (G:Hp) (v:Value) (x:Lk):Prop:=∃ w0 w1 w2 w3 w4 w5 p a n c,v = .agg (lkl x.d w0 w1 w2 w3 w4 w5 p a n c).toArray∧LkC G w0 w1 w2 w3 w4 w5 p a n c x
theorem LkV.grow {G G':Hp} {v:Value} {x:Lk} (hg:Grow G G'):LkV G v x→LkV G' v x:=fun ⟨w0,w1,w2,w3,w4,w5,p,a,n,c,h1,h2⟩=>⟨w0,w1,w2,w3,w4,w5,p,a,n,c,h1,h2.grow hg⟩
theorem myl_get {a:Nat→Option Addr} {n c:Nat→Nat} {i:Nat} (h:i < 40):(myl a n c)[i]? = some (.slice (a i) (n i) (c i)):=by
 simp [myl,h]
theorem pdl_get {p:Nat→Bool} {i:Nat} (h:i < 40):(pdl p)[i]? = some (.bool (p i)):=by
 simp [pdl,h]
theorem one_at {l:List S1} {off:Nat} {x:S1} (h:l[off]? = some x):(l.drop off).take 1 = [x]:=by
 obtain ⟨hlt,e⟩:=List.getElem?_eq_some_iff.1 h
 rw [List.drop_eq_getElem_cons hlt,e];rfl
theorem LkV.uniq {G:Hp} {v:Value} {x y:Lk} (h:LkV G v x) (h':LkV G v y):x = y:=by
 obtain ⟨w0,w1,w2,w3,w4,w5,p,a,n,c,h1,h2⟩:=h
 obtain ⟨u0,u1,u2,u3,u4,u5,p',a',n',c',h1',h2'⟩:=h'
 rw [h1] at h1'
 have h1':dvl x.d w0 w1 w2 w3 w4 w5++pdl p++myl a n c = dvl y.d u0 u1 u2 u3 u4 u5++pdl p'++myl a' n' c':=by
  have:=congrArg Array.toList (Value.agg.inj h1')
  exact this
 obtain ⟨e1,e2⟩:=List.append_inj h1' rfl
 obtain ⟨e3,e4⟩:=List.append_inj e1 rfl
 have hd:x.d = y.d:=by
  have g1:DvV G (.agg #[I x.d.m,w0,w1,w2,w3,w4,w5,U x.d.rule,I x.d.need,I x.d.quorum,U x.d.tie]) x.d:=⟨_,_,_,_,_,_,rfl,h2.dv⟩
  have g2:DvV G (.agg #[I x.d.m,w0,w1,w2,w3,w4,w5,U x.d.rule,I x.d.need,I x.d.quorum,U x.d.tie]) y.d:=⟨u0,u1,u2,u3,u4,u5,by
   have:(dvl x.d w0 w1 w2 w3 w4 w5).toArray = (dvl y.d u0 u1 u2 u3 u4 u5).toArray:=by rw [e3]
   exact congrArg Value.agg this,h2'.dv⟩
  exact dvRd.uniq g1 g2
 have hp:x.pd = y.pd:=by
  apply List.ext_getElem?
  intro i
  by_cases hi:i < 40
  ·rw [h2.pd i hi,h2'.pd i hi]
   have:=congrArg (·[i]?) e4
   simp only [pdl_get hi,Option.some.injEq,Value.bool.injEq] at this
   rw [this]
  ·rw [List.getElem?_eq_none (by have:=h2.lp;omega),List.getElem?_eq_none (by have:=h2'.lp;omega)]
 have hm:x.may = y.may:=by
  apply List.ext_getElem?
  intro i
  by_cases hi:i < 40
  ·obtain ⟨l,q1,q2,q3⟩:=h2.may i hi
   obtain ⟨l',q1',q2',q3'⟩:=h2'.may i hi
   have:=congrArg (·[i]?) e2
   simp only [myl_get hi,Option.some.injEq,Value.slice.injEq] at this
   obtain ⟨t1,t2,t3⟩:=this
   rw [q1,q1']
   have s1:SlV u8E G (.slice (a i) (n i) (c i)) l:=⟨_,_,_,rfl,q2,q3⟩
   have s2:SlV u8E G (.slice (a i) (n i) (c i)) l':=⟨_,_,_,by rw [t1,t2,t3],q2',q3'⟩
   rw [s1.uniq s2]
  ·rw [List.getElem?_eq_none (by have:=h2.lm;omega),List.getElem?_eq_none (by have:=h2'.lm;omega)]
 cases x;cases y;simp_all
def lkRd:Rd Lk:=⟨LkV,fun h h'=>h.uniq h',fun hg h=>h.grow hg⟩
end Go.Proofs.Ytgpfejgohclheaa

namespace Go.Proofs.Ytgpfejgohclheaa
open Go.Pal
set_option maxRecDepth 100000
def dbp (x:Lk) (k:Nat):Bool:=decide (1 < (x.may.getD k []).length)
def dbK (x:Lk) (i:Nat):List Int:=((List.range i).filter (dbp x)).map Int.ofNat
theorem dbK_len (x:Lk) (i:Nat):(dbK x i).length≤i:=by
 simp only [dbK,List.length_map]
 exact Nat.le_trans (List.length_filter_le _ _) (by simp)
theorem dbK_succ (x:Lk) (i:Nat):dbK x (i + 1) = if dbp x i then dbK x i++[(i:Int)] else dbK x i:=by
 simp only [dbK,List.range_succ,List.filter_append,List.map_append]
 cases h:dbp x i<;>simp [List.filter,h]
theorem dbt38:Sound Try.prog 38 id (grel (args1 lkRd fun x=>0≤x.d.m∧x.d.m≤40) fun x v G=>SlV intE G v (dbK x x.d.m.toNat)):=by
 refine comp38.grel (Tab.nil _) (ok1 _ _) (fun args G s h=>?_) (fun x v G G' hg h=>h.grow hg) (fun args G x h=>?_)
 ·obtain ⟨v,rfl,_⟩:=h;simp
 ·obtain ⟨u,rfl,⟨w0,w1,w2,w3,w4,w5,p,a,n,c,rfl,hk⟩,hm0,hm⟩:=h
  have hd:=hk.dv
  obtain ⟨x0,y0,z0,rfl,la0,ya0⟩:=id hd.a0
  obtain ⟨x1,y1,z1,rfl,la1,ya1⟩:=id hd.a1
  obtain ⟨x2,y2,z2,rfl,ln0,yn0⟩:=id hd.n0
  obtain ⟨x3,y3,z3,rfl,ln1,yn1⟩:=id hd.n1
  obtain ⟨x4,y4,z4,rfl,lps,yps⟩:=id hd.ps
  obtain ⟨x5,y5,z5,rfl,lqs,yqs⟩:=id hd.qs
  (conv=>whnf)
  refine LoopP.of { α:=Nat × Nat × List Value,fr:=fun y=>[(1, .c (.ptr 0 0)),(2, .c (.row 1 y.2.1)),(6, .v (I x.d.m)),(7, .v (I y.1))],H:=fun y=>[(0, .cells .anon ((lkl x.d (.slice x0 y0 z0) (.slice x1 y1 z1) (.slice x2 y2 z2) (.slice x3 y3 z3) (.slice x4 y4 z4) (.slice x5 y5 z5) p a n c).map .val) 78),(1, .row none y.2.1 y.2.2 3 1)],ok:=fun y _=>y.1≤x.d.m.toNat∧Row intE (dbK x y.1) y.2.1 y.2.2,m:=fun y=>x.d.m.toNat - y.1 }
   (0,0,[]) (HeadP.of [(1,none)] ⟨rfl,rfl,rfl,rfl,trivial⟩ ⟨rfl,rfl,trivial⟩) ⟨Nat.zero_le _,Row.nil⟩ (fun _=>⟨rfl,rfl⟩) (fun y G' hG hy=>W.mk ?_)
  obtain ⟨i,m,vs⟩:=y
  obtain ⟨hi,hr⟩:=hy
  dsimp only at hi hr
  have hnl:=hr.n
  have hdl:=dbK_len x i
  dsimp only
  (conv=>whnf)
  refine IteP.mk (fun hlt=>W.mk ?_) (fun hge=>W.mk ?_)<;>(conv=>whnf)
  ·have hlt:i < x.d.m.toNat:=by omega
   have hi40:i < 40:=by omega
   obtain ⟨l,k1,k2,k3⟩:=hk.may i hi40
   have hll:=k2.len
   have hg:x.may.getD i [] = l:=by simp [k1]
   repeat' (refine ob ?_ ?_;(first | trivial | omega | (simp only [inR];omega) | exact ble (by rfl) | exact SlR.some ‹_› (by omega));(conv=>whnf))
   have hcell:((lkl x.d (.slice x0 y0 z0) (.slice x1 y1 z1) (.slice x2 y2 z2) (.slice x3 y3 z3) (.slice x4 y4 z4) (.slice x5 y5 z5) p a n c).map S1.val)[51 + i]? = some (.val (.slice (a i) (n i) (c i))):=by
    rw [List.getElem?_map,List.getElem?_append_right (by show 51≤51 + i;omega)]
    rw [show 51 + i - (dvl x.d (.slice x0 y0 z0) (.slice x1 y1 z1) (.slice x2 y2 z2) (.slice x3 y3 z3) (.slice x4 y4 z4) (.slice x5 y5 z5)++pdl p).length = i by show 51 + i - 51 = i;omega,myl_get hi40];rfl
   refine EqsP.mk ⟨[.val (.slice (a i) (n i) (c i))], ?_,rfl,W.mk ?_⟩
   ·refine one_at (Eq.trans ?_ hcell)
    congr 1
    simp
   (conv=>whnf)
   refine IteP.mk (fun h1=>W.mk ?_) (fun h1=>W.mk ?_)<;>(conv=>whnf)
   ·repeat' (refine ob ?_ ?_;(first | trivial | omega | (simp only [inR];omega) | exact ble (by rfl) | exact SlR.some ‹_› (by omega));(conv=>whnf))
    have hr2:=hr.snoc (i:Int) (us:=[I i])
    refine RoundP.of (i + 1,m + 1,vs++[I i]) (HeadP.of [(1,some 18)] ⟨rfl,rfl,rfl,rfl,trivial⟩ ⟨rfl,rfl,trivial⟩) ⟨hlt, ?_⟩ (by simp only;omega)
    rw [dbK_succ,if_pos (by simp only [dbp,hg,decide_eq_true_eq];omega)]
    exact hr2
   ·repeat' (refine ob ?_ ?_;(first | trivial | omega | (simp only [inR];omega) | exact ble (by rfl) | exact SlR.some ‹_› (by omega));(conv=>whnf))
    refine RoundP.of (i + 1,m,vs) (HeadP.of [] ⟨rfl,rfl,rfl,rfl,trivial⟩ ⟨rfl,rfl,trivial⟩) ⟨hlt, ?_⟩ (by simp only;omega)
    rw [dbK_succ,if_neg (by simp only [dbp,hg,decide_eq_true_eq];omega)]
    exact hr
  ·have:i = x.d.m.toNat:=by omega
   subst this
   refine PubP.mk (fun a1 c1 G1 hg1 hp=>W.mk ?_)
   (conv=>whnf)
   exact FinP.mk (hr.pub hp (by omega))
end Go.Proofs.Ytgpfejgohclheaa

namespace Go.Proofs.Ytgpfejgohclheaa
open Go.Pal
set_option maxRecDepth 100000
def emp (x:Lk) (k:Nat):Bool:=decide ((x.may.getD k []).length = 0)
def clkF (x:Lk):Value:=match (List.range x.d.m.toNat).find? (emp x) with
 | some m=>.tuple #[I m, .bool true]
 | none=>.tuple #[I 0, .bool false]
theorem clash57:Sound Try.prog 57 id (gsca (args1 lkRd fun x=>0≤x.d.m∧x.d.m≤40) fun x v=>v = clkF x):=by
 refine comp57.gsca (Tab.nil _) (fun args G s h=>?_) (fun args G x h=>?_)
 ·obtain ⟨v,rfl,_⟩:=h;simp
 ·obtain ⟨u,rfl,⟨w0,w1,w2,w3,w4,w5,p,a,n,c,rfl,hk⟩,hm0,hm⟩:=h
  have hd:=hk.dv
  obtain ⟨x0,y0,z0,rfl,la0,ya0⟩:=id hd.a0
  obtain ⟨x1,y1,z1,rfl,la1,ya1⟩:=id hd.a1
  obtain ⟨x2,y2,z2,rfl,ln0,yn0⟩:=id hd.n0
  obtain ⟨x3,y3,z3,rfl,ln1,yn1⟩:=id hd.n1
  obtain ⟨x4,y4,z4,rfl,lps,yps⟩:=id hd.ps
  obtain ⟨x5,y5,z5,rfl,lqs,yqs⟩:=id hd.qs
  (conv=>whnf)
  refine LoopP.of { α:=Nat,fr:=fun y=>[(1, .c (.ptr 0 0)),(2, .v (I 0)),(3,ff),(7, .v (I x.d.m)),(8, .v (I y))],H:=fun y=>[(0, .cells .anon ((lkl x.d (.slice x0 y0 z0) (.slice x1 y1 z1) (.slice x2 y2 z2) (.slice x3 y3 z3) (.slice x4 y4 z4) (.slice x5 y5 z5) p a n c).map .val) 78)],ok:=fun y _=>y≤x.d.m.toNat∧∀ k,k < y→emp x k = false,m:=fun y=>x.d.m.toNat - y }
   0 (HeadP.of [] ⟨rfl,rfl,rfl,rfl,rfl,trivial⟩ ⟨rfl,trivial⟩) ⟨Nat.zero_le _,fun k hk=>by omega⟩ (fun _=>⟨rfl,rfl⟩) (fun (i:Nat) G' hG hy=>W.mk ?_)
  obtain ⟨hi,hx⟩:=hy
  dsimp only
  (conv=>whnf)
  refine IteP.mk (fun hlt=>W.mk ?_) (fun hge=>W.mk ?_)<;>(conv=>whnf)
  ·have hlt:i < x.d.m.toNat:=by omega
   have hi40:i < 40:=by omega
   obtain ⟨l,k1,k2,k3⟩:=hk.may i hi40
   have hll:=k2.len
   have hg:x.may.getD i [] = l:=by simp [k1]
   repeat' (refine ob ?_ ?_;(first | trivial | omega | (simp only [inR];omega) | exact ble (by rfl) | exact SlR.some ‹_› (by omega));(conv=>whnf))
   have hcell:((lkl x.d (.slice x0 y0 z0) (.slice x1 y1 z1) (.slice x2 y2 z2) (.slice x3 y3 z3) (.slice x4 y4 z4) (.slice x5 y5 z5) p a n c).map S1.val)[51 + i]? = some (.val (.slice (a i) (n i) (c i))):=by
    rw [List.getElem?_map,List.getElem?_append_right (by show 51≤51 + i;omega)]
    rw [show 51 + i - (dvl x.d (.slice x0 y0 z0) (.slice x1 y1 z1) (.slice x2 y2 z2) (.slice x3 y3 z3) (.slice x4 y4 z4) (.slice x5 y5 z5)++pdl p).length = i by show 51 + i - 51 = i;omega,myl_get hi40];rfl
   refine EqsP.mk ⟨[.val (.slice (a i) (n i) (c i))], ?_,rfl,W.mk ?_⟩
   ·refine one_at (Eq.trans ?_ hcell)
    congr 1
    simp
   (conv=>whnf)
   refine IteP.mk (fun h1=>W.mk ?_) (fun h1=>W.mk ?_)<;>(conv=>whnf)
   ·refine FinP.mk ?_
    show Value.tuple #[I (i:Int), .bool true] = clkF x
    rw [clkF,find_some hlt (by simp only [emp,hg,decide_eq_true_eq];omega) hx]
   ·repeat' (refine ob ?_ ?_;(first | trivial | omega | (simp only [inR];omega) | exact ble (by rfl) | exact SlR.some ‹_› (by omega));(conv=>whnf))
    refine RoundP.of (i + 1) (HeadP.of [] ⟨rfl,rfl,rfl,rfl,rfl,trivial⟩ ⟨rfl,trivial⟩) ⟨hlt,fun k hk=>?_⟩ (by simp only;omega)
    rcases Nat.lt_succ_iff_lt_or_eq.1 hk with h | rfl
    ·exact hx k h
    ·simp only [emp,hg,decide_eq_false_iff_not];omega
  ·refine FinP.mk ?_
   show Value.tuple #[I 0, .bool false] = clkF x
   rw [clkF,find_none fun k hk=>hx k (by omega)]
end Go.Proofs.Ytgpfejgohclheaa

namespace Go.Proofs.Ytgpfejgohclheaa
open Go.Pal
set_option maxRecDepth 100000
abbrev bptr (b:Nat):Value:=.pointer (some ⟨b,0,none⟩)
def TestS {α:Type} (val:α→Value) (p:α→Bool) (q:α→Prop) (J:Hp→Prop) (ls:List LE):PSpec :=
 .st (fun args l G=>l = ls∧J G∧∃ x,args = [val x]∧q x) (fun args l v ns _=>ns = []∧∃ x,args = [val x]∧v = .bool (p x))
def AllS {α:Type} (e:El α) (right:Value) (r:List α→Value) (q:α→Prop) (J:Hp→Prop) (ls:List LE):PSpec :=
 .st (fun args l G=>l = ls∧J G∧∃ w xs,args = [w,right]∧SlV e G w xs∧∀ x∈xs,q x) (fun args l v ns G=>ns = []∧∃ w xs,args = [w,right]∧SlV e G w xs∧v = r xs)
def idxP {α:Type} (p:α→Bool) (l:List α) (k:Nat):Int:=match l with
 | []=>-1
 | r :: t=>if p r then idxP p t (k + 1) else (k:Int)
theorem idxP_all {α:Type} (p:α→Bool):∀ (l:List α) (k:Nat),decide (0≤idxP p l k) = !(l.all p)
 | [],k=>rfl
 | r :: t,k=>by
  unfold idxP
  cases hf:p r with
  | true=>simp only [if_true,List.all_cons,hf,Bool.true_and];exact idxP_all p t _
  | false=>simp [hf]
def hdrE:El (Option Addr × Nat × Nat):=⟨1,fun p=>[.slice p.1 p.2.1 p.2.2],fun {x y} h=>by obtain ⟨_,_,_⟩:=x;obtain ⟨_,_,_⟩:=y;simp at h;simp [h],fun _=>rfl,fun _ v hv=>by simp at hv;rw [hv];rfl⟩
theorem at0 {P:Program} {f:FuncId} {ic:IC} {rs:List IRes} {nt:Nat} (h:Comp P f ic rs nt):CompAt P f 0 ic rs nt:=⟨h.ex⟩

/-! ### 60 -/
theorem inj60:∀ x y:Int,(U) x = (U) y→x = y:=fun x y h=>by cases h;rfl
theorem not82 (g:FuncId) (fi ca:Array Value) (p:Int→Bool) (q:Int→Prop) (J:Hp→Prop) (b:Nat) (hr:SoundFn Try.prog (.func (.func g) fi ca) (TestS U p q J [])):Sound Try.prog 82 (fun a=>(#[]:Array Value).toList++a++(#[bptr b]:Array Value).toList) (TestS U (fun x=>!p x) q J [⟨b,false, .cells [.func (.func g) fi ca] 109⟩]):=by
 refine ⟨fun args ls v ns G G' hg h=>h,fun args ls G Wd hsub hls hnd hpre=>?_⟩
 obtain ⟨rfl,hj,x,rfl,hx⟩:=hpre
 refine st_sound (Tab.nil _) comp82 (svs:=[.v (U x), .c (.ptr 0 0)]) (obs:=[.cells (.named b) [.val (.func (.func g) fi ca)] 109]) (by simp) hsub hls hnd (Nat.le_of_ble_eq_true rfl) ?_ ?_ ?_
 ·exact ⟨rfl,trivial,⟨_,rfl,rfl⟩,(Nat.le_of_ble_eq_true rfl:0 < 2),trivial⟩
 ·exact ⟨⟨_,rfl,relL_vals _ [.func (.func g) fi ca],(by intro c hc;simp at hc;subst hc;trivial)⟩,trivial⟩
 ·(conv=>whnf)
  refine CallvP.fn _ hr (W.mk ?_)
  (conv=>whnf)
  refine StP.mk ⟨[],trivial,(by show ([]:List Nat).Nodup;decide),⟨rfl,hj,x,rfl,hx⟩,fun v ns G3 hg3 hpost=>W.mk ?_⟩
  obtain ⟨rfl,y,q1,rfl⟩:=hpost
  have hxy:=inj60 x y (List.cons.inj q1).1
  subst hxy
  (conv=>whnf)
  refine ForkP.mk (fun hm=>W.mk ?_) (fun hm=>W.mk ?_)<;>(conv=>whnf)<;>refine FinS.mk ⟨[],⟨.cells [.func (.func g) fi ca] 109,⟨_,rfl,rfl⟩,trivial,rfl,rfl⟩,rfl,x,rfl, ?_⟩<;>(show Value.bool _ = Value.bool (!p x);rw [hm];rfl)
theorem idx107 (g:FuncId) (fi ca:Array Value) (p:Int→Bool) (q:Int→Prop) (J:Hp→Prop) (b:Nat) (hJ:∀ G G',Grow G G'→J G→J G') (hr:SoundFn Try.prog (.func (.func g) fi ca) (TestS U p q J [])):Sound Try.prog 107 id (AllS u8E (.func (.func 82) #[] #[bptr b]) (fun xs=>I (idxP p xs 0)) q J [⟨b,false, .cells [.func (.func g) fi ca] 109⟩]):=by
 refine ⟨fun args ls v ns G G' hg h=>?_,fun args ls G Wd hsub hls hnd hpre=>?_⟩
 ·obtain ⟨h0,w,xs,h1,h2,h3⟩:=h;exact ⟨h0,w,xs,h1,h2.grow hg,h3⟩
 obtain ⟨rfl,hj,w,l,rfl,⟨a,n,c,rfl,hl,hn⟩,hq⟩:=hpre
 refine st_sound (Tab.nil _) comp107 (svs:=[.v (.slice a n c), .v (.func (.func 82) #[] #[bptr b])]) (obs:=[.cells (.named b) [.val (.func (.func g) fi ca)] 109]) (by simp) hsub hls hnd (Nat.le_of_ble_eq_true rfl) ?_ ?_ ?_
 ·exact ⟨rfl,trivial,rfl,trivial,trivial⟩
 ·exact ⟨⟨_,rfl,relL_vals _ [.func (.func g) fi ca],(by intro c hc;simp at hc;subst hc;trivial)⟩,trivial⟩
 ·have hlen:=hl.len
  (conv=>whnf)
  refine LoopP.of { α:=Nat,fr:=fun x=>[(0, .v (.slice a n c)),(1, .v (.func (.func 82) #[] #[bptr b])),(7, .v (I n)),(8, .v (I x))],H:=fun _=>[(0, .cells (.named b) [.val (.func (.func g) fi ca)] 109)],ok:=fun i _=>i≤l.length∧idxP p (l.drop i) i = idxP p l 0,m:=fun x=>l.length - x }
   0 (HeadP.of [] ⟨rfl,rfl,rfl,rfl,trivial⟩ ⟨rfl,trivial⟩) ⟨Nat.zero_le _,rfl⟩ (fun _=>⟨rfl,rfl⟩) (fun (i:Nat) G' hG hx=>W.mk ?_)
  obtain ⟨hi,hx⟩:=hx
  replace hl:=SlR.grow (G:=G) (G':=G') (fun _ _ h=>h) hl hG
  replace hj:=hJ _ _ hG hj
  (conv=>whnf)
  refine IteP.mk (fun hlt=>W.mk ?_) (fun hge=>W.mk ?_)<;>(conv=>whnf)
  ·have hlt:i < l.length:=by omega
   have hc:=hl.el hlt
   have hqi:=hq _ (List.getElem_mem hlt)
   rw [List.drop_eq_getElem_cons hlt,idxP] at hx
   repeat' (first | (refine ob ?_ ?_;(first | trivial | omega | (simp only [inR];omega) | exact ble (by rfl) | exact SlR.some ‹_› (by omega));(conv=>whnf)) | (first | (refine ra ‹_› (by rfl) ?_;(conv=>whnf)) | (refine rb ‹_› (by rfl) ?_;(conv=>whnf)) | (refine rc ‹_› (by rfl) ?_;(conv=>whnf)) | (refine rd ‹_› (by rfl) ?_;(conv=>whnf))))
   refine CallvP.fn _ (SoundFn.of body82 (not82 g fi ca p q J b hr)) (W.mk ?_)
   (conv=>whnf)
   refine StP.mk ⟨[(0,⟨b,false, .cells [.func (.func g) fi ca] 109⟩)],⟨⟨_,rfl,rfl⟩,trivial⟩,(by show ([0]:List Nat).Nodup;decide),⟨rfl,hj,l[i],rfl,hqi⟩,fun v ns G3 hg3 hpost=>W.mk ?_⟩
   obtain ⟨rfl,y,q1,rfl⟩:=hpost
   have hxy:=inj60 _ y (List.cons.inj q1).1
   subst hxy
   (conv=>whnf)
   refine ForkP.mk (fun hm=>W.mk ?_) (fun hm=>W.mk ?_)<;>(conv=>whnf)
   ·refine FinS.mk ⟨[],⟨.cells [.func (.func g) fi ca] 109,⟨_,rfl,rfl⟩,trivial,rfl,rfl⟩,rfl,_,l,rfl,⟨a,n,c,rfl,SlR.grow (G:=G') (G':=G3) (fun _ _ h=>h) hl hg3,hn⟩, ?_⟩
    rw [if_neg (by simpa using hm)] at hx
    show I (i:Int) = I (idxP p l 0);rw [← hx]
   ·(refine ob ?_ ?_;(first | trivial | omega | (simp only [inR];omega) | exact ble (by rfl) | exact SlR.some ‹_› (by omega));(conv=>whnf))
    rw [if_pos (by simpa using hm)] at hx
    exact RoundP.of (i + 1) (HeadP.of [] ⟨rfl,rfl,rfl,rfl,trivial⟩ ⟨rfl,trivial⟩) ⟨hlt,hx⟩ (by simp only;omega)
  ·have:i = l.length:=by omega
   subst this
   rw [List.drop_length] at hx
   refine FinS.mk ⟨[],⟨.cells [.func (.func g) fi ca] 109,⟨_,rfl,rfl⟩,trivial,rfl,rfl⟩,rfl,_,l,rfl,⟨a,n,c,rfl,hl,hn⟩, ?_⟩
   show I (-1) = I (idxP p l 0);rw [← hx];rfl
theorem con81 (g:FuncId) (fi ca:Array Value) (p:Int→Bool) (q:Int→Prop) (J:Hp→Prop) (b:Nat) (hJ:∀ G G',Grow G G'→J G→J G') (hr:SoundFn Try.prog (.func (.func g) fi ca) (TestS U p q J [])):Sound Try.prog 81 id (AllS u8E (.func (.func 82) #[] #[bptr b]) (fun xs=>.bool (!(xs.all p))) q J [⟨b,false, .cells [.func (.func g) fi ca] 109⟩]):=by
 refine ⟨fun args ls v ns G G' hg h=>?_,fun args ls G Wd hsub hls hnd hpre=>?_⟩
 ·obtain ⟨h0,w,xs,h1,h2,h3⟩:=h;exact ⟨h0,w,xs,h1,h2.grow hg,h3⟩
 obtain ⟨rfl,hj,w,l,rfl,⟨a,n,c,rfl,hl,hn⟩,hq⟩:=hpre
 refine st_sound (Tab.cons 107 _ (idx107 g fi ca p q J b hJ hr) body107 (Tab.nil _)) comp81 (svs:=[.v (.slice a n c), .v (.func (.func 82) #[] #[bptr b])]) (obs:=[.cells (.named b) [.val (.func (.func g) fi ca)] 109]) (by simp) hsub hls hnd (Nat.le_of_ble_eq_true rfl) ?_ ?_ ?_
 ·exact ⟨rfl,trivial,rfl,trivial,trivial⟩
 ·exact ⟨⟨_,rfl,relL_vals _ [.func (.func g) fi ca],(by intro c hc;simp at hc;subst hc;trivial)⟩,trivial⟩
 ·(conv=>whnf)
  refine StP.mk ⟨[(0,⟨b,false, .cells [.func (.func g) fi ca] 109⟩)],⟨⟨_,rfl,rfl⟩,trivial⟩,(by show ([0]:List Nat).Nodup;decide),⟨rfl,hj,_,l,rfl,⟨a,n,c,rfl,hl,hn⟩,hq⟩,fun v ns G3 hg3 hpost=>W.mk ?_⟩
  obtain ⟨rfl,w',l',q1,q2,rfl⟩:=hpost
  simp only [List.cons.injEq,and_true] at q1
  subst q1
  have:l' = l:=q2.uniq (SlV.grow hg3 ⟨a,n,c,rfl,hl,hn⟩)
  subst this
  have hall:=idxP_all p l' 0
  (conv=>whnf)
  refine IteP.mk (fun hq=>W.mk ?_) (fun hq=>W.mk ?_)<;>(conv=>whnf)<;>refine FinS.mk ⟨[],⟨.cells [.func (.func g) fi ca] 109,⟨_,rfl,rfl⟩,trivial,rfl,rfl⟩,rfl,_,l',rfl,q2, ?_⟩<;>show Value.bool _ = Value.bool (!(l'.all p))<;>rw [← hall]<;>simp [*]
theorem all60 (g:FuncId) (fi ca:Array Value) (p:Int→Bool) (q:Int→Prop) (J:Hp→Prop) (hJ:∀ G G',Grow G G'→J G→J G') (hr:SoundFn Try.prog (.func (.func g) fi ca) (TestS U p q J [])):Sound Try.prog 60 id (AllS u8E (.func (.func g) fi ca) (fun xs=>.bool (xs.all p)) q J []):=by
 refine ⟨fun args ls v ns G G' hg h=>?_,fun args ls G Wd hsub hls hnd hpre=>?_⟩
 ·obtain ⟨h0,w,xs,h1,h2,h3⟩:=h;exact ⟨h0,w,xs,h1,h2.grow hg,h3⟩
 obtain ⟨rfl,hj,w,l,rfl,⟨a,n,c,rfl,hl,hn⟩,hq⟩:=hpre
 refine st_sound (Tab.nil _) (at0 comp60) (svs:=[.v (.slice a n c), .v (.func (.func g) fi ca)]) (obs:=[]) (by simp) hsub hls hnd (Nat.le_of_ble_eq_true rfl) ?_ ?_ ?_
 ·exact ⟨rfl,trivial,rfl,trivial,trivial⟩
 ·exact trivial
 ·(conv=>whnf)
  refine NameP.mk (fun b=>W.mk ?_)
  (conv=>whnf)
  refine CallN.mk ⟨_,con81 g fi ca p q J b hJ hr,body81,W.mk ?_⟩
  (conv=>whnf)
  refine StP.mk ⟨[(0,⟨b,false, .cells [.func (.func g) fi ca] 109⟩)],⟨⟨_,rfl,rfl⟩,trivial⟩,(by show ([0]:List Nat).Nodup;decide),⟨rfl,hj,_,l,rfl,⟨a,n,c,rfl,hl,hn⟩,hq⟩,fun v ns G3 hg3 hpost=>W.mk ?_⟩
  obtain ⟨rfl,w',l',q1,q2,rfl⟩:=hpost
  simp only [List.cons.injEq,and_true] at q1
  subst q1
  have:l' = l:=q2.uniq (SlV.grow hg3 ⟨a,n,c,rfl,hl,hn⟩)
  subst this
  (conv=>whnf)
  refine ForkP.mk (fun hm=>W.mk ?_) (fun hm=>W.mk ?_)<;>(conv=>whnf)<;>refine FinS.mk ⟨[],rfl,rfl,_,l',rfl,q2, ?_⟩<;>(refine congrArg Value.bool ?_;simpa using hm)

/-! ### 77 -/
theorem inj77:∀ x y:(Option Addr × Nat × Nat),((fun x:Option Addr × Nat × Nat=>Value.slice x.1 x.2.1 x.2.2)) x = ((fun x:Option Addr × Nat × Nat=>Value.slice x.1 x.2.1 x.2.2)) y→x = y:=fun x y h=>by obtain ⟨_,_,_⟩:=x;obtain ⟨_,_,_⟩:=y;simp at h;simp [h]
theorem not102 (g:FuncId) (fi ca:Array Value) (p:(Option Addr × Nat × Nat)→Bool) (q:(Option Addr × Nat × Nat)→Prop) (J:Hp→Prop) (b:Nat) (hr:SoundFn Try.prog (.func (.func g) fi ca) (TestS (fun x:Option Addr × Nat × Nat=>Value.slice x.1 x.2.1 x.2.2) p q J [])):Sound Try.prog 102 (fun a=>(#[]:Array Value).toList++a++(#[bptr b]:Array Value).toList) (TestS (fun x:Option Addr × Nat × Nat=>Value.slice x.1 x.2.1 x.2.2) (fun x=>!p x) q J [⟨b,false, .cells [.func (.func g) fi ca] 110⟩]):=by
 refine ⟨fun args ls v ns G G' hg h=>h,fun args ls G Wd hsub hls hnd hpre=>?_⟩
 obtain ⟨rfl,hj,x,rfl,hx⟩:=hpre
 refine st_sound (Tab.nil _) comp102 (svs:=[.v (.slice x.1 x.2.1 x.2.2), .c (.ptr 0 0)]) (obs:=[.cells (.named b) [.val (.func (.func g) fi ca)] 110]) (by simp) hsub hls hnd (Nat.le_of_ble_eq_true rfl) ?_ ?_ ?_
 ·exact ⟨rfl,trivial,⟨_,rfl,rfl⟩,(Nat.le_of_ble_eq_true rfl:0 < 1),trivial⟩
 ·exact ⟨⟨_,rfl,relL_vals _ [.func (.func g) fi ca],(by intro c hc;simp at hc;subst hc;trivial)⟩,trivial⟩
 ·(conv=>whnf)
  refine CallvP.fn _ hr (W.mk ?_)
  (conv=>whnf)
  refine StP.mk ⟨[],trivial,(by show ([]:List Nat).Nodup;decide),⟨rfl,hj,x,rfl,hx⟩,fun v ns G3 hg3 hpost=>W.mk ?_⟩
  obtain ⟨rfl,y,q1,rfl⟩:=hpost
  have hxy:=inj77 x y (List.cons.inj q1).1
  subst hxy
  (conv=>whnf)
  refine ForkP.mk (fun hm=>W.mk ?_) (fun hm=>W.mk ?_)<;>(conv=>whnf)<;>refine FinS.mk ⟨[],⟨.cells [.func (.func g) fi ca] 110,⟨_,rfl,rfl⟩,trivial,rfl,rfl⟩,rfl,x,rfl, ?_⟩<;>(show Value.bool _ = Value.bool (!p x);rw [hm];rfl)
theorem idx115 (g:FuncId) (fi ca:Array Value) (p:(Option Addr × Nat × Nat)→Bool) (q:(Option Addr × Nat × Nat)→Prop) (J:Hp→Prop) (b:Nat) (hJ:∀ G G',Grow G G'→J G→J G') (hr:SoundFn Try.prog (.func (.func g) fi ca) (TestS (fun x:Option Addr × Nat × Nat=>Value.slice x.1 x.2.1 x.2.2) p q J [])):Sound Try.prog 115 id (AllS hdrE (.func (.func 102) #[] #[bptr b]) (fun xs=>I (idxP p xs 0)) q J [⟨b,false, .cells [.func (.func g) fi ca] 110⟩]):=by
 refine ⟨fun args ls v ns G G' hg h=>?_,fun args ls G Wd hsub hls hnd hpre=>?_⟩
 ·obtain ⟨h0,w,xs,h1,h2,h3⟩:=h;exact ⟨h0,w,xs,h1,h2.grow hg,h3⟩
 obtain ⟨rfl,hj,w,l,rfl,⟨a,n,c,rfl,hl,hn⟩,hq⟩:=hpre
 refine st_sound (Tab.nil _) comp115 (svs:=[.v (.slice a n c), .v (.func (.func 102) #[] #[bptr b])]) (obs:=[.cells (.named b) [.val (.func (.func g) fi ca)] 110]) (by simp) hsub hls hnd (Nat.le_of_ble_eq_true rfl) ?_ ?_ ?_
 ·exact ⟨rfl,trivial,rfl,trivial,trivial⟩
 ·exact ⟨⟨_,rfl,relL_vals _ [.func (.func g) fi ca],(by intro c hc;simp at hc;subst hc;trivial)⟩,trivial⟩
 ·have hlen:=hl.len
  (conv=>whnf)
  refine LoopP.of { α:=Nat,fr:=fun x=>[(0, .v (.slice a n c)),(1, .v (.func (.func 102) #[] #[bptr b])),(7, .v (I n)),(8, .v (I x))],H:=fun _=>[(0, .cells (.named b) [.val (.func (.func g) fi ca)] 110)],ok:=fun i _=>i≤l.length∧idxP p (l.drop i) i = idxP p l 0,m:=fun x=>l.length - x }
   0 (HeadP.of [] ⟨rfl,rfl,rfl,rfl,trivial⟩ ⟨rfl,trivial⟩) ⟨Nat.zero_le _,rfl⟩ (fun _=>⟨rfl,rfl⟩) (fun (i:Nat) G' hG hx=>W.mk ?_)
  obtain ⟨hi,hx⟩:=hx
  replace hl:=SlR.grow (G:=G) (G':=G') (fun _ _ h=>h) hl hG
  replace hj:=hJ _ _ hG hj
  (conv=>whnf)
  refine IteP.mk (fun hlt=>W.mk ?_) (fun hge=>W.mk ?_)<;>(conv=>whnf)
  ·have hlt:i < l.length:=by omega
   have hc:=hl.el hlt
   have hqi:=hq _ (List.getElem_mem hlt)
   rw [List.drop_eq_getElem_cons hlt,idxP] at hx
   repeat' (first | (refine ob ?_ ?_;(first | trivial | omega | (simp only [inR];omega) | exact ble (by rfl) | exact SlR.some ‹_› (by omega));(conv=>whnf)) | (first | (refine ra ‹_› (by rfl) ?_;(conv=>whnf)) | (refine rb ‹_› (by rfl) ?_;(conv=>whnf)) | (refine rc ‹_› (by rfl) ?_;(conv=>whnf)) | (refine rd ‹_› (by rfl) ?_;(conv=>whnf))))
   refine CallvP.fn _ (SoundFn.of body102 (not102 g fi ca p q J b hr)) (W.mk ?_)
   (conv=>whnf)
   refine StP.mk ⟨[(0,⟨b,false, .cells [.func (.func g) fi ca] 110⟩)],⟨⟨_,rfl,rfl⟩,trivial⟩,(by show ([0]:List Nat).Nodup;decide),⟨rfl,hj,l[i],rfl,hqi⟩,fun v ns G3 hg3 hpost=>W.mk ?_⟩
   obtain ⟨rfl,y,q1,rfl⟩:=hpost
   have hxy:=inj77 _ y (List.cons.inj q1).1
   subst hxy
   (conv=>whnf)
   refine ForkP.mk (fun hm=>W.mk ?_) (fun hm=>W.mk ?_)<;>(conv=>whnf)
   ·refine FinS.mk ⟨[],⟨.cells [.func (.func g) fi ca] 110,⟨_,rfl,rfl⟩,trivial,rfl,rfl⟩,rfl,_,l,rfl,⟨a,n,c,rfl,SlR.grow (G:=G') (G':=G3) (fun _ _ h=>h) hl hg3,hn⟩, ?_⟩
    rw [if_neg (by simpa using hm)] at hx
    show I (i:Int) = I (idxP p l 0);rw [← hx]
   ·(refine ob ?_ ?_;(first | trivial | omega | (simp only [inR];omega) | exact ble (by rfl) | exact SlR.some ‹_› (by omega));(conv=>whnf))
    rw [if_pos (by simpa using hm)] at hx
    exact RoundP.of (i + 1) (HeadP.of [] ⟨rfl,rfl,rfl,rfl,trivial⟩ ⟨rfl,trivial⟩) ⟨hlt,hx⟩ (by simp only;omega)
  ·have:i = l.length:=by omega
   subst this
   rw [List.drop_length] at hx
   refine FinS.mk ⟨[],⟨.cells [.func (.func g) fi ca] 110,⟨_,rfl,rfl⟩,trivial,rfl,rfl⟩,rfl,_,l,rfl,⟨a,n,c,rfl,hl,hn⟩, ?_⟩
   show I (-1) = I (idxP p l 0);rw [← hx];rfl
theorem con101 (g:FuncId) (fi ca:Array Value) (p:(Option Addr × Nat × Nat)→Bool) (q:(Option Addr × Nat × Nat)→Prop) (J:Hp→Prop) (b:Nat) (hJ:∀ G G',Grow G G'→J G→J G') (hr:SoundFn Try.prog (.func (.func g) fi ca) (TestS (fun x:Option Addr × Nat × Nat=>Value.slice x.1 x.2.1 x.2.2) p q J [])):Sound Try.prog 101 id (AllS hdrE (.func (.func 102) #[] #[bptr b]) (fun xs=>.bool (!(xs.all p))) q J [⟨b,false, .cells [.func (.func g) fi ca] 110⟩]):=by
 refine ⟨fun args ls v ns G G' hg h=>?_,fun args ls G Wd hsub hls hnd hpre=>?_⟩
 ·obtain ⟨h0,w,xs,h1,h2,h3⟩:=h;exact ⟨h0,w,xs,h1,h2.grow hg,h3⟩
 obtain ⟨rfl,hj,w,l,rfl,⟨a,n,c,rfl,hl,hn⟩,hq⟩:=hpre
 refine st_sound (Tab.cons 115 _ (idx115 g fi ca p q J b hJ hr) body115 (Tab.nil _)) comp101 (svs:=[.v (.slice a n c), .v (.func (.func 102) #[] #[bptr b])]) (obs:=[.cells (.named b) [.val (.func (.func g) fi ca)] 110]) (by simp) hsub hls hnd (Nat.le_of_ble_eq_true rfl) ?_ ?_ ?_
 ·exact ⟨rfl,trivial,rfl,trivial,trivial⟩
 ·exact ⟨⟨_,rfl,relL_vals _ [.func (.func g) fi ca],(by intro c hc;simp at hc;subst hc;trivial)⟩,trivial⟩
 ·(conv=>whnf)
  refine StP.mk ⟨[(0,⟨b,false, .cells [.func (.func g) fi ca] 110⟩)],⟨⟨_,rfl,rfl⟩,trivial⟩,(by show ([0]:List Nat).Nodup;decide),⟨rfl,hj,_,l,rfl,⟨a,n,c,rfl,hl,hn⟩,hq⟩,fun v ns G3 hg3 hpost=>W.mk ?_⟩
  obtain ⟨rfl,w',l',q1,q2,rfl⟩:=hpost
  simp only [List.cons.injEq,and_true] at q1
  subst q1
  have:l' = l:=q2.uniq (SlV.grow hg3 ⟨a,n,c,rfl,hl,hn⟩)
  subst this
  have hall:=idxP_all p l' 0
  (conv=>whnf)
  refine IteP.mk (fun hq=>W.mk ?_) (fun hq=>W.mk ?_)<;>(conv=>whnf)<;>refine FinS.mk ⟨[],⟨.cells [.func (.func g) fi ca] 110,⟨_,rfl,rfl⟩,trivial,rfl,rfl⟩,rfl,_,l',rfl,q2, ?_⟩<;>show Value.bool _ = Value.bool (!(l'.all p))<;>rw [← hall]<;>simp [*]
theorem all77 (g:FuncId) (fi ca:Array Value) (p:(Option Addr × Nat × Nat)→Bool) (q:(Option Addr × Nat × Nat)→Prop) (J:Hp→Prop) (hJ:∀ G G',Grow G G'→J G→J G') (hr:SoundFn Try.prog (.func (.func g) fi ca) (TestS (fun x:Option Addr × Nat × Nat=>Value.slice x.1 x.2.1 x.2.2) p q J [])):Sound Try.prog 77 id (AllS hdrE (.func (.func g) fi ca) (fun xs=>.bool (xs.all p)) q J []):=by
 refine ⟨fun args ls v ns G G' hg h=>?_,fun args ls G Wd hsub hls hnd hpre=>?_⟩
 ·obtain ⟨h0,w,xs,h1,h2,h3⟩:=h;exact ⟨h0,w,xs,h1,h2.grow hg,h3⟩
 obtain ⟨rfl,hj,w,l,rfl,⟨a,n,c,rfl,hl,hn⟩,hq⟩:=hpre
 refine st_sound (Tab.nil _) (at0 comp77) (svs:=[.v (.slice a n c), .v (.func (.func g) fi ca)]) (obs:=[]) (by simp) hsub hls hnd (Nat.le_of_ble_eq_true rfl) ?_ ?_ ?_
 ·exact ⟨rfl,trivial,rfl,trivial,trivial⟩
 ·exact trivial
 ·(conv=>whnf)
  refine NameP.mk (fun b=>W.mk ?_)
  (conv=>whnf)
  refine CallN.mk ⟨_,con101 g fi ca p q J b hJ hr,body101,W.mk ?_⟩
  (conv=>whnf)
  refine StP.mk ⟨[(0,⟨b,false, .cells [.func (.func g) fi ca] 110⟩)],⟨⟨_,rfl,rfl⟩,trivial⟩,(by show ([0]:List Nat).Nodup;decide),⟨rfl,hj,_,l,rfl,⟨a,n,c,rfl,hl,hn⟩,hq⟩,fun v ns G3 hg3 hpost=>W.mk ?_⟩
  obtain ⟨rfl,w',l',q1,q2,rfl⟩:=hpost
  simp only [List.cons.injEq,and_true] at q1
  subst q1
  have:l' = l:=q2.uniq (SlV.grow hg3 ⟨a,n,c,rfl,hl,hn⟩)
  subst this
  (conv=>whnf)
  refine ForkP.mk (fun hm=>W.mk ?_) (fun hm=>W.mk ?_)<;>(conv=>whnf)<;>refine FinS.mk ⟨[],rfl,rfl,_,l',rfl,q2, ?_⟩<;>(refine congrArg Value.bool ?_;simpa using hm)

/-! ### 63 -/
theorem inj63:∀ x y:Int,(I) x = (I) y→x = y:=fun x y h=>by cases h;rfl
theorem not84 (g:FuncId) (fi ca:Array Value) (p:Int→Bool) (q:Int→Prop) (J:Hp→Prop) (b:Nat) (hr:SoundFn Try.prog (.func (.func g) fi ca) (TestS I p q J [])):Sound Try.prog 84 (fun a=>(#[]:Array Value).toList++a++(#[bptr b]:Array Value).toList) (TestS I (fun x=>!p x) q J [⟨b,false, .cells [.func (.func g) fi ca] 112⟩]):=by
 refine ⟨fun args ls v ns G G' hg h=>h,fun args ls G Wd hsub hls hnd hpre=>?_⟩
 obtain ⟨rfl,hj,x,rfl,hx⟩:=hpre
 refine st_sound (Tab.nil _) comp84 (svs:=[.v (I x), .c (.ptr 0 0)]) (obs:=[.cells (.named b) [.val (.func (.func g) fi ca)] 112]) (by simp) hsub hls hnd (Nat.le_of_ble_eq_true rfl) ?_ ?_ ?_
 ·exact ⟨rfl,trivial,⟨_,rfl,rfl⟩,(Nat.le_of_ble_eq_true rfl:0 < 2),trivial⟩
 ·exact ⟨⟨_,rfl,relL_vals _ [.func (.func g) fi ca],(by intro c hc;simp at hc;subst hc;trivial)⟩,trivial⟩
 ·(conv=>whnf)
  refine CallvP.fn _ hr (W.mk ?_)
  (conv=>whnf)
  refine StP.mk ⟨[],trivial,(by show ([]:List Nat).Nodup;decide),⟨rfl,hj,x,rfl,hx⟩,fun v ns G3 hg3 hpost=>W.mk ?_⟩
  obtain ⟨rfl,y,q1,rfl⟩:=hpost
  have hxy:=inj63 x y (List.cons.inj q1).1
  subst hxy
  (conv=>whnf)
  refine ForkP.mk (fun hm=>W.mk ?_) (fun hm=>W.mk ?_)<;>(conv=>whnf)<;>refine FinS.mk ⟨[],⟨.cells [.func (.func g) fi ca] 112,⟨_,rfl,rfl⟩,trivial,rfl,rfl⟩,rfl,x,rfl, ?_⟩<;>(show Value.bool _ = Value.bool (!p x);rw [hm];rfl)
theorem idx108 (g:FuncId) (fi ca:Array Value) (p:Int→Bool) (q:Int→Prop) (J:Hp→Prop) (b:Nat) (hJ:∀ G G',Grow G G'→J G→J G') (hr:SoundFn Try.prog (.func (.func g) fi ca) (TestS I p q J [])):Sound Try.prog 108 id (AllS intE (.func (.func 84) #[] #[bptr b]) (fun xs=>I (idxP p xs 0)) q J [⟨b,false, .cells [.func (.func g) fi ca] 112⟩]):=by
 refine ⟨fun args ls v ns G G' hg h=>?_,fun args ls G Wd hsub hls hnd hpre=>?_⟩
 ·obtain ⟨h0,w,xs,h1,h2,h3⟩:=h;exact ⟨h0,w,xs,h1,h2.grow hg,h3⟩
 obtain ⟨rfl,hj,w,l,rfl,⟨a,n,c,rfl,hl,hn⟩,hq⟩:=hpre
 refine st_sound (Tab.nil _) comp108 (svs:=[.v (.slice a n c), .v (.func (.func 84) #[] #[bptr b])]) (obs:=[.cells (.named b) [.val (.func (.func g) fi ca)] 112]) (by simp) hsub hls hnd (Nat.le_of_ble_eq_true rfl) ?_ ?_ ?_
 ·exact ⟨rfl,trivial,rfl,trivial,trivial⟩
 ·exact ⟨⟨_,rfl,relL_vals _ [.func (.func g) fi ca],(by intro c hc;simp at hc;subst hc;trivial)⟩,trivial⟩
 ·have hlen:=hl.len
  (conv=>whnf)
  refine LoopP.of { α:=Nat,fr:=fun x=>[(0, .v (.slice a n c)),(1, .v (.func (.func 84) #[] #[bptr b])),(7, .v (I n)),(8, .v (I x))],H:=fun _=>[(0, .cells (.named b) [.val (.func (.func g) fi ca)] 112)],ok:=fun i _=>i≤l.length∧idxP p (l.drop i) i = idxP p l 0,m:=fun x=>l.length - x }
   0 (HeadP.of [] ⟨rfl,rfl,rfl,rfl,trivial⟩ ⟨rfl,trivial⟩) ⟨Nat.zero_le _,rfl⟩ (fun _=>⟨rfl,rfl⟩) (fun (i:Nat) G' hG hx=>W.mk ?_)
  obtain ⟨hi,hx⟩:=hx
  replace hl:=SlR.grow (G:=G) (G':=G') (fun _ _ h=>h) hl hG
  replace hj:=hJ _ _ hG hj
  (conv=>whnf)
  refine IteP.mk (fun hlt=>W.mk ?_) (fun hge=>W.mk ?_)<;>(conv=>whnf)
  ·have hlt:i < l.length:=by omega
   have hc:=hl.el hlt
   have hqi:=hq _ (List.getElem_mem hlt)
   rw [List.drop_eq_getElem_cons hlt,idxP] at hx
   repeat' (first | (refine ob ?_ ?_;(first | trivial | omega | (simp only [inR];omega) | exact ble (by rfl) | exact SlR.some ‹_› (by omega));(conv=>whnf)) | (first | (refine ra ‹_› (by rfl) ?_;(conv=>whnf)) | (refine rb ‹_› (by rfl) ?_;(conv=>whnf)) | (refine rc ‹_› (by rfl) ?_;(conv=>whnf)) | (refine rd ‹_› (by rfl) ?_;(conv=>whnf))))
   refine CallvP.fn _ (SoundFn.of body84 (not84 g fi ca p q J b hr)) (W.mk ?_)
   (conv=>whnf)
   refine StP.mk ⟨[(0,⟨b,false, .cells [.func (.func g) fi ca] 112⟩)],⟨⟨_,rfl,rfl⟩,trivial⟩,(by show ([0]:List Nat).Nodup;decide),⟨rfl,hj,l[i],rfl,hqi⟩,fun v ns G3 hg3 hpost=>W.mk ?_⟩
   obtain ⟨rfl,y,q1,rfl⟩:=hpost
   have hxy:=inj63 _ y (List.cons.inj q1).1
   subst hxy
   (conv=>whnf)
   refine ForkP.mk (fun hm=>W.mk ?_) (fun hm=>W.mk ?_)<;>(conv=>whnf)
   ·refine FinS.mk ⟨[],⟨.cells [.func (.func g) fi ca] 112,⟨_,rfl,rfl⟩,trivial,rfl,rfl⟩,rfl,_,l,rfl,⟨a,n,c,rfl,SlR.grow (G:=G') (G':=G3) (fun _ _ h=>h) hl hg3,hn⟩, ?_⟩
    rw [if_neg (by simpa using hm)] at hx
    show I (i:Int) = I (idxP p l 0);rw [← hx]
   ·(refine ob ?_ ?_;(first | trivial | omega | (simp only [inR];omega) | exact ble (by rfl) | exact SlR.some ‹_› (by omega));(conv=>whnf))
    rw [if_pos (by simpa using hm)] at hx
    exact RoundP.of (i + 1) (HeadP.of [] ⟨rfl,rfl,rfl,rfl,trivial⟩ ⟨rfl,trivial⟩) ⟨hlt,hx⟩ (by simp only;omega)
  ·have:i = l.length:=by omega
   subst this
   rw [List.drop_length] at hx
   refine FinS.mk ⟨[],⟨.cells [.func (.func g) fi ca] 112,⟨_,rfl,rfl⟩,trivial,rfl,rfl⟩,rfl,_,l,rfl,⟨a,n,c,rfl,hl,hn⟩, ?_⟩
   show I (-1) = I (idxP p l 0);rw [← hx];rfl
theorem con83 (g:FuncId) (fi ca:Array Value) (p:Int→Bool) (q:Int→Prop) (J:Hp→Prop) (b:Nat) (hJ:∀ G G',Grow G G'→J G→J G') (hr:SoundFn Try.prog (.func (.func g) fi ca) (TestS I p q J [])):Sound Try.prog 83 id (AllS intE (.func (.func 84) #[] #[bptr b]) (fun xs=>.bool (!(xs.all p))) q J [⟨b,false, .cells [.func (.func g) fi ca] 112⟩]):=by
 refine ⟨fun args ls v ns G G' hg h=>?_,fun args ls G Wd hsub hls hnd hpre=>?_⟩
 ·obtain ⟨h0,w,xs,h1,h2,h3⟩:=h;exact ⟨h0,w,xs,h1,h2.grow hg,h3⟩
 obtain ⟨rfl,hj,w,l,rfl,⟨a,n,c,rfl,hl,hn⟩,hq⟩:=hpre
 refine st_sound (Tab.cons 108 _ (idx108 g fi ca p q J b hJ hr) body108 (Tab.nil _)) comp83 (svs:=[.v (.slice a n c), .v (.func (.func 84) #[] #[bptr b])]) (obs:=[.cells (.named b) [.val (.func (.func g) fi ca)] 112]) (by simp) hsub hls hnd (Nat.le_of_ble_eq_true rfl) ?_ ?_ ?_
 ·exact ⟨rfl,trivial,rfl,trivial,trivial⟩
 ·exact ⟨⟨_,rfl,relL_vals _ [.func (.func g) fi ca],(by intro c hc;simp at hc;subst hc;trivial)⟩,trivial⟩
 ·(conv=>whnf)
  refine StP.mk ⟨[(0,⟨b,false, .cells [.func (.func g) fi ca] 112⟩)],⟨⟨_,rfl,rfl⟩,trivial⟩,(by show ([0]:List Nat).Nodup;decide),⟨rfl,hj,_,l,rfl,⟨a,n,c,rfl,hl,hn⟩,hq⟩,fun v ns G3 hg3 hpost=>W.mk ?_⟩
  obtain ⟨rfl,w',l',q1,q2,rfl⟩:=hpost
  simp only [List.cons.injEq,and_true] at q1
  subst q1
  have:l' = l:=q2.uniq (SlV.grow hg3 ⟨a,n,c,rfl,hl,hn⟩)
  subst this
  have hall:=idxP_all p l' 0
  (conv=>whnf)
  refine IteP.mk (fun hq=>W.mk ?_) (fun hq=>W.mk ?_)<;>(conv=>whnf)<;>refine FinS.mk ⟨[],⟨.cells [.func (.func g) fi ca] 112,⟨_,rfl,rfl⟩,trivial,rfl,rfl⟩,rfl,_,l',rfl,q2, ?_⟩<;>show Value.bool _ = Value.bool (!(l'.all p))<;>rw [← hall]<;>simp [*]
theorem all63 (g:FuncId) (fi ca:Array Value) (p:Int→Bool) (q:Int→Prop) (J:Hp→Prop) (hJ:∀ G G',Grow G G'→J G→J G') (hr:SoundFn Try.prog (.func (.func g) fi ca) (TestS I p q J [])):Sound Try.prog 63 id (AllS intE (.func (.func g) fi ca) (fun xs=>.bool (xs.all p)) q J []):=by
 refine ⟨fun args ls v ns G G' hg h=>?_,fun args ls G Wd hsub hls hnd hpre=>?_⟩
 ·obtain ⟨h0,w,xs,h1,h2,h3⟩:=h;exact ⟨h0,w,xs,h1,h2.grow hg,h3⟩
 obtain ⟨rfl,hj,w,l,rfl,⟨a,n,c,rfl,hl,hn⟩,hq⟩:=hpre
 refine st_sound (Tab.nil _) comp63 (svs:=[.v (.slice a n c), .v (.func (.func g) fi ca)]) (obs:=[]) (by simp) hsub hls hnd (Nat.le_of_ble_eq_true rfl) ?_ ?_ ?_
 ·exact ⟨rfl,trivial,rfl,trivial,trivial⟩
 ·exact trivial
 ·(conv=>whnf)
  refine NameP.mk (fun b=>W.mk ?_)
  (conv=>whnf)
  refine CallN.mk ⟨_,con83 g fi ca p q J b hJ hr,body83,W.mk ?_⟩
  (conv=>whnf)
  refine StP.mk ⟨[(1,⟨b,false, .cells [.func (.func g) fi ca] 112⟩)],⟨⟨_,rfl,rfl⟩,trivial⟩,(by show ([1]:List Nat).Nodup;decide),⟨rfl,hj,_,l,rfl,⟨a,n,c,rfl,hl,hn⟩,hq⟩,fun v ns G3 hg3 hpost=>W.mk ?_⟩
  obtain ⟨rfl,w',l',q1,q2,rfl⟩:=hpost
  simp only [List.cons.injEq,and_true] at q1
  subst q1
  have:l' = l:=q2.uniq (SlV.grow hg3 ⟨a,n,c,rfl,hl,hn⟩)
  subst this
  (conv=>whnf)
  refine ForkP.mk (fun hm=>W.mk ?_) (fun hm=>W.mk ?_)<;>(conv=>whnf)<;>refine FinS.mk ⟨[],rfl,rfl,_,l',rfl,q2, ?_⟩<;>(refine congrArg Value.bool ?_;simpa using hm)

/-! ### 63 -/
theorem not84L (g:FuncId) (fi ca:Array Value) (p:Int→Bool) (q:Int→Prop) (J:Hp→Prop) (b0:Nat) (v0:Option Addr) (v1:Nat) (v2:Nat) (b:Nat) (hr:SoundFn Try.prog (.func (.func g) fi ca) (TestS I p q J [⟨b0,false, .cells [.slice v0 v1 v2] 22⟩])):Sound Try.prog 84 (fun a=>(#[]:Array Value).toList++a++(#[bptr b]:Array Value).toList) (TestS I (fun x=>!p x) q J [⟨b0,false, .cells [.slice v0 v1 v2] 22⟩,⟨b,false, .cells [.func (.func g) fi ca] 112⟩]):=by
 refine ⟨fun args ls v ns G G' hg h=>h,fun args ls G Wd hsub hls hnd hpre=>?_⟩
 obtain ⟨rfl,hj,x,rfl,hx⟩:=hpre
 refine st_sound (Tab.nil _) comp84 (svs:=[.v (I x), .c (.ptr 1 0)]) (obs:=[.cells (.named b0) [.val (.slice v0 v1 v2)] 22, .cells (.named b) [.val (.func (.func g) fi ca)] 112]) (by simp) hsub hls hnd (Nat.le_of_ble_eq_true rfl) ?_ ?_ ?_
 ·exact ⟨rfl,trivial,⟨_,rfl,rfl⟩,(Nat.le_of_ble_eq_true rfl:1 < 2),trivial⟩
 ·exact ⟨⟨_,rfl,relL_vals _ [.slice v0 v1 v2],(by intro c hc;simp at hc;subst hc;trivial)⟩,⟨_,rfl,relL_vals _ [.func (.func g) fi ca],(by intro c hc;simp at hc;subst hc;trivial)⟩,trivial⟩
 ·(conv=>whnf)
  refine CallvP.fn _ hr (W.mk ?_)
  (conv=>whnf)
  refine StP.mk ⟨[(0,⟨b0,false, .cells [.slice v0 v1 v2] 22⟩)],⟨⟨_,rfl,rfl⟩,trivial⟩,(by show ([0]:List Nat).Nodup;decide),⟨rfl,hj,x,rfl,hx⟩,fun v ns G3 hg3 hpost=>W.mk ?_⟩
  obtain ⟨rfl,y,q1,rfl⟩:=hpost
  have hxy:=inj63 x y (List.cons.inj q1).1
  subst hxy
  (conv=>whnf)
  refine ForkP.mk (fun hm=>W.mk ?_) (fun hm=>W.mk ?_)<;>(conv=>whnf)<;>refine FinS.mk ⟨[],⟨.cells [.slice v0 v1 v2] 22,⟨_,rfl,rfl⟩,trivial,rfl, .cells [.func (.func g) fi ca] 112,⟨_,rfl,rfl⟩,trivial,rfl,rfl⟩,rfl,x,rfl, ?_⟩<;>(show Value.bool _ = Value.bool (!p x);rw [hm];rfl)
theorem idx108L (g:FuncId) (fi ca:Array Value) (p:Int→Bool) (q:Int→Prop) (J:Hp→Prop) (b0:Nat) (v0:Option Addr) (v1:Nat) (v2:Nat) (b:Nat) (hJ:∀ G G',Grow G G'→J G→J G') (hr:SoundFn Try.prog (.func (.func g) fi ca) (TestS I p q J [⟨b0,false, .cells [.slice v0 v1 v2] 22⟩])):Sound Try.prog 108 id (AllS intE (.func (.func 84) #[] #[bptr b]) (fun xs=>I (idxP p xs 0)) q J [⟨b0,false, .cells [.slice v0 v1 v2] 22⟩,⟨b,false, .cells [.func (.func g) fi ca] 112⟩]):=by
 refine ⟨fun args ls v ns G G' hg h=>?_,fun args ls G Wd hsub hls hnd hpre=>?_⟩
 ·obtain ⟨h0,w,xs,h1,h2,h3⟩:=h;exact ⟨h0,w,xs,h1,h2.grow hg,h3⟩
 obtain ⟨rfl,hj,w,l,rfl,⟨a,n,c,rfl,hl,hn⟩,hq⟩:=hpre
 refine st_sound (Tab.nil _) comp108 (svs:=[.v (.slice a n c), .v (.func (.func 84) #[] #[bptr b])]) (obs:=[.cells (.named b0) [.val (.slice v0 v1 v2)] 22, .cells (.named b) [.val (.func (.func g) fi ca)] 112]) (by simp) hsub hls hnd (Nat.le_of_ble_eq_true rfl) ?_ ?_ ?_
 ·exact ⟨rfl,trivial,rfl,trivial,trivial⟩
 ·exact ⟨⟨_,rfl,relL_vals _ [.slice v0 v1 v2],(by intro c hc;simp at hc;subst hc;trivial)⟩,⟨_,rfl,relL_vals _ [.func (.func g) fi ca],(by intro c hc;simp at hc;subst hc;trivial)⟩,trivial⟩
 ·have hlen:=hl.len
  (conv=>whnf)
  refine LoopP.of { α:=Nat,fr:=fun x=>[(0, .v (.slice a n c)),(1, .v (.func (.func 84) #[] #[bptr b])),(7, .v (I n)),(8, .v (I x))],H:=fun _=>[(0, .cells (.named b0) [.val (.slice v0 v1 v2)] 22),(1, .cells (.named b) [.val (.func (.func g) fi ca)] 112)],ok:=fun i _=>i≤l.length∧idxP p (l.drop i) i = idxP p l 0,m:=fun x=>l.length - x }
   0 (HeadP.of [] ⟨rfl,rfl,rfl,rfl,trivial⟩ ⟨rfl,rfl,trivial⟩) ⟨Nat.zero_le _,rfl⟩ (fun _=>⟨rfl,rfl⟩) (fun (i:Nat) G' hG hx=>W.mk ?_)
  obtain ⟨hi,hx⟩:=hx
  replace hl:=SlR.grow (G:=G) (G':=G') (fun _ _ h=>h) hl hG
  replace hj:=hJ _ _ hG hj
  (conv=>whnf)
  refine IteP.mk (fun hlt=>W.mk ?_) (fun hge=>W.mk ?_)<;>(conv=>whnf)
  ·have hlt:i < l.length:=by omega
   have hc:=hl.el hlt
   have hqi:=hq _ (List.getElem_mem hlt)
   rw [List.drop_eq_getElem_cons hlt,idxP] at hx
   repeat' (first | (refine ob ?_ ?_;(first | trivial | omega | (simp only [inR];omega) | exact ble (by rfl) | exact SlR.some ‹_› (by omega));(conv=>whnf)) | (first | (refine ra ‹_› (by rfl) ?_;(conv=>whnf)) | (refine rb ‹_› (by rfl) ?_;(conv=>whnf)) | (refine rc ‹_› (by rfl) ?_;(conv=>whnf)) | (refine rd ‹_› (by rfl) ?_;(conv=>whnf))))
   refine CallvP.fn _ (SoundFn.of body84 (not84L g fi ca p q J b0 v0 v1 v2 b hr)) (W.mk ?_)
   (conv=>whnf)
   refine StP.mk ⟨[(0,⟨b0,false, .cells [.slice v0 v1 v2] 22⟩),(1,⟨b,false, .cells [.func (.func g) fi ca] 112⟩)],⟨⟨_,rfl,rfl⟩,⟨_,rfl,rfl⟩,trivial⟩,(by show ([0,1]:List Nat).Nodup;decide),⟨rfl,hj,l[i],rfl,hqi⟩,fun v ns G3 hg3 hpost=>W.mk ?_⟩
   obtain ⟨rfl,y,q1,rfl⟩:=hpost
   have hxy:=inj63 _ y (List.cons.inj q1).1
   subst hxy
   (conv=>whnf)
   refine ForkP.mk (fun hm=>W.mk ?_) (fun hm=>W.mk ?_)<;>(conv=>whnf)
   ·refine FinS.mk ⟨[],⟨.cells [.slice v0 v1 v2] 22,⟨_,rfl,rfl⟩,trivial,rfl, .cells [.func (.func g) fi ca] 112,⟨_,rfl,rfl⟩,trivial,rfl,rfl⟩,rfl,_,l,rfl,⟨a,n,c,rfl,SlR.grow (G:=G') (G':=G3) (fun _ _ h=>h) hl hg3,hn⟩, ?_⟩
    rw [if_neg (by simpa using hm)] at hx
    show I (i:Int) = I (idxP p l 0);rw [← hx]
   ·(refine ob ?_ ?_;(first | trivial | omega | (simp only [inR];omega) | exact ble (by rfl) | exact SlR.some ‹_› (by omega));(conv=>whnf))
    rw [if_pos (by simpa using hm)] at hx
    exact RoundP.of (i + 1) (HeadP.of [] ⟨rfl,rfl,rfl,rfl,trivial⟩ ⟨rfl,rfl,trivial⟩) ⟨hlt,hx⟩ (by simp only;omega)
  ·have:i = l.length:=by omega
   subst this
   rw [List.drop_length] at hx
   refine FinS.mk ⟨[],⟨.cells [.slice v0 v1 v2] 22,⟨_,rfl,rfl⟩,trivial,rfl, .cells [.func (.func g) fi ca] 112,⟨_,rfl,rfl⟩,trivial,rfl,rfl⟩,rfl,_,l,rfl,⟨a,n,c,rfl,hl,hn⟩, ?_⟩
   show I (-1) = I (idxP p l 0);rw [← hx];rfl
theorem con83L (g:FuncId) (fi ca:Array Value) (p:Int→Bool) (q:Int→Prop) (J:Hp→Prop) (b0:Nat) (v0:Option Addr) (v1:Nat) (v2:Nat) (b:Nat) (hJ:∀ G G',Grow G G'→J G→J G') (hr:SoundFn Try.prog (.func (.func g) fi ca) (TestS I p q J [⟨b0,false, .cells [.slice v0 v1 v2] 22⟩])):Sound Try.prog 83 id (AllS intE (.func (.func 84) #[] #[bptr b]) (fun xs=>.bool (!(xs.all p))) q J [⟨b0,false, .cells [.slice v0 v1 v2] 22⟩,⟨b,false, .cells [.func (.func g) fi ca] 112⟩]):=by
 refine ⟨fun args ls v ns G G' hg h=>?_,fun args ls G Wd hsub hls hnd hpre=>?_⟩
 ·obtain ⟨h0,w,xs,h1,h2,h3⟩:=h;exact ⟨h0,w,xs,h1,h2.grow hg,h3⟩
 obtain ⟨rfl,hj,w,l,rfl,⟨a,n,c,rfl,hl,hn⟩,hq⟩:=hpre
 refine st_sound (Tab.cons 108 _ (idx108L g fi ca p q J b0 v0 v1 v2 b hJ hr) body108 (Tab.nil _)) comp83 (svs:=[.v (.slice a n c), .v (.func (.func 84) #[] #[bptr b])]) (obs:=[.cells (.named b0) [.val (.slice v0 v1 v2)] 22, .cells (.named b) [.val (.func (.func g) fi ca)] 112]) (by simp) hsub hls hnd (Nat.le_of_ble_eq_true rfl) ?_ ?_ ?_
 ·exact ⟨rfl,trivial,rfl,trivial,trivial⟩
 ·exact ⟨⟨_,rfl,relL_vals _ [.slice v0 v1 v2],(by intro c hc;simp at hc;subst hc;trivial)⟩,⟨_,rfl,relL_vals _ [.func (.func g) fi ca],(by intro c hc;simp at hc;subst hc;trivial)⟩,trivial⟩
 ·(conv=>whnf)
  refine StP.mk ⟨[(0,⟨b0,false, .cells [.slice v0 v1 v2] 22⟩),(1,⟨b,false, .cells [.func (.func g) fi ca] 112⟩)],⟨⟨_,rfl,rfl⟩,⟨_,rfl,rfl⟩,trivial⟩,(by show ([0,1]:List Nat).Nodup;decide),⟨rfl,hj,_,l,rfl,⟨a,n,c,rfl,hl,hn⟩,hq⟩,fun v ns G3 hg3 hpost=>W.mk ?_⟩
  obtain ⟨rfl,w',l',q1,q2,rfl⟩:=hpost
  simp only [List.cons.injEq,and_true] at q1
  subst q1
  have:l' = l:=q2.uniq (SlV.grow hg3 ⟨a,n,c,rfl,hl,hn⟩)
  subst this
  have hall:=idxP_all p l' 0
  (conv=>whnf)
  refine IteP.mk (fun hq=>W.mk ?_) (fun hq=>W.mk ?_)<;>(conv=>whnf)<;>refine FinS.mk ⟨[],⟨.cells [.slice v0 v1 v2] 22,⟨_,rfl,rfl⟩,trivial,rfl, .cells [.func (.func g) fi ca] 112,⟨_,rfl,rfl⟩,trivial,rfl,rfl⟩,rfl,_,l',rfl,q2, ?_⟩<;>show Value.bool _ = Value.bool (!(l'.all p))<;>rw [← hall]<;>simp [*]
theorem all63L (g:FuncId) (fi ca:Array Value) (p:Int→Bool) (q:Int→Prop) (J:Hp→Prop) (b0:Nat) (v0:Option Addr) (v1:Nat) (v2:Nat) (hJ:∀ G G',Grow G G'→J G→J G') (hr:SoundFn Try.prog (.func (.func g) fi ca) (TestS I p q J [⟨b0,false, .cells [.slice v0 v1 v2] 22⟩])):Sound Try.prog 63 id (AllS intE (.func (.func g) fi ca) (fun xs=>.bool (xs.all p)) q J [⟨b0,false, .cells [.slice v0 v1 v2] 22⟩]):=by
 refine ⟨fun args ls v ns G G' hg h=>?_,fun args ls G Wd hsub hls hnd hpre=>?_⟩
 ·obtain ⟨h0,w,xs,h1,h2,h3⟩:=h;exact ⟨h0,w,xs,h1,h2.grow hg,h3⟩
 obtain ⟨rfl,hj,w,l,rfl,⟨a,n,c,rfl,hl,hn⟩,hq⟩:=hpre
 refine st_sound (Tab.nil _) comp63 (svs:=[.v (.slice a n c), .v (.func (.func g) fi ca)]) (obs:=[.cells (.named b0) [.val (.slice v0 v1 v2)] 22]) (by simp) hsub hls hnd (Nat.le_of_ble_eq_true rfl) ?_ ?_ ?_
 ·exact ⟨rfl,trivial,rfl,trivial,trivial⟩
 ·exact ⟨⟨_,rfl,relL_vals _ [.slice v0 v1 v2],(by intro c hc;simp at hc;subst hc;trivial)⟩,trivial⟩
 ·(conv=>whnf)
  refine NameP.mk (fun b=>W.mk ?_)
  (conv=>whnf)
  refine CallN.mk ⟨_,con83L g fi ca p q J b0 v0 v1 v2 b hJ hr,body83,W.mk ?_⟩
  (conv=>whnf)
  refine StP.mk ⟨[(0,⟨b0,false, .cells [.slice v0 v1 v2] 22⟩),(1,⟨b,false, .cells [.func (.func g) fi ca] 112⟩)],⟨⟨_,rfl,rfl⟩,⟨_,rfl,rfl⟩,trivial⟩,(by show ([0,1]:List Nat).Nodup;decide),⟨rfl,hj,_,l,rfl,⟨a,n,c,rfl,hl,hn⟩,hq⟩,fun v ns G3 hg3 hpost=>W.mk ?_⟩
  obtain ⟨rfl,w',l',q1,q2,rfl⟩:=hpost
  simp only [List.cons.injEq,and_true] at q1
  subst q1
  have:l' = l:=q2.uniq (SlV.grow hg3 ⟨a,n,c,rfl,hl,hn⟩)
  subst this
  (conv=>whnf)
  refine ForkP.mk (fun hm=>W.mk ?_) (fun hm=>W.mk ?_)<;>(conv=>whnf)<;>refine FinS.mk ⟨[],⟨.cells [.slice v0 v1 v2] 22,⟨_,rfl,rfl⟩,trivial,rfl,rfl⟩,rfl,_,l',rfl,q2, ?_⟩<;>(refine congrArg Value.bool ?_;simpa using hm)

/-! ### 104 -/
theorem inj104:∀ x y:(Int × Int),((fun x:Int × Int=>Value.agg #[I x.1,I x.2])) x = ((fun x:Int × Int=>Value.agg #[I x.1,I x.2])) y→x = y:=fun x y h=>by cases x;cases y;simp at h;simp [h]
theorem not117 (g:FuncId) (fi ca:Array Value) (p:(Int × Int)→Bool) (q:(Int × Int)→Prop) (J:Hp→Prop) (b0:Nat) (b1:Nat) (ck:Nat) (es:Array MapEntry) (b:Nat) (hr:SoundFn Try.prog (.func (.func g) fi ca) (TestS (fun x:Int × Int=>Value.agg #[I x.1,I x.2]) p q J [⟨b0,false, .cells [.map (some b1)] 147⟩,⟨b1,false, .map es ck⟩])):Sound Try.prog 117 (fun a=>(#[]:Array Value).toList++a++(#[bptr b]:Array Value).toList) (TestS (fun x:Int × Int=>Value.agg #[I x.1,I x.2]) (fun x=>!p x) q J [⟨b0,false, .cells [.map (some b1)] 147⟩,⟨b1,false, .map es ck⟩,⟨b,false, .cells [.func (.func g) fi ca] 149⟩]):=by
 refine ⟨fun args ls v ns G G' hg h=>h,fun args ls G Wd hsub hls hnd hpre=>?_⟩
 obtain ⟨rfl,hj,x,rfl,hx⟩:=hpre
 refine st_sound (Tab.nil _) comp117 (svs:=[.agg [.val (I x.1), .val (I x.2)], .c (.ptr 2 0)]) (obs:=[.cells (.named b0) [.mref 1] 147, .map (.named b1) es ck, .cells (.named b) [.val (.func (.func g) fi ca)] 149]) (by simp) hsub hls hnd (Nat.le_of_ble_eq_true rfl) ?_ ?_ ?_
 ·exact ⟨⟨[I x.1,I x.2],rfl,relL_vals _ [I x.1,I x.2]⟩,(by intro c hc;simp at hc;rcases hc with rfl | rfl<;>trivial),⟨_,rfl,rfl⟩,(Nat.le_of_ble_eq_true rfl:2 < 3),trivial⟩
 ·exact ⟨⟨_,rfl,⟨⟨rfl,_,rfl⟩,trivial⟩,(by intro c hc;simp at hc;subst hc;show (1:Nat) < _;exact Nat.le_of_ble_eq_true rfl)⟩,rfl,⟨_,rfl,relL_vals _ [.func (.func g) fi ca],(by intro c hc;simp at hc;subst hc;trivial)⟩,trivial⟩
 ·(conv=>whnf)
  refine CallvP.fn _ hr (W.mk ?_)
  (conv=>whnf)
  refine StP.mk ⟨[(0,⟨b0,false, .cells [.map (some b1)] 147⟩),(1,⟨b1,false, .map es ck⟩)],⟨⟨_,rfl,rfl⟩,rfl,trivial⟩,(by show ([0,1]:List Nat).Nodup;decide),⟨rfl,hj,x,rfl,hx⟩,fun v ns G3 hg3 hpost=>W.mk ?_⟩
  obtain ⟨rfl,y,q1,rfl⟩:=hpost
  have hxy:=inj104 x y (List.cons.inj q1).1
  subst hxy
  (conv=>whnf)
  refine ForkP.mk (fun hm=>W.mk ?_) (fun hm=>W.mk ?_)<;>(conv=>whnf)<;>refine FinS.mk ⟨[],⟨.cells [.map (some b1)] 147,⟨_,rfl,rfl⟩,trivial,rfl, .map es ck,rfl,trivial,rfl, .cells [.func (.func g) fi ca] 149,⟨_,rfl,rfl⟩,trivial,rfl,rfl⟩,rfl,x,rfl, ?_⟩<;>(show Value.bool _ = Value.bool (!p x);rw [hm];rfl)
theorem idx119 (g:FuncId) (fi ca:Array Value) (p:(Int × Int)→Bool) (q:(Int × Int)→Prop) (J:Hp→Prop) (b0:Nat) (b1:Nat) (ck:Nat) (es:Array MapEntry) (b:Nat) (hJ:∀ G G',Grow G G'→J G→J G') (hr:SoundFn Try.prog (.func (.func g) fi ca) (TestS (fun x:Int × Int=>Value.agg #[I x.1,I x.2]) p q J [⟨b0,false, .cells [.map (some b1)] 147⟩,⟨b1,false, .map es ck⟩])):Sound Try.prog 119 id (AllS prE (.func (.func 117) #[] #[bptr b]) (fun xs=>I (idxP p xs 0)) q J [⟨b0,false, .cells [.map (some b1)] 147⟩,⟨b1,false, .map es ck⟩,⟨b,false, .cells [.func (.func g) fi ca] 149⟩]):=by
 refine ⟨fun args ls v ns G G' hg h=>?_,fun args ls G Wd hsub hls hnd hpre=>?_⟩
 ·obtain ⟨h0,w,xs,h1,h2,h3⟩:=h;exact ⟨h0,w,xs,h1,h2.grow hg,h3⟩
 obtain ⟨rfl,hj,w,l,rfl,⟨a,n,c,rfl,hl,hn⟩,hq⟩:=hpre
 refine st_sound (Tab.nil _) comp119 (svs:=[.v (.slice a n c), .v (.func (.func 117) #[] #[bptr b])]) (obs:=[.cells (.named b0) [.mref 1] 147, .map (.named b1) es ck, .cells (.named b) [.val (.func (.func g) fi ca)] 149]) (by simp) hsub hls hnd (Nat.le_of_ble_eq_true rfl) ?_ ?_ ?_
 ·exact ⟨rfl,trivial,rfl,trivial,trivial⟩
 ·exact ⟨⟨_,rfl,⟨⟨rfl,_,rfl⟩,trivial⟩,(by intro c hc;simp at hc;subst hc;show (1:Nat) < _;exact Nat.le_of_ble_eq_true rfl)⟩,rfl,⟨_,rfl,relL_vals _ [.func (.func g) fi ca],(by intro c hc;simp at hc;subst hc;trivial)⟩,trivial⟩
 ·have hlen:=hl.len
  (conv=>whnf)
  refine LoopP.of { α:=Nat,fr:=fun x=>[(0, .v (.slice a n c)),(1, .v (.func (.func 117) #[] #[bptr b])),(7, .v (I n)),(8, .v (I x))],H:=fun _=>[(0, .cells (.named b0) [.mref 1] 147),(1, .map (.named b1) es ck),(2, .cells (.named b) [.val (.func (.func g) fi ca)] 149)],ok:=fun i _=>i≤l.length∧idxP p (l.drop i) i = idxP p l 0,m:=fun x=>l.length - x }
   0 (HeadP.of [] ⟨rfl,rfl,rfl,rfl,trivial⟩ ⟨rfl,rfl,rfl,trivial⟩) ⟨Nat.zero_le _,rfl⟩ (fun _=>⟨rfl,rfl⟩) (fun (i:Nat) G' hG hx=>W.mk ?_)
  obtain ⟨hi,hx⟩:=hx
  replace hl:=SlR.grow (G:=G) (G':=G') (fun _ _ h=>h) hl hG
  replace hj:=hJ _ _ hG hj
  (conv=>whnf)
  refine IteP.mk (fun hlt=>W.mk ?_) (fun hge=>W.mk ?_)<;>(conv=>whnf)
  ·have hlt:i < l.length:=by omega
   have hc:=hl.el hlt
   have hqi:=hq _ (List.getElem_mem hlt)
   rw [List.drop_eq_getElem_cons hlt,idxP] at hx
   repeat' (first | (refine ob ?_ ?_;(first | trivial | omega | (simp only [inR];omega) | exact ble (by rfl) | exact SlR.some ‹_› (by omega));(conv=>whnf)) | (first | (refine ra ‹_› (by rfl) ?_;(conv=>whnf)) | (refine rb ‹_› (by rfl) ?_;(conv=>whnf)) | (refine rc ‹_› (by rfl) ?_;(conv=>whnf)) | (refine rd ‹_› (by rfl) ?_;(conv=>whnf))))
   refine CallvP.fn _ (SoundFn.of body117 (not117 g fi ca p q J b0 b1 ck es b hr)) (W.mk ?_)
   (conv=>whnf)
   refine StP.mk ⟨[(0,⟨b0,false, .cells [.map (some b1)] 147⟩),(1,⟨b1,false, .map es ck⟩),(2,⟨b,false, .cells [.func (.func g) fi ca] 149⟩)],⟨⟨_,rfl,rfl⟩,rfl,⟨_,rfl,rfl⟩,trivial⟩,(by show ([0,1,2]:List Nat).Nodup;decide),⟨rfl,hj,l[i],rfl,hqi⟩,fun v ns G3 hg3 hpost=>W.mk ?_⟩
   obtain ⟨rfl,y,q1,rfl⟩:=hpost
   have hxy:=inj104 _ y (List.cons.inj q1).1
   subst hxy
   (conv=>whnf)
   refine ForkP.mk (fun hm=>W.mk ?_) (fun hm=>W.mk ?_)<;>(conv=>whnf)
   ·refine FinS.mk ⟨[],⟨.cells [.map (some b1)] 147,⟨_,rfl,rfl⟩,trivial,rfl, .map es ck,rfl,trivial,rfl, .cells [.func (.func g) fi ca] 149,⟨_,rfl,rfl⟩,trivial,rfl,rfl⟩,rfl,_,l,rfl,⟨a,n,c,rfl,SlR.grow (G:=G') (G':=G3) (fun _ _ h=>h) hl hg3,hn⟩, ?_⟩
    rw [if_neg (by simpa using hm)] at hx
    show I (i:Int) = I (idxP p l 0);rw [← hx]
   ·(refine ob ?_ ?_;(first | trivial | omega | (simp only [inR];omega) | exact ble (by rfl) | exact SlR.some ‹_› (by omega));(conv=>whnf))
    rw [if_pos (by simpa using hm)] at hx
    exact RoundP.of (i + 1) (HeadP.of [] ⟨rfl,rfl,rfl,rfl,trivial⟩ ⟨rfl,rfl,rfl,trivial⟩) ⟨hlt,hx⟩ (by simp only;omega)
  ·have:i = l.length:=by omega
   subst this
   rw [List.drop_length] at hx
   refine FinS.mk ⟨[],⟨.cells [.map (some b1)] 147,⟨_,rfl,rfl⟩,trivial,rfl, .map es ck,rfl,trivial,rfl, .cells [.func (.func g) fi ca] 149,⟨_,rfl,rfl⟩,trivial,rfl,rfl⟩,rfl,_,l,rfl,⟨a,n,c,rfl,hl,hn⟩, ?_⟩
   show I (-1) = I (idxP p l 0);rw [← hx];rfl
theorem con116 (g:FuncId) (fi ca:Array Value) (p:(Int × Int)→Bool) (q:(Int × Int)→Prop) (J:Hp→Prop) (b0:Nat) (b1:Nat) (ck:Nat) (es:Array MapEntry) (b:Nat) (hJ:∀ G G',Grow G G'→J G→J G') (hr:SoundFn Try.prog (.func (.func g) fi ca) (TestS (fun x:Int × Int=>Value.agg #[I x.1,I x.2]) p q J [⟨b0,false, .cells [.map (some b1)] 147⟩,⟨b1,false, .map es ck⟩])):Sound Try.prog 116 id (AllS prE (.func (.func 117) #[] #[bptr b]) (fun xs=>.bool (!(xs.all p))) q J [⟨b0,false, .cells [.map (some b1)] 147⟩,⟨b1,false, .map es ck⟩,⟨b,false, .cells [.func (.func g) fi ca] 149⟩]):=by
 refine ⟨fun args ls v ns G G' hg h=>?_,fun args ls G Wd hsub hls hnd hpre=>?_⟩
 ·obtain ⟨h0,w,xs,h1,h2,h3⟩:=h;exact ⟨h0,w,xs,h1,h2.grow hg,h3⟩
 obtain ⟨rfl,hj,w,l,rfl,⟨a,n,c,rfl,hl,hn⟩,hq⟩:=hpre
 refine st_sound (Tab.cons 119 _ (idx119 g fi ca p q J b0 b1 ck es b hJ hr) body119 (Tab.nil _)) comp116 (svs:=[.v (.slice a n c), .v (.func (.func 117) #[] #[bptr b])]) (obs:=[.cells (.named b0) [.mref 1] 147, .map (.named b1) es ck, .cells (.named b) [.val (.func (.func g) fi ca)] 149]) (by simp) hsub hls hnd (Nat.le_of_ble_eq_true rfl) ?_ ?_ ?_
 ·exact ⟨rfl,trivial,rfl,trivial,trivial⟩
 ·exact ⟨⟨_,rfl,⟨⟨rfl,_,rfl⟩,trivial⟩,(by intro c hc;simp at hc;subst hc;show (1:Nat) < _;exact Nat.le_of_ble_eq_true rfl)⟩,rfl,⟨_,rfl,relL_vals _ [.func (.func g) fi ca],(by intro c hc;simp at hc;subst hc;trivial)⟩,trivial⟩
 ·(conv=>whnf)
  refine StP.mk ⟨[(0,⟨b0,false, .cells [.map (some b1)] 147⟩),(1,⟨b1,false, .map es ck⟩),(2,⟨b,false, .cells [.func (.func g) fi ca] 149⟩)],⟨⟨_,rfl,rfl⟩,rfl,⟨_,rfl,rfl⟩,trivial⟩,(by show ([0,1,2]:List Nat).Nodup;decide),⟨rfl,hj,_,l,rfl,⟨a,n,c,rfl,hl,hn⟩,hq⟩,fun v ns G3 hg3 hpost=>W.mk ?_⟩
  obtain ⟨rfl,w',l',q1,q2,rfl⟩:=hpost
  simp only [List.cons.injEq,and_true] at q1
  subst q1
  have:l' = l:=q2.uniq (SlV.grow hg3 ⟨a,n,c,rfl,hl,hn⟩)
  subst this
  have hall:=idxP_all p l' 0
  (conv=>whnf)
  refine IteP.mk (fun hq=>W.mk ?_) (fun hq=>W.mk ?_)<;>(conv=>whnf)<;>refine FinS.mk ⟨[],⟨.cells [.map (some b1)] 147,⟨_,rfl,rfl⟩,trivial,rfl, .map es ck,rfl,trivial,rfl, .cells [.func (.func g) fi ca] 149,⟨_,rfl,rfl⟩,trivial,rfl,rfl⟩,rfl,_,l',rfl,q2, ?_⟩<;>show Value.bool _ = Value.bool (!(l'.all p))<;>rw [← hall]<;>simp [*]
theorem all104 (g:FuncId) (fi ca:Array Value) (p:(Int × Int)→Bool) (q:(Int × Int)→Prop) (J:Hp→Prop) (b0:Nat) (b1:Nat) (ck:Nat) (es:Array MapEntry) (hJ:∀ G G',Grow G G'→J G→J G') (hr:SoundFn Try.prog (.func (.func g) fi ca) (TestS (fun x:Int × Int=>Value.agg #[I x.1,I x.2]) p q J [⟨b0,false, .cells [.map (some b1)] 147⟩,⟨b1,false, .map es ck⟩])):Sound Try.prog 104 id (AllS prE (.func (.func g) fi ca) (fun xs=>.bool (xs.all p)) q J [⟨b0,false, .cells [.map (some b1)] 147⟩,⟨b1,false, .map es ck⟩]):=by
 refine ⟨fun args ls v ns G G' hg h=>?_,fun args ls G Wd hsub hls hnd hpre=>?_⟩
 ·obtain ⟨h0,w,xs,h1,h2,h3⟩:=h;exact ⟨h0,w,xs,h1,h2.grow hg,h3⟩
 obtain ⟨rfl,hj,w,l,rfl,⟨a,n,c,rfl,hl,hn⟩,hq⟩:=hpre
 refine st_sound (Tab.nil _) comp104 (svs:=[.v (.slice a n c), .v (.func (.func g) fi ca)]) (obs:=[.cells (.named b0) [.mref 1] 147, .map (.named b1) es ck]) (by simp) hsub hls hnd (Nat.le_of_ble_eq_true rfl) ?_ ?_ ?_
 ·exact ⟨rfl,trivial,rfl,trivial,trivial⟩
 ·exact ⟨⟨_,rfl,⟨⟨rfl,_,rfl⟩,trivial⟩,(by intro c hc;simp at hc;subst hc;show (1:Nat) < _;exact Nat.le_of_ble_eq_true rfl)⟩,rfl,trivial⟩
 ·(conv=>whnf)
  refine NameP.mk (fun b=>W.mk ?_)
  (conv=>whnf)
  refine CallN.mk ⟨_,con116 g fi ca p q J b0 b1 ck es b hJ hr,body116,W.mk ?_⟩
  (conv=>whnf)
  refine StP.mk ⟨[(0,⟨b0,false, .cells [.map (some b1)] 147⟩),(1,⟨b1,false, .map es ck⟩),(2,⟨b,false, .cells [.func (.func g) fi ca] 149⟩)],⟨⟨_,rfl,rfl⟩,rfl,⟨_,rfl,rfl⟩,trivial⟩,(by show ([0,1,2]:List Nat).Nodup;decide),⟨rfl,hj,_,l,rfl,⟨a,n,c,rfl,hl,hn⟩,hq⟩,fun v ns G3 hg3 hpost=>W.mk ?_⟩
  obtain ⟨rfl,w',l',q1,q2,rfl⟩:=hpost
  simp only [List.cons.injEq,and_true] at q1
  subst q1
  have:l' = l:=q2.uniq (SlV.grow hg3 ⟨a,n,c,rfl,hl,hn⟩)
  subst this
  (conv=>whnf)
  refine ForkP.mk (fun hm=>W.mk ?_) (fun hm=>W.mk ?_)<;>(conv=>whnf)<;>refine FinS.mk ⟨[],⟨.cells [.map (some b1)] 147,⟨_,rfl,rfl⟩,trivial,rfl, .map es ck,rfl,trivial,rfl,rfl⟩,rfl,_,l',rfl,q2, ?_⟩<;>(refine congrArg Value.bool ?_;simpa using hm)
end Go.Proofs.Ytgpfejgohclheaa

namespace Go.Proofs.Ytgpfejgohclheaa
open Go.Pal
set_option maxRecDepth 100000
theorem Sound.test {P:Program} {f:FuncId} {sh:List Value→List Value} {pre:List Value→Hp→Prop} {post:List Value→Hp→Value→Prop} (h:Sound P f sh (.sca pre post)) {α:Type} {val:α→Value} {p:α→Bool} {q:α→Prop} {J:Hp→Prop}
  (hpre:∀ G x,J G→q x→pre [val x] G) (hpost:∀ G x v,J G→q x→post [val x] G v→v = .bool (p x)) {ls:List LE} (hro:∀ x∈ls,x.w = false):Sound P f sh (TestS val p q J ls):=by
 refine ⟨fun _ _ _ _ _ _ _ h=>h,fun args l G W hs hl _ hp=>?_⟩
 obtain ⟨rfl,hj,x,rfl,hx⟩:=hp
 refine (h [val x] G W hs (hpre G x hj hx)).mono ?_
 rintro e W' ⟨v,rfl,hv,hB⟩
 exact ⟨v,[],G,rfl,⟨rfl,x,rfl,hpost G x v hj hx hv⟩,lentTo_ro hro,Grow.refl _,fun b o e=>by
  have h1:=hs b o e
  rw [hB.block b (Array.getElem?_eq_some_iff.1 h1).1];exact h1,fun b o e=>.inl e,below_beneath hB⟩

abbrev dvV (d:Dv) (w0 w1 w2 w3 w4 w5:Value):Value:=.agg #[I d.m,w0,w1,w2,w3,w4,w5,U d.rule,I d.need,I d.quorum,U d.tie]
theorem mem_test (d:Dv) (w:Value) (hm:inR .i64 (d.m - 1)):SoundFn Try.prog (.func (.func 103) #[w] #[]) (TestS I (fun n=>inF n 0 (d.m - 1)) (fun _=>True) (fun G=>DvV G w d) []) :=
 SoundFn.of body103 (Sound.test (Sound.first w mem103) (fun G x hj _=>⟨(d,x),_,_,rfl,hj,rfl,hm⟩) (fun G x v hj _ ⟨y,hy,e⟩=>by
  obtain ⟨u,u',h1,h2,h3,_⟩:=hy
  cases h1
  have:y.1 = d:=dvRd.uniq h2 hj
  have e:v = Value.bool (inF y.2 0 (y.1.m - 1)):=e
  rw [this] at e
  have h3:I x = I y.2:=h3
  cases h3;exact e) (fun x hx=>by cases hx))
theorem listed78:Sound Try.prog 78 id (gsca (args2 dvRd (slRd intE) fun d _=>inR .i64 (d.m - 1)) fun x v=>v = .bool (listF x.1.m x.2)):=by
 refine comp78.gsca (Tab.cons 62 _ ris62 body62 (Tab.nil _)) (fun args G s h=>?_) (fun args G x h=>?_)
 ·obtain ⟨v,w,rfl,_⟩:=h;simp
 ·obtain ⟨d,l⟩:=x
  obtain ⟨u,v,rfl,⟨w0,w1,w2,w3,w4,w5,rfl,hd⟩,⟨a,n,c,rfl,hl,hn⟩,hm⟩:=h
  dsimp only at hl hm hd
  have hd0:=hd
  obtain ⟨x0,y0,z0,rfl,la0,ya0⟩:=id hd.a0
  obtain ⟨x1,y1,z1,rfl,la1,ya1⟩:=id hd.a1
  obtain ⟨x2,y2,z2,rfl,ln0,yn0⟩:=id hd.n0
  obtain ⟨x3,y3,z3,rfl,ln1,yn1⟩:=id hd.n1
  obtain ⟨x4,y4,z4,rfl,lps,yps⟩:=id hd.ps
  obtain ⟨x5,y5,z5,rfl,lqs,yqs⟩:=id hd.qs
  dsimp only
  (conv=>whnf)
  refine CallN.mk ⟨_,all63 103 #[dvV d (.slice x0 y0 z0) (.slice x1 y1 z1) (.slice x2 y2 z2) (.slice x3 y3 z3) (.slice x4 y4 z4) (.slice x5 y5 z5)] #[] _ _ _ (fun G G' hg h=>dvRd.grow hg h) (mem_test d _ hm),body63,W.mk ?_⟩
  (conv=>whnf)
  refine StP.mk ⟨[],trivial,List.nodup_nil,⟨rfl,⟨_,_,_,_,_,_,rfl,hd0⟩,_,l,rfl,⟨a,n,c,rfl,hl,hn⟩,fun _ _=>trivial⟩,fun v ns G3 hg3 hpost=>W.mk ?_⟩
  obtain ⟨rfl,w',l',q1,q2,rfl⟩:=hpost
  simp only [List.cons.injEq,and_true] at q1
  subst q1
  have:l' = l:=q2.uniq (SlV.grow hg3 ⟨a,n,c,rfl,hl,hn⟩)
  subst this
  (conv=>whnf)
  refine ForkP.mk (fun hq=>W.mk ?_) (fun hq=>W.mk ?_)<;>(conv=>whnf)
  ·refine ScaP.g (ok1 (slRd intE) fun _=>True) (x:=l') ⟨_,rfl,q2,trivial⟩ (fun v hv=>W.mk ?_)
   subst hv
   (conv=>whnf)
   refine ForkP.mk (fun hr=>W.mk ?_) (fun hr=>W.mk ?_)<;>(conv=>whnf)<;>refine FinP.mk ?_<;>refine congrArg Value.bool ?_<;>rw [listF,hq,hr]<;>rfl
  ·refine FinP.mk ?_
   refine congrArg Value.bool ?_
   rw [listF,hq];rfl
end Go.Proofs.Ytgpfejgohclheaa

namespace Go.Proofs.Ytgpfejgohclheaa
open Go.Pal
set_option maxRecDepth 100000
theorem und3:Try.prog.underlying 3 = some (.int .i64):=by kernel_rfl
def prsS (d:Dv) (i:Nat) (x:Int):Bool:=(d.ps.take i).any fun p=>decide (p.1 = x) || decide (p.2 = x)
def givS (d:Dv) (i:Nat) (x:Int):Bool:=(d.qs.take i).any fun p=>decide (p.2 = x)
theorem take_snoc {α:Type} {l:List α} {i:Nat} (h:i < l.length):l.take (i + 1) = l.take i++[l[i]]:=by
 rw [List.take_add_one];simp [h]
theorem prsS_succ {d:Dv} {i:Nat} (h:i < d.ps.length) (x:Int):prsS d (i + 1) x = (prsS d i x || (decide (d.ps[i].1 = x) || decide (d.ps[i].2 = x))):=by
 simp only [prsS,take_snoc h,List.any_append,List.any_cons,List.any_nil,Bool.or_false]
theorem givS_succ {d:Dv} {i:Nat} (h:i < d.qs.length) (x:Int):givS d (i + 1) x = (givS d i x || decide (d.qs[i].2 = x)):=by
 simp only [givS,take_snoc h,List.any_append,List.any_cons,List.any_nil,Bool.or_false]
theorem any_take {α:Type} (f:α→Bool) (l:List α) (z:α) (i:Nat) (hi:i≤l.length):(l.take i).any f = !((List.range i).all fun k=>!(f (l.getD k z))):=by
 rw [Bool.eq_iff_iff]
 simp only [List.any_eq_true,Bool.not_eq_true',List.all_eq_false,List.mem_range,Bool.not_eq_true,Bool.not_eq_false']
 constructor
 ·rintro ⟨x,hx,hf⟩
  obtain ⟨k,hk,e⟩:=List.mem_iff_getElem.1 hx
  simp only [List.length_take] at hk
  refine ⟨k,by omega, ?_⟩
  have:l.getD k z = x:=by rw [← e,List.getElem_take];simp [show k < l.length by omega]
  rw [this];simpa using hf
 ·rintro ⟨k,hk,hf⟩
  have hkl:k < l.length:=by omega
  refine ⟨l[k], ?_, ?_⟩
  ·rw [List.mem_iff_getElem]
   exact ⟨k,by simp;omega,by simp⟩
  ·have:l.getD k z = l[k]:=by simp [hkl]
   rw [this] at hf;simpa using hf
def pairB (d:Dv) (i:Nat) (p:Int × Int):Bool:=pOk d p && !prsS d i p.1 && !prsS d i p.2
theorem pairB_at {d:Dv} {i:Nat} (hi:i < d.ps.length):pairB d i d.ps[i] = pairAt d i:=by
 have hg:d.ps.getD i (0,0) = d.ps[i]:=by simp [hi]
 rw [pairB,pairAt,hg,prsS,prsS,any_take _ _ (0,0) i (by omega),any_take _ _ (0,0) i (by omega),Bool.not_not,Bool.not_not]
 cases pOk d d.ps[i] with
 | false=>simp
 | true =>
  simp only [Bool.true_and]
  rw [Bool.eq_iff_iff]
  simp only [Bool.and_eq_true,List.all_eq_true,List.mem_range,crossF,Bool.not_eq_true',Bool.or_eq_false_iff,decide_eq_false_iff_not]
  constructor
  ·rintro ⟨h1,h2⟩ k hk
   exact ⟨⟨⟨fun e=>(h1 k hk).1 e.symm,fun e=>(h1 k hk).2 e.symm⟩,fun e=>(h2 k hk).1 e.symm⟩,fun e=>(h2 k hk).2 e.symm⟩
  ·intro h
   exact ⟨fun k hk=>⟨fun e=>(h k hk).1.1.1 e.symm,fun e=>(h k hk).1.1.2 e.symm⟩,fun k hk=>⟨fun e=>(h k hk).1.2 e.symm,fun e=>(h k hk).2 e.symm⟩⟩
def proxB (d:Dv) (i:Nat) (p:Int × Int):Bool:=pOk d p && !givS d i p.2
def boundF (d:Dv):Bool:=pairsF d && proxF d
theorem prox_all {d:Dv} (h:∀ k,k < d.qs.length→proxB d k (d.qs.getD k (0,0)) = true):d.qs.all (fun p=>!givS d d.qs.length p.1) = proxF d:=by
 rw [Bool.eq_iff_iff]
 simp only [List.all_eq_true,proxF,List.mem_range,proxAt,Bool.and_eq_true,proxC,Bool.not_eq_true',Bool.or_eq_false_iff,Bool.and_eq_false_iff,decide_eq_false_iff_not]
 have gS:∀ x,givS d d.qs.length x = false↔∀ k,k < d.qs.length→(d.qs.getD k (0,0)).2≠x:=fun x=>by
  rw [givS,any_take _ _ (0,0) _ (Nat.le_refl _),Bool.not_eq_false']
  simp only [List.all_eq_true,List.mem_range,Bool.not_eq_true',decide_eq_false_iff_not]
 have gI:∀ i x,i≤d.qs.length→(givS d i x = false↔∀ k,k < i→(d.qs.getD k (0,0)).2≠x):=fun i x hi=>by
  rw [givS,any_take _ _ (0,0) _ hi,Bool.not_eq_false']
  simp only [List.all_eq_true,List.mem_range,Bool.not_eq_true',decide_eq_false_iff_not]
 have hB:∀ k,k < d.qs.length→pOk d (d.qs.getD k (0,0)) = true∧∀ j,j < k→(d.qs.getD j (0,0)).2≠(d.qs.getD k (0,0)).2:=fun k hk=>by
  have:=h k hk
  simp only [proxB,Bool.and_eq_true,Bool.not_eq_true'] at this
  exact ⟨this.1,(gI k _ (by omega)).1 this.2⟩
 have hd:∀ k j,k < d.qs.length→j < d.qs.length→k≠j→(d.qs.getD k (0,0)).2≠(d.qs.getD j (0,0)).2:=fun k j hk hj hne=>by
  rcases Nat.lt_or_gt_of_ne hne with h1 | h1
  ·exact (hB j hj).2 k h1
  ·exact fun e=>(hB k hk).2 j h1 e.symm
 constructor
 ·intro hh i hi
  refine ⟨(hB i hi).1,fun k hk=>⟨?_, ?_⟩⟩
  ·by_cases hki:k = i
   ·exact .inl (by simp [hki])
   ·exact .inr (hd k i hk hi hki)
  ·have hg:d.qs.getD k (0,0) = d.qs[k]:=by simp [hk]
   have:=(gS (d.qs[k]).1).1 (hh _ (List.getElem_mem hk)) i hi
   rw [hg];exact fun e=>this e.symm
 ·intro hh p hp
  obtain ⟨k,hk,rfl⟩:=List.mem_iff_getElem.1 hp
  have hg:d.qs.getD k (0,0) = d.qs[k]:=by simp [hk]
  refine (gS _).2 fun i hi e=>?_
  have:=((hh i hi).2 k hk).2
  rw [hg] at this;exact this e.symm
theorem prox_bad {d:Dv} {i:Nat} (hi:i < d.qs.length) (h:proxB d i (d.qs.getD i (0,0)) = false):proxF d = false:=by
 refine all_false hi ?_
 rw [proxAt]
 cases hp:pOk d (d.qs.getD i (0,0)) with
 | false=>rfl
 | true =>
  rw [proxB,hp,Bool.true_and,Bool.not_eq_false',givS,any_take _ _ (0,0) i (by omega),Bool.not_eq_true',List.all_eq_false] at h
  obtain ⟨k,hk,h⟩:=h
  have hk:=List.mem_range.1 hk
  simp only [Bool.not_eq_true',Bool.not_eq_false] at h
  rw [Bool.true_and]
  refine all_false (k:=k) (by omega) ?_
  have hne:¬ k = i:=by omega
  simp only [proxC,hne,decide_false,Bool.not_false,Bool.true_and]
  have h2:decide ((d.qs.getD k (0,0)).2 = (d.qs.getD i (0,0)).2) = true:=by simpa using h
  rw [h2];rfl
end Go.Proofs.Ytgpfejgohclheaa

namespace Go.Proofs.Ytgpfejgohclheaa
open Go.Pal
set_option maxRecDepth 100000
theorem giv105 (b0 b1:Nat) (es:Array MapEntry) (ck:Nat) (s:Int→Bool) (hs:ISet Try.prog 3 es s):Sound Try.prog 105 (fun a=>(#[]:Array Value).toList++a++(#[bptr b0]:Array Value).toList) (TestS (fun x:Int × Int=>Value.agg #[I x.1,I x.2]) (fun x=>!s x.1) (fun x=>inR .i64 x.1) (fun _=>True) [⟨b0,false, .cells [.map (some b1)] 147⟩,⟨b1,false, .map es ck⟩]):=by
 refine ⟨fun args ls v ns G G' hg h=>h,fun args ls G Wd hsub hls hnd hpre=>?_⟩
 obtain ⟨rfl,hj,x,rfl,hx⟩:=hpre
 obtain ⟨x1,x2⟩:=x
 dsimp only at hx
 refine st_sound (Tab.nil _) comp105 (svs:=[.agg [.val (I x1), .val (I x2)], .c (.ptr 0 0)]) (obs:=[.cells (.named b0) [.mref 1] 147, .map (.named b1) es ck]) (by simp) hsub hls hnd (Nat.le_of_ble_eq_true rfl) ?_ ?_ ?_
 ·exact ⟨⟨[I x1,I x2],rfl,relL_vals _ [I x1,I x2]⟩,(by intro c hc;simp at hc;rcases hc with rfl | rfl<;>trivial),⟨_,rfl,rfl⟩,(Nat.le_of_ble_eq_true rfl:0 < 2),trivial⟩
 ·exact ⟨⟨_,rfl,⟨⟨rfl,_,rfl⟩,trivial⟩,(by intro c hc;simp at hc;subst hc;show (1:Nat) < _;exact Nat.le_of_ble_eq_true rfl)⟩,rfl,trivial⟩
 ·(conv=>whnf)
  obtain ⟨r,h1,h2,_⟩:=hs.find und3 hx
  refine KeyP.mk ⟨r,h1,W.mk ?_⟩
  dsimp only
  rw [h2]
  (conv=>whnf)
  refine ForkP.mk (fun hm=>W.mk ?_) (fun hm=>W.mk ?_)<;>(conv=>whnf)<;>refine FinS.mk ⟨[],⟨.cells [.map (some b1)] 147,⟨_,rfl,rfl⟩,trivial,rfl, .map es ck,rfl,trivial,rfl,rfl⟩,rfl,(x1,x2),rfl, ?_⟩<;>(show Value.bool _ = Value.bool (!s x1);rw [hm];rfl)
theorem in_of {d:Dv} {x:Int} (hm:1≤d.m∧d.m≤40) (h:inF x 0 (d.m - 1) = true):inR .i64 x:=by
 simp only [inF,decide_eq_true_eq] at h
 simp only [inR];omega
def tabR:Tab Try.prog:=Tab.cons 103 _ mem103 body103 (Tab.nil _)
theorem bound79:Sound Try.prog 79 id (gsca (args1 dvRd fun d=>1≤d.m∧d.m≤40) fun d v=>v = .bool (boundF d)):=by
 refine comp79.gsca tabR (fun args G s h=>?_) (fun args G d h=>?_)
 ·obtain ⟨v,rfl,_⟩:=h;simp
 ·obtain ⟨u,rfl,⟨w0,w1,w2,w3,w4,w5,rfl,hd⟩,hm⟩:=h
  have hd0:=hd
  have hin:inR .i64 (d.m - 1):=by simp only [inR];omega
  obtain ⟨x0,y0,z0,rfl,la0,ya0⟩:=id hd.a0
  obtain ⟨x1,y1,z1,rfl,la1,ya1⟩:=id hd.a1
  obtain ⟨x2,y2,z2,rfl,ln0,yn0⟩:=id hd.n0
  obtain ⟨x3,y3,z3,rfl,ln1,yn1⟩:=id hd.n1
  obtain ⟨x4,y4,z4,rfl,lps,yps⟩:=id hd.ps
  obtain ⟨x5,y5,z5,rfl,lqs,yqs⟩:=id hd.qs
  have hlen:=lps.len
  have hlenq:=lqs.len
  (conv=>whnf)
  refine LoopP.of { α:=Nat × Array MapEntry × Nat,fr:=fun x=>[(1, .c (.ptr 0 0)),(3, .c (.mref 2)),(4, .c (.ptr 4 0)),(12, .v (.slice x4 y4 z4)),(13, .v (I y4)),(14, .v (I x.1))],H:=fun x=>[(0, .cells .anon (DVC d x0 x1 x2 x3 x4 x5 y0 z0 y1 z1 y2 z2 y3 z3 y4 z4 y5 z5) 36),(2, .map .anon x.2.1 x.2.2),(3, .map .anon #[] 0),(4, .cells .anon [.mref 3] 147)],ok:=fun x _=>x.1≤d.ps.length∧ISet Try.prog 3 x.2.1 (prsS d x.1)∧∀ k,k < x.1→pairAt d k = true,m:=fun x=>d.ps.length - x.1 }
   (0, #[],0) (HeadP.of [] ⟨rfl,rfl,rfl,rfl,rfl,rfl,trivial⟩ ⟨rfl,rfl,rfl,rfl,trivial⟩) ⟨Nat.zero_le _,ISet.nil,fun k hk=>by simp at hk⟩ (fun _=>⟨rfl,rfl⟩) (fun x G1 hG1 hx=>W.mk ?_)
  obtain ⟨i,es,ck⟩:=x
  obtain ⟨hi,hs,hall⟩:=hx
  dsimp only at hi hs hall
  have hd1:=hd0.grow hG1
  have lps1:=SlR.grow (G:=G) (G':=G1) (fun _ _ h=>h) lps hG1
  have lqs1:=SlR.grow (G:=G) (G':=G1) (fun _ _ h=>h) lqs hG1
  dsimp only
  (conv=>whnf)
  refine IteP.mk (fun hlt=>W.mk ?_) (fun hge=>W.mk ?_)<;>(conv=>whnf)
  ·have hlt:i < d.ps.length:=by omega
   have hc:=lps1.el hlt
   have hB:=pairB_at hlt
   have hbad:pairAt d i = false→boundF d = false:=fun h=>by
    have:pairsF d = false:=all_false hlt h
    simp [boundF,this]
   have hsu:=prsS_succ hlt
   generalize d.ps[i] = p at hc hB hsu
   obtain ⟨p1,p2⟩:=p
   simp only [pairB,pOk] at hB
   repeat' (first | (refine ob ?_ ?_;(first | trivial | omega | (simp only [inR];omega) | exact ble (by rfl) | exact SlR.some ‹_› (by omega));(conv=>whnf)) | (first | (refine ra ‹_› (by rfl) ?_;(conv=>whnf)) | (refine rb ‹_› (by rfl) ?_;(conv=>whnf)) | (refine rc ‹_› (by rfl) ?_;(conv=>whnf)) | (refine rd ‹_› (by rfl) ?_;(conv=>whnf))))
   refine ScaP.g (ok2 dvRd intRd fun d _=>inR .i64 (d.m - 1)) (x:=(d,p1)) ⟨_,_,rfl,⟨_,_,_,_,_,_,rfl,hd1⟩,rfl,hin⟩ (fun v hv=>W.mk ?_)
   subst hv
   dsimp only
   (conv=>whnf)
   refine ForkP.mk (fun h1=>W.mk ?_) (fun h1=>W.mk ?_)<;>(conv=>whnf)
   rotate_left
   ·refine FinP.mk ?_
    refine congrArg Value.bool ?_
    rw [hbad (by rw [← hB,h1];rfl)]
   refine ScaP.g (ok2 dvRd intRd fun d _=>inR .i64 (d.m - 1)) (x:=(d,p2)) ⟨_,_,rfl,⟨_,_,_,_,_,_,rfl,hd1⟩,rfl,hin⟩ (fun v hv=>W.mk ?_)
   subst hv
   dsimp only
   (conv=>whnf)
   refine ForkP.mk (fun h2=>W.mk ?_) (fun h2=>W.mk ?_)<;>(conv=>whnf)
   rotate_left
   ·refine FinP.mk ?_
    refine congrArg Value.bool ?_
    rw [hbad (by rw [← hB,h2];simp)]
   refine IteP.mk (fun h3=>W.mk ?_) (fun h3=>W.mk ?_)<;>(try dsimp only at h3)<;>(conv=>whnf)
   ·refine FinP.mk ?_
    refine congrArg Value.bool ?_
    rw [hbad (by rw [← hB];simp [h3])]
   have i1:=in_of hm h1
   have i2:=in_of hm h2
   obtain ⟨r1,f1,f2,f3⟩:=hs.find und3 i1
   refine KeyP.mk ⟨r1,f1,W.mk ?_⟩
   dsimp only
   rw [f2]
   (conv=>whnf)
   refine ForkP.mk (fun h4=>W.mk ?_) (fun h4=>W.mk ?_)<;>(conv=>whnf)
   ·refine FinP.mk ?_
    refine congrArg Value.bool ?_
    rw [hbad (by rw [← hB];simp [h4])]
   obtain ⟨r2,g1,g2,g3⟩:=hs.find und3 i2
   refine KeyP.mk ⟨r2,g1,W.mk ?_⟩
   dsimp only
   rw [g2]
   (conv=>whnf)
   refine ForkP.mk (fun h5=>W.mk ?_) (fun h5=>W.mk ?_)<;>(conv=>whnf)
   ·refine FinP.mk ?_
    refine congrArg Value.bool ?_
    rw [hbad (by rw [← hB];simp [h5])]
   refine DrawP.mk monoT_nil rfl (W.mk ?_)
   (conv=>whnf)
   refine KeyP.mk ⟨r1,f1,W.mk ?_⟩
   (conv=>whnf)
   obtain ⟨r3,k1,k2,k3⟩:=(f3 ck).find und3 i2
   refine KeyP.mk ⟨r3,k1,W.mk ?_⟩
   (conv=>whnf)
   repeat' (refine ob ?_ ?_;(first | trivial | omega | (simp only [inR];omega) | exact ble (by rfl) | exact SlR.some ‹_› (by omega));(conv=>whnf))
   refine RoundP.of (i + 1,_,_) (HeadP.of [] ⟨rfl,rfl,rfl,rfl,rfl,rfl,trivial⟩ ⟨rfl,rfl,rfl,rfl,trivial⟩) ⟨hlt, ?_, ?_⟩ (by simp only;omega)
   ·have e:prsS d (i + 1) = fun y=>(prsS d i y || decide (y = p1)) || decide (y = p2):=by
     funext y
     rw [hsu y]
     have e1:decide (p1 = y) = decide (y = p1):=by simp [eq_comm]
     have e2:decide (p2 = y) = decide (y = p2):=by simp [eq_comm]
     rw [e1,e2,Bool.or_assoc]
    show ISet _ _ _ (prsS d (i + 1))
    rw [e]
    exact k3 _
   ·exact upto_succ hall (by rw [← hB];simp [h1,h2,h3,h4,h5])
  ·have hpf:pairsF d = true:=all_true fun k hk=>hall k (by omega)
   refine LoopP.of { α:=Nat × Array MapEntry × Nat,fr:=fun x=>[(1, .c (.ptr 0 0)),(4, .c (.ptr 4 0)),(57, .v (.slice x5 y5 z5)),(58, .v (I y5)),(59, .v (I x.1))],H:=fun x=>[(0, .cells .anon (DVC d x0 x1 x2 x3 x4 x5 y0 z0 y1 z1 y2 z2 y3 z3 y4 z4 y5 z5) 36),(3, .map .anon x.2.1 x.2.2),(4, .cells .anon [.mref 3] 147)],ok:=fun x _=>x.1≤d.qs.length∧ISet Try.prog 3 x.2.1 (givS d x.1)∧∀ k,k < x.1→proxB d k (d.qs.getD k (0,0)) = true,m:=fun x=>d.qs.length - x.1 }
    (0, #[],0) (HeadP.of [] ⟨rfl,rfl,rfl,rfl,rfl,trivial⟩ ⟨rfl,rfl,rfl,trivial⟩) ⟨Nat.zero_le _,ISet.nil,fun k hk=>by simp at hk⟩ (fun _=>⟨rfl,rfl⟩) (fun x G2 hG2 hx=>W.mk ?_)
   obtain ⟨i,es,ck⟩:=x
   obtain ⟨hi,hs,hall⟩:=hx
   dsimp only at hi hs hall
   have hd2:=hd1.grow hG2
   have lqs2:=SlR.grow (G:=G1) (G':=G2) (fun _ _ h=>h) lqs1 hG2
   dsimp only
   (conv=>whnf)
   refine IteP.mk (fun hlt=>W.mk ?_) (fun hge=>W.mk ?_)<;>(conv=>whnf)
   ·have hlt:i < d.qs.length:=by omega
    have hc:=lqs2.el hlt
    have hgd:d.qs.getD i (0,0) = d.qs[i]:=by simp [hlt]
    have hbad:proxB d i (d.qs.getD i (0,0)) = false→boundF d = false:=fun h=>by
     simp [boundF,prox_bad hlt h]
    have hsu:=givS_succ hlt
    rw [hgd] at hbad
    have hup:proxB d i d.qs[i] = true→∀ k,k < i + 1→proxB d k (d.qs.getD k (0,0)) = true:=fun h k hk=>by
     rcases Nat.lt_succ_iff_lt_or_eq.1 hk with h2 | rfl
     ·exact hall k h2
     ·rw [hgd];exact h
    generalize d.qs[i] = p at hc hbad hsu hup
    obtain ⟨p1,p2⟩:=p
    simp only [proxB,pOk] at hbad hup
    repeat' (first | (refine ob ?_ ?_;(first | trivial | omega | (simp only [inR];omega) | exact ble (by rfl) | exact SlR.some ‹_› (by omega));(conv=>whnf)) | (first | (refine ra ‹_› (by rfl) ?_;(conv=>whnf)) | (refine rb ‹_› (by rfl) ?_;(conv=>whnf)) | (refine rc ‹_› (by rfl) ?_;(conv=>whnf)) | (refine rd ‹_› (by rfl) ?_;(conv=>whnf))))
    refine ScaP.g (ok2 dvRd intRd fun d _=>inR .i64 (d.m - 1)) (x:=(d,p1)) ⟨_,_,rfl,⟨_,_,_,_,_,_,rfl,hd2⟩,rfl,hin⟩ (fun v hv=>W.mk ?_)
    subst hv
    dsimp only
    (conv=>whnf)
    refine ForkP.mk (fun h1=>W.mk ?_) (fun h1=>W.mk ?_)<;>(conv=>whnf)
    rotate_left
    ·refine FinP.mk ?_
     refine congrArg Value.bool ?_
     rw [hbad (by rw [h1];rfl)]
    refine ScaP.g (ok2 dvRd intRd fun d _=>inR .i64 (d.m - 1)) (x:=(d,p2)) ⟨_,_,rfl,⟨_,_,_,_,_,_,rfl,hd2⟩,rfl,hin⟩ (fun v hv=>W.mk ?_)
    subst hv
    dsimp only
    (conv=>whnf)
    refine ForkP.mk (fun h2=>W.mk ?_) (fun h2=>W.mk ?_)<;>(conv=>whnf)
    rotate_left
    ·refine FinP.mk ?_
     refine congrArg Value.bool ?_
     rw [hbad (by rw [h2];simp)]
    refine IteP.mk (fun h3=>W.mk ?_) (fun h3=>W.mk ?_)<;>(try dsimp only at h3)<;>(conv=>whnf)
    ·refine FinP.mk ?_
     refine congrArg Value.bool ?_
     rw [hbad (by simp [h3])]
    have i2:=in_of hm h2
    obtain ⟨r1,f1,f2,f3⟩:=hs.find und3 i2
    refine KeyP.mk ⟨r1,f1,W.mk ?_⟩
    dsimp only
    rw [f2]
    (conv=>whnf)
    refine ForkP.mk (fun h4=>W.mk ?_) (fun h4=>W.mk ?_)<;>(conv=>whnf)
    ·refine FinP.mk ?_
     refine congrArg Value.bool ?_
     rw [hbad (by simp [h4])]
    refine KeyP.mk ⟨r1,f1,W.mk ?_⟩
    (conv=>whnf)
    repeat' (refine ob ?_ ?_;(first | trivial | omega | (simp only [inR];omega) | exact ble (by rfl) | exact SlR.some ‹_› (by omega));(conv=>whnf))
    refine RoundP.of (i + 1,_,_) (HeadP.of [] ⟨rfl,rfl,rfl,rfl,rfl,trivial⟩ ⟨rfl,rfl,rfl,trivial⟩) ⟨hlt, ?_, ?_⟩ (by simp only;omega)
    ·have e:givS d (i + 1) = fun y=>givS d i y || decide (y = p2):=by
      funext y
      rw [hsu y]
      have e2:decide (p2 = y) = decide (y = p2):=by simp [eq_comm]
      rw [e2]
     show ISet _ _ _ (givS d (i + 1))
     rw [e]
     exact f3 _
    ·exact hup (by simp [h1,h2,h3,h4])
   ·have hie:i = d.qs.length:=by omega
    subst hie
    have hfin:=prox_all hall
    refine NameP.mk (fun b0=>W.mk ?_)
    (conv=>whnf)
    refine NameP.mk (fun b1=>W.mk ?_)
    (conv=>whnf)
    refine CallN.mk ⟨_,all104 105 #[] #[bptr b0] (fun x=>!givS d d.qs.length x.1) (fun x=>inR .i64 x.1) (fun _=>True) b0 b1 ck es (fun _ _ _ h=>h) (SoundFn.of body105 (giv105 b0 b1 es ck _ hs)),body104,W.mk ?_⟩
    (conv=>whnf)
    refine StP.mk ⟨[(4,⟨b0,false, .cells [.map (some b1)] 147⟩),(3,⟨b1,false, .map es ck⟩)],⟨⟨_,rfl,rfl⟩,rfl,trivial⟩,(by show ([4,3]:List Nat).Nodup;decide),⟨rfl,trivial,_,d.qs,rfl,⟨x5,y5,z5,rfl,lqs2,yqs⟩,fun p hp=>?_⟩,fun v ns G3 hg3 hpost=>W.mk ?_⟩
    ·obtain ⟨k,hk,rfl⟩:=List.mem_iff_getElem.1 hp
     have:=hall k hk
     have hg:d.qs.getD k (0,0) = d.qs[k]:=by simp [hk]
     rw [hg] at this
     simp only [proxB,pOk,Bool.and_eq_true] at this
     exact in_of hm this.1.1.1
    obtain ⟨rfl,w',l',q1,q2,rfl⟩:=hpost
    simp only [List.cons.injEq,and_true] at q1
    subst q1
    have:l' = d.qs:=q2.uniq (SlV.grow hg3 ⟨x5,y5,z5,rfl,lqs2,yqs⟩)
    subst this
    (conv=>whnf)
    refine ForkP.mk (fun hq=>W.mk ?_) (fun hq=>W.mk ?_)<;>(conv=>whnf)<;>refine FinP.mk ?_<;>refine congrArg Value.bool ?_<;>rw [boundF,hpf, ← hfin]<;>exact hq.symm
end Go.Proofs.Ytgpfejgohclheaa

namespace Go.Proofs.Ytgpfejgohclheaa
open Go.Pal
set_option maxRecDepth 100000
def unitRd:GRel Unit:=fun args _ _=>args = []
theorem okU:GOk unitRd:=⟨fun _ _ _ _ _ _=>rfl,fun _ _ _ _ _ h=>h⟩
def RulesV (G:Hp) (v:Value):Prop:=∃ b a c,v = .slice a 3 c∧CellsAt G b 0 [.func (.func 86) #[] #[]]∧PubRow G a 3 c [.func (.func 87) #[] #[bptr b], .func (.func 88) #[] #[bptr b], .func (.func 89) #[] #[]]
theorem RulesV.grow {G G':Hp} {v:Value} (hg:Grow G G'):RulesV G v→RulesV G' v:=fun ⟨b,a,c,h1,h2,h3⟩=>⟨b,a,c,h1,h2.grow hg,h3.grow hg⟩
theorem rules72:Sound Try.prog 72 id (grel unitRd fun _ v G=>RulesV G v):=by
 refine comp72.grelP (Tab.nil _) okU (fun args G s h=>by rw [h];exact Nat.zero_le _) (fun x v G G' hg h=>h.grow hg) (fun args G s h=>?_)
 subst h
 (conv=>whnf)
 refine NameP.mk (fun b=>W.mk ?_)
 (conv=>whnf)
 refine PubAnyP.mk ⟨[1], ?_⟩
 (conv=>whnf)
 intro G' hg _ hc
 refine W.mk ?_
 (conv=>whnf)
 refine PubP.mk (fun a c G2 hg2 hp=>W.mk ?_)
 (conv=>whnf)
 exact FinP.mk ⟨b,a,c,rfl,hc.grow hg2,hp⟩

/-! ### valid -/
theorem Comp.gscaT {P:Program} {f:FuncId} {ic:IC} {rs:List IRes} {nt:Nat} {α:Type} {R:GRel α} (C:Comp P f ic rs nt) (T:∀ args G x,R args G x→Tab P) {q:α→Value→Prop} (hn:∀ args G x,R args G x→args.length≤nt)
  (h:∀ args G x (hx:R args G x),funVC P (T args G x hx).get ic rs args G fun v _=>q x v):Sound P f id (_root_.Go.Pal.gsca R q) :=
 fun args G W hs ⟨x,hx⟩=>(Comp.calls C (T args G x hx) (hn args G x hx) hs (h args G x hx)).mono fun e W' ⟨v,_,h1,h2,_,_,_,h3⟩=>⟨v,h1,⟨x,hx,h2⟩,h3⟩
open Classical in
noncomputable def lstOf (G:Hp) (v:Value):List Int:=if h:∃ l,SlV intE G v l then h.choose else []
theorem lstOf_eq {G:Hp} {v:Value} {l:List Int} (h:SlV intE G v l):lstOf G v = l:=by
 have he:∃ l,SlV intE G v l:=⟨l,h⟩
 rw [lstOf,dif_pos he]
 exact he.choose_spec.uniq h
abbrev hdrV (x:Option Addr × Nat × Nat):Value:=.slice x.1 x.2.1 x.2.2
noncomputable def lisP (G:Hp) (m:Int) (x:Option Addr × Nat × Nat):Bool:=listF m (lstOf G (hdrV x))
theorem list_test {G0:Hp} {w:Value} {d:Dv} (h0:DvV G0 w d) (hm:inR .i64 (d.m - 1)):SoundFn Try.prog (.func (.func 78) #[w] #[]) (TestS (fun x:Option Addr × Nat × Nat=>Value.slice x.1 x.2.1 x.2.2) (lisP G0 d.m) (fun x=>∃ l,SlV intE G0 (hdrV x) l) (fun G=>Grow G0 G) []) :=
 SoundFn.of body78 (Sound.test (Sound.first w listed78) (fun G x hj ⟨l,hl⟩=>⟨(d,l),_,_,rfl,dvRd.grow hj h0,hl.grow hj,hm⟩) (fun G x v hj ⟨l,hl⟩ ⟨y,hy,e⟩=>by
  obtain ⟨u,u',h1,h2,h3,_⟩:=hy
  cases h1
  have e:v = Value.bool (listF y.1.m y.2):=e
  have e1:y.1 = d:=dvRd.uniq h2 (dvRd.grow hj h0)
  have e2:y.2 = l:=SlV.uniq h3 (hl.grow hj)
  rw [e,e1,e2,lisP,lstOf_eq hl]) (fun x hx=>by cases hx))
def lobPre (w:Value) (G0:Hp) (args:List Value) (G:Hp):Prop:=∃ sl, ∃ xs:List (Option Addr × Nat × Nat),args = [sl, .func (.func 78) #[w] #[]]∧SlV hdrE G sl xs∧(∀ x∈xs, ∃ l,SlV intE G0 (hdrV x) l)∧Grow G0 G
def lobPost (w:Value) (G0:Hp) (d:Dv) (args:List Value) (G:Hp) (v:Value):Prop:=∃ sl, ∃ xs:List (Option Addr × Nat × Nat),args = [sl, .func (.func 78) #[w] #[]]∧SlV hdrE G sl xs∧v = .bool (xs.all (lisP G0 d.m))
theorem lob77 {G0:Hp} {w:Value} {d:Dv} (h0:DvV G0 w d) (hm:inR .i64 (d.m - 1)):Sound Try.prog 77 id (.sca (lobPre w G0) (lobPost w G0 d)) :=
 Sound.st_sca (all77 78 #[w] #[] _ _ (fun G=>Grow G0 G) (fun _ _ hg h=>h.trans hg) (list_test h0 hm)) (fun args G ⟨sl,xs,h1,h2,h3,h4⟩=>⟨rfl,h4,sl,xs,h1,h2,h3⟩)
  (fun args G v G' hg ⟨sl,xs,h1,h2,_⟩ ⟨_,sl',xs',k1,k2,k3⟩=>by
   rw [h1] at k1;cases k1
   have:xs = xs':=SlV.uniq (h2.grow hg) k2
   subst this
   exact ⟨sl,xs,h1,h2,k3⟩)
end Go.Proofs.Ytgpfejgohclheaa
