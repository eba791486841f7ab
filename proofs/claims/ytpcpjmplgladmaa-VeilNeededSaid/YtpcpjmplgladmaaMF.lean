/- Functions whose results bear function values in rows or structs: own blocks may be published at their end. Equality of structs of two numbers. Layer 9: the program's small functions; the reading of a reader before a report. The drawn values: how each type is read; the frame of a row that says 'it returns true, and the arguments read as before'. What a contract says of published rows is said of rows that are lent, too, where the callee does not change them. Layer 9: an order's words are hidden. Layer 9: all, ContainsFunc, IndexFunc at three types, for any test. (printed by a program of mine) Contracts of tests; contracts by their first arguments; maps as lists of what they hold. Layer 9: whether a report is valid (the program). Layer 9: a reader before a report. Layer 9: the pieces of a view, one after the other. Layer 9: the view, and the word of a piece. Layer 9: what is shut. Layer 9: what is shut (the program). Layer 9: the orders that hold; what some orders hide. Layer 9: the library's maps.Keys, slices.Sort and slices.Sorted: the kit's contracts laid at this program (the layings are printed by the kit's tool). Layer 9: maps of numbers, their keys, sorted. Functions that begin with an own heap (at handle 0) in which there is no block yet. Layer 9: the columns of the heads, found one by one. -/
import Derived.Test.YtpcpjmplgladmaaME
import Derived.WalkLawsBesides
import Derived.Test.YtpcpjmplgladmaaMD
import Derived.ProofKit
import Derived.Deep.Slices
import Derived.Deep.Fields
import Derived.ChangeSame
import Derived.Lib.SmallJoins
import Derived.OpenShut
import Derived.ChangeOld
import Derived.Below
import Derived.Maps.Keyed
import Derived.WalkArith
import Derived.Shelf.SlIterI.Nil
import Derived.Shelf.SortM.Plain
import Derived.Shelf.SortM.SortNone
import Derived.Test.YtpcpjmplgladmaaProg
set_option linter.unusedSimpArgs false
set_option linter.unusedVariables false
namespace Go.Pal
open Go.RowKit

def resP (rs:List IRes) (σ:St) (K:List Value→HK):Prop:=PubAnyP σ.H σ.G fun H G=>resK σ rs H G K
def finKP (rs:List IRes) (σ:St) (K:Value→Hp→Prop):Prop:=resP rs σ fun vs _ G=>FinP (K (wrapV vs) G)
section
variable {P:Program}
theorem resP_sound {w0:Root} {W:World} {G0:Hp} {n:Nat} {M:Nat→Prop} {E:Nat→Value} {σ:St} {a:Act} (hs:Sat w0 G0 n M E σ a W) {rvs:List ResultVar} {rs:List IRes} {K:List Value→HK} (hc:compRes P rvs = some rs)
  (hk:resP rs σ K):∃ vs H' G',(rvs.mapM (resSem a.tmps)).run P W = .ok vs W∧K vs H' G'∧Grow σ.G G'∧Good w0 G0 M E W H' G':=by
 obtain ⟨hs',hk⟩:=hk
 obtain ⟨H1,G1,k1,g1,hg1⟩:=pubN_sound ⟨hs.sim,hs.mH⟩ hk
 obtain ⟨vs,H2,G2,r1,k2,g2,hg2⟩:=resK_sound hs hc hg1 k1
 exact ⟨vs,H2,G2,r1,k2,g1.trans g2,hg2⟩
theorem body_soundP (T:Tab P) {e:Env} (he:e.Ok P) {f:FuncId} {fn:Func} {c:Code} {ic:IC} {b2 bd:Nat} {rs:List IRes} (hf:P.funcs[f]? = some fn) (hb:fn.body = some c) (hc:compC P fn.ntmps c bd = some (ic,b2)) (hr:compRes P fn.results.toList = some rs)
  {args:Array Value} {σ:St} {W:World} {E0:Nat→Value} {K:St→List Value→HK} {R:Ending→World→Prop}
  (hs:SatE e [] fn.ntmps bd (fun _=>False) E0 σ { tmps:=args++Array.replicate (fn.ntmps - args.size) undef,defers:=[] } W)
  (h:vc P T.get ⟨e.l,e.Y,[],e.pn⟩ ic bd σ fun o _ σ=>match o with
   | .norm=>resP rs σ (K σ)
   | .ret=>resP rs σ (K σ)
   | .exit _=>False)
  (hq:∀ σ' W' M E vs H' G',K σ' vs H' G'→Grow σ.G G'→Done e (σ'.fr POS) M E W' H' G'→R (.returned (wrapV vs)) W') (hpn:e.pn = none:=by rfl):Calls P f args W R:=by
 refine body_end T he hf hb hc hs h ?_ (fun t C ht=>by rw [hpn] at ht;cases ht) (.inl hpn)
 intro σ' a' W' M E hk hg h4 h5
 obtain ⟨vs,H',G',r1,k1,g1,hg1⟩:=resP_sound h5 hr hk
 obtain ⟨q1,q2⟩:=h4.now he g1 hg1.sim
 exact ⟨_,results_run r1,hq σ' W' M E vs H' G' k1 (hg.trans g1) ⟨q2,q1.at_⟩⟩
end
end Go.Pal

namespace Go.Pal
open Go

end Go.Pal

namespace Go.Proofs.Ytpcpjmplgladmaa
open Go.Pal
set_option maxRecDepth 100000
theorem within51:Sound Try.prog 51 id (.fn (fun args _=>∃ n lo hi,args = [I n,I lo,I hi]) (fun args=>match args with | [.int _ n, .int _ lo, .int _ hi]=>.bool (inF n lo hi) | _=>undef)):=by
 refine comp51.fn (Tab.nil _) (fun args G h=>?_) (fun args G h=>?_)
 ·obtain ⟨n,lo,hi,rfl⟩:=h;simp
 ·obtain ⟨n,lo,hi,rfl⟩:=h
  (conv=>whnf)
  repeat' (first | (refine IteP.mk (fun _=>W.mk ?_) (fun _=>W.mk ?_)<;>(conv=>whnf)) | (refine ob ?_ ?_;(first | trivial | omega | (simp only [inR];omega) | exact ble (by rfl) | exact SlR.some ‹_› (by omega));(conv=>whnf)) | (refine ForkP.mk (fun _=>W.mk ?_) (fun _=>W.mk ?_)<;>(conv=>whnf)) | (refine ra ‹_› (by rfl) ?_;(conv=>whnf)) | (refine rb ‹_› (by rfl) ?_;(conv=>whnf)) | (refine rc ‹_› (by rfl) ?_;(conv=>whnf)) | (refine rd ‹_› (by rfl) ?_;(conv=>whnf)) | (refine FinP.mk ?_))
  all_goals (refine congrArg Value.bool ?_;simp [inF, *])
theorem year55:Sound Try.prog 55 id (gsca (args1 intRd fun _=>True) fun y v=>v = .bool (inF y 0 9999)):=by
 refine comp55.gsca (Tab.cons 51 _ within51 body51 (Tab.nil _)) (fun args G s h=>?_) (fun args G x h=>?_)
 ·obtain ⟨v,rfl,_⟩:=h;simp
 ·obtain ⟨v,rfl,rfl,_⟩:=h
  (conv=>whnf)
  refine OblP.mk ⟨_,_,_,rfl⟩ (W.mk ?_);(conv=>whnf)
  refine ForkP.mk (fun hq=>W.mk ?_) (fun hq=>W.mk ?_)<;>(conv=>whnf)<;>exact FinP.mk (congrArg Value.bool hq.symm)
theorem rising67:Sound Try.prog 67 id (gsca (args2 (slRd intE) intRd fun _ _=>True) fun x v=>v = .bool (risM x.2 x.1)):=by
 refine comp67.gsca (Tab.cons 51 _ within51 body51 (Tab.nil _)) (fun args G s h=>?_) (fun args G x h=>?_)
 ·obtain ⟨v,w,rfl,_⟩:=h;simp
 ·obtain ⟨l,q⟩:=x
  obtain ⟨u,v,rfl,⟨a,n,c,rfl,hl,hn⟩,rfl,_⟩:=h
  dsimp only at hl
  have hlen:=hl.len
  dsimp only
  (conv=>whnf)
  refine LoopP.of { α:=Nat,fr:=fun x=>[(0, .v (.slice a n c)),(1, .v (I q)),(7, .v (.slice a n c)),(8, .v (I n)),(9, .v (I x))],H:=fun _=>[],ok:=fun i _=>i≤l.length∧∀ k,k < i→risAt q l k = true,m:=fun x=>l.length - x }
   0 (HeadP.of [] ⟨rfl,rfl,rfl,rfl,rfl,trivial⟩ trivial) ⟨Nat.zero_le _,fun k hk=>by omega⟩ (fun _=>⟨rfl,rfl⟩) (fun (i:Nat) G' hG hx=>W.mk ?_)
  obtain ⟨hi,hx⟩:=hx
  replace hl:=SlR.grow (G:=G) (G':=G') (fun _ _ h=>h) hl hG
  dsimp only
  (conv=>whnf)
  refine IteP.mk (fun hlt=>W.mk ?_) (fun hge=>W.mk ?_)<;>(conv=>whnf)
  ·have hlt:i < l.length:=by omega
   have hc:=hl.el hlt
   have hat:risAt q l i = (inF (l.getD i 0) 0 q && (decide (i = 0) || decide (l.getD (i - 1) 0 < l.getD i 0))):=rfl
   have fin:∀ b,risAt q l i = b→b = true→∀ k,k < i + 1→risAt q l k = true:=fun b h1 h2 k hk=>by
    rcases Nat.lt_succ_iff_lt_or_eq.1 hk with h | rfl
    ·exact hx k h
    ·rw [h1,h2]
   rw [gd0 hlt] at hat
   repeat' (first | (refine ob ?_ ?_;(first | trivial | omega | (simp only [inR];omega) | exact ble (by rfl) | exact SlR.some ‹_› (by omega));(conv=>whnf)) | (first | (refine ra ‹_› (by rfl) ?_;(conv=>whnf)) | (refine rb ‹_› (by rfl) ?_;(conv=>whnf)) | (refine rc ‹_› (by rfl) ?_;(conv=>whnf)) | (refine rd ‹_› (by rfl) ?_;(conv=>whnf))))
   refine OblP.mk ⟨_,_,_,rfl⟩ (W.mk ?_)
   (conv=>whnf)
   refine ForkP.mk (fun hq=>W.mk ?_) (fun hq=>W.mk ?_)<;>(conv=>whnf)
   ·have hq:inF l[i] 0 q = true:=hq
    rw [hq,Bool.true_and] at hat
    cases i with
    | zero =>
     repeat' (first | (refine IteP.mk (fun _=>W.mk ?_) (fun _=>W.mk ?_)<;>first | (exfalso;omega) | (conv=>whnf)) | (refine ob ?_ ?_;(first | trivial | omega | (simp only [inR];omega) | exact ble (by rfl) | exact SlR.some ‹_› (by omega));(conv=>whnf)) | (first | (refine ra ‹_› (by rfl) ?_;(conv=>whnf)) | (refine rb ‹_› (by rfl) ?_;(conv=>whnf)) | (refine rc ‹_› (by rfl) ?_;(conv=>whnf)) | (refine rd ‹_› (by rfl) ?_;(conv=>whnf))))
     refine RoundP.of 1 (HeadP.of [] ⟨rfl,rfl,rfl,rfl,rfl,trivial⟩ trivial) ⟨hlt,fin _ hat rfl⟩ (by simp only;omega)
    | succ k =>
     have hlk:k < l.length:=by omega
     have hck:=hl.el hlk
     rw [show k + 1 - 1 = k by omega,gd0 hlk] at hat
     have hck:CellsAt G' (ab a) (ao a + (((k + 1:Nat):Int) - 1).toNat * 1) (intE.f l[k]):=by
      rw [show (((k + 1:Nat):Int) - 1).toNat = k by omega];exact hck
     refine IteP.mk (fun _=>W.mk ?_) (fun h=>by exfalso;omega)
     (conv=>whnf)
     repeat' (first | (refine ob ?_ ?_;(first | trivial | omega | (simp only [inR];omega) | exact ble (by rfl) | exact SlR.some ‹_› (by omega));(conv=>whnf)) | (first | (refine ra ‹_› (by rfl) ?_;(conv=>whnf)) | (refine rb ‹_› (by rfl) ?_;(conv=>whnf)) | (refine rc ‹_› (by rfl) ?_;(conv=>whnf)) | (refine rd ‹_› (by rfl) ?_;(conv=>whnf))))
     generalize l[k] = p at hat ⊢
     generalize l[k + 1] = p2 at hat ⊢
     refine IteP.mk (fun h5=>W.mk ?_) (fun h5=>W.mk ?_)<;>(conv=>whnf)
     ·have h5:p2≤p:=h5
      refine FinP.mk ?_
      refine congrArg Value.bool ?_
      refine (risM_false hlt ?_).symm
      rw [hat,decide_eq_false (by omega:¬ k + 1 = 0),decide_eq_false (by omega:¬ p < p2)];rfl
     ·have h5:¬ p2≤p:=h5
      repeat' (first | (refine ob ?_ ?_;(first | trivial | omega | (simp only [inR];omega) | exact ble (by rfl) | exact SlR.some ‹_› (by omega));(conv=>whnf)) | (first | (refine ra ‹_› (by rfl) ?_;(conv=>whnf)) | (refine rb ‹_› (by rfl) ?_;(conv=>whnf)) | (refine rc ‹_› (by rfl) ?_;(conv=>whnf)) | (refine rd ‹_› (by rfl) ?_;(conv=>whnf))))
      refine RoundP.of (k + 2) (HeadP.of [] ⟨rfl,rfl,rfl,rfl,rfl,trivial⟩ trivial) ⟨hlt,fin _ hat ?_⟩ (by simp only;omega)
      rw [decide_eq_true (by omega:p < p2),Bool.or_true]
   ·have hq:inF l[i] 0 q = false:=hq
    rw [hq,Bool.false_and] at hat
    refine FinP.mk ?_
    refine congrArg Value.bool ?_
    exact (risM_false hlt hat).symm
  ·have:i = l.length:=by omega
   subst this
   refine FinP.mk ?_
   refine congrArg Value.bool ?_
   exact (risM_true hx).symm
def idxF (l:List Int) (q:Int) (k:Nat):Int:=match l with
 | []=>-1
 | r :: t=>if q = r then (k:Int) else idxF t q (k + 1)
theorem idxF_has:∀ (l:List Int) (q:Int) (k:Nat),decide (0≤idxF l q k) = l.contains q
 | [],q,k=>rfl
 | r :: t,q,k=>by
  unfold idxF
  by_cases h:q = r
  ·subst h;simp
  ·rw [if_neg h,idxF_has t q (k + 1),List.contains_cons]
   have:(q == r) = false:=by simpa using h
   rw [this,Bool.false_or]
theorem idx71:Sound Try.prog 71 id (gsca (args2 (slRd intE) intRd fun _ _=>True) fun x v=>v = I (idxF x.1 x.2 0)):=by
 refine comp71.gsca (Tab.nil _) (fun args G s h=>?_) (fun args G x h=>?_)
 ·obtain ⟨v,w,rfl,_⟩:=h;simp
 ·obtain ⟨l,q⟩:=x
  obtain ⟨u,v,rfl,⟨a,n,c,rfl,hl,hn⟩,rfl,_⟩:=h
  dsimp only at hl
  have hlen:=hl.len
  dsimp only
  (conv=>whnf)
  refine LoopP.of { α:=Nat,fr:=fun x=>[(0, .v (.slice a n c)),(1, .v (I q)),(7, .v (I n)),(8, .v (I x))],H:=fun _=>[],ok:=fun i _=>i≤l.length∧idxF (l.drop i) q i = idxF l q 0,m:=fun x=>l.length - x }
   0 (HeadP.of [] ⟨rfl,rfl,rfl,rfl,trivial⟩ trivial) ⟨Nat.zero_le _,rfl⟩ (fun _=>⟨rfl,rfl⟩) (fun (i:Nat) G' hG hx=>W.mk ?_)
  obtain ⟨hi,hx⟩:=hx
  replace hl:=SlR.grow (G:=G) (G':=G') (fun _ _ h=>h) hl hG
  dsimp only
  (conv=>whnf)
  refine IteP.mk (fun hlt=>W.mk ?_) (fun hge=>W.mk ?_)<;>(conv=>whnf)
  ·have hlt:i < l.length:=by omega
   have hc:=hl.el hlt
   rw [List.drop_eq_getElem_cons hlt,idxF] at hx
   repeat' (first | (refine ob ?_ ?_;(first | trivial | omega | (simp only [inR];omega) | exact ble (by rfl) | exact SlR.some ‹_› (by omega));(conv=>whnf)) | (first | (refine ra ‹_› (by rfl) ?_;(conv=>whnf)) | (refine rb ‹_› (by rfl) ?_;(conv=>whnf)) | (refine rc ‹_› (by rfl) ?_;(conv=>whnf)) | (refine rd ‹_› (by rfl) ?_;(conv=>whnf))))
   refine IteP.mk (fun hq=>W.mk ?_) (fun hq=>W.mk ?_)<;>(conv=>whnf)
   ·refine FinP.mk ?_
    rw [if_pos hq] at hx
    show I (i:Int) = I (idxF l q 0);rw [← hx]
   ·(refine ob ?_ ?_;(first | trivial | omega | (simp only [inR];omega) | exact ble (by rfl) | exact SlR.some ‹_› (by omega));(conv=>whnf))
    rw [if_neg hq] at hx
    exact RoundP.of (i + 1) (HeadP.of [] ⟨rfl,rfl,rfl,rfl,trivial⟩ trivial) ⟨hlt,hx⟩ (by simp only;omega)
  ·have:i = l.length:=by omega
   subst this
   rw [List.drop_length] at hx
   refine FinP.mk ?_
   show I (-1) = I (idxF l q 0);rw [← hx];rfl
theorem con46:Sound Try.prog 46 id (gsca (args2 (slRd intE) intRd fun _ _=>True) fun x v=>v = .bool (x.1.contains x.2)):=by
 refine comp46.gsca (Tab.cons 71 _ idx71 body71 (Tab.nil _)) (fun args G s h=>?_) (fun args G x h=>?_)
 ·obtain ⟨v,w,rfl,_⟩:=h;simp
 ·obtain ⟨l,q⟩:=x
  obtain ⟨u,v,rfl,⟨a,n,c,rfl,hl,hn⟩,rfl,_⟩:=h
  dsimp only at hl
  dsimp only
  (conv=>whnf)
  refine ScaP.g (ok2 (slRd intE) intRd fun _ _=>True) (x:=(l,q)) ⟨_,_,rfl,⟨a,n,c,rfl,hl,hn⟩,rfl,trivial⟩ (fun v hv=>W.mk ?_)
  subst hv
  dsimp only
  have hh:=idxF_has l q 0
  (conv=>whnf)
  refine IteP.mk (fun hq=>W.mk ?_) (fun hq=>W.mk ?_)<;>(conv=>whnf)<;>refine FinP.mk ?_<;>refine congrArg Value.bool ?_<;>rw [← hh]<;>simp [hq]

/-! ### A reader before a report -/
abbrev vll (p:Nat→Bool):List Value:=(List.range 60).map fun i=>.bool (p i)
theorem vll_get {p:Nat→Bool} {i:Nat} (h:i < 60):(vll p)[i]? = some (.bool (p i)):=by
 simp [vll,h]
structure Rg where
 r:Rp
 x:Rx
 p:Nat→Bool
abbrev rgl (w o m:Value) (c y:Int) (p:Nat→Bool):List Value:=[w,o,I c,I y,m]++vll p
structure RgC (G:Hp) (w o m:Value) (g:Rg):Prop where
 rp:RpC G w o g.r
 may:SlV intE G m g.x.may
 hi:∀ i,60≤i→g.p i = false
theorem RgC.grow {G G':Hp} (hg:Grow G G') {w o m:Value} {g:Rg} (h:RgC G w o m g):RgC G' w o m g:=⟨h.rp.grow hg,h.may.grow hg,h.hi⟩
def RgV (G:Hp) (v:Value) (g:Rg):Prop:=∃ w o m,v = .agg (rgl w o m g.r.cols g.x.year g.p).toArray∧RgC G w o m g
theorem vll_inj {p q:Nat→Bool} (h:vll p = vll q) (hp:∀ i,60≤i→p i = false) (hq:∀ i,60≤i→q i = false):p = q:=by
 funext i
 by_cases hi:i < 60
 ·have:=congrArg (·[i]?) h
  simp only [vll_get hi,Option.some.injEq,Value.bool.injEq] at this
  exact this
 ·rw [hp i (by omega),hq i (by omega)]
def rgRd:Rd Rg:=⟨RgV,fun {_ _ x y} ⟨w,o,m,h,h1⟩ ⟨w',o',m',h',h1'⟩=>by
  rw [h] at h'
  have h':=congrArg Array.toList (Value.agg.inj h')
  have h':[w,o,I x.r.cols,I x.x.year,m]++vll x.p = [w',o',I y.r.cols,I y.x.year,m']++vll y.p:=h'
  obtain ⟨e1,e2⟩:=List.append_inj h' rfl
  simp only [List.cons.injEq,Value.int.injEq,true_and,and_true] at e1
  obtain ⟨e3,e4,e5,e6,e7⟩:=e1
  subst e3 e4 e7
  have a1:x.r = y.r:=rpRd.uniq ⟨_,_,rfl,h1.rp⟩ ⟨w,o,by rw [e5],h1'.rp⟩
  have a2:x.x = y.x:=rxRd.uniq ⟨_,rfl,h1.may⟩ ⟨m,by rw [e6],h1'.may⟩
  have a3:=vll_inj e2 h1.hi h1'.hi
  cases x;cases y;simp_all,fun hg ⟨w,o,m,h,h1⟩=>⟨w,o,m,h,h1.grow hg⟩⟩
def shutsF (x:Rx) (o:Od):Bool:=!x.may.contains o.k
theorem shuts50:Sound Try.prog 50 id (gsca (args2 rgRd odRd fun _ _=>True) fun p v=>v = .bool (shutsF p.1.x p.2)):=by
 refine comp50.gsca (Tab.cons 46 _ con46 body46 (Tab.nil _)) (fun args G s h=>?_) (fun args G x h=>?_)
 ·obtain ⟨v,w,rfl,_⟩:=h;simp
 ·obtain ⟨g,o⟩:=x
  obtain ⟨u,v,rfl,⟨w,ov,m,rfl,hc⟩,rfl,_⟩:=h
  dsimp only at hc
  dsimp only
  have hm:=hc.may
  obtain ⟨x0,y0,z0,rfl,lws,yws⟩:=id hc.rp.w
  obtain ⟨x1,y1,z1,rfl,los,yos⟩:=id hc.rp.o
  obtain ⟨x2,y2,z2,rfl,lms,yms⟩:=id hc.may
  (conv=>whnf)
  refine ScaP.g (ok2 (slRd intE) intRd fun _ _=>True) (x:=(g.x.may,o.k)) ⟨_,_,rfl,hm,rfl,trivial⟩ (fun v hv=>W.mk ?_)
  subst hv
  dsimp only
  (conv=>whnf)
  refine ForkP.mk (fun hq=>W.mk ?_) (fun hq=>W.mk ?_)<;>(conv=>whnf)<;>refine FinP.mk ?_<;>refine congrArg Value.bool ?_<;>unfold shutsF<;>rw [show g.x.may.contains o.k = _ from hq]<;>rfl
theorem holds68:Sound Try.prog 68 id (gsca (args2 rgRd odRd fun _ _=>True) fun p v=>v = .bool (holdsF p.2 p.1.x)):=by
 refine comp68.gsca (Tab.cons 50 _ shuts50 body50 (Tab.nil _)) (fun args G s h=>?_) (fun args G x h=>?_)
 ·obtain ⟨v,w,rfl,_⟩:=h;simp
 ·obtain ⟨g,o⟩:=x
  obtain ⟨u,v,rfl,⟨w,ov,m,rfl,hc⟩,rfl,_⟩:=h
  dsimp only at hc
  dsimp only
  have hq0:RgV G (.agg (rgl w ov m g.r.cols g.x.year g.p).toArray) g:=⟨_,_,_,rfl,hc⟩
  obtain ⟨x0,y0,z0,rfl,lws,yws⟩:=id hc.rp.w
  obtain ⟨x1,y1,z1,rfl,los,yos⟩:=id hc.rp.o
  obtain ⟨x2,y2,z2,rfl,lms,yms⟩:=id hc.may
  (conv=>whnf)
  refine IteP.mk (fun h1=>W.mk ?_) (fun h1=>W.mk ?_)<;>(conv=>whnf)
  ·have h1:g.x.year < o.u:=h1
   refine ScaP.g (ok2 rgRd odRd fun _ _=>True) (x:=(g,o)) ⟨_,_,rfl,hq0,rfl,trivial⟩ (fun v hv=>W.mk ?_)
   subst hv
   dsimp only
   (conv=>whnf)
   refine ForkP.mk (fun hq=>W.mk ?_) (fun hq=>W.mk ?_)<;>(conv=>whnf)<;>refine FinP.mk ?_<;>refine congrArg Value.bool ?_<;>show _ = (decide (g.x.year < o.u) && shutsF g.x o)<;>rw [show shutsF g.x o = _ from hq,decide_eq_true h1]<;>rfl
  ·have h1:¬ g.x.year < o.u:=h1
   refine FinP.mk ?_
   refine congrArg Value.bool ?_
   show false = (decide (g.x.year < o.u) && shutsF g.x o)
   rw [decide_eq_false h1];rfl
end Go.Proofs.Ytpcpjmplgladmaa

namespace Go.Pal
open Go.ChangeShapes Go.WideShapes Go.ChangeAt Go.RowKit Go.Joins Go.Deep

abbrev hpOf (W:World):Hp:=fun b=>W.heap[b]?
theorem cell_rd {W:World} {b off:Nat} {v:Value} (h:W.cell? ⟨b,off,none⟩ = some v):rd1 (hpOf W) b off = some v:=by
 unfold World.cell? at h
 unfold rd1 hpOf
 cases hg:W.heap[b]? with
 | none=>simp [hg] at h
 | some o=>cases o<;>simp_all
theorem addr_add (b off k:Nat):(⟨b,off,none⟩:Addr).add k = ⟨b,off + k,none⟩:=by
 unfold Addr.add;split
 ·rename_i h;rw [h];rfl
 ·rfl
structure Cd (α:Type) where
 k:Nat
 R:Hp→List Value→α→Prop
 len:∀ {G cs x},R G cs x→cs.length = k
def cdInt (κ:IntKind):Cd Int:=⟨1,fun _ cs x=>cs = [.int κ x]∧inR κ x,fun h=>by rw [h.1];rfl⟩
def cdBool:Cd Bool:=⟨1,fun _ cs x=>cs = [.bool x],fun h=>by rw [h];rfl⟩
def cdStr:Cd ByteArray:=⟨1,fun _ cs x=>cs = [.string x]∧x.size≤maxLen,fun h=>by rw [h.1];rfl⟩
def cdUnit:Cd Unit:=⟨0,fun _ cs _=>cs = [],fun h=>by rw [h];rfl⟩
def cdPair {α β:Type} (A:Cd α) (B:Cd β):Cd (α × β):=⟨A.k + B.k,fun G cs x=>∃ c d,cs = c++d∧A.R G c x.1∧B.R G d x.2,fun ⟨c,d,h,h1,h2⟩=>by rw [h,List.length_append,A.len h1,B.len h2]⟩
def cdSl {α:Type} (A:Cd α):Cd (List α):=⟨1,fun G cs l=>∃ a n c,cs = [.slice a n c]∧SlR A.k A.R G a n c l∧n≤maxLen,fun ⟨_,_,_,h,_⟩=>by rw [h];rfl⟩
def Opens {α:Type} (P:Program) (t:TypeId) (A:Cd α):Prop :=
 P.cellsOf t = A.k∧∀ {H:Type} {enc:TypeId × Value→H} {W:World} {base:Nat} {spare:Nat→Bool} {held:Bool} {fuel:Nat} {cs:List Value} {x:DataW H × List MemPlace},
  DataW.trod enc P W base spare held fuel t cs = some x→∃ y,A.R (hpOf W) cs y
def OpensF {α:Type} (P:Program) (A:Cd α) (fs:List (TypeId × Nat)) (off:Nat):Prop :=
 ∀ {H:Type} {enc:TypeId × Value→H} {W:World} {base:Nat} {spare:Nat→Bool} {held:Bool} {n:Nat} {cs:List Value},
  cs.length = A.k + off→(∀ (i:Nat) (f:TypeId × Nat),fs[i]? = some f→∃ y,DataW.trod enc P W base spare held n f.1 ((cs.drop f.2).take (P.cellsOf f.1)) = some y)→∃ y,A.R (hpOf W) (cs.drop off) y

section
variable {P:Program}
theorem wf_inR {κ:IntKind} {n:Int} (h:(Lit.int κ n).wf = true):inR κ n:=by
 cases κ<;>simp [Lit.wf,IntKind.min,IntKind.max,IntKind.signed,IntKind.bits] at h<;>simp only [inR]<;>omega
theorem Opens.int {t:TypeId} {κ:IntKind} (ht:P.underlying t = some (.int κ)) (hk:P.cellsOf t = 1:=by kernel_rfl):Opens P t (cdInt κ):=⟨hk,fun h=>by
 obtain ⟨n,h1,_,h2⟩:=DataW.trod_int ht h
 exact ⟨n,h1,wf_inR h2⟩⟩
theorem Opens.bool {t:TypeId} (ht:P.underlying t = some .bool) (hk:P.cellsOf t = 1:=by kernel_rfl):Opens P t cdBool:=⟨hk,fun h=>by
 obtain ⟨n,h1,_⟩:=DataW.trod_bool ht h
 exact ⟨n,h1⟩⟩
theorem Opens.str {t:TypeId} (ht:P.underlying t = some .string) (hk:P.cellsOf t = 1:=by kernel_rfl):Opens P t cdStr:=⟨hk,fun h=>by
 obtain ⟨n,h1,_,h2⟩:=DataW.trod_string ht h
 exact ⟨n,h1,h2⟩⟩
theorem OpensF.nil {off:Nat}:OpensF P cdUnit [] off:=fun hl _=>⟨(),by
 have hl:_ = 0 + off:=hl
 show List.drop _ _ = []
 rw [List.drop_of_length_le (by omega)]⟩
theorem OpensF.cons {α β:Type} {A:Cd α} {B:Cd β} {t:TypeId} {fs:List (TypeId × Nat)} {off:Nat} (hA:Opens P t A) (hB:OpensF P B fs (off + A.k)):OpensF P (cdPair A B) ((t,off) :: fs) off:=fun {H enc W base spare held n cs} hl hf=>by
 have hl:cs.length = A.k + B.k + off:=hl
 obtain ⟨y0,h0⟩:=hf 0 (t,off) rfl
 obtain ⟨x,hx⟩:=hA.2 h0
 obtain ⟨y,hy⟩:=hB (cs:=cs) (by omega) (fun i f hi=>hf (i + 1) f (by simpa using hi))
 rw [hA.1] at hx
 exact ⟨(x,y),_,_,by rw [← List.drop_drop,List.take_append_drop],hx,hy⟩
def fieldsT (P:Program) (t:TypeId):Option (List (TypeId × Nat)):=match P.underlying t with
 | some (.struct fs)=>some (fs.toList.map fun f=>(f.type,f.offset))
 | _=>none
theorem Opens.struct {α:Type} {t:TypeId} {A:Cd α} {fs:List (TypeId × Nat)} (hf:fieldsT P t = some fs) (hk:P.cellsOf t = A.k) (hA:OpensF P A fs 0):Opens P t A:=⟨hk,fun {H enc W base spare held fuel cs x} h=>by
 unfold fieldsT at hf
 split at hf
 ·rename_i fs' hu
  cases hf
  obtain ⟨xs,n,_,_,hl,hlen,hat⟩:=DataW.trod_struct hu h
  obtain ⟨y,hy⟩:=hA (cs:=cs) (n:=n) (enc:=enc) (W:=W) (base:=base) (spare:=spare) (held:=held) (by rw [hl,hk];rfl) (fun i f hi=>by
   rw [List.getElem?_map] at hi
   obtain ⟨g,hg,rfl⟩:=Option.map_eq_some_iff.1 hi
   have hg':fs'[i]? = some g:=by simpa using hg
   have hlt:i < fs'.size:=(Array.getElem?_eq_some_iff.1 hg').1
   exact ⟨_,(hat i g hg').trans (List.getElem?_eq_getElem (by omega))⟩)
  exact ⟨y,by simpa using hy⟩
 ·cases hf⟩
theorem Opens.slice {α:Type} {t e:TypeId} {A:Cd α} (ht:P.underlying t = some (.slice e)) (hA:Opens P e A) (h1:1≤A.k) (hk:P.cellsOf t = 1:=by kernel_rfl):Opens P t (cdSl A):=⟨hk,fun {H enc W base spare held fuel cs x} h=>by
 rcases open_slice ht h with h0 | ⟨a,len,cap,m,n,D,Pl,hcs,hb,hl,hm,hmm,hx,hi⟩
 ·exact ⟨[],none,0,0,h0.1,⟨rfl,Nat.le_refl _,fun h=>absurd rfl h,fun i hi=>by simp at hi⟩,Nat.zero_le _⟩
 ·have key:∀ i,i < len→∃ (y:α) (cs:List Value),cs.length = A.k∧(∀ j,j < A.k→W.cell? (a.add (i * A.k + j)) = cs[j]?)∧A.R (hpOf W) cs y:=fun i hil=>by
   have him:i < m:=by rw [hmm];split<;>omega
   obtain ⟨cs',hc,ht'⟩:=hi i him
   rw [hA.1] at hc
   obtain ⟨_,hcl,hat⟩:=World.cells?_some hc
   obtain ⟨y,hy⟩:=hA.2 ht'
   refine ⟨y,cs',hcl,fun j hj=>?_,hy⟩
   rw [← hat j hj,Go.Deep.add_add]
  have all:∀ k,k≤len→∃ l:List α,l.length = k∧∀ i (hi:i < l.length), ∃ cs:List Value,cs.length = A.k∧(∀ j,j < A.k→W.cell? (a.add (i * A.k + j)) = cs[j]?)∧A.R (hpOf W) cs l[i]:=fun k=>by
   induction k with
   | zero=>exact fun _=>⟨[],rfl,fun i hi=>by simp at hi⟩
   | succ k ih =>
    intro hk
    obtain ⟨l,hl1,hl2⟩:=ih (by omega)
    obtain ⟨y,cs,hp⟩:=key k (by omega)
    refine ⟨l++[y],by simp [hl1],fun i hi=>?_⟩
    by_cases h:i < l.length
    ·rw [List.getElem_append_left h];exact hl2 i h
    ·have:i = l.length:=by simp at hi;omega
     subst this
     simp only [List.getElem_concat_length]
     rw [hl1];exact ⟨cs,hp⟩
  obtain ⟨l,hl1,hl2⟩:=all len (Nat.le_refl _)
  by_cases hz:len = 0
  ·exact ⟨[],some a,len,cap,hcs,⟨by rw [hz];rfl,hl,fun h=>absurd hz h,fun i hi=>by simp at hi⟩,by omega⟩
  ·obtain ⟨b,off,spot⟩:=a
   obtain ⟨cs0,hc0,hc1,_⟩:=hl2 0 (by omega)
   have hsp:=World.cell?_spot ((hc1 0 (by omega)).trans (List.getElem?_eq_getElem (by omega)))
   have:spot = none:=by simpa [Addr.add] using hsp
   subst this
   refine ⟨l,some ⟨b,off,none⟩,len,cap,hcs,⟨hl1,hl,fun _=>rfl,fun i hi=>?_⟩,by omega⟩
   obtain ⟨cs,q1,q2,q3⟩:=hl2 i hi
   refine ⟨cs,q1,fun j v hj=>?_,q3⟩
   have hlt:j < A.k:=by have:=(List.getElem?_eq_some_iff.1 hj).1;omega
   have:=(q2 j hlt).trans hj
   rw [addr_add] at this
   have:=cell_rd this
   rwa [← Nat.add_assoc] at this⟩

theorem Opens.two {α:Type} {t e:TypeId} {A:Cd α} (ht:P.underlying t = some (.array 2 e)) (hA:Opens P e A) (hk:P.cellsOf t = 2 * A.k):Opens P t (cdPair A (cdPair A cdUnit)):=⟨by rw [hk];show _ = A.k + (A.k + 0);omega,fun {H enc W base spare held fuel cs x} h=>by
 obtain ⟨xs,m,_,_,hlen,hl,hat⟩:=DataW.trod_array ht h
 rw [hk] at hlen
 simp only [hA.1] at hat
 obtain ⟨y0,h0⟩:=hA.2 ((hat 0 (by omega)).trans (List.getElem?_eq_getElem (by omega)))
 obtain ⟨y1,h1⟩:=hA.2 ((hat 1 (by omega)).trans (List.getElem?_eq_getElem (by omega)))
 refine ⟨(y0,y1,()),cs.take A.k,cs.drop A.k,(List.take_append_drop _ _).symm, ?_,cs.drop A.k,[],(List.append_nil _).symm, ?_,rfl⟩
 ·simpa using h0
 ·have h1:=h1
  rw [Nat.one_mul,List.take_of_length_le (by rw [List.length_drop];omega)] at h1
  exact h1⟩
def VR {α:Type} (A:Cd α) (agg:Bool) (G:Hp) (v:Value) (x:α):Prop:=match agg with
 | true=>∃ cs,v = .agg cs∧A.R G cs.toList x
 | false=>A.R G [v] x
theorem Opens.agg {α:Type} {t:TypeId} {A:Cd α} (hA:Opens P t A) {fs:List (TypeId × Nat)} (hf:fieldsT P t = some fs) {r:Reach} {b0:Nat} {v:Value} {H:Type} {enc:TypeId × Value→H} {W:World} {base:Nat} {spare:Nat→Bool} {held:Bool} {d:DataW H} {p:List MemPlace}
  (hv:Value.okWide P W r b0 t v) (h:DataW.Trod enc P W base spare held t v d p):∃ x,VR A true (hpOf W) v x:=by
 unfold fieldsT at hf
 split at hf
 ·rename_i fs' hu
  obtain ⟨cs,rfl,hsz⟩:=okWide_struct hu hv
  obtain ⟨fuel,hf⟩:=h
  obtain ⟨y,hy⟩:=hA.2 hf
  exact ⟨y,cs,rfl,hy⟩
 ·cases hf
def plainT (P:Program) (t:TypeId):Bool:=match P.underlying t with
 | some (.int _)=>true
 | some .bool=>true
 | some .string=>true
 | some (.slice _)=>true
 | _=>false
theorem Opens.one {α:Type} {t:TypeId} {A:Cd α} (hA:Opens P t A) (hp:plainT P t = true) {r:Reach} {b0:Nat} {v:Value} {H:Type} {enc:TypeId × Value→H} {W:World} {base:Nat} {spare:Nat→Bool} {held:Bool} {d:DataW H} {p:List MemPlace}
  (hv:Value.okWide P W r b0 t v) (h:DataW.Trod enc P W base spare held t v d p):∃ x,VR A false (hpOf W) v x:=by
 obtain ⟨fuel,hf⟩:=h
 have hc:v.cells.toList = [v]:=by
  unfold plainT at hp
  split at hp
  ·rename_i hu;obtain ⟨n,rfl⟩:=okWide_int hu hv;rfl
  ·rename_i hu;obtain ⟨n,rfl⟩:=okWide_bool hu hv;rfl
  ·rename_i hu;obtain ⟨n,rfl⟩:=okWide_string hu hv;rfl
  ·rename_i hu;obtain ⟨a,n,c,rfl⟩:=okWide_slice hu hv;rfl
  ·cases hp
 rw [hc] at hf
 exact hA.2 hf
end

/-! ### The frame of a row -/

theorem trodAll_stays {H:Type} {enc:TypeId × Value→H} {P:Program} (hl:laidOutB P = true) {W W':World} (hb:Below W.heap.size W W'):∀ {ts:List TypeId} {vs:List Value} {ds:List (DataW H)} {p:List MemPlace},
  (ts.all fun t=>P.readableRec t && Nat.blt t P.types.size) = true→DataW.TrodAll enc P W 0 (fun _=>true) true ts vs ds p→DataW.TrodAll enc P W' 0 (fun b=>decide (b < W.heap.size)) true ts vs ds p
 | [],vs,ds,p,_,h=>by
  obtain ⟨rfl,rfl,rfl⟩:=trodAll_nil h
  exact trodAll_mk0
 | t :: ts,vs,ds,p,ht,h=>by
  obtain ⟨v,vs',d,ds',p0,q0,rfl,rfl,rfl,h0,r0⟩:=trodAll_cons h
  simp only [List.all_cons,Bool.and_eq_true] at ht
  have lt0:∀ x∈p0,x.block < W.heap.size:=by obtain ⟨m,hm⟩:=h0;exact DataW.trod_lt m _ _ _ hm
  exact trodAll_cons_mk (Below.trod hl ht.1.1 (by simpa [Nat.blt_eq] using ht.1.2) h0 hb lt0) (trodAll_stays hl hb ht.2 r0)
theorem trodAll_dlen {H:Type} {enc:TypeId × Value→H} {P:Program} {W:World} {base:Nat} {spare:Nat→Bool} {held:Bool}:∀ {ts:List TypeId} {vs:List Value} {ds:List (DataW H)} {p:List MemPlace},DataW.TrodAll enc P W base spare held ts vs ds p→ds.length = ts.length
 | [],vs,ds,p,h=>by obtain ⟨_,rfl,_⟩:=trodAll_nil h;rfl
 | t :: ts,vs,ds,p,h=>by
  obtain ⟨v,vs',d,ds',p0,q0,rfl,rfl,rfl,h0,r0⟩:=trodAll_cons h
  simp [trodAll_dlen r0]

theorem law_lifted {C:Checked} {f:FuncId} {fn:Func} {spec:ChangeSpec} {ts:List TypeId} {tb:TypeId} {apart:Bool} {conds:List PathCond} (own:ownKnob C.prog.godebug = none) (noInit:C.prog.inits.idxOf? f = none) (hfn:C.prog.funcs[f]? = some fn) (laid:laidOutB C.prog = true)
  (hp:fn.params.toList = ts) (hr:fn.resultTypes = #[tb]) (ub:C.prog.underlying tb = some .bool) (hread:(ts.all fun t=>C.prog.readableRec t && Nat.blt t C.prog.types.size) = true)
  (hvars:spec.vars = []) (hspec:∀ (H:Type) (ds:List (DataW H)),ds.length = ts.length→spec.fn H ds = { results:=[.lit (.bool true)],args:=ds })
  (hlaw:∀ {H:Type} {enc:TypeId × Value→H} (W:World) (b0:Nat) (args:Array Value) (ds:List (DataW H)) (p:List MemPlace),(∀ (j:Nat) t v,ts[j]? = some t→args[j]? = some v→Value.okWide C.prog W .any b0 t v)→DataW.TrodAll enc C.prog W 0 (fun _=>true) true ts args.toList ds p →
   Calls C.prog f args W fun e W'=>e = .returned (.bool true)∧Below W.heap.size W W')
  {H:Type} {enc:TypeId × Value→H} (os:Os) (started:os.Started)
  (witness:∃ (w:World) (tape:Tape) (i:Input),w.os = os∧(w.forCall tape i).Shaped C.prog∧i.vars = []∧Input.okWide C.prog (w.forCall tape i) .any w.heap.size f i ∧
   spec.pre6 enc C.prog fn conds apart (w.forCall tape i).memory i.args∧({}:Assume).holds C.prog (lone (Frame.enter C.prog f i.args .normal) [] (w.forCall tape i))) :
  ReturnsInHanded {} C os f .any (spec.pre6 enc C.prog fn conds apart) (spec.post enc C.prog fn apart true false false):=by
 refine returnsInHanded_of_change own started noInit hfn witness ?_
 intro W base args ds gs before hval0 hW hcnd _
 have hW':=hW
 obtain ⟨p,q,hA,hV,rfl,hfz,hnd⟩:=hW
 rw [hp] at hA
 rw [hvars] at hV
 obtain ⟨rfl,rfl⟩:=trodVars_none hV
 have hval:∀ (j:Nat) t v,ts[j]? = some t→args[j]? = some v→Value.okWide C.prog W .any base t v:=fun j t v e1 e2=>hval0 j t v (by rw [← hp] at e1;simpa using e1) e2
 refine (hlaw W base args ds p hval hA).mono fun e W' ⟨he,bel⟩=>?_
 subst he
 have hs:=hspec H (ds++[]) (by simpa using trodAll_dlen hA)
 refine ⟨_,rfl,ds,[],_,[],p,[],hW', ?_, ?_, ?_,bel.frame _,fun h=>by cases h⟩
 ·rw [hs,hr]
  exact trodAll_mk1 (shut_bool ub _)
 ·rw [hs,hp,List.append_nil]
  exact trodAll_stays laid bel hread hA
 ·rw [hs,hvars];rfl
end Go.Pal

namespace Go.Pal
open Go.RowKit
def joinL (G:Hp):List LE→Hp
 | [],b=>G b
 | x :: r,b=>cond (Nat.beq b x.b) (some x.lb.obj) (joinL G r b)
theorem joinL_sub {G:Hp} {W:World} (h:Sub G W):∀ {ls:List LE},(∀ x∈ls,W.heap[x.b]? = some x.lb.obj)→Sub (joinL G ls) W
 | [],_=>h
 | x :: r,hl=>fun b o e=>by
  simp only [joinL] at e
  cases hb:Nat.beq b x.b with
  | true =>
   rw [hb] at e
   have:=Nat.eq_of_beq_eq_true hb
   subst this
   cases e
   exact hl x (by simp)
  | false=>rw [hb] at e;exact joinL_sub h (fun y hy=>hl y (by simp [hy])) b o e
theorem lentTo_ro {W:World}:∀ {ls:List LE},(∀ x∈ls,x.w = false)→LentTo W ls []
 | [],_=>rfl
 | x :: r,h=>by
  have:=h x (by simp)
  simp only [LentTo,this]
  exact lentTo_ro (fun y hy=>h y (by simp [hy]))
theorem below_beneath {W W':World} {m:Nat→Prop} (h:Below W.heap.size W W'):Beneath ⟨W,m,[]⟩ W':=⟨h.os,h.tape,h.output,h.size,fun k hk _=>h.block k hk⟩
theorem Sound.lendS {P:Program} {f:FuncId} {sh:List Value→List Value} {pre:List Value→Hp→Prop} {post:List Value→Hp→Value→Prop} (h:Sound P f sh (.sca pre post)) (Q:Value→Prop) :
  Sound P f sh (.st (fun args ls G=>(∀ x∈ls,x.w = false)∧((∀ x∈ls,G x.b = none)→pre args (joinL G ls)∧∀ v,post args (joinL G ls) v→Q v)) (fun _ _ v ns _=>ns = []∧Q v)):=by
 refine ⟨fun _ _ _ _ _ _ _ h=>h,fun args ls G W hs hl _ hp=>?_⟩
 replace hp:=And.intro hp.1 (hp.2 fun x hx=>(hl x hx).2.1)
 refine (h args (joinL G ls) W (joinL_sub hs fun x hx=>(hl x hx).1) hp.2.1).mono ?_
 rintro e W' ⟨v,rfl,hv,hB⟩
 exact ⟨v,[],G,rfl,⟨rfl,hp.2.2 v hv⟩,lentTo_ro hp.1,Grow.refl _,fun b o e=>by
  have h1:=hs b o e
  rw [hB.block b (Array.getElem?_eq_some_iff.1 h1).1];exact h1,fun b o e=>.inl e,below_beneath hB⟩
theorem monoT_nil {tab:FuncId→Option PSpec}:MonoT tab []:=fun f s h=>by cases h
end Go.Pal

namespace Go.Proofs.Ytpcpjmplgladmaa
open Go.Pal
set_option maxRecDepth 100000
theorem den_set_eq {P:Program} {hid:Nat} {Gr G:Hp} {K:SV→List (Nat × Option OB)→Hp→Prop} {h:Nat} {s:Nm} {cs cs':List S1} {t:TypeId} {sv:SV} (e:cs = cs') (hk:Res.den P hid Gr G K (.set h (.cells s cs' t) sv)):Res.den P hid Gr G K (.set h (.cells s cs t) sv):=by
 subst e;exact hk
theorem toValsH_map (H:Nat→Option OB):∀ vs:List Value,toValsH H (vs.map .val) = some vs
 | []=>rfl
 | v :: vs=>by simp only [List.map_cons,toValsH,S1.toValH,toValsH_map H vs]
theorem vll_set {ps:List Value} {p:Nat→Bool} {off k:Nat} (ho:off = ps.length + k) (hk:k < 60) :
  (((ps++vll p).map S1.val).take off++[S1.val (.bool true)]++((ps++vll p).map S1.val).drop (off + 1)) = (ps++vll (fun j=>p j || decide (j = k))).map S1.val:=by
 subst ho
 have e:∀ l:List S1,k < 60→l.length = ps.length + 60→l.take (ps.length + k)++[S1.val (.bool true)]++l.drop (ps.length + k + 1) = l.set (ps.length + k) (S1.val (.bool true)):=fun l h1 h2=>by
  rw [List.set_eq_take_append_cons_drop,if_pos (by omega)]
  simp
 rw [e _ hk (by simp)]
 apply List.ext_getElem?
 intro i
 rw [List.getElem?_set]
 split
 ·rename_i hi
  subst hi
  rw [if_pos (by simp;omega)]
  rw [List.getElem?_map,List.getElem?_append_right (by omega),Nat.add_sub_cancel_left,vll_get hk]
  simp
 ·rename_i hi
  rw [List.getElem?_map,List.getElem?_map]
  by_cases hlt:i < ps.length
  ·rw [List.getElem?_append_left hlt,List.getElem?_append_left hlt]
  ·rw [List.getElem?_append_right (by omega),List.getElem?_append_right (by omega)]
   by_cases h60:i - ps.length < 60
   ·rw [vll_get h60,vll_get h60,decide_eq_false (by omega:¬ i - ps.length = k),Bool.or_false]
   ·rw [List.getElem?_eq_none (by simp;omega),List.getElem?_eq_none (by simp;omega)]
def hideF (p:Nat→Bool) (o:Od):Nat→Bool:=fun i=>p i || (decide (o.f≤(i:Int)) && decide ((i:Int) < o.t))
abbrev odV (o:Od):Value:=.agg #[I o.f,I o.t,I o.k,I o.u]
theorem hideF_none (p:Nat→Bool) (f k u:Int):hideF p ⟨f,f + ((0:Nat):Int),k,u⟩ = p:=by
 funext i
 simp only [hideF]
 have:(decide (f≤(i:Int)) && decide ((i:Int) < f + ((0:Nat):Int))) = false:=by
  simp only [Bool.and_eq_false_iff,decide_eq_false_iff_not];omega
 rw [this,Bool.or_false]
theorem hideF_step (p:Nat→Bool) (f k u:Int) (x n:Nat) (hn:(n:Int) = f + x) (h0:0≤f):(fun j=>hideF p ⟨f,f + x,k,u⟩ j || decide (j = n)) = hideF p ⟨f,f + ((x + 1:Nat):Int),k,u⟩:=by
 funext i
 simp only [hideF,Bool.or_assoc]
 congr 1
 rw [Bool.eq_iff_iff]
 simp only [Bool.or_eq_true,Bool.and_eq_true,decide_eq_true_eq]
 omega
theorem hide69 (w0 w1 w2 w3 w4:Value) (t:TypeId) (b:Nat) (p:Nat→Bool) (o:Od) (h0:0≤o.f) (hft:o.f≤o.t) (h60:o.t≤60):Sound Try.prog 69 id (.st (fun args ls _=>args = [.pointer (some ⟨b,5,none⟩),odV o]∧ls = [⟨b,true, .cells ([w0,w1,w2,w3,w4]++vll p) t⟩]) (fun _ _ v ns _=>v = .tuple #[]∧ns = [.cells ([w0,w1,w2,w3,w4]++vll (hideF p o)) t])):=by
 refine ⟨fun args ls v ns G G' hg h=>h,fun args ls G Wd hsub hls hnd hpre=>?_⟩
 obtain ⟨rfl,rfl⟩:=hpre
 refine st_sound (Tab.nil _) comp69 (svs:=[.c (.ptr 0 5), .v (odV o)]) (obs:=[.cells (.named b) (([w0,w1,w2,w3,w4]++vll p).map .val) t]) (by simp) hsub hls hnd (Nat.le_of_ble_eq_true rfl) ?_ ?_ ?_
 ·exact ⟨⟨b,rfl,rfl⟩,(Nat.le_of_ble_eq_true rfl:0 < 1),rfl,trivial,trivial⟩
 ·exact ⟨⟨_,rfl,relL_vals _ _,fun c hc=>by obtain ⟨v,_,rfl⟩:=List.mem_map.1 hc;trivial⟩,trivial⟩
 ·(conv=>whnf)
  refine LoopP.of { α:=Nat,fr:=fun x=>[(0, .c (.ptr 0 5)),(3, .c (.ptr 1 0)),(4, .v (I (o.f + x)))],H:=fun x=>[(0, .cells (.named b) (([w0,w1,w2,w3,w4]++vll (hideF p ⟨o.f,o.f + x,o.k,o.u⟩)).map .val) t),(1, .cells .anon [.val (I o.f), .val (I o.t), .val (I o.k), .val (I o.u)] 65)],ok:=fun x _=>o.f + x≤o.t,m:=fun x=>(o.t - o.f).toNat - x }
   0 (HeadP.of [] ⟨rfl,rfl,(by show (_:SV) = SV.c (S1.val (I o.f));simp),trivial⟩ ⟨(by
    rw [hideF_none];rfl),rfl,trivial⟩) (by simpa using hft) (fun _=>⟨rfl,rfl⟩) (fun (x:Nat) G' hG hx=>W.mk ?_)
  have hx:o.f + x≤o.t:=hx
  dsimp only
  (conv=>whnf)
  refine IteP.mk (fun hlt=>W.mk ?_) (fun hge=>W.mk ?_)<;>(conv=>whnf)
  ·have hlt:o.f + x < o.t:=hlt
   obtain ⟨n,hn⟩:∃ n:Nat,(n:Int) = o.f + x:=⟨(o.f + x).toNat,by omega⟩
   rw [← hn]
   have hn60:n < 60:=by omega
   refine OblP.mk (by omega) (W.mk ?_);(conv=>whnf)
   refine OblP.mk (by show 5 + (n:Int).toNat * 1 + 1≤List.length _;simp;omega) (W.mk ?_)
   refine den_set_eq (vll_set (ps:=[w0,w1,w2,w3,w4]) (p:=hideF p ⟨o.f,(n:Int),o.k,o.u⟩) (off:=5 + (n:Int).toNat * 1) (k:=n) (by simp) hn60) ?_
   have hst:(fun j=>hideF p ⟨o.f,(n:Int),o.k,o.u⟩ j || decide (j = n)) = hideF p ⟨o.f,o.f + ((x + 1:Nat):Int),o.k,o.u⟩:=by
    rw [hn];exact hideF_step p o.f o.k o.u x n hn h0
   rw [hst]
   (conv=>whnf)
   refine OblP.mk (by simp only [inR];omega) (W.mk ?_);(conv=>whnf)
   refine RoundP.of (x + 1) (HeadP.of [] ⟨rfl,rfl,(by show (_:SV) = _;congr 3;omega),trivial⟩ ⟨rfl,rfl,trivial⟩) (by show o.f + ((x + 1:Nat):Int)≤o.t;omega) (by simp only;omega)
  ·have hge:¬ o.f + x < o.t:=hge
   have he:o.t = o.f + x:=by omega
   refine FinS.mk ⟨[.cells ([w0,w1,w2,w3,w4]++vll (hideF p ⟨o.f,o.f + x,o.k,o.u⟩)) t],⟨.cells ([w0,w1,w2,w3,w4]++vll (hideF p ⟨o.f,o.f + x,o.k,o.u⟩)) t,⟨_,rfl,rfl⟩,trivial,[],rfl,rfl⟩,rfl, ?_⟩
   rw [← he]
theorem hide69n (t:TypeId) (b:Nat) (p:Nat→Bool) (o:Od) (h0:0≤o.f) (hft:o.f≤o.t) (h60:o.t≤60):Sound Try.prog 69 id (.st (fun args ls _=>args = [.pointer (some ⟨b,0,none⟩),odV o]∧ls = [⟨b,true, .cells (([]:List Value)++vll p) t⟩]) (fun _ _ v ns _=>v = .tuple #[]∧ns = [.cells (([]:List Value)++vll (hideF p o)) t])):=by
 refine ⟨fun args ls v ns G G' hg h=>h,fun args ls G Wd hsub hls hnd hpre=>?_⟩
 obtain ⟨rfl,rfl⟩:=hpre
 refine st_sound (Tab.nil _) comp69 (svs:=[.c (.ptr 0 0), .v (odV o)]) (obs:=[.cells (.named b) ((([]:List Value)++vll p).map .val) t]) (by simp) hsub hls hnd (Nat.le_of_ble_eq_true rfl) ?_ ?_ ?_
 ·exact ⟨⟨b,rfl,rfl⟩,(Nat.le_of_ble_eq_true rfl:0 < 1),rfl,trivial,trivial⟩
 ·exact ⟨⟨_,rfl,relL_vals _ _,fun c hc=>by obtain ⟨v,_,rfl⟩:=List.mem_map.1 hc;trivial⟩,trivial⟩
 ·(conv=>whnf)
  refine LoopP.of { α:=Nat,fr:=fun x=>[(0, .c (.ptr 0 0)),(3, .c (.ptr 1 0)),(4, .v (I (o.f + x)))],H:=fun x=>[(0, .cells (.named b) ((([]:List Value)++vll (hideF p ⟨o.f,o.f + x,o.k,o.u⟩)).map .val) t),(1, .cells .anon [.val (I o.f), .val (I o.t), .val (I o.k), .val (I o.u)] 65)],ok:=fun x _=>o.f + x≤o.t,m:=fun x=>(o.t - o.f).toNat - x }
   0 (HeadP.of [] ⟨rfl,rfl,(by show (_:SV) = SV.c (S1.val (I o.f));simp),trivial⟩ ⟨(by
    rw [hideF_none];rfl),rfl,trivial⟩) (by simpa using hft) (fun _=>⟨rfl,rfl⟩) (fun (x:Nat) G' hG hx=>W.mk ?_)
  have hx:o.f + x≤o.t:=hx
  dsimp only
  (conv=>whnf)
  refine IteP.mk (fun hlt=>W.mk ?_) (fun hge=>W.mk ?_)<;>(conv=>whnf)
  ·have hlt:o.f + x < o.t:=hlt
   obtain ⟨n,hn⟩:∃ n:Nat,(n:Int) = o.f + x:=⟨(o.f + x).toNat,by omega⟩
   rw [← hn]
   have hn60:n < 60:=by omega
   refine OblP.mk (by omega) (W.mk ?_);(conv=>whnf)
   refine OblP.mk (by show 0 + (n:Int).toNat * 1 + 1≤List.length _;simp;omega) (W.mk ?_)
   refine den_set_eq (vll_set (ps:=([]:List Value)) (p:=hideF p ⟨o.f,(n:Int),o.k,o.u⟩) (off:=0 + (n:Int).toNat * 1) (k:=n) (by simp) hn60) ?_
   have hst:(fun j=>hideF p ⟨o.f,(n:Int),o.k,o.u⟩ j || decide (j = n)) = hideF p ⟨o.f,o.f + ((x + 1:Nat):Int),o.k,o.u⟩:=by
    rw [hn];exact hideF_step p o.f o.k o.u x n hn h0
   rw [hst]
   (conv=>whnf)
   refine OblP.mk (by simp only [inR];omega) (W.mk ?_);(conv=>whnf)
   refine RoundP.of (x + 1) (HeadP.of [] ⟨rfl,rfl,(by show (_:SV) = _;congr 3;omega),trivial⟩ ⟨rfl,rfl,trivial⟩) (by show o.f + ((x + 1:Nat):Int)≤o.t;omega) (by simp only;omega)
  ·have hge:¬ o.f + x < o.t:=hge
   have he:o.t = o.f + x:=by omega
   refine FinS.mk ⟨[.cells (([]:List Value)++vll (hideF p ⟨o.f,o.f + x,o.k,o.u⟩)) t],⟨.cells (([]:List Value)++vll (hideF p ⟨o.f,o.f + x,o.k,o.u⟩)) t,⟨_,rfl,rfl⟩,trivial,[],rfl,rfl⟩,rfl, ?_⟩
   rw [← he]
end Go.Proofs.Ytpcpjmplgladmaa

namespace Go.Proofs.Ytpcpjmplgladmaa
open Go.Pal
set_option maxRecDepth 100000
abbrev bptr (b:Nat):Value:=.pointer (some ⟨b,0,none⟩)
def TestS {α:Type} (val:α→Value) (p:α→Bool) (q:α→Prop) (J:Hp→Prop) (ls:List LE):PSpec :=
 .st (fun args l G=>l = ls∧J G∧∃ x,args = [val x]∧q x) (fun args l v ns _=>ns = []∧∃ x,args = [val x]∧v = .bool (p x))
def AllS {α:Type} (e:El α) (right:Value) (r:List α→Value) (q:α→Prop) (J:Hp→Prop) (ls:List LE):PSpec :=
 .st (fun args l G=>l = ls∧J G∧∃ w xs,args = [w,right]∧SlV e G w xs∧∀ x∈xs,q x) (fun args l v ns G=>ns = []∧∃ w xs,args = [w,right]∧SlV e G w xs∧v = r xs)
def idxP {α:Type} (p:α→Bool) (l:List α) (k:Nat):Int:=match l with
 | []=>-1
 | r :: t=>if p r then idxP p t (k + 1) else (k:Int)
theorem idxP_all {α:Type} (p:α→Bool):∀ (l:List α) (k:Nat),decide (0≤idxP p l k) = !(l.all p)
 | [],k=>rfl
 | r :: t,k=>by
  unfold idxP
  cases hf:p r with
  | true=>simp only [if_true,List.all_cons,hf,Bool.true_and];exact idxP_all p t _
  | false=>simp [hf]
abbrev U (n:Int):Value:=.int .u8 n
def u8E:El Int:=⟨1,fun p=>[U p],fun {x y} h=>by simp at h;exact h,fun _=>rfl,fun _ v hv=>by simp at hv;rw [hv];rfl⟩
def wdhE:El (ByteArray × Option Addr × Nat × Nat):=⟨2,fun p=>[.string p.1, .slice p.2.1 p.2.2.1 p.2.2.2],fun {x y} h=>by obtain ⟨_,_,_,_⟩:=x;obtain ⟨_,_,_,_⟩:=y;simp at h;simp [h],fun _=>rfl,fun _ v hv=>by simp at hv;rcases hv with rfl | rfl<;>rfl⟩
theorem at0 {P:Program} {f:FuncId} {ic:IC} {rs:List IRes} {nt:Nat} (h:Comp P f ic rs nt):CompAt P f 0 ic rs nt:=⟨h.ex⟩

/-! ### 56 -/
theorem inj56:∀ x y:(ByteArray × Option Addr × Nat × Nat),((fun x:ByteArray × Option Addr × Nat × Nat=>Value.agg #[.string x.1, .slice x.2.1 x.2.2.1 x.2.2.2])) x = ((fun x:ByteArray × Option Addr × Nat × Nat=>Value.agg #[.string x.1, .slice x.2.1 x.2.2.1 x.2.2.2])) y→x = y:=fun x y h=>by obtain ⟨_,_,_,_⟩:=x;obtain ⟨_,_,_,_⟩:=y;simp at h;simp [h]
theorem not77 (g:FuncId) (fi ca:Array Value) (p:(ByteArray × Option Addr × Nat × Nat)→Bool) (q:(ByteArray × Option Addr × Nat × Nat)→Prop) (J:Hp→Prop) (b:Nat) (hr:SoundFn Try.prog (.func (.func g) fi ca) (TestS (fun x:ByteArray × Option Addr × Nat × Nat=>Value.agg #[.string x.1, .slice x.2.1 x.2.2.1 x.2.2.2]) p q J [])):Sound Try.prog 77 (fun a=>(#[]:Array Value).toList++a++(#[bptr b]:Array Value).toList) (TestS (fun x:ByteArray × Option Addr × Nat × Nat=>Value.agg #[.string x.1, .slice x.2.1 x.2.2.1 x.2.2.2]) (fun x=>!p x) q J [⟨b,false, .cells [.func (.func g) fi ca] 116⟩]):=by
 refine ⟨fun args ls v ns G G' hg h=>h,fun args ls G Wd hsub hls hnd hpre=>?_⟩
 obtain ⟨rfl,hj,x,rfl,hx⟩:=hpre
 refine st_sound (Tab.nil _) comp77 (svs:=[.agg [.val (.string x.1), .val (.slice x.2.1 x.2.2.1 x.2.2.2)], .c (.ptr 0 0)]) (obs:=[.cells (.named b) [.val (.func (.func g) fi ca)] 116]) (by simp) hsub hls hnd (Nat.le_of_ble_eq_true rfl) ?_ ?_ ?_
 ·exact ⟨⟨[.string x.1, .slice x.2.1 x.2.2.1 x.2.2.2],rfl,relL_vals _ [.string x.1, .slice x.2.1 x.2.2.1 x.2.2.2]⟩,(by intro c hc;simp at hc;rcases hc with rfl | rfl<;>trivial),⟨_,rfl,rfl⟩,(Nat.le_of_ble_eq_true rfl:0 < 1),trivial⟩
 ·exact ⟨⟨_,rfl,relL_vals _ [.func (.func g) fi ca],(by intro c hc;simp at hc;subst hc;trivial)⟩,trivial⟩
 ·(conv=>whnf)
  refine CallvP.fn _ hr (W.mk ?_)
  (conv=>whnf)
  refine StP.mk ⟨[],trivial,(by show ([]:List Nat).Nodup;decide),⟨rfl,hj,x,rfl,hx⟩,fun v ns G3 hg3 hpost=>W.mk ?_⟩
  obtain ⟨rfl,y,q1,rfl⟩:=hpost
  have hxy:=inj56 x y (List.cons.inj q1).1
  subst hxy
  (conv=>whnf)
  refine ForkP.mk (fun hm=>W.mk ?_) (fun hm=>W.mk ?_)<;>(conv=>whnf)<;>refine FinS.mk ⟨[],⟨.cells [.func (.func g) fi ca] 116,⟨_,rfl,rfl⟩,trivial,rfl,rfl⟩,rfl,x,rfl, ?_⟩<;>(show Value.bool _ = Value.bool (!p x);rw [hm];rfl)
theorem idx85 (g:FuncId) (fi ca:Array Value) (p:(ByteArray × Option Addr × Nat × Nat)→Bool) (q:(ByteArray × Option Addr × Nat × Nat)→Prop) (J:Hp→Prop) (b:Nat) (hJ:∀ G G',Grow G G'→J G→J G') (hr:SoundFn Try.prog (.func (.func g) fi ca) (TestS (fun x:ByteArray × Option Addr × Nat × Nat=>Value.agg #[.string x.1, .slice x.2.1 x.2.2.1 x.2.2.2]) p q J [])):Sound Try.prog 85 id (AllS wdhE (.func (.func 77) #[] #[bptr b]) (fun xs=>I (idxP p xs 0)) q J [⟨b,false, .cells [.func (.func g) fi ca] 116⟩]):=by
 refine ⟨fun args ls v ns G G' hg h=>?_,fun args ls G Wd hsub hls hnd hpre=>?_⟩
 ·obtain ⟨h0,w,xs,h1,h2,h3⟩:=h;exact ⟨h0,w,xs,h1,h2.grow hg,h3⟩
 obtain ⟨rfl,hj,w,l,rfl,⟨a,n,c,rfl,hl,hn⟩,hq⟩:=hpre
 refine st_sound (Tab.nil _) comp85 (svs:=[.v (.slice a n c), .v (.func (.func 77) #[] #[bptr b])]) (obs:=[.cells (.named b) [.val (.func (.func g) fi ca)] 116]) (by simp) hsub hls hnd (Nat.le_of_ble_eq_true rfl) ?_ ?_ ?_
 ·exact ⟨rfl,trivial,rfl,trivial,trivial⟩
 ·exact ⟨⟨_,rfl,relL_vals _ [.func (.func g) fi ca],(by intro c hc;simp at hc;subst hc;trivial)⟩,trivial⟩
 ·have hlen:=hl.len
  (conv=>whnf)
  refine LoopP.of { α:=Nat,fr:=fun x=>[(0, .v (.slice a n c)),(1, .v (.func (.func 77) #[] #[bptr b])),(7, .v (I n)),(8, .v (I x))],H:=fun _=>[(0, .cells (.named b) [.val (.func (.func g) fi ca)] 116)],ok:=fun i _=>i≤l.length∧idxP p (l.drop i) i = idxP p l 0,m:=fun x=>l.length - x }
   0 (HeadP.of [] ⟨rfl,rfl,rfl,rfl,trivial⟩ ⟨rfl,trivial⟩) ⟨Nat.zero_le _,rfl⟩ (fun _=>⟨rfl,rfl⟩) (fun (i:Nat) G' hG hx=>W.mk ?_)
  obtain ⟨hi,hx⟩:=hx
  replace hl:=SlR.grow (G:=G) (G':=G') (fun _ _ h=>h) hl hG
  replace hj:=hJ _ _ hG hj
  (conv=>whnf)
  refine IteP.mk (fun hlt=>W.mk ?_) (fun hge=>W.mk ?_)<;>(conv=>whnf)
  ·have hlt:i < l.length:=by omega
   have hc:=hl.el hlt
   have hqi:=hq _ (List.getElem_mem hlt)
   rw [List.drop_eq_getElem_cons hlt,idxP] at hx
   repeat' (first | (refine ob ?_ ?_;(first | trivial | omega | (simp only [inR];omega) | exact ble (by rfl) | exact SlR.some ‹_› (by omega));(conv=>whnf)) | (first | (refine ra ‹_› (by rfl) ?_;(conv=>whnf)) | (refine rb ‹_› (by rfl) ?_;(conv=>whnf)) | (refine rc ‹_› (by rfl) ?_;(conv=>whnf)) | (refine rd ‹_› (by rfl) ?_;(conv=>whnf))))
   refine CallvP.fn _ (SoundFn.of body77 (not77 g fi ca p q J b hr)) (W.mk ?_)
   (conv=>whnf)
   refine StP.mk ⟨[(0,⟨b,false, .cells [.func (.func g) fi ca] 116⟩)],⟨⟨_,rfl,rfl⟩,trivial⟩,(by show ([0]:List Nat).Nodup;decide),⟨rfl,hj,l[i],rfl,hqi⟩,fun v ns G3 hg3 hpost=>W.mk ?_⟩
   obtain ⟨rfl,y,q1,rfl⟩:=hpost
   have hxy:=inj56 _ y (List.cons.inj q1).1
   subst hxy
   (conv=>whnf)
   refine ForkP.mk (fun hm=>W.mk ?_) (fun hm=>W.mk ?_)<;>(conv=>whnf)
   ·refine FinS.mk ⟨[],⟨.cells [.func (.func g) fi ca] 116,⟨_,rfl,rfl⟩,trivial,rfl,rfl⟩,rfl,_,l,rfl,⟨a,n,c,rfl,SlR.grow (G:=G') (G':=G3) (fun _ _ h=>h) hl hg3,hn⟩, ?_⟩
    rw [if_neg (by simpa using hm)] at hx
    show I (i:Int) = I (idxP p l 0);rw [← hx]
   ·(refine ob ?_ ?_;(first | trivial | omega | (simp only [inR];omega) | exact ble (by rfl) | exact SlR.some ‹_› (by omega));(conv=>whnf))
    rw [if_pos (by simpa using hm)] at hx
    exact RoundP.of (i + 1) (HeadP.of [] ⟨rfl,rfl,rfl,rfl,trivial⟩ ⟨rfl,trivial⟩) ⟨hlt,hx⟩ (by simp only;omega)
  ·have:i = l.length:=by omega
   subst this
   rw [List.drop_length] at hx
   refine FinS.mk ⟨[],⟨.cells [.func (.func g) fi ca] 116,⟨_,rfl,rfl⟩,trivial,rfl,rfl⟩,rfl,_,l,rfl,⟨a,n,c,rfl,hl,hn⟩, ?_⟩
   show I (-1) = I (idxP p l 0);rw [← hx];rfl
theorem con76 (g:FuncId) (fi ca:Array Value) (p:(ByteArray × Option Addr × Nat × Nat)→Bool) (q:(ByteArray × Option Addr × Nat × Nat)→Prop) (J:Hp→Prop) (b:Nat) (hJ:∀ G G',Grow G G'→J G→J G') (hr:SoundFn Try.prog (.func (.func g) fi ca) (TestS (fun x:ByteArray × Option Addr × Nat × Nat=>Value.agg #[.string x.1, .slice x.2.1 x.2.2.1 x.2.2.2]) p q J [])):Sound Try.prog 76 id (AllS wdhE (.func (.func 77) #[] #[bptr b]) (fun xs=>.bool (!(xs.all p))) q J [⟨b,false, .cells [.func (.func g) fi ca] 116⟩]):=by
 refine ⟨fun args ls v ns G G' hg h=>?_,fun args ls G Wd hsub hls hnd hpre=>?_⟩
 ·obtain ⟨h0,w,xs,h1,h2,h3⟩:=h;exact ⟨h0,w,xs,h1,h2.grow hg,h3⟩
 obtain ⟨rfl,hj,w,l,rfl,⟨a,n,c,rfl,hl,hn⟩,hq⟩:=hpre
 refine st_sound (Tab.cons 85 _ (idx85 g fi ca p q J b hJ hr) body85 (Tab.nil _)) comp76 (svs:=[.v (.slice a n c), .v (.func (.func 77) #[] #[bptr b])]) (obs:=[.cells (.named b) [.val (.func (.func g) fi ca)] 116]) (by simp) hsub hls hnd (Nat.le_of_ble_eq_true rfl) ?_ ?_ ?_
 ·exact ⟨rfl,trivial,rfl,trivial,trivial⟩
 ·exact ⟨⟨_,rfl,relL_vals _ [.func (.func g) fi ca],(by intro c hc;simp at hc;subst hc;trivial)⟩,trivial⟩
 ·(conv=>whnf)
  refine StP.mk ⟨[(0,⟨b,false, .cells [.func (.func g) fi ca] 116⟩)],⟨⟨_,rfl,rfl⟩,trivial⟩,(by show ([0]:List Nat).Nodup;decide),⟨rfl,hj,_,l,rfl,⟨a,n,c,rfl,hl,hn⟩,hq⟩,fun v ns G3 hg3 hpost=>W.mk ?_⟩
  obtain ⟨rfl,w',l',q1,q2,rfl⟩:=hpost
  simp only [List.cons.injEq,and_true] at q1
  subst q1
  have:l' = l:=q2.uniq (SlV.grow hg3 ⟨a,n,c,rfl,hl,hn⟩)
  subst this
  have hall:=idxP_all p l' 0
  (conv=>whnf)
  refine IteP.mk (fun hq=>W.mk ?_) (fun hq=>W.mk ?_)<;>(conv=>whnf)<;>refine FinS.mk ⟨[],⟨.cells [.func (.func g) fi ca] 116,⟨_,rfl,rfl⟩,trivial,rfl,rfl⟩,rfl,_,l',rfl,q2, ?_⟩<;>show Value.bool _ = Value.bool (!(l'.all p))<;>rw [← hall]<;>simp [*]
theorem all56 (g:FuncId) (fi ca:Array Value) (p:(ByteArray × Option Addr × Nat × Nat)→Bool) (q:(ByteArray × Option Addr × Nat × Nat)→Prop) (J:Hp→Prop) (hJ:∀ G G',Grow G G'→J G→J G') (hr:SoundFn Try.prog (.func (.func g) fi ca) (TestS (fun x:ByteArray × Option Addr × Nat × Nat=>Value.agg #[.string x.1, .slice x.2.1 x.2.2.1 x.2.2.2]) p q J [])):Sound Try.prog 56 id (AllS wdhE (.func (.func g) fi ca) (fun xs=>.bool (xs.all p)) q J []):=by
 refine ⟨fun args ls v ns G G' hg h=>?_,fun args ls G Wd hsub hls hnd hpre=>?_⟩
 ·obtain ⟨h0,w,xs,h1,h2,h3⟩:=h;exact ⟨h0,w,xs,h1,h2.grow hg,h3⟩
 obtain ⟨rfl,hj,w,l,rfl,⟨a,n,c,rfl,hl,hn⟩,hq⟩:=hpre
 refine st_sound (Tab.nil _) (at0 comp56) (svs:=[.v (.slice a n c), .v (.func (.func g) fi ca)]) (obs:=[]) (by simp) hsub hls hnd (Nat.le_of_ble_eq_true rfl) ?_ ?_ ?_
 ·exact ⟨rfl,trivial,rfl,trivial,trivial⟩
 ·exact trivial
 ·(conv=>whnf)
  refine NameP.mk (fun b=>W.mk ?_)
  (conv=>whnf)
  refine CallN.mk ⟨_,con76 g fi ca p q J b hJ hr,body76,W.mk ?_⟩
  (conv=>whnf)
  refine StP.mk ⟨[(0,⟨b,false, .cells [.func (.func g) fi ca] 116⟩)],⟨⟨_,rfl,rfl⟩,trivial⟩,(by show ([0]:List Nat).Nodup;decide),⟨rfl,hj,_,l,rfl,⟨a,n,c,rfl,hl,hn⟩,hq⟩,fun v ns G3 hg3 hpost=>W.mk ?_⟩
  obtain ⟨rfl,w',l',q1,q2,rfl⟩:=hpost
  simp only [List.cons.injEq,and_true] at q1
  subst q1
  have:l' = l:=q2.uniq (SlV.grow hg3 ⟨a,n,c,rfl,hl,hn⟩)
  subst this
  (conv=>whnf)
  refine ForkP.mk (fun hm=>W.mk ?_) (fun hm=>W.mk ?_)<;>(conv=>whnf)<;>refine FinS.mk ⟨[],rfl,rfl,_,l',rfl,q2, ?_⟩<;>(refine congrArg Value.bool ?_;simpa using hm)

/-! ### 59 -/
theorem inj59:∀ x y:Od,(odV) x = (odV) y→x = y:=fun x y h=>by cases x;cases y;simp at h;simp [h]
theorem not81 (g:FuncId) (fi ca:Array Value) (p:Od→Bool) (q:Od→Prop) (J:Hp→Prop) (b0:Nat) (w0:Value) (w1:Value) (w2:Value) (b:Nat) (hr:SoundFn Try.prog (.func (.func g) fi ca) (TestS odV p q J [⟨b0,false, .cells [w0,w1,w2] 38⟩])):Sound Try.prog 81 (fun a=>(#[]:Array Value).toList++a++(#[bptr b]:Array Value).toList) (TestS odV (fun x=>!p x) q J [⟨b0,false, .cells [w0,w1,w2] 38⟩,⟨b,false, .cells [.func (.func g) fi ca] 111⟩]):=by
 refine ⟨fun args ls v ns G G' hg h=>h,fun args ls G Wd hsub hls hnd hpre=>?_⟩
 obtain ⟨rfl,hj,x,rfl,hx⟩:=hpre
 refine st_sound (Tab.nil _) comp81 (svs:=[.v (odV x), .c (.ptr 1 0)]) (obs:=[.cells (.named b0) [.val w0, .val w1, .val w2] 38, .cells (.named b) [.val (.func (.func g) fi ca)] 111]) (by simp) hsub hls hnd (Nat.le_of_ble_eq_true rfl) ?_ ?_ ?_
 ·exact ⟨rfl,trivial,⟨_,rfl,rfl⟩,(Nat.le_of_ble_eq_true rfl:1 < 2),trivial⟩
 ·exact ⟨⟨_,rfl,relL_vals _ [w0,w1,w2],(by intro c hc;simp at hc;rcases hc with rfl | rfl | rfl<;>trivial)⟩,⟨_,rfl,relL_vals _ [.func (.func g) fi ca],(by intro c hc;simp at hc;subst hc;trivial)⟩,trivial⟩
 ·(conv=>whnf)
  refine CallvP.fn _ hr (W.mk ?_)
  (conv=>whnf)
  refine StP.mk ⟨[(0,⟨b0,false, .cells [w0,w1,w2] 38⟩)],⟨⟨_,rfl,rfl⟩,trivial⟩,(by show ([0]:List Nat).Nodup;decide),⟨rfl,hj,x,rfl,hx⟩,fun v ns G3 hg3 hpost=>W.mk ?_⟩
  obtain ⟨rfl,y,q1,rfl⟩:=hpost
  have hxy:=inj59 x y (List.cons.inj q1).1
  subst hxy
  (conv=>whnf)
  refine ForkP.mk (fun hm=>W.mk ?_) (fun hm=>W.mk ?_)<;>(conv=>whnf)<;>refine FinS.mk ⟨[],⟨.cells [w0,w1,w2] 38,⟨_,rfl,rfl⟩,trivial,rfl, .cells [.func (.func g) fi ca] 111,⟨_,rfl,rfl⟩,trivial,rfl,rfl⟩,rfl,x,rfl, ?_⟩<;>(show Value.bool _ = Value.bool (!p x);rw [hm];rfl)
theorem idx88 (g:FuncId) (fi ca:Array Value) (p:Od→Bool) (q:Od→Prop) (J:Hp→Prop) (b0:Nat) (w0:Value) (w1:Value) (w2:Value) (b:Nat) (hJ:∀ G G',Grow G G'→J G→J G') (hr:SoundFn Try.prog (.func (.func g) fi ca) (TestS odV p q J [⟨b0,false, .cells [w0,w1,w2] 38⟩])):Sound Try.prog 88 id (AllS odE (.func (.func 81) #[] #[bptr b]) (fun xs=>I (idxP p xs 0)) q J [⟨b0,false, .cells [w0,w1,w2] 38⟩,⟨b,false, .cells [.func (.func g) fi ca] 111⟩]):=by
 refine ⟨fun args ls v ns G G' hg h=>?_,fun args ls G Wd hsub hls hnd hpre=>?_⟩
 ·obtain ⟨h0,w,xs,h1,h2,h3⟩:=h;exact ⟨h0,w,xs,h1,h2.grow hg,h3⟩
 obtain ⟨rfl,hj,w,l,rfl,⟨a,n,c,rfl,hl,hn⟩,hq⟩:=hpre
 refine st_sound (Tab.nil _) comp88 (svs:=[.v (.slice a n c), .v (.func (.func 81) #[] #[bptr b])]) (obs:=[.cells (.named b0) [.val w0, .val w1, .val w2] 38, .cells (.named b) [.val (.func (.func g) fi ca)] 111]) (by simp) hsub hls hnd (Nat.le_of_ble_eq_true rfl) ?_ ?_ ?_
 ·exact ⟨rfl,trivial,rfl,trivial,trivial⟩
 ·exact ⟨⟨_,rfl,relL_vals _ [w0,w1,w2],(by intro c hc;simp at hc;rcases hc with rfl | rfl | rfl<;>trivial)⟩,⟨_,rfl,relL_vals _ [.func (.func g) fi ca],(by intro c hc;simp at hc;subst hc;trivial)⟩,trivial⟩
 ·have hlen:=hl.len
  (conv=>whnf)
  refine LoopP.of { α:=Nat,fr:=fun x=>[(0, .v (.slice a n c)),(1, .v (.func (.func 81) #[] #[bptr b])),(7, .v (I n)),(8, .v (I x))],H:=fun _=>[(0, .cells (.named b0) [.val w0, .val w1, .val w2] 38),(1, .cells (.named b) [.val (.func (.func g) fi ca)] 111)],ok:=fun i _=>i≤l.length∧idxP p (l.drop i) i = idxP p l 0,m:=fun x=>l.length - x }
   0 (HeadP.of [] ⟨rfl,rfl,rfl,rfl,trivial⟩ ⟨rfl,rfl,trivial⟩) ⟨Nat.zero_le _,rfl⟩ (fun _=>⟨rfl,rfl⟩) (fun (i:Nat) G' hG hx=>W.mk ?_)
  obtain ⟨hi,hx⟩:=hx
  replace hl:=SlR.grow (G:=G) (G':=G') (fun _ _ h=>h) hl hG
  replace hj:=hJ _ _ hG hj
  (conv=>whnf)
  refine IteP.mk (fun hlt=>W.mk ?_) (fun hge=>W.mk ?_)<;>(conv=>whnf)
  ·have hlt:i < l.length:=by omega
   have hc:=hl.el hlt
   have hqi:=hq _ (List.getElem_mem hlt)
   rw [List.drop_eq_getElem_cons hlt,idxP] at hx
   repeat' (first | (refine ob ?_ ?_;(first | trivial | omega | (simp only [inR];omega) | exact ble (by rfl) | exact SlR.some ‹_› (by omega));(conv=>whnf)) | (first | (refine ra ‹_› (by rfl) ?_;(conv=>whnf)) | (refine rb ‹_› (by rfl) ?_;(conv=>whnf)) | (refine rc ‹_› (by rfl) ?_;(conv=>whnf)) | (refine rd ‹_› (by rfl) ?_;(conv=>whnf))))
   refine CallvP.fn _ (SoundFn.of body81 (not81 g fi ca p q J b0 w0 w1 w2 b hr)) (W.mk ?_)
   (conv=>whnf)
   refine StP.mk ⟨[(0,⟨b0,false, .cells [w0,w1,w2] 38⟩),(1,⟨b,false, .cells [.func (.func g) fi ca] 111⟩)],⟨⟨_,rfl,rfl⟩,⟨_,rfl,rfl⟩,trivial⟩,(by show ([0,1]:List Nat).Nodup;decide),⟨rfl,hj,l[i],rfl,hqi⟩,fun v ns G3 hg3 hpost=>W.mk ?_⟩
   obtain ⟨rfl,y,q1,rfl⟩:=hpost
   have hxy:=inj59 _ y (List.cons.inj q1).1
   subst hxy
   (conv=>whnf)
   refine ForkP.mk (fun hm=>W.mk ?_) (fun hm=>W.mk ?_)<;>(conv=>whnf)
   ·refine FinS.mk ⟨[],⟨.cells [w0,w1,w2] 38,⟨_,rfl,rfl⟩,trivial,rfl, .cells [.func (.func g) fi ca] 111,⟨_,rfl,rfl⟩,trivial,rfl,rfl⟩,rfl,_,l,rfl,⟨a,n,c,rfl,SlR.grow (G:=G') (G':=G3) (fun _ _ h=>h) hl hg3,hn⟩, ?_⟩
    rw [if_neg (by simpa using hm)] at hx
    show I (i:Int) = I (idxP p l 0);rw [← hx]
   ·(refine ob ?_ ?_;(first | trivial | omega | (simp only [inR];omega) | exact ble (by rfl) | exact SlR.some ‹_› (by omega));(conv=>whnf))
    rw [if_pos (by simpa using hm)] at hx
    exact RoundP.of (i + 1) (HeadP.of [] ⟨rfl,rfl,rfl,rfl,trivial⟩ ⟨rfl,rfl,trivial⟩) ⟨hlt,hx⟩ (by simp only;omega)
  ·have:i = l.length:=by omega
   subst this
   rw [List.drop_length] at hx
   refine FinS.mk ⟨[],⟨.cells [w0,w1,w2] 38,⟨_,rfl,rfl⟩,trivial,rfl, .cells [.func (.func g) fi ca] 111,⟨_,rfl,rfl⟩,trivial,rfl,rfl⟩,rfl,_,l,rfl,⟨a,n,c,rfl,hl,hn⟩, ?_⟩
   show I (-1) = I (idxP p l 0);rw [← hx];rfl
theorem con80 (g:FuncId) (fi ca:Array Value) (p:Od→Bool) (q:Od→Prop) (J:Hp→Prop) (b0:Nat) (w0:Value) (w1:Value) (w2:Value) (b:Nat) (hJ:∀ G G',Grow G G'→J G→J G') (hr:SoundFn Try.prog (.func (.func g) fi ca) (TestS odV p q J [⟨b0,false, .cells [w0,w1,w2] 38⟩])):Sound Try.prog 80 id (AllS odE (.func (.func 81) #[] #[bptr b]) (fun xs=>.bool (!(xs.all p))) q J [⟨b0,false, .cells [w0,w1,w2] 38⟩,⟨b,false, .cells [.func (.func g) fi ca] 111⟩]):=by
 refine ⟨fun args ls v ns G G' hg h=>?_,fun args ls G Wd hsub hls hnd hpre=>?_⟩
 ·obtain ⟨h0,w,xs,h1,h2,h3⟩:=h;exact ⟨h0,w,xs,h1,h2.grow hg,h3⟩
 obtain ⟨rfl,hj,w,l,rfl,⟨a,n,c,rfl,hl,hn⟩,hq⟩:=hpre
 refine st_sound (Tab.cons 88 _ (idx88 g fi ca p q J b0 w0 w1 w2 b hJ hr) body88 (Tab.nil _)) comp80 (svs:=[.v (.slice a n c), .v (.func (.func 81) #[] #[bptr b])]) (obs:=[.cells (.named b0) [.val w0, .val w1, .val w2] 38, .cells (.named b) [.val (.func (.func g) fi ca)] 111]) (by simp) hsub hls hnd (Nat.le_of_ble_eq_true rfl) ?_ ?_ ?_
 ·exact ⟨rfl,trivial,rfl,trivial,trivial⟩
 ·exact ⟨⟨_,rfl,relL_vals _ [w0,w1,w2],(by intro c hc;simp at hc;rcases hc with rfl | rfl | rfl<;>trivial)⟩,⟨_,rfl,relL_vals _ [.func (.func g) fi ca],(by intro c hc;simp at hc;subst hc;trivial)⟩,trivial⟩
 ·(conv=>whnf)
  refine StP.mk ⟨[(0,⟨b0,false, .cells [w0,w1,w2] 38⟩),(1,⟨b,false, .cells [.func (.func g) fi ca] 111⟩)],⟨⟨_,rfl,rfl⟩,⟨_,rfl,rfl⟩,trivial⟩,(by show ([0,1]:List Nat).Nodup;decide),⟨rfl,hj,_,l,rfl,⟨a,n,c,rfl,hl,hn⟩,hq⟩,fun v ns G3 hg3 hpost=>W.mk ?_⟩
  obtain ⟨rfl,w',l',q1,q2,rfl⟩:=hpost
  simp only [List.cons.injEq,and_true] at q1
  subst q1
  have:l' = l:=q2.uniq (SlV.grow hg3 ⟨a,n,c,rfl,hl,hn⟩)
  subst this
  have hall:=idxP_all p l' 0
  (conv=>whnf)
  refine IteP.mk (fun hq=>W.mk ?_) (fun hq=>W.mk ?_)<;>(conv=>whnf)<;>refine FinS.mk ⟨[],⟨.cells [w0,w1,w2] 38,⟨_,rfl,rfl⟩,trivial,rfl, .cells [.func (.func g) fi ca] 111,⟨_,rfl,rfl⟩,trivial,rfl,rfl⟩,rfl,_,l',rfl,q2, ?_⟩<;>show Value.bool _ = Value.bool (!(l'.all p))<;>rw [← hall]<;>simp [*]
theorem all59 (g:FuncId) (fi ca:Array Value) (p:Od→Bool) (q:Od→Prop) (J:Hp→Prop) (b0:Nat) (w0:Value) (w1:Value) (w2:Value) (hJ:∀ G G',Grow G G'→J G→J G') (hr:SoundFn Try.prog (.func (.func g) fi ca) (TestS odV p q J [⟨b0,false, .cells [w0,w1,w2] 38⟩])):Sound Try.prog 59 id (AllS odE (.func (.func g) fi ca) (fun xs=>.bool (xs.all p)) q J [⟨b0,false, .cells [w0,w1,w2] 38⟩]):=by
 refine ⟨fun args ls v ns G G' hg h=>?_,fun args ls G Wd hsub hls hnd hpre=>?_⟩
 ·obtain ⟨h0,w,xs,h1,h2,h3⟩:=h;exact ⟨h0,w,xs,h1,h2.grow hg,h3⟩
 obtain ⟨rfl,hj,w,l,rfl,⟨a,n,c,rfl,hl,hn⟩,hq⟩:=hpre
 refine st_sound (Tab.nil _) comp59 (svs:=[.v (.slice a n c), .v (.func (.func g) fi ca)]) (obs:=[.cells (.named b0) [.val w0, .val w1, .val w2] 38]) (by simp) hsub hls hnd (Nat.le_of_ble_eq_true rfl) ?_ ?_ ?_
 ·exact ⟨rfl,trivial,rfl,trivial,trivial⟩
 ·exact ⟨⟨_,rfl,relL_vals _ [w0,w1,w2],(by intro c hc;simp at hc;rcases hc with rfl | rfl | rfl<;>trivial)⟩,trivial⟩
 ·(conv=>whnf)
  refine NameP.mk (fun b=>W.mk ?_)
  (conv=>whnf)
  refine CallN.mk ⟨_,con80 g fi ca p q J b0 w0 w1 w2 b hJ hr,body80,W.mk ?_⟩
  (conv=>whnf)
  refine StP.mk ⟨[(0,⟨b0,false, .cells [w0,w1,w2] 38⟩),(1,⟨b,false, .cells [.func (.func g) fi ca] 111⟩)],⟨⟨_,rfl,rfl⟩,⟨_,rfl,rfl⟩,trivial⟩,(by show ([0,1]:List Nat).Nodup;decide),⟨rfl,hj,_,l,rfl,⟨a,n,c,rfl,hl,hn⟩,hq⟩,fun v ns G3 hg3 hpost=>W.mk ?_⟩
  obtain ⟨rfl,w',l',q1,q2,rfl⟩:=hpost
  simp only [List.cons.injEq,and_true] at q1
  subst q1
  have:l' = l:=q2.uniq (SlV.grow hg3 ⟨a,n,c,rfl,hl,hn⟩)
  subst this
  (conv=>whnf)
  refine ForkP.mk (fun hm=>W.mk ?_) (fun hm=>W.mk ?_)<;>(conv=>whnf)<;>refine FinS.mk ⟨[],⟨.cells [w0,w1,w2] 38,⟨_,rfl,rfl⟩,trivial,rfl,rfl⟩,rfl,_,l',rfl,q2, ?_⟩<;>(refine congrArg Value.bool ?_;simpa using hm)

/-! ### 78 -/
theorem inj78:∀ x y:Int,(U) x = (U) y→x = y:=fun x y h=>by cases h;rfl
theorem not87 (g:FuncId) (fi ca:Array Value) (p:Int→Bool) (q:Int→Prop) (J:Hp→Prop) (b:Nat) (hr:SoundFn Try.prog (.func (.func g) fi ca) (TestS U p q J [])):Sound Try.prog 87 (fun a=>(#[]:Array Value).toList++a++(#[bptr b]:Array Value).toList) (TestS U (fun x=>!p x) q J [⟨b,false, .cells [.func (.func g) fi ca] 130⟩]):=by
 refine ⟨fun args ls v ns G G' hg h=>h,fun args ls G Wd hsub hls hnd hpre=>?_⟩
 obtain ⟨rfl,hj,x,rfl,hx⟩:=hpre
 refine st_sound (Tab.nil _) comp87 (svs:=[.v (U x), .c (.ptr 0 0)]) (obs:=[.cells (.named b) [.val (.func (.func g) fi ca)] 130]) (by simp) hsub hls hnd (Nat.le_of_ble_eq_true rfl) ?_ ?_ ?_
 ·exact ⟨rfl,trivial,⟨_,rfl,rfl⟩,(Nat.le_of_ble_eq_true rfl:0 < 1),trivial⟩
 ·exact ⟨⟨_,rfl,relL_vals _ [.func (.func g) fi ca],(by intro c hc;simp at hc;subst hc;trivial)⟩,trivial⟩
 ·(conv=>whnf)
  refine CallvP.fn _ hr (W.mk ?_)
  (conv=>whnf)
  refine StP.mk ⟨[],trivial,(by show ([]:List Nat).Nodup;decide),⟨rfl,hj,x,rfl,hx⟩,fun v ns G3 hg3 hpost=>W.mk ?_⟩
  obtain ⟨rfl,y,q1,rfl⟩:=hpost
  have hxy:=inj78 x y (List.cons.inj q1).1
  subst hxy
  (conv=>whnf)
  refine ForkP.mk (fun hm=>W.mk ?_) (fun hm=>W.mk ?_)<;>(conv=>whnf)<;>refine FinS.mk ⟨[],⟨.cells [.func (.func g) fi ca] 130,⟨_,rfl,rfl⟩,trivial,rfl,rfl⟩,rfl,x,rfl, ?_⟩<;>(show Value.bool _ = Value.bool (!p x);rw [hm];rfl)
theorem idx100 (g:FuncId) (fi ca:Array Value) (p:Int→Bool) (q:Int→Prop) (J:Hp→Prop) (b:Nat) (hJ:∀ G G',Grow G G'→J G→J G') (hr:SoundFn Try.prog (.func (.func g) fi ca) (TestS U p q J [])):Sound Try.prog 100 id (AllS u8E (.func (.func 87) #[] #[bptr b]) (fun xs=>I (idxP p xs 0)) q J [⟨b,false, .cells [.func (.func g) fi ca] 130⟩]):=by
 refine ⟨fun args ls v ns G G' hg h=>?_,fun args ls G Wd hsub hls hnd hpre=>?_⟩
 ·obtain ⟨h0,w,xs,h1,h2,h3⟩:=h;exact ⟨h0,w,xs,h1,h2.grow hg,h3⟩
 obtain ⟨rfl,hj,w,l,rfl,⟨a,n,c,rfl,hl,hn⟩,hq⟩:=hpre
 refine st_sound (Tab.nil _) comp100 (svs:=[.v (.slice a n c), .v (.func (.func 87) #[] #[bptr b])]) (obs:=[.cells (.named b) [.val (.func (.func g) fi ca)] 130]) (by simp) hsub hls hnd (Nat.le_of_ble_eq_true rfl) ?_ ?_ ?_
 ·exact ⟨rfl,trivial,rfl,trivial,trivial⟩
 ·exact ⟨⟨_,rfl,relL_vals _ [.func (.func g) fi ca],(by intro c hc;simp at hc;subst hc;trivial)⟩,trivial⟩
 ·have hlen:=hl.len
  (conv=>whnf)
  refine LoopP.of { α:=Nat,fr:=fun x=>[(0, .v (.slice a n c)),(1, .v (.func (.func 87) #[] #[bptr b])),(7, .v (I n)),(8, .v (I x))],H:=fun _=>[(0, .cells (.named b) [.val (.func (.func g) fi ca)] 130)],ok:=fun i _=>i≤l.length∧idxP p (l.drop i) i = idxP p l 0,m:=fun x=>l.length - x }
   0 (HeadP.of [] ⟨rfl,rfl,rfl,rfl,trivial⟩ ⟨rfl,trivial⟩) ⟨Nat.zero_le _,rfl⟩ (fun _=>⟨rfl,rfl⟩) (fun (i:Nat) G' hG hx=>W.mk ?_)
  obtain ⟨hi,hx⟩:=hx
  replace hl:=SlR.grow (G:=G) (G':=G') (fun _ _ h=>h) hl hG
  replace hj:=hJ _ _ hG hj
  (conv=>whnf)
  refine IteP.mk (fun hlt=>W.mk ?_) (fun hge=>W.mk ?_)<;>(conv=>whnf)
  ·have hlt:i < l.length:=by omega
   have hc:=hl.el hlt
   have hqi:=hq _ (List.getElem_mem hlt)
   rw [List.drop_eq_getElem_cons hlt,idxP] at hx
   repeat' (first | (refine ob ?_ ?_;(first | trivial | omega | (simp only [inR];omega) | exact ble (by rfl) | exact SlR.some ‹_› (by omega));(conv=>whnf)) | (first | (refine ra ‹_› (by rfl) ?_;(conv=>whnf)) | (refine rb ‹_› (by rfl) ?_;(conv=>whnf)) | (refine rc ‹_› (by rfl) ?_;(conv=>whnf)) | (refine rd ‹_› (by rfl) ?_;(conv=>whnf))))
   refine CallvP.fn _ (SoundFn.of body87 (not87 g fi ca p q J b hr)) (W.mk ?_)
   (conv=>whnf)
   refine StP.mk ⟨[(0,⟨b,false, .cells [.func (.func g) fi ca] 130⟩)],⟨⟨_,rfl,rfl⟩,trivial⟩,(by show ([0]:List Nat).Nodup;decide),⟨rfl,hj,l[i],rfl,hqi⟩,fun v ns G3 hg3 hpost=>W.mk ?_⟩
   obtain ⟨rfl,y,q1,rfl⟩:=hpost
   have hxy:=inj78 _ y (List.cons.inj q1).1
   subst hxy
   (conv=>whnf)
   refine ForkP.mk (fun hm=>W.mk ?_) (fun hm=>W.mk ?_)<;>(conv=>whnf)
   ·refine FinS.mk ⟨[],⟨.cells [.func (.func g) fi ca] 130,⟨_,rfl,rfl⟩,trivial,rfl,rfl⟩,rfl,_,l,rfl,⟨a,n,c,rfl,SlR.grow (G:=G') (G':=G3) (fun _ _ h=>h) hl hg3,hn⟩, ?_⟩
    rw [if_neg (by simpa using hm)] at hx
    show I (i:Int) = I (idxP p l 0);rw [← hx]
   ·(refine ob ?_ ?_;(first | trivial | omega | (simp only [inR];omega) | exact ble (by rfl) | exact SlR.some ‹_› (by omega));(conv=>whnf))
    rw [if_pos (by simpa using hm)] at hx
    exact RoundP.of (i + 1) (HeadP.of [] ⟨rfl,rfl,rfl,rfl,trivial⟩ ⟨rfl,trivial⟩) ⟨hlt,hx⟩ (by simp only;omega)
  ·have:i = l.length:=by omega
   subst this
   rw [List.drop_length] at hx
   refine FinS.mk ⟨[],⟨.cells [.func (.func g) fi ca] 130,⟨_,rfl,rfl⟩,trivial,rfl,rfl⟩,rfl,_,l,rfl,⟨a,n,c,rfl,hl,hn⟩, ?_⟩
   show I (-1) = I (idxP p l 0);rw [← hx];rfl
theorem con86 (g:FuncId) (fi ca:Array Value) (p:Int→Bool) (q:Int→Prop) (J:Hp→Prop) (b:Nat) (hJ:∀ G G',Grow G G'→J G→J G') (hr:SoundFn Try.prog (.func (.func g) fi ca) (TestS U p q J [])):Sound Try.prog 86 id (AllS u8E (.func (.func 87) #[] #[bptr b]) (fun xs=>.bool (!(xs.all p))) q J [⟨b,false, .cells [.func (.func g) fi ca] 130⟩]):=by
 refine ⟨fun args ls v ns G G' hg h=>?_,fun args ls G Wd hsub hls hnd hpre=>?_⟩
 ·obtain ⟨h0,w,xs,h1,h2,h3⟩:=h;exact ⟨h0,w,xs,h1,h2.grow hg,h3⟩
 obtain ⟨rfl,hj,w,l,rfl,⟨a,n,c,rfl,hl,hn⟩,hq⟩:=hpre
 refine st_sound (Tab.cons 100 _ (idx100 g fi ca p q J b hJ hr) body100 (Tab.nil _)) comp86 (svs:=[.v (.slice a n c), .v (.func (.func 87) #[] #[bptr b])]) (obs:=[.cells (.named b) [.val (.func (.func g) fi ca)] 130]) (by simp) hsub hls hnd (Nat.le_of_ble_eq_true rfl) ?_ ?_ ?_
 ·exact ⟨rfl,trivial,rfl,trivial,trivial⟩
 ·exact ⟨⟨_,rfl,relL_vals _ [.func (.func g) fi ca],(by intro c hc;simp at hc;subst hc;trivial)⟩,trivial⟩
 ·(conv=>whnf)
  refine StP.mk ⟨[(0,⟨b,false, .cells [.func (.func g) fi ca] 130⟩)],⟨⟨_,rfl,rfl⟩,trivial⟩,(by show ([0]:List Nat).Nodup;decide),⟨rfl,hj,_,l,rfl,⟨a,n,c,rfl,hl,hn⟩,hq⟩,fun v ns G3 hg3 hpost=>W.mk ?_⟩
  obtain ⟨rfl,w',l',q1,q2,rfl⟩:=hpost
  simp only [List.cons.injEq,and_true] at q1
  subst q1
  have:l' = l:=q2.uniq (SlV.grow hg3 ⟨a,n,c,rfl,hl,hn⟩)
  subst this
  have hall:=idxP_all p l' 0
  (conv=>whnf)
  refine IteP.mk (fun hq=>W.mk ?_) (fun hq=>W.mk ?_)<;>(conv=>whnf)<;>refine FinS.mk ⟨[],⟨.cells [.func (.func g) fi ca] 130,⟨_,rfl,rfl⟩,trivial,rfl,rfl⟩,rfl,_,l',rfl,q2, ?_⟩<;>show Value.bool _ = Value.bool (!(l'.all p))<;>rw [← hall]<;>simp [*]
theorem all78 (g:FuncId) (fi ca:Array Value) (p:Int→Bool) (q:Int→Prop) (J:Hp→Prop) (hJ:∀ G G',Grow G G'→J G→J G') (hr:SoundFn Try.prog (.func (.func g) fi ca) (TestS U p q J [])):Sound Try.prog 78 id (AllS u8E (.func (.func g) fi ca) (fun xs=>.bool (xs.all p)) q J []):=by
 refine ⟨fun args ls v ns G G' hg h=>?_,fun args ls G Wd hsub hls hnd hpre=>?_⟩
 ·obtain ⟨h0,w,xs,h1,h2,h3⟩:=h;exact ⟨h0,w,xs,h1,h2.grow hg,h3⟩
 obtain ⟨rfl,hj,w,l,rfl,⟨a,n,c,rfl,hl,hn⟩,hq⟩:=hpre
 refine st_sound (Tab.nil _) (at0 comp78) (svs:=[.v (.slice a n c), .v (.func (.func g) fi ca)]) (obs:=[]) (by simp) hsub hls hnd (Nat.le_of_ble_eq_true rfl) ?_ ?_ ?_
 ·exact ⟨rfl,trivial,rfl,trivial,trivial⟩
 ·exact trivial
 ·(conv=>whnf)
  refine NameP.mk (fun b=>W.mk ?_)
  (conv=>whnf)
  refine CallN.mk ⟨_,con86 g fi ca p q J b hJ hr,body86,W.mk ?_⟩
  (conv=>whnf)
  refine StP.mk ⟨[(0,⟨b,false, .cells [.func (.func g) fi ca] 130⟩)],⟨⟨_,rfl,rfl⟩,trivial⟩,(by show ([0]:List Nat).Nodup;decide),⟨rfl,hj,_,l,rfl,⟨a,n,c,rfl,hl,hn⟩,hq⟩,fun v ns G3 hg3 hpost=>W.mk ?_⟩
  obtain ⟨rfl,w',l',q1,q2,rfl⟩:=hpost
  simp only [List.cons.injEq,and_true] at q1
  subst q1
  have:l' = l:=q2.uniq (SlV.grow hg3 ⟨a,n,c,rfl,hl,hn⟩)
  subst this
  (conv=>whnf)
  refine ForkP.mk (fun hm=>W.mk ?_) (fun hm=>W.mk ?_)<;>(conv=>whnf)<;>refine FinS.mk ⟨[],rfl,rfl,_,l',rfl,q2, ?_⟩<;>(refine congrArg Value.bool ?_;simpa using hm)
end Go.Proofs.Ytpcpjmplgladmaa

namespace Go.Pal
open Go.RowKit

theorem Sound.first {P:Program} {f:FuncId} {pre:List Value→Hp→Prop} {post:List Value→Hp→Value→Prop} (w:Value) (h:Sound P f id (.sca pre post)) :
  Sound P f (fun a=>(#[w]:Array Value).toList++a++(#[]:Array Value).toList) (.sca (fun a G=>pre (w :: a) G) (fun a G v=>post (w :: a) G v)):=fun args G W hs hp=>by
 have:=h (w :: args) G W hs hp
 simpa using this
theorem Sound.bare {P:Program} {f:FuncId} {s:PSpec} (h:Sound P f id s):Sound P f (fun a=>(#[]:Array Value).toList++a++(#[]:Array Value).toList) s:=by
 have:(fun args:List Value=>(#[]:Array Value).toList++args++(#[]:Array Value).toList) = id:=by funext a;simp
 rw [this];exact h
/-! ### Maps -/
theorem keyFind_of' {P:Program} {k:TypeId} (L:Maps.Keyed P k) {x:Value} {lx:Lit} (hx:keyOf P k x = some lx) (hs:Instr.sameBits 10000 x x = true) {es:Array MapEntry} (hall:∀ e∈es.toList, ∃ l,keyOf P k e.key = some l) (hnd:(es.toList.map (·.key)).Nodup) :
  (KeyFind P k x es none∧∀ e∈es.toList,e.key≠x)∨∃ (j:Nat) (e:MapEntry),KeyFind P k x es (some j)∧es[j]? = some e∧e.key = x:=by
 by_cases hex:∃ e∈es.toList,e.key = x
 ·right
  obtain ⟨e,he,hk⟩:=hex
  obtain ⟨j,hj,hje⟩:=List.getElem_of_mem he
  have hj':es.toList[j]? = some e:=by rw [List.getElem?_eq_getElem hj,hje]
  refine ⟨j,e,⟨fun W em=>L.check W em hx,fun W=>?_,fun i hi=>?_⟩,by simpa using hj',hk⟩
  ·rcases L.find W hx es.toList hall with ⟨_,h2⟩ | ⟨i,e',h1,h2,h3⟩
   ·exact absurd hk (h2 e he)
   ·have k1:(es.toList.map (·.key))[i]? = some x:=by simp only [List.getElem?_map,h2,Option.map_some,h3]
    have k2:(es.toList.map (·.key))[j]? = some x:=by simp only [List.getElem?_map,hj',Option.map_some,hk]
    have l1:=(List.getElem?_eq_some_iff.1 k1).1
    have:i = j:=(List.getElem?_inj l1 hnd).1 (k1.trans k2.symm)
    subst this
    rw [h1]
    have h2':es[i]? = some e':=by simpa using h2
    simp [mapAt,h2']
  ·cases hi
   have hj'':es[j]? = some e:=by simpa using hj'
   simp only [hj'',Option.map_some,Option.getD_some,hk];exact hs
 ·left
  have hno:∀ e∈es.toList,e.key≠x:=fun e he hk=>hex ⟨e,he,hk⟩
  refine ⟨⟨fun W em=>L.check W em hx,fun W=>?_,fun i hi=>by cases hi⟩,hno⟩
  rcases L.find W hx es.toList hall with ⟨h1,_⟩ | ⟨i,e',h1,h2,h3⟩
  ·exact h1
  ·exact absurd h3 (hno e' (List.mem_of_getElem? h2))
structure MapIs {κ:Type} (P:Program) (k:TypeId) (val:κ→Value) (es:Array MapEntry) (m:κ→Option Value):Prop where
 ex:∃ D:List (κ × Value),es.toList.map (fun e=>(e.key,e.val)) = D.map (fun p=>(val p.1,p.2))∧(∀ p∈D, ∃ l,keyOf P k (val p.1) = some l)∧(D.map (·.1)).Nodup∧(∀ p∈D,m p.1 = some p.2)∧∀ x,(∀ p∈D,p.1≠x)→m x = none
theorem MapIs.nil {κ:Type} {P:Program} {k:TypeId} {val:κ→Value}:MapIs P k val #[] (fun _=>none):=⟨[],rfl,(fun p h=>by cases h),List.nodup_nil,(fun p h=>by cases h),fun _ _=>rfl⟩
def lookD (z:Value) (ok:Bool):Option Value→Value
 | some v=>match ok with
  | true=>.tuple #[v, .bool true]
  | false=>v
 | none=>match ok with
  | true=>.tuple #[z, .bool false]
  | false=>z
theorem MapIs.find {κ:Type} [DecidableEq κ] {P:Program} {k:TypeId} {val:κ→Value} (L:Maps.Keyed P k) (hinj:∀ x y,val x = val y→x = y) {es:Array MapEntry} {m:κ→Option Value} (h:MapIs P k val es m) {x:κ} {lx:Lit} (hx:keyOf P k (val x) = some lx) (hs:Instr.sameBits 10000 (val x) (val x) = true) :
  ∃ r,KeyFind P k (val x) es r∧(∀ z ok,lookV z ok es r = lookD z ok (m x))∧∀ c v,MapIs P k val (putE es c (val x) v r).1 (fun y=>if y = x then some v else m y):=by
 obtain ⟨D,h1,h2,h3,h4,h5⟩:=h.ex
 have hmem:∀ e∈es.toList, ∃ p∈D,e.key = val p.1∧e.val = p.2:=fun e he=>by
  have:(e.key,e.val)∈es.toList.map (fun e=>(e.key,e.val)):=List.mem_map.2 ⟨e,he,rfl⟩
  rw [h1] at this
  obtain ⟨p,hp,e1⟩:=List.mem_map.1 this
  simp only [Prod.mk.injEq] at e1
  exact ⟨p,hp,e1.1.symm,e1.2.symm⟩
 have hkeys:es.toList.map (·.key) = D.map fun p=>val p.1:=by
  have:=congrArg (List.map Prod.fst) h1
  simpa [List.map_map,Function.comp_def] using this
 have hnd:(es.toList.map (·.key)).Nodup:=by
  rw [hkeys]
  have:(D.map fun p=>val p.1) = (D.map (·.1)).map val:=by simp [List.map_map,Function.comp_def]
  rw [this]
  exact h3.map _ (fun a b hab e=>hab (hinj _ _ e))
 have hall:∀ e∈es.toList, ∃ l,keyOf P k e.key = some l:=fun e he=>by
  obtain ⟨p,hp,e1,_⟩:=hmem e he
  rw [e1];exact h2 p hp
 rcases keyFind_of' L hx hs hall hnd with ⟨k1,k2⟩ | ⟨j,e,k1,k2,k3⟩
 ·have hno:∀ p∈D,p.1≠x:=fun p hp e=>by
   have:val p.1∈es.toList.map (·.key):=by rw [hkeys];exact List.mem_map.2 ⟨p,hp,rfl⟩
   obtain ⟨e',he',e1⟩:=List.mem_map.1 this
   exact k2 e' he' (by rw [e1,e])
  have hn:=h5 x hno
  refine ⟨none,k1,fun z ok=>by rw [hn];cases ok<;>rfl,fun c v=>⟨D++[(x,v)], ?_,fun p hp=>?_, ?_,fun p hp=>?_,fun y hy=>?_⟩⟩
  ·simp only [putE,Array.toList_push,List.map_append,h1,List.map_cons,List.map_nil]
  ·rcases List.mem_append.1 hp with hp | hp
   ·exact h2 p hp
   ·simp at hp;subst hp;exact ⟨_,hx⟩
  ·simp only [List.map_append,List.map_cons,List.map_nil]
   rw [List.nodup_append]
   refine ⟨h3,by simp,fun a ha b hb=>?_⟩
   simp at hb;subst hb
   obtain ⟨p,hp,rfl⟩:=List.mem_map.1 ha
   exact hno p hp
  ·rcases List.mem_append.1 hp with hp | hp
   ·rw [if_neg (hno p hp)];exact h4 p hp
   ·simp at hp;subst hp;simp
  ·have hyx:y≠x:=fun e=>hy (x,v) (by simp) e.symm
   rw [if_neg hyx]
   exact h5 y fun p hp=>hy p (by simp [hp])
 ·have k2':es.toList[j]? = some e:=by simpa using k2
  have hj:D[j]? = some (x,e.val):=by
   have:=congrArg (·[j]?) h1
   simp only [List.getElem?_map,k2',Option.map_some] at this
   cases hd:D[j]? with
   | none=>rw [hd] at this;cases this
   | some p =>
    rw [hd] at this
    simp only [Option.map_some,Option.some.injEq,Prod.mk.injEq] at this
    have e1:p.1 = x:=hinj _ _ (by rw [← this.1,k3])
    rw [show p = (p.1,p.2) from rfl,e1, ← this.2]
  have hm:=h4 _ (List.mem_of_getElem? hj)
  refine ⟨some j,k1,fun z ok=>by rw [hm];cases ok<;>simp [lookV,lookD,mapAt,k2],fun c v=>⟨D.set j (x,v), ?_,fun p hp=>?_, ?_,fun p hp=>?_,fun y hy=>?_⟩⟩
  ·apply List.ext_getElem?
   intro i
   have hi:=congrArg (·[i]?) h1
   simp only [List.getElem?_map] at hi
   simp only [putE,List.getElem?_map,Array.getElem?_toList,Array.getElem?_modify,List.getElem?_set]
   by_cases hij:j = i
   ·subst hij
    have hlt:j < D.length:=(List.getElem?_eq_some_iff.1 hj).1
    simp [k2,hlt]
   ·rw [if_neg hij,if_neg hij]
    rw [← hi];simp
  ·rcases List.mem_or_eq_of_mem_set hp with hp | rfl
   ·exact h2 p hp
   ·exact ⟨_,hx⟩
  ·have:(D.set j (x,v)).map (·.1) = D.map (·.1):=by
    rw [List.map_set]
    apply List.ext_getElem?
    intro i
    rw [List.getElem?_set]
    split
    ·rename_i hij
     subst hij
     simp only [List.getElem?_map,hj,Option.map_some,List.length_map]
     rw [if_pos (List.getElem?_eq_some_iff.1 hj).1]
    ·rfl
   rw [this];exact h3
  ·obtain ⟨i,hi⟩:=List.getElem?_of_mem hp
   rw [List.getElem?_set] at hi
   split at hi
   ·split at hi
    ·cases hi;simp
    ·cases hi
   ·rename_i hij
    have hpx:p.1≠x:=fun e=>by
     have q1:(D.map (·.1))[i]? = some x:=by simp [hi,e]
     have q2:(D.map (·.1))[j]? = some x:=by simp [hj]
     exact hij ((List.getElem?_inj (List.getElem?_eq_some_iff.1 q2).1 h3).1 (q2.trans q1.symm))
    rw [if_neg hpx]
    exact h4 p (List.mem_of_getElem? hi)
  ·have hyx:y≠x:=fun e=>hy (x,v) (List.mem_of_getElem? (by rw [List.getElem?_set,if_pos rfl,if_pos (List.getElem?_eq_some_iff.1 hj).1])) e.symm
   rw [if_neg hyx]
   refine h5 y fun p hp e=>?_
   obtain ⟨i,hi⟩:=List.getElem?_of_mem hp
   by_cases hij:j = i
   ·subst hij;rw [hj] at hi;cases hi;exact hyx e.symm
   ·exact hy p (List.mem_of_getElem? (by rw [List.getElem?_set,if_neg hij];exact hi)) e
def ISet (P:Program) (k:TypeId) (es:Array MapEntry) (s:Int→Bool):Prop:=MapIs P k I es (fun x=>if s x then some (.bool true) else none)
theorem wf_i64' {a:Int} (h:inR .i64 a):(Lit.int .i64 a).wf = true:=by
 simp only [inR] at h
 simp only [Lit.wf,Bool.and_eq_true,decide_eq_true_eq]
 exact h
theorem ISet.nil {P:Program} {k:TypeId}:ISet P k #[] (fun _=>false):=MapIs.nil
theorem ISet.find {P:Program} {k:TypeId} (hk:P.underlying k = some (.int .i64)) {es:Array MapEntry} {s:Int→Bool} (h:ISet P k es s) {x:Int} (hx:inR .i64 x) :
  ∃ r,KeyFind P k (I x) es r∧lookV (.bool false) false es r = .bool (s x)∧∀ c,ISet P k (putE es c (I x) (.bool true) r).1 (fun y=>s y || decide (y = x)):=by
 obtain ⟨r,h1,h2,h3⟩:=MapIs.find (Maps.int_keyed hk) (fun x y e=>by cases e;rfl) h (Maps.keyOf_int_mk hk (wf_i64' hx)) (by simp [Instr.sameBits])
 refine ⟨r,h1, ?_,fun c=>?_⟩
 ·rw [h2];cases s x<;>rfl
 ·have:=h3 c (.bool true)
  unfold ISet
  have e:(fun y=>if (s y || decide (y = x)) = true then some (Value.bool true) else none) = fun y=>if y = x then some (Value.bool true) else if s y then some (Value.bool true) else none:=by
   funext y
   by_cases hy:y = x<;>simp [hy]
  rw [e];exact this
end Go.Pal

namespace Go.Proofs.Ytpcpjmplgladmaa
open Go.Pal
set_option maxRecDepth 100000
theorem TestS.of {α:Type} {val:α→Value} {p:α→Bool} {q:α→Prop} {J:Hp→Prop} {f:FuncId} {sh:List Value→List Value} {pre:List Value→Hp→Prop} {post:List Value→Hp→Value→Prop} (h:Sound Try.prog f sh (.sca pre post)) (h1:∀ x G,q x→J G→pre [val x] G) (h2:∀ x G v,q x→J G→post [val x] G v→v = .bool (p x)):Sound Try.prog f sh (TestS val p q J []):=by
 refine ⟨fun _ _ _ _ _ _ _ h=>h,fun args ls G W hs _ _ hp=>?_⟩
 obtain ⟨rfl,hj,x,rfl,hx⟩:=hp
 refine (h [val x] G W hs (h1 x G hx hj)).mono ?_
 rintro e W' ⟨v,rfl,hv,hB⟩
 exact ⟨v,[],G,rfl,⟨rfl,x,rfl,h2 x G v hx hj hv⟩,rfl,Grow.refl _,fun b o e=>by
  have h1:=hs b o e
  rw [hB.block b (Array.getElem?_eq_some_iff.1 h1).1];exact h1,fun b o e=>.inl e,below_beneath hB⟩
abbrev Raw:=ByteArray × Option Addr × Nat × Nat
abbrev rawV (x:Raw):Value:=.agg #[.string x.1, .slice x.2.1 x.2.2.1 x.2.2.2]
theorem heads57:Sound Try.prog 57 id (gsca (fun args _ (x:Raw)=>args = [rawV x]) fun x v=>v = .bool (decide (x.2.2.1≤5))):=by
 refine comp57.gsca (Tab.nil _) (fun args G s h=>?_) (fun args G x h=>?_)
 ·subst h;simp
 ·subst h
  obtain ⟨s,a,n,c⟩:=x
  (conv=>whnf)
  refine IteP.mk (fun h1=>W.mk ?_) (fun h1=>W.mk ?_)<;>(conv=>whnf)<;>refine FinP.mk ?_<;>refine congrArg Value.bool ?_<;>symm
  ·dsimp only at h1 ⊢;exact decide_eq_true (by omega)
  ·dsimp only at h1 ⊢;exact decide_eq_false (by omega)
def okC (c:Int):Bool:=decide (33≤c) && decide (c≤126)
theorem char79:Sound Try.prog 79 id (gsca (fun args _ (c:Int)=>args = [U c]) fun c v=>v = .bool (okC c)):=by
 refine comp79.gsca (Tab.nil _) (fun args G s h=>?_) (fun args G c h=>?_)
 ·subst h;simp
 ·subst h
  (conv=>whnf)
  refine IteP.mk (fun h1=>W.mk ?_) (fun h1=>W.mk ?_)<;>(conv=>whnf)
  ·have h1:33≤c:=h1
   refine IteP.mk (fun h2=>W.mk ?_) (fun h2=>W.mk ?_)<;>(conv=>whnf)<;>refine FinP.mk ?_<;>refine congrArg Value.bool ?_<;>rw [okC,decide_eq_true h1,Bool.true_and]<;>symm
   ·exact decide_eq_true h2
   ·exact decide_eq_false h2
  ·have h1:¬ 33≤c:=h1
   refine FinP.mk ?_
   refine congrArg Value.bool ?_
   rw [okC,decide_eq_false h1];rfl
def bytesL (s:ByteArray):List Int:=s.data.toList.map fun b=>(b.toNat:Int)
theorem bytesL_eq (s:ByteArray):bytesL s = (List.range s.size).map (byteAt s):=by
 apply List.ext_getElem?
 intro i
 simp only [bytesL,List.getElem?_map]
 by_cases h:i < s.size
 ·have h':i < s.data.size:=h
  rw [List.getElem?_range h,Array.getElem?_toList,Array.getElem?_eq_getElem h']
  simp only [Option.map_some,byteAt,h,dif_pos]
  rfl
 ·have h':¬ i < s.data.size:=h
  rw [Array.getElem?_toList,Array.getElem?_eq_none (by omega),List.getElem?_eq_none (by simp;omega)]
  rfl
theorem okC_all (s:ByteArray):(bytesL s).all okC = !badT s:=by
 rw [bytesL_eq,badT,List.all_map,List.not_any_eq_all_not]
 congr 1
 funext k
 simp only [Function.comp_apply,okC,badC,Bool.not_or]
 rw [Bool.eq_iff_iff]
 simp
theorem flat1 {α β:Type} (g:α→β) (l:List α):(l.map fun x=>[g x]).flatten = l.map g:=by
 induction l with
 | nil=>rfl
 | cons x r ih=>simp [ih]
def WdV (G:Hp) (v:Value) (w:Wd):Prop:=∃ h,v = .agg #[.string w.text,h]∧SlV intE G h w.heads
def wdRd:Rd Wd:=⟨WdV,fun {_ _ x y} ⟨a,e,h1⟩ ⟨b,e',h2⟩=>by
  rw [e] at e'
  simp only [Value.agg.injEq,Array.mk.injEq,List.cons.injEq,Value.string.injEq,and_true] at e'
  obtain ⟨e1,e2⟩:=e'
  subst e2
  have:=h1.uniq h2
  cases x;cases y;simp_all,fun hg ⟨a,e,h1⟩=>⟨a,e,h1.grow hg⟩⟩
theorem valid58:Sound Try.prog 58 id (gsca (args1 wdRd fun _=>True) fun w v=>v = .bool (!badW w)):=by
 refine comp58.gsca (Tab.cons 51 _ within51 body51 (Tab.cons 67 _ rising67 body67 (Tab.nil _))) (fun args G s h=>?_) (fun args G w h=>?_)
 ·obtain ⟨v,rfl,_⟩:=h;simp
 ·obtain ⟨u,rfl,⟨hv,rfl,hh⟩,_⟩:=h
  obtain ⟨a,n,c,rfl,hl,hn⟩:=id hh
  have hbw:badW w = (!inF w.text.size 1 20 || !risM 99 w.heads || badT w.text):=rfl
  (conv=>whnf)
  refine OblP.mk ⟨_,_,_,rfl⟩ (W.mk ?_)
  (conv=>whnf)
  refine ForkP.mk (fun hq=>W.mk ?_) (fun hq=>W.mk ?_)<;>(conv=>whnf)
  rotate_left
  ·have hq:inF w.text.size 1 20 = false:=hq
   refine FinP.mk ?_
   refine congrArg Value.bool ?_
   rw [hbw,hq];rfl
  have hq:inF w.text.size 1 20 = true:=hq
  have hsz:w.text.size≤20:=by simp [inF] at hq;omega
  refine RelP.mk trivial (fun v G1 hg hq1=>W.mk ?_)
  obtain ⟨ba,bc,rfl,hpr⟩:=hq1
  (conv=>whnf)
  refine CallN.mk ⟨_,all78 79 #[] #[] okC (fun _=>True) (fun _=>True) (fun _ _ _ h=>h) (SoundFn.of body79 (Sound.bare (TestS.of char79 (fun x G _ _=>⟨x,rfl⟩) (fun x G v _ _ ⟨y,h1,h2⟩=>by cases h1;exact h2)))),body78,W.mk ?_⟩
  (conv=>whnf)
  refine StP.mk ⟨[],trivial,(by show ([]:List Nat).Nodup;decide),⟨rfl,trivial,_,bytesL w.text,rfl,hpr.slV (by
   show _ = ((bytesL w.text).map fun x=>[U x]).flatten
   rw [flat1,bytesL,List.map_map];rfl) (by simp [bytesL]) (by omega),fun _ _=>trivial⟩,fun v ns G3 hg3 hpost=>W.mk ?_⟩
  obtain ⟨rfl,w',l',q1,q2,rfl⟩:=hpost
  simp only [List.cons.injEq,and_true] at q1
  subst q1
  have:l' = bytesL w.text:=q2.uniq (SlV.grow hg3 (hpr.slV (by
   show _ = ((bytesL w.text).map fun x=>[U x]).flatten
   rw [flat1,bytesL,List.map_map];rfl) (by simp [bytesL]) (by omega)))
  subst this
  have hok:=okC_all w.text
  (conv=>whnf)
  refine ForkP.mk (fun hm=>W.mk ?_) (fun hm=>W.mk ?_)<;>(conv=>whnf)
  rotate_left
  ·have hm:(bytesL w.text).all okC = false:=hm
   refine FinP.mk ?_
   refine congrArg Value.bool ?_
   rw [hok] at hm
   rw [hbw,show badT w.text = true by simpa using hm,Bool.or_true];rfl
  have hm:(bytesL w.text).all okC = true:=hm
  rw [hok] at hm
  have hbt:badT w.text = false:=by simpa using hm
  refine ScaP.g (ok2 (slRd intE) intRd fun _ _=>True) (x:=(w.heads,99)) ⟨_,_,rfl,(hh.grow hg).grow hg3,rfl,trivial⟩ (fun v hv=>W.mk ?_)
  subst hv
  dsimp only
  (conv=>whnf)
  refine ForkP.mk (fun hr=>W.mk ?_) (fun hr=>W.mk ?_)<;>(conv=>whnf)<;>refine FinP.mk ?_<;>refine congrArg Value.bool ?_<;>rw [hbw,hq,hbt,show risM 99 w.heads = _ from hr]<;>rfl
theorem wds_raw {G:Hp} {a:Option Addr} {n c:Nat} {ws:List Wd} (h:SlR 2 WdR G a n c ws):∃ F:Nat→Raw,SlR 2 wdhE.R G a n c ((List.range n).map F)∧∀ i (hi:i < ws.length),WdR G (wdhE.f (F i)) ws[i]:=by
 have ex:∀ i, ∃ x:Raw, ∀ hi:i < ws.length,CellsAt G (ab a) (ao a + i * 2) (wdhE.f x)∧WdR G (wdhE.f x) ws[i]:=fun i=>by
  by_cases hi:i < ws.length
  ·obtain ⟨cs,_,h1,hd,rfl,a',n',c',rfl,h3,h4⟩:=h.at_ i hi
   exact ⟨(ws[i].text,a',n',c'),fun _=>⟨h1,_,rfl,a',n',c',rfl,h3,h4⟩⟩
  ·exact ⟨(ByteArray.empty,none,0,0),fun h=>absurd h hi⟩
 refine ⟨fun i=>Classical.choose (ex i),⟨by simp,h.cap,h.some,fun i hi=>?_⟩,fun i hi=>(Classical.choose_spec (ex i) hi).2⟩
 have hn:i < ws.length:=by rw [h.len];simpa using hi
 refine ⟨_,rfl,(Classical.choose_spec (ex i) hn).1, ?_⟩
 simp only [List.getElem_map,List.getElem_range]
 rfl
theorem all_raw {ws:List Wd} {n:Nat} {F:Nat→Raw} {p:Raw→Bool} {p':Wd→Bool} (hn:ws.length = n) (h:∀ i (hi:i < ws.length),p (F i) = p' ws[i]):((List.range n).map F).all p = ws.all p':=by
 have e:((List.range n).map F).map p = ws.map p':=by
  apply List.ext_getElem (by simp [hn])
  intro i h1 h2
  simp only [List.getElem_map,List.getElem_range]
  exact h i (by simpa using h2)
 have e2:∀ {α:Type} (l:List α) (f:α→Bool),l.all f = (l.map f).all id:=fun l f=>by simp [List.all_map,Function.comp_def]
 rw [e2,e, ← e2]
open Classical in
noncomputable def rawOk (G:Hp) (x:Raw):Bool:=if h:∃ w,WdR G (wdhE.f x) w then !badW h.choose else false
theorem rawOk_eq {G:Hp} {x:Raw} {w:Wd} (h:WdR G (wdhE.f x) w):rawOk G x = !badW w:=by
 have hex:∃ w,WdR G (wdhE.f x) w:=⟨w,h⟩
 rw [rawOk,dif_pos hex,WdR.uniq hex.choose_spec h]
theorem ord54 (b:Nat) (a:Option Addr) (n c:Nat) (ov:Value) (cols:Int):Sound Try.prog 54 (fun a=>(#[]:Array Value).toList++a++(#[bptr b]:Array Value).toList) (TestS odV (fun o=>!badO n o) (fun _=>True) (fun _=>True) [⟨b,false, .cells [.slice a n c,ov,I cols] 38⟩]):=by
 refine ⟨fun args ls v ns G G' hg h=>h,fun args ls G Wd hsub hls hnd hpre=>?_⟩
 obtain ⟨rfl,hj,⟨f,t,k,y⟩,rfl,hx⟩:=hpre
 refine st_sound (Tab.cons 51 _ within51 body51 (Tab.cons 55 _ year55 body55 (Tab.nil _))) comp54 (svs:=[.v (odV ⟨f,t,k,y⟩), .c (.ptr 0 0)]) (obs:=[.cells (.named b) [.val (.slice a n c), .val ov, .val (I cols)] 38]) (by simp) hsub hls hnd (Nat.le_of_ble_eq_true rfl) ?_ ?_ ?_
 ·exact ⟨rfl,trivial,⟨_,rfl,rfl⟩,(Nat.le_of_ble_eq_true rfl:0 < 1),trivial⟩
 ·exact ⟨⟨_,rfl,relL_vals _ [.slice a n c,ov,I cols],(by intro c hc;simp at hc;rcases hc with rfl | rfl | rfl<;>trivial)⟩,trivial⟩
 ·have hbo:badO n ⟨f,t,k,y⟩ = (!inF t 1 n || !inF f 0 (t - 1) || !inF k 0 7 || !inF y 0 9999):=rfl
  have e1:(!inF t 1 n || !inF f 0 (t - 1)) = !(decide (0≤f) && decide (f < t) && decide (t≤n)):=by
   rw [Bool.eq_iff_iff];simp [inF];omega
  rw [e1] at hbo
  have fin:∀ x:Bool,badO n ⟨f,t,k,y⟩ = !x→∃ z,[odV ⟨f,t,k,y⟩] = [odV z]∧Value.bool x = .bool (!badO n z):=fun x h=>⟨_,rfl,by rw [h,Bool.not_not]⟩
  (conv=>whnf)
  refine IteP.mk (fun h1=>W.mk ?_) (fun h1=>W.mk ?_)<;>(conv=>whnf)
  rotate_left
  ·have h1:¬ 0≤f:=h1
   refine FinS.mk ⟨[],⟨.cells [.slice a n c,ov,I cols] 38,⟨_,rfl,rfl⟩,trivial,rfl,rfl⟩,rfl,fin false ?_⟩
   rw [hbo,decide_eq_false h1];rfl
  have h1:0≤f:=h1
  refine IteP.mk (fun h2=>W.mk ?_) (fun h2=>W.mk ?_)<;>(conv=>whnf)
  rotate_left
  ·have h2:¬ f < t:=h2
   refine FinS.mk ⟨[],⟨.cells [.slice a n c,ov,I cols] 38,⟨_,rfl,rfl⟩,trivial,rfl,rfl⟩,rfl,fin false ?_⟩
   rw [hbo,decide_eq_false h2,Bool.and_false];rfl
  have h2:f < t:=h2
  refine IteP.mk (fun h3=>W.mk ?_) (fun h3=>W.mk ?_)<;>(conv=>whnf)
  rotate_left
  ·have h3:¬ t≤n:=h3
   refine FinS.mk ⟨[],⟨.cells [.slice a n c,ov,I cols] 38,⟨_,rfl,rfl⟩,trivial,rfl,rfl⟩,rfl,fin false ?_⟩
   rw [hbo,decide_eq_false h3,Bool.and_false];rfl
  have h3:t≤n:=h3
  rw [decide_eq_true h1,decide_eq_true h2,decide_eq_true h3] at hbo
  refine OblP.mk ⟨_,_,_,rfl⟩ (W.mk ?_)
  (conv=>whnf)
  refine ForkP.mk (fun h4=>W.mk ?_) (fun h4=>W.mk ?_)<;>(conv=>whnf)
  rotate_left
  ·have h4:inF k 0 7 = false:=h4
   refine FinS.mk ⟨[],⟨.cells [.slice a n c,ov,I cols] 38,⟨_,rfl,rfl⟩,trivial,rfl,rfl⟩,rfl,fin false ?_⟩
   rw [hbo,h4];rfl
  have h4:inF k 0 7 = true:=h4
  refine ScaP.g (ok1 intRd fun _=>True) (x:=y) ⟨_,rfl,rfl,trivial⟩ (fun v hv=>W.mk ?_)
  subst hv
  (conv=>whnf)
  refine ForkP.mk (fun h5=>W.mk ?_) (fun h5=>W.mk ?_)<;>(conv=>whnf)
  ·have h5:inF y 0 9999 = true:=h5
   refine FinS.mk ⟨[],⟨.cells [.slice a n c,ov,I cols] 38,⟨_,rfl,rfl⟩,trivial,rfl,rfl⟩,rfl,fin true ?_⟩
   rw [hbo,h4,h5];rfl
  ·have h5:inF y 0 9999 = false:=h5
   refine FinS.mk ⟨[],⟨.cells [.slice a n c,ov,I cols] 38,⟨_,rfl,rfl⟩,trivial,rfl,rfl⟩,rfl,fin false ?_⟩
   rw [hbo,h4,h5];rfl
theorem check30:Sound Try.prog 30 id (gsca (args1 rpRd fun _=>True) fun r v=>v = I (faultR r)):=by
 refine comp30.gsca (Tab.cons 51 _ within51 body51 (Tab.nil _)) (fun args G s h=>?_) (fun args G r h=>?_)
 ·obtain ⟨v,rfl,_⟩:=h;simp
 ·obtain ⟨u,rfl,⟨rw_,ro,rfl,hrc⟩,_⟩:=h
  obtain ⟨oa,on,oc,rfl,ho1,ho2⟩:=id hrc.o
  obtain ⟨wa,wn,wc,rfl,hw1,hw2⟩:=id hrc.w
  have hwn:=hw1.len
  have hon:=ho1.len
  have h3:60 < r.words.length∨12 < r.orders.length→faultR r = 3:=fun h=>by rw [faultR,if_pos h]
  obtain ⟨F,hF,hFw⟩:=wds_raw hw1
  have hJ:∀ G1 G2:Hp,Grow G1 G2→Grow G G1→Grow G G2:=fun _ _ h h'=>h'.trans h
  (conv=>whnf)
  refine NameP.mk (fun b=>W.mk ?_)
  (conv=>whnf)
  refine IteP.mk (fun h1=>W.mk ?_) (fun h1=>W.mk ?_)<;>(conv=>whnf)
  ·refine FinP.mk ?_
   rw [h3 (.inl (by omega))];rfl
  refine IteP.mk (fun h2=>W.mk ?_) (fun h2=>W.mk ?_)<;>(conv=>whnf)
  ·refine FinP.mk ?_
   rw [h3 (.inr (by omega))];rfl
  have hfa:faultR r = if r.words.any longW then 3 else if r.words.any badW || r.orders.any (badO r.words.length) || !inF r.cols 1 20 then 1 else 0:=by rw [faultR,if_neg (by omega)]
  refine CallN.mk ⟨_,all56 57 #[] #[] (fun x=>decide (x.2.2.1≤5)) (fun _=>True) (fun _=>True) (fun _ _ _ h=>h) (SoundFn.of body57 (Sound.bare (TestS.of heads57 (fun x G _ _=>⟨x,rfl⟩) (fun x G v _ _ ⟨y,h1,h2⟩=>by
   have:=inj56 x y (List.cons.inj h1).1
   subst this;exact h2)))),body56,W.mk ?_⟩
  (conv=>whnf)
  refine StP.mk ⟨[],trivial,(by show ([]:List Nat).Nodup;decide),⟨rfl,trivial,_,_,rfl,⟨_,_,_,rfl,hF,hw2⟩,fun _ _=>trivial⟩,fun v ns G3 hg3 hpost=>W.mk ?_⟩
  obtain ⟨rfl,w',l',q1,q2,rfl⟩:=hpost
  simp only [List.cons.injEq,and_true] at q1
  subst q1
  have:=q2.uniq (SlV.grow hg3 ⟨_,_,_,rfl,hF,hw2⟩)
  subst this
  have hlong:((List.range wn).map F).all (fun x=>decide (x.2.2.1≤5)) = !r.words.any longW:=by
   rw [all_raw (p':=fun w=>!longW w) hwn (fun i hi=>?_),List.not_any_eq_all_not]
   obtain ⟨hd,e,a1,n1,c1,e2,k1,_⟩:=hFw i hi
   simp only [wdhE,List.cons.injEq,Value.string.injEq,and_true] at e
   obtain ⟨_,e⟩:=e
   rw [← e] at e2
   cases e2
   have:=k1.len
   simp only [longW]
   rw [this,Bool.eq_iff_iff];simp
  (conv=>whnf)
  refine ForkP.mk (fun hm=>W.mk ?_) (fun hm=>W.mk ?_)<;>(conv=>whnf)
  rotate_left
  ·have hm:=hlong.symm.trans hm
   refine FinP.mk ?_
   rw [hfa,if_pos (by simpa using hm)];rfl
  have hm:=hlong.symm.trans hm
  rw [if_neg (by simpa using hm)] at hfa
  refine CallN.mk ⟨_,all56 58 #[] #[] (rawOk G) (fun x=>∃ w,WdR G (wdhE.f x) w) (Grow G) hJ (SoundFn.of body58 (Sound.bare (TestS.of valid58 (fun x G' ⟨w,hw⟩ hj=>⟨w,_,rfl,(by
    obtain ⟨hd,e,k1⟩:=hw.grow hj
    simp only [wdhE,List.cons.injEq,and_true] at e
    exact ⟨hd,by rw [e.1,e.2],k1⟩),trivial⟩) (fun x G' v ⟨w,hw⟩ hj ⟨y,⟨u,h1,h2,_⟩,h3⟩=>by
   rw [rawOk_eq hw,h3]
   have hv:=(List.cons.inj h1).1
   subst hv
   obtain ⟨hd,e,k1⟩:=hw.grow hj
   simp only [wdhE,List.cons.injEq,and_true] at e
   rw [wdRd.uniq h2 ⟨hd,by rw [e.1,e.2],k1⟩])))),body56,W.mk ?_⟩
  (conv=>whnf)
  refine StP.mk ⟨[],trivial,(by show ([]:List Nat).Nodup;decide),⟨rfl,hg3,_,_,rfl,SlV.grow hg3 ⟨_,_,_,rfl,hF,hw2⟩,fun x hx=>?_⟩,fun v ns G4 hg4 hpost=>W.mk ?_⟩
  ·obtain ⟨i,hi,rfl⟩:=List.mem_map.1 hx
   exact ⟨_,hFw i (by rw [hwn];simpa using hi)⟩
  obtain ⟨rfl,w',l',q1,q3,rfl⟩:=hpost
  simp only [List.cons.injEq,and_true] at q1
  subst q1
  have:=q3.uniq (SlV.grow (hg3.trans hg4) ⟨_,_,_,rfl,hF,hw2⟩)
  subst this
  have hbad:((List.range wn).map F).all (rawOk G) = !r.words.any badW:=by
   rw [all_raw (p':=fun w=>!badW w) hwn (fun i hi=>rawOk_eq (hFw i hi)),List.not_any_eq_all_not]
  (conv=>whnf)
  refine ForkP.mk (fun hm2=>W.mk ?_) (fun hm2=>W.mk ?_)<;>(conv=>whnf)
  rotate_left
  ·have hm2:=hbad.symm.trans hm2
   refine FinP.mk ?_
   rw [hfa,if_pos (by rw [show r.words.any badW = true by simpa using hm2];rfl)];rfl
  have hm2:=hbad.symm.trans hm2
  rw [show r.words.any badW = false by simpa using hm2,Bool.false_or] at hfa
  refine CallN.mk ⟨_,all59 54 #[] #[bptr b] (fun o=>!badO wn o) (fun _=>True) (fun _=>True) b (.slice wa wn wc) (.slice oa on oc) (I r.cols) (fun _ _ _ h=>h) (SoundFn.of body54 (ord54 b wa wn wc (.slice oa on oc) r.cols)),body59,W.mk ?_⟩
  (conv=>whnf)
  refine StP.mk ⟨[(0,⟨b,false, .cells [.slice wa wn wc, .slice oa on oc,I r.cols] 38⟩)],⟨⟨_,rfl,rfl⟩,trivial⟩,(by show ([0]:List Nat).Nodup;decide),⟨rfl,trivial,_,r.orders,rfl,(hrc.o.grow hg3).grow hg4,fun _ _=>trivial⟩,fun v ns G5 hg5 hpost=>W.mk ?_⟩
  obtain ⟨rfl,w',l',q1,q4,rfl⟩:=hpost
  simp only [List.cons.injEq,and_true] at q1
  subst q1
  have:=q4.uniq (((hrc.o.grow hg3).grow hg4).grow hg5)
  subst this
  have hbo:(r.orders.all fun o=>!badO wn o) = !r.orders.any (badO r.words.length):=by
   rw [hwn,List.not_any_eq_all_not]
  (conv=>whnf)
  refine ForkP.mk (fun hm3=>W.mk ?_) (fun hm3=>W.mk ?_)<;>(conv=>whnf)
  rotate_left
  ·have hm3:=hbo.symm.trans hm3
   refine FinP.mk ?_
   rw [hfa,if_pos (by rw [show r.orders.any (badO r.words.length) = true by simpa using hm3];rfl)];rfl
  have hm3:=hbo.symm.trans hm3
  rw [show r.orders.any (badO r.words.length) = false by simpa using hm3,Bool.false_or] at hfa
  refine OblP.mk ⟨_,_,_,rfl⟩ (W.mk ?_)
  (conv=>whnf)
  refine ForkP.mk (fun hq=>W.mk ?_) (fun hq=>W.mk ?_)<;>(conv=>whnf)
  ·have hq:inF r.cols 1 20 = true:=hq
   refine FinP.mk ?_
   rw [hfa,hq];rfl
  ·have hq:inF r.cols 1 20 = false:=hq
   refine FinP.mk ?_
   rw [hfa,hq];rfl
end Go.Proofs.Ytpcpjmplgladmaa

namespace Go.Proofs.Ytpcpjmplgladmaa
open Go.Pal
set_option maxRecDepth 100000
structure Fine (r:Rp):Prop where
 wl:r.words.length≤60
 ol:r.orders.length≤12
 o:∀ o∈r.orders,0≤o.f∧o.f < o.t∧o.t≤r.words.length∧0≤o.k∧o.k≤7∧0≤o.u∧o.u≤9999
 w:∀ w∈r.words,w.heads.length≤5∧1≤w.text.size∧w.text.size≤20∧risM 99 w.heads = true∧badT w.text = false
 c:1≤r.cols∧r.cols≤20
theorem fine_of {r:Rp} (h:faultR r = 0):Fine r:=by
 unfold faultR at h
 split at h
 ·cases h
 rename_i h1
 split at h
 ·cases h
 rename_i h2
 split at h
 ·cases h
 rename_i h3
 simp only [Bool.or_eq_true,not_or,Bool.not_eq_true,List.any_eq_false,Bool.not_eq_true',inF,decide_eq_false_iff_not,Decidable.not_not] at h2 h3
 obtain ⟨⟨h3,h4⟩,h5⟩:=h3
 refine ⟨by omega,by omega,fun o ho=>?_,fun w hw=>?_,h5⟩
 ·have:=h4 o ho
  simp only [badO,inF,Bool.or_eq_false_iff,Bool.not_eq_false',decide_eq_true_eq] at this
  omega
 ·have h6:=h3 w hw
  have h7:=h2 w hw
  simp only [badW,inF,Bool.or_eq_false_iff,Bool.not_eq_false',decide_eq_true_eq] at h6
  simp only [longW,decide_eq_false_iff_not] at h7
  exact ⟨by omega,by omega,by omega,h6.1.2,h6.2⟩
def faultX (r:Rp) (x:Rx):Int:=if faultR r = 0 then (if rightX x then 0 else 2) else faultR r
theorem faultX_fine {r:Rp} {x:Rx} (h:faultX r x = 0):Fine r∧rightX x = true:=by
 unfold faultX at h
 split at h
 ·rename_i h1
  refine ⟨fine_of h1, ?_⟩
  cases hr:rightX x with
  | true=>rfl
  | false=>rw [hr] at h;simp at h
 ·rename_i h1;exact absurd h h1
def pK (x:Rx) (os:List Od):Nat→Bool:=fun j=>os.any (hidO x j)
theorem pK_hi {x:Rx} {os:List Od} (h:∀ o∈os,o.t≤60) (i:Nat) (hi:60≤i):pK x os i = false:=by
 simp only [pK,List.any_eq_false]
 intro o ho
 have:=h o ho
 simp only [hidO,inF,Bool.and_eq_true,decide_eq_true_eq]
 omega
theorem pK_take {x:Rx} {os:List Od} {i:Nat} (h:i < os.length):pK x (os.take (i + 1)) = if holdsF os[i] x then hideF (pK x (os.take i)) os[i] else pK x (os.take i):=by
 have e:os.take (i + 1) = os.take i++[os[i]]:=by simp
 rw [e]
 funext j
 simp only [pK,List.any_append,List.any_cons,List.any_nil,Bool.or_false,hidO]
 cases hh:holdsF os[i] x with
 | true =>
  simp only [if_true,hideF,Bool.true_and]
  congr 1
  rw [Bool.eq_iff_iff]
  simp only [inF,Bool.and_eq_true,decide_eq_true_eq]
  omega
 | false=>simp [pK]
def rgOf (r:Rp) (x:Rx):Rg:=⟨r,x,fun i=>hidF r x i⟩
abbrev vl0:List Value:=rgl (.slice none 0 0) (.slice none 0 0) (.slice none 0 0) 0 0 (fun _=>false)
def readQ (p:Rp × Rx) (v:Value) (G:Hp):Prop:=∃ wa wn wc oa on oc ma mn mc c y h,v = .tuple #[.agg (rgl (.slice wa wn wc) (.slice oa on oc) (.slice ma mn mc) c y h).toArray,I (faultX p.1 p.2)]∧(faultX p.1 p.2 = 0→c = p.1.cols∧y = p.2.year∧h = (rgOf p.1 p.2).p∧RgC G (.slice wa wn wc) (.slice oa on oc) (.slice ma mn mc) (rgOf p.1 p.2))
def nmOB (nm:Option Nat) (vs:List Value):OB:=match nm with
 | none=>.cells .anon (vs.map .val) 97
 | some b=>.cells (.named b) (vs.map S1.of) 97
theorem read44:Sound Try.prog 44 id (grel (args2 rpRd rxRd fun _ _=>True) readQ):=by
 refine comp44.grel (Tab.cons 30 _ check30 body30 (Tab.cons 55 _ year55 body55 (Tab.cons 67 _ rising67 body67 (Tab.cons 68 _ holds68 body68 (Tab.nil _))))) (ok2 _ _ _) (fun args G s h=>?_) (fun x v G G' hg h=>?_) (fun args G p h=>?_)
 ·obtain ⟨v,w,rfl,_⟩:=h;simp
 ·obtain ⟨_,_,_,_,_,_,_,_,_,c,y,q,e,h⟩:=h
  exact ⟨_,_,_,_,_,_,_,_,_,c,y,q,e,fun he=>⟨(h he).1,(h he).2.1,(h he).2.2.1,(h he).2.2.2.grow hg⟩⟩
 ·obtain ⟨r,x⟩:=p
  obtain ⟨u,v,rfl,⟨rw_,ro,rfl,hrc⟩,⟨m,rfl,hm⟩,_⟩:=h
  dsimp only at hrc hm
  obtain ⟨oa,on,oc,rfl,ho1,ho2⟩:=id hrc.o
  obtain ⟨wa,wn,wc,rfl,hw1,hw2⟩:=id hrc.w
  obtain ⟨ma,mn,mc,rfl,hm1,hm2⟩:=id hm
  have hwn:=hw1.len
  have hon:=ho1.len
  dsimp only
  (conv=>whnf)
  refine ScaP.g (ok1 rpRd fun _=>True) (x:=r) ⟨_,rfl,⟨_,_,rfl,hrc⟩,trivial⟩ (fun v hv=>W.mk ?_)
  subst hv
  (conv=>whnf)
  refine IteP.mk (fun h1=>W.mk ?_) (fun h1=>W.mk ?_)<;>(conv=>whnf)
  rotate_left
  ·have h1:¬ faultR r = 0:=h1
   refine FinP.mk ⟨_,_,_,_,_,_,_,_,_,0,0,fun _=>false,(by show Value.tuple #[_,I (faultR r)] = .tuple #[_,I (faultX r x)];rw [faultX,if_neg h1];rfl),fun h=>?_⟩
   simp only [faultX,if_neg h1] at h
   exact absurd h h1
  have h1:faultR r = 0:=h1
  have fr:=fine_of h1
  have hfx:faultX r x = if rightX x then 0 else 2:=by rw [faultX,if_pos h1]
  have hrx:rightX x = (inF x.year 0 9999 && risM 7 x.may):=rfl
  refine ScaP.g (ok1 intRd fun _=>True) (x:=x.year) ⟨_,rfl,rfl,trivial⟩ (fun v hv=>W.mk ?_)
  subst hv
  (conv=>whnf)
  refine ForkP.mk (fun h2=>W.mk ?_) (fun h2=>W.mk ?_)<;>(conv=>whnf)
  rotate_left
  ·have h2:inF x.year 0 9999 = false:=h2
   have hf2:faultX r x = 2:=by rw [hfx,hrx,h2];rfl
   refine FinP.mk ⟨_,_,_,_,_,_,_,_,_,0,0,fun _=>false,(by show Value.tuple #[_,I 2] = .tuple #[_,I (faultX r x)];rw [hf2];rfl),fun h=>?_⟩
   dsimp only at h
   rw [hf2] at h;cases h
  have h2:inF x.year 0 9999 = true:=h2
  refine ScaP.g (ok2 (slRd intE) intRd fun _ _=>True) (x:=(x.may,7)) ⟨_,_,rfl,hm,rfl,trivial⟩ (fun v hv=>W.mk ?_)
  subst hv
  dsimp only
  (conv=>whnf)
  refine ForkP.mk (fun h3=>W.mk ?_) (fun h3=>W.mk ?_)<;>(conv=>whnf)
  rotate_left
  ·have h3:risM 7 x.may = false:=h3
   have hf2:faultX r x = 2:=by rw [hfx,hrx,h2,h3];rfl
   refine FinP.mk ⟨_,_,_,_,_,_,_,_,_,0,0,fun _=>false,(by show Value.tuple #[_,I 2] = .tuple #[_,I (faultX r x)];rw [hf2];rfl),fun h=>?_⟩
   dsimp only at h
   rw [hf2] at h;cases h
  have h3:risM 7 x.may = true:=h3
  have hf0:faultX r x = 0:=by rw [hfx,hrx,h2,h3];rfl
  refine LoopP.of { α:=Nat × Option Nat × (Nat→Bool),fr:=fun y=>[(4, .c (.ptr 2 0)),(7, .c (.ptr 30 0)),(32, .v (.slice oa on oc)),(33, .v (I on)),(34, .v (I y.1))],H:=fun y=>[(2, .cells .anon (vl0.map .val) 97),(30,nmOB y.2.1 (rgl (.slice wa wn wc) (.slice oa on oc) (.slice ma mn mc) r.cols x.year y.2.2))],ok:=fun y _=>y.1≤on∧y.2.2 = pK x (r.orders.take y.1),m:=fun y=>on - y.1 }
   (0,none,fun _=>false) (HeadP.of [] ⟨rfl,rfl,rfl,rfl,rfl,trivial⟩ ⟨rfl,rfl,trivial⟩) ⟨Nat.zero_le _,rfl⟩ (fun y=>⟨rfl,(by obtain ⟨i,nm,q⟩:=y;cases nm<;>rfl)⟩) (fun y G1 hg1 hx=>W.mk ?_)
  obtain ⟨i,nm,q⟩:=y
  obtain ⟨hi,hqe⟩:=hx
  dsimp only at hi hqe
  dsimp only
  cases nm with
  | none =>
   (conv=>whnf)
   refine IteP.mk (fun hlt=>W.mk ?_) (fun hge=>W.mk ?_)<;>(conv=>whnf)
   ·have hlt:i < r.orders.length:=by omega
    have hc:=(SlR.grow (G:=G) (G':=G1) (fun _ _ h=>h) ho1 hg1).el hlt
    have htk:=pK_take (x:=x) hlt
    rw [← hqe] at htk
    have hb:=fr.o _ (List.getElem_mem hlt)
    have hwl:=fr.wl
    generalize r.orders[i] = o at hc htk hb
    have hc:CellsAt G1 (ab oa) (ao oa + i * 4) [I o.f,I o.t,I o.k,I o.u]:=hc
    repeat' (first | (refine ob ?_ ?_;(first | trivial | omega | (simp only [inR];omega) | exact ble (by rfl) | exact SlR.some ‹_› (by omega));(conv=>whnf)) | (first | (refine ra ‹_› (by rfl) ?_;(conv=>whnf)) | (refine rb ‹_› (by rfl) ?_;(conv=>whnf)) | (refine rc ‹_› (by rfl) ?_;(conv=>whnf)) | (refine rd ‹_› (by rfl) ?_;(conv=>whnf))))
    refine ScaP.g (ok2 rgRd odRd fun _ _=>True) (x:=(⟨r,x,q⟩,o)) ⟨_,_,rfl,⟨_,_,_,rfl,hrc.grow hg1,hm.grow hg1,hqe ▸ pK_hi fun o ho=>(by have:=fr.o o (List.mem_of_mem_take ho);omega)⟩,rfl,trivial⟩ (fun v hv=>W.mk ?_)
    subst hv
    dsimp only
    (conv=>whnf)
    refine ForkP.mk (fun hq=>W.mk ?_) (fun hq=>W.mk ?_)<;>(conv=>whnf)
    ·refine NameP.mk (fun b=>W.mk ?_)
     (conv=>whnf)
     refine CallN.mk ⟨_,hide69 (.slice wa wn wc) (.slice oa on oc) (I r.cols) (I x.year) (.slice ma mn mc) 97 b q o hb.1 (by omega) (by omega),body69,W.mk ?_⟩
     (conv=>whnf)
     refine StP.mk ⟨[(30,⟨b,true, .cells (rgl (.slice wa wn wc) (.slice oa on oc) (.slice ma mn mc) r.cols x.year q) 97⟩)],⟨⟨_,rfl,rfl⟩,trivial⟩,(by show ([30]:List Nat).Nodup;decide),⟨rfl,rfl⟩,fun v ns G3 hg3 hpost=>W.mk ?_⟩
     obtain ⟨rfl,rfl⟩:=hpost
     have hq:holdsF o x = true:=hq
     rw [if_pos hq] at htk
     (conv=>whnf)
     (refine ob ?_ ?_;(first | trivial | omega | (simp only [inR];omega) | exact ble (by rfl) | exact SlR.some ‹_› (by omega));(conv=>whnf))
     refine RoundP.of (i + 1,some b,hideF q o) (HeadP.of [] ⟨rfl,rfl,rfl,rfl,rfl,trivial⟩ ⟨rfl,rfl,trivial⟩) ⟨by show i + 1≤on;omega,htk.symm⟩ (by simp only;omega)
    ·have hq:holdsF o x = false:=hq
     rw [if_neg (by rw [hq];simp)] at htk
     (refine ob ?_ ?_;(first | trivial | omega | (simp only [inR];omega) | exact ble (by rfl) | exact SlR.some ‹_› (by omega));(conv=>whnf))
     refine RoundP.of (i + 1,none,q) (HeadP.of [] ⟨rfl,rfl,rfl,rfl,rfl,trivial⟩ ⟨rfl,rfl,trivial⟩) ⟨by show i + 1≤on;omega,htk.symm⟩ (by simp only;omega)
   ·have hie:i = r.orders.length:=by omega
    subst hie
    rw [List.take_length] at hqe
    subst hqe
    refine FinP.mk ⟨_,_,_,_,_,_,_,_,_,_,_,pK x r.orders,(by show Value.tuple #[_,I 0] = .tuple #[_,I (faultX r x)];rw [hf0];rfl),fun _=>⟨rfl,rfl,rfl,hrc.grow hg1,hm.grow hg1,fun i hi=>pK_hi (fun o ho=>(by have:=fr.o o ho;have:=fr.wl;omega)) i hi⟩⟩
  | some b =>
   (conv=>whnf)
   refine IteP.mk (fun hlt=>W.mk ?_) (fun hge=>W.mk ?_)<;>(conv=>whnf)
   ·have hlt:i < r.orders.length:=by omega
    have hc:=(SlR.grow (G:=G) (G':=G1) (fun _ _ h=>h) ho1 hg1).el hlt
    have htk:=pK_take (x:=x) hlt
    rw [← hqe] at htk
    have hb:=fr.o _ (List.getElem_mem hlt)
    have hwl:=fr.wl
    generalize r.orders[i] = o at hc htk hb
    have hc:CellsAt G1 (ab oa) (ao oa + i * 4) [I o.f,I o.t,I o.k,I o.u]:=hc
    repeat' (first | (refine ob ?_ ?_;(first | trivial | omega | (simp only [inR];omega) | exact ble (by rfl) | exact SlR.some ‹_› (by omega));(conv=>whnf)) | (first | (refine ra ‹_› (by rfl) ?_;(conv=>whnf)) | (refine rb ‹_› (by rfl) ?_;(conv=>whnf)) | (refine rc ‹_› (by rfl) ?_;(conv=>whnf)) | (refine rd ‹_› (by rfl) ?_;(conv=>whnf))))
    refine ScaP.g (ok2 rgRd odRd fun _ _=>True) (x:=(⟨r,x,q⟩,o)) ⟨_,_,rfl,⟨_,_,_,rfl,hrc.grow hg1,hm.grow hg1,hqe ▸ pK_hi fun o ho=>(by have:=fr.o o (List.mem_of_mem_take ho);omega)⟩,rfl,trivial⟩ (fun v hv=>W.mk ?_)
    subst hv
    dsimp only
    (conv=>whnf)
    refine ForkP.mk (fun hq=>W.mk ?_) (fun hq=>W.mk ?_)<;>(conv=>whnf)
    ·(conv=>whnf)
     refine CallN.mk ⟨_,hide69 (.slice wa wn wc) (.slice oa on oc) (I r.cols) (I x.year) (.slice ma mn mc) 97 b q o hb.1 (by omega) (by omega),body69,W.mk ?_⟩
     (conv=>whnf)
     refine StP.mk ⟨[(30,⟨b,true, .cells (rgl (.slice wa wn wc) (.slice oa on oc) (.slice ma mn mc) r.cols x.year q) 97⟩)],⟨⟨_,rfl,rfl⟩,trivial⟩,(by show ([30]:List Nat).Nodup;decide),⟨rfl,rfl⟩,fun v ns G3 hg3 hpost=>W.mk ?_⟩
     obtain ⟨rfl,rfl⟩:=hpost
     have hq:holdsF o x = true:=hq
     rw [if_pos hq] at htk
     (conv=>whnf)
     (refine ob ?_ ?_;(first | trivial | omega | (simp only [inR];omega) | exact ble (by rfl) | exact SlR.some ‹_› (by omega));(conv=>whnf))
     refine RoundP.of (i + 1,some b,hideF q o) (HeadP.of [] ⟨rfl,rfl,rfl,rfl,rfl,trivial⟩ ⟨rfl,rfl,trivial⟩) ⟨by show i + 1≤on;omega,htk.symm⟩ (by simp only;omega)
    ·have hq:holdsF o x = false:=hq
     rw [if_neg (by rw [hq];simp)] at htk
     (refine ob ?_ ?_;(first | trivial | omega | (simp only [inR];omega) | exact ble (by rfl) | exact SlR.some ‹_› (by omega));(conv=>whnf))
     refine RoundP.of (i + 1,some b,q) (HeadP.of [] ⟨rfl,rfl,rfl,rfl,rfl,trivial⟩ ⟨rfl,rfl,trivial⟩) ⟨by show i + 1≤on;omega,htk.symm⟩ (by simp only;omega)
   ·have hie:i = r.orders.length:=by omega
    subst hie
    rw [List.take_length] at hqe
    subst hqe
    refine FinP.mk ⟨_,_,_,_,_,_,_,_,_,_,_,pK x r.orders,(by show Value.tuple #[_,I 0] = .tuple #[_,I (faultX r x)];rw [hf0];rfl),fun _=>⟨rfl,rfl,rfl,hrc.grow hg1,hm.grow hg1,fun i hi=>pK_hi (fun o ho=>(by have:=fr.o o ho;have:=fr.wl;omega)) i hi⟩⟩
end Go.Proofs.Ytpcpjmplgladmaa

namespace Go.Proofs.Ytpcpjmplgladmaa
open Go.Pal
set_option maxRecDepth 100000
structure Pc where
 text:ByteArray
 col:Int
abbrev noText:ByteArray:=⟨#[]⟩
def pcK (g:Rg):Nat→List (Int × Pc)
 | 0=>[]
 | i + 1=>if g.p i then (if 0 < i∧g.p (i - 1) = true then pcK g i else pcK g i++[(-1,⟨noText,(pcK g i).length / g.r.cols + 1⟩)]) else pcK g i++[((i:Int),⟨(g.r.words.getD i ⟨noText,[]⟩).text,(pcK g i).length / g.r.cols + 1⟩)]
theorem pcK_step (g:Rg) (i:Nat):∃ t,pcK g (i + 1) = pcK g i++t:=by
 simp only [pcK]
 split
 ·split
  ·exact ⟨[],by simp⟩
  ·exact ⟨_,rfl⟩
 ·exact ⟨_,rfl⟩
theorem pcK_pre (g:Rg) {i j:Nat} (h:i≤j):∃ t,pcK g j = pcK g i++t:=by
 induction j with
 | zero=>exact ⟨[],by rw [show i = 0 by omega];simp⟩
 | succ j ih =>
  by_cases he:i = j + 1
  ·exact ⟨[],by rw [he];simp⟩
  ·obtain ⟨t,ht⟩:=ih (by omega)
   obtain ⟨u,hu⟩:=pcK_step g j
   exact ⟨t++u,by rw [hu,ht,List.append_assoc]⟩
theorem pcK_len (g:Rg):∀ i,(pcK g i).length≤i
 | 0=>by simp [pcK]
 | i + 1=>by
  have:=pcK_len g i
  simp only [pcK]
  split
  ·split
   ·omega
   ·simp;omega
  ·simp;omega
def pcV (e:Int × Pc):List Value:=[I e.1, .agg #[.string e.2.text,I e.2.col]]
def pcF (g:Rg):List (Int × Pc):=pcK g g.r.words.length
def RgB (G:Hp) (b:Nat) (g:Rg):Prop:=∃ w o m,CellsAt G b 0 (rgl w o m g.r.cols g.x.year g.p)∧RgC G w o m g
theorem RgB.grow {G G':Hp} {b:Nat} {g:Rg} (hg:Grow G G') (h:RgB G b g):RgB G' b g:=let ⟨w,o,m,h1,h2⟩:=h;⟨w,o,m,h1.grow hg,h2.grow hg⟩
structure RgFine (g:Rg):Prop where
 wl:g.r.words.length≤60
 c:1≤g.r.cols∧g.r.cols≤20
def pcS (b:Nat) (g:Rg):PSpec:=.seq (fun l args G Ys=>args = [.func (.yield l) #[] #[]]∧RgB G b g∧RgFine g∧Ys = (pcF g).map pcV) (fun _ _=>True)
theorem rg_at {G:Hp} {b:Nat} {w o m:Value} {c y:Int} {p:Nat→Bool} (h:CellsAt G b 0 (rgl w o m c y p)) {i:Nat} (hi:i < 60):CellsAt G b (0 + 5 + (i:Int).toNat * 1) [.bool (p i)]:=by
 intro j v hj
 have hlt:=(List.getElem?_eq_some_iff.1 hj).1
 have:j = 0:=by simp at hlt;omega
 subst this
 have:=h (5 + i) v (by rw [List.getElem?_append_right (by simp)];simpa [vll_get hi] using hj)
 simpa using this
theorem pieces70 (b:Nat) (g:Rg):Sound Try.prog 70 (fun args=>(#[]:Array Value).toList++args++(#[.pointer (some ⟨b,0,none⟩)]:Array Value).toList) (pcS b g):=by
 refine comp70.seq (Tab.nil _) (fun l args G Ys h=>?_) (fun l Y k args G Ys h hseg=>?_)
 ·obtain ⟨rfl,_⟩:=h;simp
 ·obtain ⟨rfl,⟨w,o,m,hc,hgc⟩,hf,rfl⟩:=h
  obtain ⟨wa,wn,wc,rfl,hw1,hw2⟩:=id hgc.rp.w
  have hwn:=hw1.len
  have hwl:=hf.wl
  have hcl:=hf.c
  (conv=>whnf)
  repeat' (first | (refine ob ?_ ?_;(first | trivial | omega | (simp only [inR];omega) | exact ble (by rfl) | exact SlR.some ‹_› (by omega));(conv=>whnf)) | (first | (refine ra ‹_› (by rfl) ?_;(conv=>whnf)) | (refine rb ‹_› (by rfl) ?_;(conv=>whnf)) | (refine rc ‹_› (by rfl) ?_;(conv=>whnf)) | (refine rd ‹_› (by rfl) ?_;(conv=>whnf))))
  refine LoopP.of { α:=Nat × Nat,fr:=fun y=>[(0, .v (.func (.yield l) #[] #[])),(1, .v (.pointer (some ⟨b,0,none⟩))),(3, .v (I y.2)),(10, .v (.slice wa wn wc)),(11, .v (I wn)),(12, .v (I y.1)),(POS, .c (.pos (k + y.2) false))],H:=fun _=>[],ok:=fun y _=>y.1≤wn∧y.2 = (pcK g y.1).length,m:=fun y=>wn - y.1 }
   (0,0) (HeadP.of [] ⟨rfl,rfl,rfl,rfl,rfl,rfl,rfl,trivial⟩ trivial) ⟨Nat.zero_le _,rfl⟩ (fun _=>⟨rfl,rfl⟩) (fun y G1 hg1 hx=>W.mk ?_)
  obtain ⟨i,n⟩:=y
  obtain ⟨hi,hn0⟩:=hx
  dsimp only at hi hn0
  dsimp only
  (conv=>whnf)
  refine IteP.mk (fun hlt=>W.mk ?_) (fun hge=>W.mk ?_)<;>(conv=>whnf)
  ·have hlt:i < g.r.words.length:=by omega
   have hw3:SlR 2 WdR G1 wa wn wc g.r.words:=SlR.grow (fun _ _ h=>h.grow hg1) hw1 hg1
   obtain ⟨cs,_,hcs,hv,rfl,ha,hn,hcc,rfl,hh1,hh2⟩:=SlR.cells hw3 hlt
   have hc1:=hc.grow hg1
   have hpi:=rg_at hc1 (show i < 60 by omega)
   have hlen:=pcK_len g i
   rw [← hn0] at hlen
   have hcol:inR .i64 ((n:Int) / g.r.cols):=by
    have h1:=Int.ediv_nonneg (show (0:Int)≤n by omega) (show 0≤g.r.cols by omega)
    have h2:(n:Int) / g.r.cols≤n:=Int.ediv_le_self _ (by omega)
    simp only [inR];omega
   have hcol1:inR .i64 ((n:Int) / g.r.cols + 1):=by
    have h1:=Int.ediv_nonneg (show (0:Int)≤n by omega) (show 0≤g.r.cols by omega)
    have h2:(n:Int) / g.r.cols≤n:=Int.ediv_le_self _ (by omega)
    simp only [inR];omega
   have hsu:pcK g (i + 1) = if g.p i then (if 0 < i∧g.p (i - 1) = true then pcK g i else pcK g i++[(-1,⟨noText,(pcK g i).length / g.r.cols + 1⟩)]) else pcK g i++[((i:Int),⟨g.r.words[i].text,(pcK g i).length / g.r.cols + 1⟩)]:=by
    simp only [pcK,List.getD_eq_getElem?_getD,List.getElem?_eq_getElem hlt,Option.getD_some]
   rw [← hn0] at hsu
   generalize g.r.words[i].text = tx at hsu hcs
   repeat' (first | (refine ob ?_ ?_;(first | trivial | omega | (simp only [inR];omega) | exact ble (by rfl) | exact SlR.some ‹_› (by omega));(conv=>whnf)) | (first | (refine ra ‹_› (by rfl) ?_;(conv=>whnf)) | (refine rb ‹_› (by rfl) ?_;(conv=>whnf)) | (refine rc ‹_› (by rfl) ?_;(conv=>whnf)) | (refine rd ‹_› (by rfl) ?_;(conv=>whnf))) | (refine OblP.mk ⟨by omega,by omega,by simp only [inR];omega⟩ (W.mk ?_);(conv=>whnf)) | (refine OblP.mk hcol1 (W.mk ?_);(conv=>whnf)))
   refine ForkP.mk (fun hq=>W.mk ?_) (fun hq=>W.mk ?_)<;>(conv=>whnf)
   ·rw [if_pos hq] at hsu
    refine IteP.mk (fun h0=>W.mk ?_) (fun h0=>W.mk ?_)<;>(conv=>whnf)
    ·have h0:0 < i:=by have h0:(i:Int) > 0:=h0;omega
     have hpj:=rg_at hc1 (show i - 1 < 60 by omega)
     rw [show ((i - 1:Nat):Int) = (i:Int) - 1 by omega] at hpj
     repeat' (first | (refine ob ?_ ?_;(first | trivial | omega | (simp only [inR];omega) | exact ble (by rfl) | exact SlR.some ‹_› (by omega));(conv=>whnf)) | (first | (refine ra ‹_› (by rfl) ?_;(conv=>whnf)) | (refine rb ‹_› (by rfl) ?_;(conv=>whnf)) | (refine rc ‹_› (by rfl) ?_;(conv=>whnf)) | (refine rd ‹_› (by rfl) ?_;(conv=>whnf))))
     refine ForkP.mk (fun hq2=>W.mk ?_) (fun hq2=>W.mk ?_)<;>(conv=>whnf)
     ·rw [if_pos ⟨h0,hq2⟩] at hsu
      (refine ob ?_ ?_;(first | trivial | omega | (simp only [inR];omega) | exact ble (by rfl) | exact SlR.some ‹_› (by omega));(conv=>whnf))
      exact RoundP.of (i + 1,n) (HeadP.of [] ⟨rfl,rfl,rfl,rfl,rfl,rfl,rfl,trivial⟩ trivial) ⟨by show i + 1≤wn;omega,by show n = _;rw [hsu,hn0]⟩ (by simp only;omega)
     ·rw [if_neg (by rw [hq2];simp)] at hsu
      refine CallvP.yl rfl (W.mk ?_)
      (conv=>whnf)
      refine YieldP.mk ?_ (fun G2 hg2=>W.mk ?_) (fun G2 hg2=>W.mk ?_)
      ·obtain ⟨t,ht⟩:=pcK_pre g (show i + 1≤g.r.words.length by omega)
       have hN:pcF g = pcK g i++[(-1,⟨noText,n / g.r.cols + 1⟩)]++t:=by rw [← hsu];exact ht
       rw [hn0,seg_get hseg (by rw [List.length_map,hN];simp),List.getElem?_map,hN,List.append_assoc,List.getElem?_append_right (Nat.le_refl _)]
       simp [pcV,hn0]
      ·(conv=>whnf)
       repeat' (first | (refine ob ?_ ?_;(first | trivial | omega | (simp only [inR];omega) | exact ble (by rfl) | exact SlR.some ‹_› (by omega));(conv=>whnf)) | (first | (refine ra ‹_› (by rfl) ?_;(conv=>whnf)) | (refine rb ‹_› (by rfl) ?_;(conv=>whnf)) | (refine rc ‹_› (by rfl) ?_;(conv=>whnf)) | (refine rd ‹_› (by rfl) ?_;(conv=>whnf))))
       exact RoundP.of (i + 1,n + 1) (HeadP.of [] ⟨rfl,rfl,rfl,rfl,rfl,rfl,rfl,trivial⟩ trivial) ⟨by show i + 1≤wn;omega,by show n + 1 = _;rw [hsu];simp [hn0]⟩ (by simp only;omega)
      ·(conv=>whnf)
       refine FinP.mk ⟨trivial,fun h=>by cases h⟩
    ·have h0:¬ 0 < i:=by have h0:¬ (i:Int) > 0:=h0;omega
     rw [if_neg (fun h=>h0 h.1)] at hsu
     refine CallvP.yl rfl (W.mk ?_)
     (conv=>whnf)
     refine YieldP.mk ?_ (fun G2 hg2=>W.mk ?_) (fun G2 hg2=>W.mk ?_)
     ·obtain ⟨t,ht⟩:=pcK_pre g (show i + 1≤g.r.words.length by omega)
      have hN:pcF g = pcK g i++[(-1,⟨noText,n / g.r.cols + 1⟩)]++t:=by rw [← hsu];exact ht
      rw [hn0,seg_get hseg (by rw [List.length_map,hN];simp),List.getElem?_map,hN,List.append_assoc,List.getElem?_append_right (Nat.le_refl _)]
      simp [pcV,hn0]
     ·(conv=>whnf)
      repeat' (first | (refine ob ?_ ?_;(first | trivial | omega | (simp only [inR];omega) | exact ble (by rfl) | exact SlR.some ‹_› (by omega));(conv=>whnf)) | (first | (refine ra ‹_› (by rfl) ?_;(conv=>whnf)) | (refine rb ‹_› (by rfl) ?_;(conv=>whnf)) | (refine rc ‹_› (by rfl) ?_;(conv=>whnf)) | (refine rd ‹_› (by rfl) ?_;(conv=>whnf))))
      exact RoundP.of (i + 1,n + 1) (HeadP.of [] ⟨rfl,rfl,rfl,rfl,rfl,rfl,rfl,trivial⟩ trivial) ⟨by show i + 1≤wn;omega,by show n + 1 = _;rw [hsu];simp [hn0]⟩ (by simp only;omega)
     ·(conv=>whnf)
      refine FinP.mk ⟨trivial,fun h=>by cases h⟩
   ·rw [if_neg (by rw [hq];simp)] at hsu
    refine CallvP.yl rfl (W.mk ?_)
    (conv=>whnf)
    refine YieldP.mk ?_ (fun G2 hg2=>W.mk ?_) (fun G2 hg2=>W.mk ?_)
    ·obtain ⟨t,ht⟩:=pcK_pre g (show i + 1≤g.r.words.length by omega)
     have hN:pcF g = pcK g i++[((i:Int),⟨tx,n / g.r.cols + 1⟩)]++t:=by rw [← hsu];exact ht
     rw [hn0,seg_get hseg (by rw [List.length_map,hN];simp),List.getElem?_map,hN,List.append_assoc,List.getElem?_append_right (Nat.le_refl _)]
     simp [pcV,hn0]
    ·(conv=>whnf)
     repeat' (first | (refine ob ?_ ?_;(first | trivial | omega | (simp only [inR];omega) | exact ble (by rfl) | exact SlR.some ‹_› (by omega));(conv=>whnf)) | (first | (refine ra ‹_› (by rfl) ?_;(conv=>whnf)) | (refine rb ‹_› (by rfl) ?_;(conv=>whnf)) | (refine rc ‹_› (by rfl) ?_;(conv=>whnf)) | (refine rd ‹_› (by rfl) ?_;(conv=>whnf))))
     exact RoundP.of (i + 1,n + 1) (HeadP.of [] ⟨rfl,rfl,rfl,rfl,rfl,rfl,rfl,trivial⟩ trivial) ⟨by show i + 1≤wn;omega,by show n + 1 = _;rw [hsu];simp [hn0]⟩ (by simp only;omega)
    ·(conv=>whnf)
     refine FinP.mk ⟨trivial,fun h=>by cases h⟩
  ·have:i = g.r.words.length:=by omega
   subst this
   refine FinP.mk ⟨trivial,fun _=>?_⟩
   rw [List.length_map,hn0];rfl
def PcsV (G:Hp) (v:Value) (g:Rg):Prop:=∃ b,v = .func (.func 70) #[] #[.pointer (some ⟨b,0,none⟩)]∧RgB G b g
theorem pieces45:Sound Try.prog 45 id (grel (args1 rgRd fun _=>True) fun g v G=>PcsV G v g):=by
 refine comp45.grel (Tab.nil _) (ok1 _ _) (fun args G s h=>?_) (fun x v G G' hg ⟨b,h1,h2⟩=>⟨b,h1,h2.grow hg⟩) (fun args G g h=>?_)
 ·obtain ⟨v,rfl,_⟩:=h;simp
 ·obtain ⟨v,rfl,⟨w,o,m,rfl,hc⟩,_⟩:=h
  obtain ⟨x0,y0,z0,rfl,lws,yws⟩:=id hc.rp.w
  obtain ⟨x1,y1,z1,rfl,los,yos⟩:=id hc.rp.o
  obtain ⟨x2,y2,z2,rfl,lms,yms⟩:=id hc.may
  (conv=>whnf)
  refine NameP.mk (fun b=>W.mk ?_)
  (conv=>whnf)
  refine PubAnyP.mk ⟨[0], ?_⟩
  (conv=>whnf)
  intro G' hg _ hcs
  refine W.mk ?_
  (conv=>whnf)
  refine FinP.mk ⟨b,rfl,_,_,_,hcs,hc.grow hg⟩
end Go.Proofs.Ytpcpjmplgladmaa

namespace Go.Proofs.Ytpcpjmplgladmaa
open Go.Pal
set_option maxRecDepth 100000
def pcE:El Pc:=⟨2,fun p=>[.string p.text,I p.col],fun {x y} h=>by cases x;cases y;simp at h;simp [h],fun _=>rfl,fun _ v hv=>by simp at hv;rcases hv with rfl | rfl<;>rfl⟩
def tabR:Tab Try.prog:=Tab.cons 44 _ read44 body44 (Tab.cons 45 _ pieces45 body45 (Tab.nil _))
theorem rgFine {r:Rp} {x:Rx} (h:faultX r x = 0):RgFine (rgOf r x):=⟨(faultX_fine h).1.wl,(faultX_fine h).1.c⟩
theorem take_snoc {α:Type} {l:List α} {i:Nat} {e:α} (h:l[i]? = some e):l.take (i + 1) = l.take i++[e]:=by
 obtain ⟨h1,h2⟩:=List.getElem?_eq_some_iff.1 h
 rw [← h2];simp
def lookF (r:Rp) (x:Rx):List Pc:=(pcF (rgOf r x)).map (·.2)
theorem pcF_len (g:Rg):(pcF g).length≤g.r.words.length:=pcK_len g _
theorem look28:Sound Try.prog 28 id (grel (args2 rpRd rxRd fun _ _=>True) fun p v G=>∃ w,v = .tuple #[w,I (faultX p.1 p.2)]∧SlV pcE G w (if faultX p.1 p.2 = 0 then lookF p.1 p.2 else [])):=by
 refine comp28.grel tabR (ok2 _ _ _) (fun args G s h=>?_) (fun x v G G' hg ⟨w,h1,h2⟩=>⟨w,h1,h2.grow hg⟩) (fun args G p h=>?_)
 ·obtain ⟨v,w,rfl,_⟩:=h;simp
 ·obtain ⟨r,x⟩:=p
  obtain ⟨u,v,rfl,hr,hx,_⟩:=h
  dsimp only at hr hx
  obtain ⟨rw_,ro,rfl,hrc⟩:=id hr
  obtain ⟨m,rfl,hm⟩:=id hx
  obtain ⟨oa,on,oc,rfl,ho1,ho2⟩:=id hrc.o
  obtain ⟨wa,wn,wc,rfl,hw1,hw2⟩:=id hrc.w
  obtain ⟨ma,mn,mc,rfl,hm1,hm2⟩:=id hm
  (conv=>whnf)
  refine RelP.g (ok2 rpRd rxRd fun _ _=>True) (x:=(r,x)) ⟨_,_,rfl,hr,hx,trivial⟩ (Grow.refl _) (fun v G1 hg1 hq=>W.mk ?_)
  obtain ⟨gwa,gwn,gwc,goa,gon,goc,gma,gmn,gmc,gc,gy,gp,rfl,hq⟩:=hq
  dsimp only at hq
  dsimp only
  (conv=>whnf)
  refine IteP.mk (fun h1=>W.mk ?_) (fun h1=>W.mk ?_)<;>(conv=>whnf)
  rotate_left
  ·have h1:¬ faultX r x = 0:=h1
   refine FinP.mk ⟨_,rfl, ?_⟩
   rw [if_neg h1]
   exact SlV.nil
  have h1:faultX r x = 0:=h1
  obtain ⟨rfl,rfl,rfl,hgc⟩:=hq h1
  have hfine:=rgFine h1
  have hlen:=pcF_len (rgOf r x)
  have hwl:=hfine.wl
  refine RelP.g (ok1 rgRd fun _=>True) (x:=rgOf r x) ⟨_,rfl,⟨_,_,_,rfl,hgc⟩,trivial⟩ (Grow.refl _) (fun v G2 hg2 hq2=>W.mk ?_)
  obtain ⟨b,rfl,hrb⟩:=hq2
  (conv=>whnf)
  refine RangeP.of ((pcF (rgOf r x)).map pcV) { α:=Nat × List Value,fr:=[(8, .c (.ptr 18 0))],k:=fun y=>y.1,H:=fun y=>[(18, .cells .anon [.row 3 y.1] 66),(3, .row none y.1 y.2 79 2)],ok:=fun y _=>y.1≤(pcF (rgOf r x)).length∧Row pcE (((pcF (rgOf r x)).take y.1).map (·.2)) y.1 y.2 }
   (0,[]) (SoundFn.of body70 (pieces70 b (rgOf r x))) (fun l=>⟨rfl,hrb,hfine,rfl⟩) (fun y hy=>by obtain ⟨p,_,rfl⟩:=List.mem_map.1 hy;rfl) rfl (HeadP.of [(3,none)] ⟨rfl,trivial⟩ ⟨rfl,rfl,trivial⟩) ⟨Nat.zero_le _,Row.nil⟩ ⟨rfl,fun _=>rfl⟩ (fun _ _ _ _ h=>h)
   (fun y e G3 hg3 hk he=>W.mk ?_) (fun y G3 hg3 hk hke=>W.mk ?_)
  ·obtain ⟨k,vs⟩:=y
   obtain ⟨hkl,hrow⟩:=hk
   dsimp only at hkl hrow he
   rw [List.getElem?_map] at he
   obtain ⟨e,he2,rfl⟩:=Option.map_eq_some_iff.1 he
   have hlt:=(List.getElem?_eq_some_iff.1 he2).1
   have htk:=take_snoc he2
   obtain ⟨sh,tx,cl⟩:=e
   dsimp only [pcV]
   (conv=>whnf)
   repeat' (first | (refine OblP.mk rfl (W.mk ?_);(conv=>whnf)) | (refine ob ?_ ?_;(first | trivial | omega | (simp only [inR];omega) | exact ble (by rfl) | exact SlR.some ‹_› (by omega));(conv=>whnf)) | (first | (refine ra ‹_› (by rfl) ?_;(conv=>whnf)) | (refine rb ‹_› (by rfl) ?_;(conv=>whnf)) | (refine rc ‹_› (by rfl) ?_;(conv=>whnf)) | (refine rd ‹_› (by rfl) ?_;(conv=>whnf))))
   refine RoundR.of (k + 1,vs++[.string tx,I cl]) [(3,some 26)] ⟨rfl,rfl,trivial⟩ ⟨by show k + 1≤_;omega, ?_⟩ rfl
   rw [htk,List.map_append]
   exact hrow.snoc _
  ·obtain ⟨k,vs⟩:=y
   obtain ⟨hkl,hrow⟩:=hk
   dsimp only at hkl hrow hke
   rw [List.length_map] at hke
   subst hke
   rw [List.take_length] at hrow
   dsimp only
   (conv=>whnf)
   refine PubP.mk (fun a1 c1 G4 hg4 hp=>W.mk ?_)
   (conv=>whnf)
   refine FinP.mk ⟨_,(by show Value.tuple #[_,I 0] = .tuple #[_,I (faultX r x)];rw [h1]), ?_⟩
   rw [if_pos h1]
   exact hrow.pub hp (by omega)
def findF (r:Rp) (x:Rx) (k:Int):Int × Int :=
 if faultX r x = 0 then (if 0≤k∧k < (pcF (rgOf r x)).length∧((pcF (rgOf r x)).map (·.1)).getD k.toNat (-1)≠-1 then (((pcF (rgOf r x)).map (·.1)).getD k.toNat (-1),0) else (0,7)) else (0,faultX r x)
theorem find31:Sound Try.prog 31 id (grel (args3 rpRd rxRd intRd fun _ _ _=>True) fun p v _=>v = .tuple #[I (findF p.1 p.2.1 p.2.2).1,I (findF p.1 p.2.1 p.2.2).2]):=by
 refine comp31.grel tabR (ok3 _ _ _ _) (fun args G s h=>?_) (fun x v G G' hg h=>h) (fun args G p h=>?_)
 ·obtain ⟨u,v,w,rfl,_⟩:=h;simp
 ·obtain ⟨r,x,pc⟩:=p
  obtain ⟨u,v,w,rfl,hr,hx,rfl,_⟩:=h
  dsimp only at hr hx
  obtain ⟨rw_,ro,rfl,hrc⟩:=id hr
  obtain ⟨m,rfl,hm⟩:=id hx
  obtain ⟨oa,on,oc,rfl,ho1,ho2⟩:=id hrc.o
  obtain ⟨wa,wn,wc,rfl,hw1,hw2⟩:=id hrc.w
  obtain ⟨ma,mn,mc,rfl,hm1,hm2⟩:=id hm
  (conv=>whnf)
  refine RelP.g (ok2 rpRd rxRd fun _ _=>True) (x:=(r,x)) ⟨_,_,rfl,hr,hx,trivial⟩ (Grow.refl _) (fun v G1 hg1 hq=>W.mk ?_)
  obtain ⟨gwa,gwn,gwc,goa,gon,goc,gma,gmn,gmc,gc,gy,gp,rfl,hq⟩:=hq
  dsimp only at hq
  dsimp only
  (conv=>whnf)
  refine IteP.mk (fun h1=>W.mk ?_) (fun h1=>W.mk ?_)<;>(conv=>whnf)
  rotate_left
  ·have h1:¬ faultX r x = 0:=h1
   refine FinP.mk ?_
   rw [findF,if_neg h1];rfl
  have h1:faultX r x = 0:=h1
  obtain ⟨rfl,rfl,rfl,hgc⟩:=hq h1
  have hfine:=rgFine h1
  have hlen:=pcF_len (rgOf r x)
  have hwl:=hfine.wl
  have hF:findF r x pc = if 0≤pc∧pc < (pcF (rgOf r x)).length∧((pcF (rgOf r x)).map (·.1)).getD pc.toNat (-1)≠-1 then (((pcF (rgOf r x)).map (·.1)).getD pc.toNat (-1),0) else (0,7):=by rw [findF,if_pos h1]
  refine RelP.g (ok1 rgRd fun _=>True) (x:=rgOf r x) ⟨_,rfl,⟨_,_,_,rfl,hgc⟩,trivial⟩ (Grow.refl _) (fun v G2 hg2 hq2=>W.mk ?_)
  obtain ⟨b,rfl,hrb⟩:=hq2
  (conv=>whnf)
  refine RangeP.of ((pcF (rgOf r x)).map pcV) { α:=Nat,fr:=[(5, .c (.ptr 2 0)),(10, .c (.ptr 19 0)),(11, .c (.ptr 20 0))],k:=fun y=>y,H:=fun y=>[(2, .cells .anon [.val (I pc)] 3),(19, .cells .anon [.val (I y)] 3),(20, .cells .anon [.val (I (-1))] 3)],ok:=fun y _=>y≤(pcF (rgOf r x)).length∧∀ j:Nat,j < y→pc≠j }
   0 (SoundFn.of body70 (pieces70 b (rgOf r x))) (fun l=>⟨rfl,hrb,hfine,rfl⟩) (fun y hy=>by obtain ⟨p,_,rfl⟩:=List.mem_map.1 hy;rfl) rfl (HeadP.of [] ⟨rfl,rfl,rfl,trivial⟩ ⟨rfl,rfl,rfl,trivial⟩) ⟨Nat.zero_le _,fun j hj=>by omega⟩ ⟨rfl,fun _=>rfl⟩ (fun _ _ _ _ h=>h)
   (fun k e G3 hg3 hk he=>W.mk ?_) (fun k G3 hg3 hk hke=>W.mk ?_)
  ·obtain ⟨hkl,hno⟩:=hk
   dsimp only at hkl hno he
   rw [List.getElem?_map] at he
   obtain ⟨e,he2,rfl⟩:=Option.map_eq_some_iff.1 he
   have hlt:=(List.getElem?_eq_some_iff.1 he2).1
   obtain ⟨sh,tx,cl⟩:=e
   have hgd:((pcF (rgOf r x)).map (·.1)).getD k (-1) = sh:=by simp [he2]
   dsimp only [pcV]
   (conv=>whnf)
   refine IteP.mk (fun hq=>W.mk ?_) (fun hq=>W.mk ?_)<;>(conv=>whnf)
   ·have hq:(k:Int) = pc:=hq
    have hF2:findF r x pc = if sh≠-1 then (sh,0) else (0,7):=by
     rw [hF, ← hq,Int.toNat_natCast,hgd]
     by_cases hs:sh = -1
     ·rw [if_neg (fun h=>h.2.2 hs),if_neg (fun h=>h hs)]
     ·rw [if_pos ⟨Int.natCast_nonneg _,by omega,hs⟩,if_pos hs]
    refine ExitR.mk (fun G4 hg4=>W.mk ?_)
    (conv=>whnf)
    refine IteP.mk (fun hs=>W.mk ?_) (fun hs=>W.mk ?_)<;>(conv=>whnf)
    ·have hs:sh = -1:=hs
     refine FinP.mk ?_
     rw [hF2,if_neg (fun h=>h hs)];rfl
    ·have hs:¬ sh = -1:=hs
     refine FinP.mk ?_
     rw [hF2,if_pos hs];rfl
   ·have hq:¬ (k:Int) = pc:=hq
    (refine ob ?_ ?_;(first | trivial | omega | (simp only [inR];omega) | exact ble (by rfl) | exact SlR.some ‹_› (by omega));(conv=>whnf))
    refine RoundR.of (k + 1) [] ⟨rfl,rfl,rfl,trivial⟩ ⟨Nat.succ_le_of_lt hlt,fun j hj=>?_⟩ rfl
    rcases Nat.lt_succ_iff_lt_or_eq.1 hj with h | rfl
    ·exact hno j h
    ·exact fun h=>hq h.symm
  ·obtain ⟨hkl,hno⟩:=hk
   dsimp only at hkl hno hke
   rw [List.length_map] at hke
   have hke:@Eq Nat k (pcF (rgOf r x)).length:=hke
   dsimp only
   (conv=>whnf)
   refine IteP.mk (fun hs=>W.mk ?_) (fun hs=>W.mk ?_)<;>(conv=>whnf)
   ·refine FinP.mk ?_
    rw [hF,if_neg (fun h=>hno pc.toNat (Nat.lt_of_lt_of_eq (by have h1:=h.1;have h2:=h.2.1;omega) hke.symm) (by have h1:=h.1;omega))];rfl
   ·exact absurd rfl hs
end Go.Proofs.Ytpcpjmplgladmaa

namespace Go.Proofs.Ytpcpjmplgladmaa
open Go.Pal
set_option maxRecDepth 100000
def mxL (l:List Int):Int:=match l with
 | []=>0
 | x :: r=>r.foldl max x
theorem mxL_take {l:List Int} {i:Nat} (h:i < l.length) (h0:1≤i):mxL (l.take (i + 1)) = max (mxL (l.take i)) l[i]:=by
 rw [take_snoc (List.getElem?_eq_getElem h)]
 cases l with
 | nil=>simp at h
 | cons x r =>
  cases i with
  | zero=>omega
  | succ i =>
   have h':i < r.length:=by simpa using h
   simp only [List.take_succ_cons,List.cons_append,mxL,List.foldl_append,List.foldl_cons,List.foldl_nil,List.getElem_cons_succ]
theorem max75:Sound Try.prog 75 id (gsca (args1 (slRd intE) fun l=>1≤l.length) fun l v=>v = I (mxL l)):=by
 refine comp75.gsca (Tab.nil _) (fun args G s h=>?_) (fun args G l h=>?_)
 ·obtain ⟨v,rfl,_⟩:=h;simp
 ·obtain ⟨v,rfl,⟨a,n,c,rfl,hl,hn⟩,h1⟩:=h
  have hlen:=hl.len
  have hc0:=hl.el (show 0 < l.length by omega)
  have hm0:mxL (l.take 1) = l[0]:=by
   cases l with
   | nil=>simp at h1
   | cons x r=>rfl
  rw [Nat.zero_mul,Nat.add_zero] at hc0
  have hc0:CellsAt G (ab a) (ao a + (0:Int).toNat * 1) (intE.f l[0]):=hc0
  (conv=>whnf)
  refine IteP.mk (fun h2=>by exfalso;omega) (fun h2=>W.mk ?_)
  (conv=>whnf)
  repeat' (first | (refine ob ?_ ?_;(first | trivial | omega | (simp only [inR];omega) | exact ble (by rfl) | exact SlR.some ‹_› (by omega));(conv=>whnf)) | (first | (refine ra ‹_› (by rfl) ?_;(conv=>whnf)) | (refine rb ‹_› (by rfl) ?_;(conv=>whnf)) | (refine rc ‹_› (by rfl) ?_;(conv=>whnf)) | (refine rd ‹_› (by rfl) ?_;(conv=>whnf))))
  refine LoopP.of { α:=Nat × Int,fr:=fun y=>[(0, .v (.slice a n c)),(3, .v (I y.2)),(4, .v (I y.1))],H:=fun _=>[],ok:=fun y _=>1≤y.1∧y.1≤l.length∧y.2 = mxL (l.take y.1),m:=fun y=>l.length - y.1 }
   (1,l[0]) (HeadP.of [] ⟨rfl,rfl,rfl,trivial⟩ trivial) ⟨Nat.le_refl _,h1,hm0.symm⟩ (fun _=>⟨rfl,rfl⟩) (fun y G1 hg1 hx=>W.mk ?_)
  obtain ⟨i,mx⟩:=y
  obtain ⟨hi1,hi,hmx⟩:=hx
  dsimp only at hi1 hi hmx
  dsimp only
  (conv=>whnf)
  refine IteP.mk (fun hlt=>W.mk ?_) (fun hge=>W.mk ?_)<;>(conv=>whnf)
  ·have hlt:i < l.length:=by omega
   have hc:=(SlR.grow (G:=G) (G':=G1) (fun _ _ h=>h) hl hg1).el hlt
   have htk:=mxL_take hlt hi1
   generalize l[i] = q at hc htk
   repeat' (first | (refine ob ?_ ?_;(first | trivial | omega | (simp only [inR];omega) | exact ble (by rfl) | exact SlR.some ‹_› (by omega));(conv=>whnf)) | (first | (refine ra ‹_› (by rfl) ?_;(conv=>whnf)) | (refine rb ‹_› (by rfl) ?_;(conv=>whnf)) | (refine rc ‹_› (by rfl) ?_;(conv=>whnf)) | (refine rd ‹_› (by rfl) ?_;(conv=>whnf))))
   exact RoundP.of (i + 1,max mx q) (HeadP.of [] ⟨rfl,rfl,rfl,trivial⟩ trivial) ⟨by omega,hlt,by rw [htk,hmx]⟩ (by simp only;omega)
  ·have:i = l.length:=by omega
   subst this
   rw [List.take_length] at hmx
   refine FinP.mk ?_
   rw [hmx];rfl
theorem latest52:Sound Try.prog 52 id (gsca (args1 (slRd intE) fun l=>1≤l.length) fun l v=>v = I (mxL l)):=by
 refine comp52.gsca (Tab.cons 75 _ max75 body75 (Tab.nil _)) (fun args G s h=>?_) (fun args G l h=>?_)
 ·obtain ⟨v,rfl,_⟩:=h;simp
 ·obtain ⟨v,rfl,⟨a,n,c,rfl,hl,hn⟩,h1⟩:=h
  (conv=>whnf)
  refine ScaP.g (ok1 (slRd intE) fun l=>1≤l.length) (x:=l) ⟨_,rfl,⟨a,n,c,rfl,hl,hn⟩,h1⟩ (fun v hv=>W.mk ?_)
  subst hv
  (conv=>whnf)
  exact FinP.mk rfl
structure Sh where
 f:Int
 t:Int
 y:Int
 deriving DecidableEq
def shE:El Sh:=⟨3,fun o=>[I o.f,I o.t,I o.y],fun {x y} h=>by cases x;cases y;simp at h;simp [h],fun _=>rfl,fun _ v hv=>by simp at hv;rcases hv with rfl | rfl | rfl<;>rfl⟩
def yrS (x:Rx) (i:Nat) (y:Int) (o:Od):Int:=if shutsF x o && inF i o.f (o.t - 1) then max y o.u else y
def setL (L:List Sh) (to y:Int):List Sh:=match L.getLast? with
 | some s=>L.dropLast++[⟨s.f,to,y⟩]
 | none=>[]
def lastY (L:List Sh):Int:=match L.getLast? with
 | some s=>s.y
 | none=>0
def clI (g:Rg) (i:Nat) (L:List Sh):List Sh:=if i = 0∨g.p (i - 1) = false then L++[⟨i,0,0⟩] else L
def clK (g:Rg):Nat→List Sh
 | 0=>[]
 | i + 1=>if g.p i then setL (clI g i (clK g i)) (i + 1) (g.r.orders.foldl (yrS g.x i) (lastY (clI g i (clK g i)))) else clK g i
def clF (g:Rg):List Sh:=clK g g.r.words.length
theorem clK_ne (g:Rg):∀ i,g.p i = true→clK g (i + 1)≠[]
 | i,h=>by
  have hI:clI g i (clK g i)≠[]:=by
   unfold clI
   split
   ·simp
   ·rename_i h0
    cases i with
    | zero=>simp at h0
    | succ i=>exact clK_ne g i (by simpa using h0)
  simp only [clK,h,if_true]
  generalize clI g i (clK g i) = L at hI ⊢
  unfold setL
  split
  ·simp
  ·rename_i h2;exact absurd (List.getLast?_eq_none_iff.1 h2) hI
theorem setL_len (L:List Sh) (t y:Int):(setL L t y).length≤L.length:=by
 unfold setL
 split
 ·rename_i s h
  have:L≠[]:=fun e=>by rw [e] at h;cases h
  have:=List.length_pos_iff.2 this
  simp;omega
 ·simp
theorem clK_len (g:Rg):∀ i,(clK g i).length≤i
 | 0=>by simp [clK]
 | i + 1=>by
  have ih:=clK_len g i
  simp only [clK]
  split
  ·refine Nat.le_trans (setL_len _ _ _) ?_
   unfold clI
   split
   ·simp;omega
   ·omega
  ·omega
theorem setL_snoc (L:List Sh) (s:Sh) (t y:Int):setL (L++[s]) t y = L++[⟨s.f,t,y⟩]:=by simp [setL]
theorem lastY_snoc (L:List Sh) (s:Sh):lastY (L++[s]) = s.y:=by simp [lastY]
theorem den_setR_eq {P:Program} {hid:Nat} {Gr G:Hp} {K:SV→List (Nat × Option OB)→Hp→Prop} {h n:Nat} {vs vs':List Value} {t:TypeId} {k:Nat} {sv:SV} (e:vs = vs') (hk:Res.den P hid Gr G K (.set h (.row none n vs' t k) sv)):Res.den P hid Gr G K (.set h (.row none n vs t k) sv):=by
 subst e;exact hk
theorem set3b {pre:List Value} {a b c v:Value} {off:Nat} (h:off = pre.length):(pre++[a,b,c]).take (off + 1)++[v]++(pre++[a,b,c]).drop (off + 1 + 1) = pre++[a,v,c]:=by
 subst h
 rw [List.take_append,List.drop_append]
 simp [List.take_of_length_le,List.drop_of_length_le,show pre.length + 1 - pre.length = 1 by omega,show pre.length + 1 + 1 - pre.length = 2 by omega,show pre.length≤pre.length + 1 + 1 by omega]
theorem set3v {vs pre:List Value} {a b c v:Value} {off:Nat} (hv:vs = pre++[a,b,c]) (h:off = pre.length):vs.take (off + 1)++[v]++vs.drop (off + 1 + 1) = pre++[a,v,c]:=by
 subst hv;exact set3b h
theorem set3c {pre:List Value} {a b c v:Value} {off:Nat} (h:off = pre.length):(pre++[a,b,c]).take (off + 2)++[v]++(pre++[a,b,c]).drop (off + 2 + 1) = pre++[a,b,v]:=by
 subst h
 rw [List.take_append,List.drop_append]
 simp [List.take_of_length_le,List.drop_of_length_le,show pre.length + 2 - pre.length = 2 by omega,show pre.length + 2 + 1 - pre.length = 3 by omega,show pre.length≤pre.length + 2 + 1 by omega]
theorem get3c {pre:List Value} {a b c:Value} {off:Nat} (h:off = pre.length):((pre++[a,b,c]).drop (off + 2)).take 1 = [c]:=by
 subst h
 rw [List.drop_append]
 simp [List.drop_of_length_le,show pre.length + 2 - pre.length = 2 by omega]
end Go.Proofs.Ytpcpjmplgladmaa

namespace Go.Proofs.Ytpcpjmplgladmaa
open Go.Pal
set_option maxRecDepth 100000
theorem row_last {L:List Sh} {n:Nat} {vs:List Value} (h:Row shE L n vs) (hn:1≤n):∃ L0 s,L = L0++[s]∧vs = (L0.map shE.f).flatten++[I s.f,I s.t,I s.y]∧(L0.map shE.f).flatten.length = (n - 1) * 3:=by
 have hl:=h.n
 have hne:L≠[]:=fun e=>by rw [e] at hl;simp at hl;omega
 refine ⟨L.dropLast,L.getLast hne,(List.dropLast_concat_getLast hne).symm, ?_, ?_⟩
 ·rw [h.vs]
  conv=>lhs;rw [← List.dropLast_concat_getLast hne]
  simp [shE]
 ·have:=(Row.of_all (e:=shE) L.dropLast (n:=n - 1) (by simp;omega)).len
  exact this
theorem rg_eqs {w o m:Value} {c y:Int} {p:Nat→Bool} {i:Nat} (hi:i < 60) {b:Bool} (hb:p i = b):(((rgl w o m c y p).map S1.val).drop (5 + (i:Int).toNat * 1)).take 1 = [.val (.bool b)]:=by
 rw [← List.map_drop, ← List.map_take]
 have:((rgl w o m c y p).drop (5 + (i:Int).toNat * 1)).take 1 = [.bool b]:=by
  rw [List.drop_append,List.drop_of_length_le (by simp)]
  simp only [List.nil_append,List.length_cons,List.length_nil,Int.toNat_natCast,Nat.mul_one,show 5 + i - (0 + 1 + 1 + 1 + 1 + 1) = i by omega]
  rw [List.drop_eq_getElem_cons (by simpa using hi)]
  simp [hb]
 rw [this];rfl
set_option maxHeartbeats 1000000 in
theorem closed21:Sound Try.prog 21 id (grel (args2 rpRd rxRd fun _ _=>True) fun p v G=>∃ w,v = .tuple #[w,I (faultX p.1 p.2)]∧SlV shE G w (if faultX p.1 p.2 = 0 then clF (rgOf p.1 p.2) else [])):=by
 refine comp21.grel (Tab.cons 44 _ read44 body44 (Tab.cons 50 _ shuts50 body50 (Tab.cons 51 _ within51 body51 (Tab.cons 52 _ latest52 body52 (Tab.nil _))))) (ok2 _ _ _) (fun args G s h=>?_) (fun x v G G' hg ⟨w,h1,h2⟩=>⟨w,h1,h2.grow hg⟩) (fun args G p h=>?_)
 ·obtain ⟨v,w,rfl,_⟩:=h;simp
 ·obtain ⟨r,x⟩:=p
  obtain ⟨u,v,rfl,hr,hx,_⟩:=h
  dsimp only at hr hx
  obtain ⟨rw_,ro,rfl,hrc⟩:=id hr
  obtain ⟨m,rfl,hm⟩:=id hx
  obtain ⟨oa,on,oc,rfl,ho1,ho2⟩:=id hrc.o
  obtain ⟨wa,wn,wc,rfl,hw1,hw2⟩:=id hrc.w
  obtain ⟨ma,mn,mc,rfl,hm1,hm2⟩:=id hm
  (conv=>whnf)
  refine RelP.g (ok2 rpRd rxRd fun _ _=>True) (x:=(r,x)) ⟨_,_,rfl,hr,hx,trivial⟩ (Grow.refl _) (fun v G1 hg1 hq=>W.mk ?_)
  obtain ⟨gwa,gwn,gwc,goa,gon,goc,gma,gmn,gmc,gc,gy,gp,rfl,hq⟩:=hq
  dsimp only at hq
  dsimp only
  (conv=>whnf)
  refine IteP.mk (fun h1=>W.mk ?_) (fun h1=>W.mk ?_)<;>(conv=>whnf)
  rotate_left
  ·have h1:¬ faultX r x = 0:=h1
   refine FinP.mk ⟨_,rfl, ?_⟩
   rw [if_neg h1]
   exact SlV.nil
  have h1:faultX r x = 0:=h1
  obtain ⟨rfl,rfl,rfl,hgc⟩:=hq h1
  have hfine:=rgFine h1
  have hfn:=(faultX_fine h1).1
  have hwl:=hfine.wl
  clear ho1
  obtain ⟨_,_,_,q1,ho1,ho2⟩:=hgc.rp.o
  cases q1
  obtain ⟨_,_,_,q1,hw3,hw4⟩:=hgc.rp.w
  cases q1
  have hwn:=hw3.len
  have hon:=ho1.len
  have hwn:r.words.length = gwn:=hwn
  have hon:r.orders.length = gon:=hon
  have ho1:SlR odE.k odE.R G1 goa gon goc r.orders:=ho1
  refine LoopP.of { α:=Nat × Nat × List Value,fr:=fun y=>[(6, .c (.ptr 10 0)),(8, .c (.row 1 y.2.1)),(24, .v (.slice gwa gwn gwc)),(25, .v (I gwn)),(26, .v (I y.1))],H:=fun y=>[(10, .cells .anon ((rgl (.slice gwa gwn gwc) (.slice goa gon goc) (.slice gma gmn gmc) r.cols x.year (rgOf r x).p).map .val) 97),(1, .row none y.2.1 y.2.2 55 3)],ok:=fun y _=>y.1≤gwn∧Row shE (clK (rgOf r x) y.1) y.2.1 y.2.2,m:=fun y=>gwn - y.1 }
   (0,0,[]) (HeadP.of [(1,none)] ⟨rfl,rfl,rfl,rfl,rfl,trivial⟩ ⟨rfl,rfl,trivial⟩) ⟨Nat.zero_le _,Row.nil⟩ (fun _=>⟨rfl,rfl⟩) (fun y G3 hg3 hx=>W.mk ?_)
  obtain ⟨i,n,vs⟩:=y
  obtain ⟨hi,hrow⟩:=hx
  dsimp only at hi hrow
  have hcn:=hrow.n
  have hcl0:=clK_len (rgOf r x) i
  dsimp only
  (conv=>whnf)
  refine IteP.mk (fun hlt=>W.mk ?_) (fun hge=>W.mk ?_)<;>(conv=>whnf)
  rotate_left
  ·have hie:i = r.words.length:=by omega
   subst hie
   refine PubP.mk (fun a1 c1 G9 hg9 hp=>W.mk ?_)
   (conv=>whnf)
   refine FinP.mk ⟨_,(by show Value.tuple #[_,I 0] = .tuple #[_,I (faultX r x)];rw [h1]), ?_⟩
   rw [if_pos h1]
   exact hrow.pub hp (by omega)
  have hlt:i < gwn:=by omega
  have hi60:i < 60:=by have:(rgOf r x).r.words.length = r.words.length:=rfl;omega
  repeat' (first | (refine ob ?_ ?_;(first | trivial | omega | (simp only [inR];omega) | exact ble (by rfl) | exact SlR.some ‹_› (by omega));(conv=>whnf)) | (first | (refine ra ‹_› (by rfl) ?_;(conv=>whnf)) | (refine rb ‹_› (by rfl) ?_;(conv=>whnf)) | (refine rc ‹_› (by rfl) ?_;(conv=>whnf)) | (refine rd ‹_› (by rfl) ?_;(conv=>whnf))))
  cases hpi:(rgOf r x).p i with
  | false =>
   refine EqsP.mk ⟨_,rg_eqs hi60 hpi,rfl,W.mk ?_⟩
   (conv=>whnf)
   repeat' (first | (refine ob ?_ ?_;(first | trivial | omega | (simp only [inR];omega) | exact ble (by rfl) | exact SlR.some ‹_› (by omega));(conv=>whnf)) | (first | (refine ra ‹_› (by rfl) ?_;(conv=>whnf)) | (refine rb ‹_› (by rfl) ?_;(conv=>whnf)) | (refine rc ‹_› (by rfl) ?_;(conv=>whnf)) | (refine rd ‹_› (by rfl) ?_;(conv=>whnf))))
   refine RoundP.of (i + 1,n,vs) (HeadP.of [] ⟨rfl,rfl,rfl,rfl,rfl,trivial⟩ ⟨rfl,rfl,trivial⟩) ⟨by show i + 1≤gwn;omega, ?_⟩ (by simp only;omega)
   show Row shE (clK (rgOf r x) (i + 1)) n vs
   simp only [clK,hpi]
   exact hrow
  | true =>
   refine EqsP.mk ⟨_,rg_eqs hi60 hpi,rfl,W.mk ?_⟩
   (conv=>whnf)
   refine IteP.mk (fun h0=>W.mk ?_) (fun h0=>W.mk ?_)<;>(conv=>whnf)
   ·have h0:i = 0:=by have h0:(i:Int) = 0:=h0;omega
    have hI:clI (rgOf r x) i (clK (rgOf r x) i) = clK (rgOf r x) i++[⟨i,0,0⟩]:=if_pos (.inl h0)
    have hrow2:Row shE (clI (rgOf r x) i (clK (rgOf r x) i)) (n + 1) (vs++[I i,I 0,I 0]):=by rw [hI];exact hrow.snoc ⟨i,0,0⟩
    clear hI
    repeat' (first | (refine OblP.mk rfl (W.mk ?_);(conv=>whnf)) | (refine OblP.mk (by omega) (W.mk ?_);(conv=>whnf)) | (first | (refine ra ‹_› (by rfl) ?_;(conv=>whnf)) | (refine rb ‹_› (by rfl) ?_;(conv=>whnf)) | (refine rc ‹_› (by rfl) ?_;(conv=>whnf)) | (refine rd ‹_› (by rfl) ?_;(conv=>whnf))))
    have hn1:1≤(n + 1):=by have:=hrow2;have h1:=this.n;omega
    obtain ⟨L0,s,hL,hvs,hpl⟩:=row_last hrow2 hn1
    have hvl:((vs++[I i,I 0,I 0])).length = (L0.map shE.f).flatten.length + 3:=by rw [hvs];simp
    generalize hpre:(L0.map shE.f).flatten = pre at hpl hvs hvl
    have hoff:((((n + 1):Nat):Int) - 1).toNat * 3 = pre.length:=by rw [hpl];congr 1;omega
    obtain ⟨sf,st,sy⟩:=s
    have hcl:clK (rgOf r x) (i + 1) = L0++[⟨sf,(i:Int) + 1,r.orders.foldl (yrS x i) sy⟩]:=by
     simp only [clK,hpi,if_true]
     rw [hL,setL_snoc,lastY_snoc];rfl
    repeat' (first | (refine OblP.mk (by simp only [inR];omega) (W.mk ?_);(conv=>whnf)) | (refine OblP.mk ⟨by omega,by omega⟩ (W.mk ?_);(conv=>whnf)) | (refine OblP.mk rfl (W.mk ?_);(conv=>whnf)) | (first | (refine ra ‹_› (by rfl) ?_;(conv=>whnf)) | (refine rb ‹_› (by rfl) ?_;(conv=>whnf)) | (refine rc ‹_› (by rfl) ?_;(conv=>whnf)) | (refine rd ‹_› (by rfl) ?_;(conv=>whnf))))
    refine OblP.mk (by show _≤List.length ((vs++[I i,I 0,I 0]));rw [hvl,hoff];omega) (W.mk ?_)
    refine den_setR_eq (set3v (vs:=(vs++[I i,I 0,I 0])) hvs hoff) ?_
    (conv=>whnf)
    repeat' (first | (refine ob ?_ ?_;(first | trivial | omega | (simp only [inR];omega) | exact ble (by rfl) | exact SlR.some ‹_› (by omega));(conv=>whnf)) | (first | (refine ra ‹_› (by rfl) ?_;(conv=>whnf)) | (refine rb ‹_› (by rfl) ?_;(conv=>whnf)) | (refine rc ‹_› (by rfl) ?_;(conv=>whnf)) | (refine rd ‹_› (by rfl) ?_;(conv=>whnf))))
    have hIn:∀ z,Row shE (L0++[z]) (n + 1) (pre++[I z.f,I z.t,I z.y]):=fun z=>⟨by have h1:=(hrow2).n;rw [h1,hL];simp,by rw [← hpre];simp [shE]⟩
    refine LoopP.of { α:=Nat × Int,fr:=fun y=>[(6, .c (.ptr 10 0)),(8, .c (.row 48 (n + 1))),(9, .v (I i)),(10, .c (.rptr 48 (((((n + 1):Nat):Int) - 1).toNat * 3))),(24, .v (.slice gwa gwn gwc)),(25, .v (I gwn)),(26, .v (I i)),(63, .v (.slice goa gon goc)),(64, .v (I gon)),(65, .v (I y.1))],H:=fun y=>[(10, .cells .anon ((rgl (.slice gwa gwn gwc) (.slice goa gon goc) (.slice gma gmn gmc) r.cols x.year (rgOf r x).p).map .val) 97),(48, .row none (n + 1) (pre++[I sf,I ((i:Int) + 1),I y.2]) 55 3)],ok:=fun y _=>y.1≤gon∧y.2 = (r.orders.take y.1).foldl (yrS x i) sy,m:=fun y=>gon - y.1 }
     (0,sy) (HeadP.of [] ⟨rfl,rfl,rfl,rfl,rfl,rfl,rfl,rfl,rfl,rfl,trivial⟩ ⟨rfl,rfl,trivial⟩) ⟨Nat.zero_le _,rfl⟩ (fun _=>⟨rfl,rfl⟩) (fun y G4 hg4 hx=>W.mk ?_)
    obtain ⟨k,yy⟩:=y
    obtain ⟨hk,hyy⟩:=hx
    dsimp only at hk hyy
    dsimp only
    (conv=>whnf)
    refine IteP.mk (fun hlt=>W.mk ?_) (fun hge=>W.mk ?_)<;>(conv=>whnf)
    ·have hlt:k < r.orders.length:=by omega
     have hc:=(SlR.grow (G:=G1) (G':=G4) (fun _ _ h=>h) ho1 (hg3.trans hg4)).el hlt
     have htk:=take_snoc (List.getElem?_eq_getElem hlt)
     have hb:=hfn.o _ (List.getElem_mem hlt)
     generalize r.orders[k] = o at hc htk hb
     have hc:CellsAt G4 (ab goa) (ao goa + k * 4) [I o.f,I o.t,I o.k,I o.u]:=hc
     have hst:(r.orders.take (k + 1)).foldl (yrS x i) sy = yrS x i yy o:=by rw [htk,List.foldl_append,hyy];rfl
     have hyr:yrS x i yy o = if shutsF x o && inF i o.f (o.t - 1) then max yy o.u else yy:=rfl
     repeat' (first | (refine ob ?_ ?_;(first | trivial | omega | (simp only [inR];omega) | exact ble (by rfl) | exact SlR.some ‹_› (by omega));(conv=>whnf)) | (first | (refine ra ‹_› (by rfl) ?_;(conv=>whnf)) | (refine rb ‹_› (by rfl) ?_;(conv=>whnf)) | (refine rc ‹_› (by rfl) ?_;(conv=>whnf)) | (refine rd ‹_› (by rfl) ?_;(conv=>whnf))))
     refine ScaP.g (ok2 rgRd odRd fun _ _=>True) (x:=(rgOf r x,o)) ⟨_,_,rfl,⟨_,_,_,rfl,(hgc.grow hg3).grow hg4⟩,rfl,trivial⟩ (fun v hv=>W.mk ?_)
     subst hv
     dsimp only
     (conv=>whnf)
     refine ForkP.mk (fun hq=>W.mk ?_) (fun hq=>W.mk ?_)<;>(conv=>whnf)
     rotate_left
     ·have hq:shutsF x o = false:=hq
      rw [hq,Bool.false_and,if_neg (by simp)] at hyr
      repeat' (first | (refine ob ?_ ?_;(first | trivial | omega | (simp only [inR];omega) | exact ble (by rfl) | exact SlR.some ‹_› (by omega));(conv=>whnf)) | (first | (refine ra ‹_› (by rfl) ?_;(conv=>whnf)) | (refine rb ‹_› (by rfl) ?_;(conv=>whnf)) | (refine rc ‹_› (by rfl) ?_;(conv=>whnf)) | (refine rd ‹_› (by rfl) ?_;(conv=>whnf))))
      refine RoundP.of (k + 1,yy) (HeadP.of [] ⟨rfl,rfl,rfl,rfl,rfl,rfl,rfl,rfl,rfl,rfl,trivial⟩ ⟨rfl,rfl,trivial⟩) ⟨by show k + 1≤gon;omega,by rw [hst,hyr]⟩ (by simp only;omega)
     have hq:shutsF x o = true:=hq
     repeat' (first | (refine ob ?_ ?_;(first | trivial | omega | (simp only [inR];omega) | exact ble (by rfl) | exact SlR.some ‹_› (by omega));(conv=>whnf)) | (first | (refine ra ‹_› (by rfl) ?_;(conv=>whnf)) | (refine rb ‹_› (by rfl) ?_;(conv=>whnf)) | (refine rc ‹_› (by rfl) ?_;(conv=>whnf)) | (refine rd ‹_› (by rfl) ?_;(conv=>whnf))))
     refine OblP.mk ⟨_,_,_,rfl⟩ (W.mk ?_)
     (conv=>whnf)
     refine ForkP.mk (fun hq2=>W.mk ?_) (fun hq2=>W.mk ?_)<;>(conv=>whnf)
     rotate_left
     ·have hq2:inF i o.f (o.t - 1) = false:=hq2
      rw [hq2,Bool.and_false,if_neg (by simp)] at hyr
      repeat' (first | (refine ob ?_ ?_;(first | trivial | omega | (simp only [inR];omega) | exact ble (by rfl) | exact SlR.some ‹_› (by omega));(conv=>whnf)) | (first | (refine ra ‹_› (by rfl) ?_;(conv=>whnf)) | (refine rb ‹_› (by rfl) ?_;(conv=>whnf)) | (refine rc ‹_› (by rfl) ?_;(conv=>whnf)) | (refine rd ‹_› (by rfl) ?_;(conv=>whnf))))
      refine RoundP.of (k + 1,yy) (HeadP.of [] ⟨rfl,rfl,rfl,rfl,rfl,rfl,rfl,rfl,rfl,rfl,trivial⟩ ⟨rfl,rfl,trivial⟩) ⟨by show k + 1≤gon;omega,by rw [hst,hyr]⟩ (by simp only;omega)
     have hq2:inF i o.f (o.t - 1) = true:=hq2
     rw [hq,hq2,Bool.true_and,if_pos rfl] at hyr
     refine EqP.mk ⟨_,get3c hoff,rfl,W.mk ?_⟩
     (conv=>whnf)
     repeat' (first | (refine ob ?_ ?_;(first | trivial | omega | (simp only [inR];omega) | exact ble (by rfl) | exact SlR.some ‹_› (by omega));(conv=>whnf)) | (first | (refine ra ‹_› (by rfl) ?_;(conv=>whnf)) | (refine rb ‹_› (by rfl) ?_;(conv=>whnf)) | (refine rc ‹_› (by rfl) ?_;(conv=>whnf)) | (refine rd ‹_› (by rfl) ?_;(conv=>whnf))))
     refine RelP.mk trivial (fun v G5 hg5 hq5=>W.mk ?_)
     obtain ⟨pa,pc,rfl,hpr⟩:=hq5
     (conv=>whnf)
     refine ScaP.g (ok1 (slRd intE) fun l=>1≤l.length) (x:=[yy,o.u]) ⟨_,rfl,hpr.slV (e:=intE) rfl rfl (by omega),by simp⟩ (fun v hv=>W.mk ?_)
     subst hv
     (conv=>whnf)
     refine OblP.mk (by show _≤List.length _;rw [hoff];simp) (W.mk ?_)
     refine den_setR_eq (set3c hoff) ?_
     (conv=>whnf)
     repeat' (first | (refine ob ?_ ?_;(first | trivial | omega | (simp only [inR];omega) | exact ble (by rfl) | exact SlR.some ‹_› (by omega));(conv=>whnf)) | (first | (refine ra ‹_› (by rfl) ?_;(conv=>whnf)) | (refine rb ‹_› (by rfl) ?_;(conv=>whnf)) | (refine rc ‹_› (by rfl) ?_;(conv=>whnf)) | (refine rd ‹_› (by rfl) ?_;(conv=>whnf))))
     refine RoundP.of (k + 1,max yy o.u) (HeadP.of [] ⟨rfl,rfl,rfl,rfl,rfl,rfl,rfl,rfl,rfl,rfl,trivial⟩ ⟨rfl,rfl,trivial⟩) ⟨by show k + 1≤gon;omega,by rw [hst,hyr]⟩ (by simp only;omega)
    ·have hke:k = r.orders.length:=by omega
     rw [hke,List.take_length] at hyy
     repeat' (first | (refine ob ?_ ?_;(first | trivial | omega | (simp only [inR];omega) | exact ble (by rfl) | exact SlR.some ‹_› (by omega));(conv=>whnf)) | (first | (refine ra ‹_› (by rfl) ?_;(conv=>whnf)) | (refine rb ‹_› (by rfl) ?_;(conv=>whnf)) | (refine rc ‹_› (by rfl) ?_;(conv=>whnf)) | (refine rd ‹_› (by rfl) ?_;(conv=>whnf))))
     refine RoundP.of (i + 1,(n + 1),pre++[I sf,I ((i:Int) + 1),I yy]) (HeadP.of [(1,some 48)] ⟨rfl,rfl,rfl,rfl,rfl,trivial⟩ ⟨rfl,rfl,trivial⟩) ⟨by show i + 1≤gwn;omega, ?_⟩ (by simp only;omega)
     rw [hcl, ← hyy]
     exact hIn ⟨sf,(i:Int) + 1,yy⟩
   ·have h0:¬ i = 0:=by have h0:¬ (i:Int) = 0:=h0;omega
    cases hpj:(rgOf r x).p (i - 1) with
    | false =>
     have hI:clI (rgOf r x) i (clK (rgOf r x) i) = clK (rgOf r x) i++[⟨i,0,0⟩]:=if_pos (.inr hpj)
     have hrow2:Row shE (clI (rgOf r x) i (clK (rgOf r x) i)) (n + 1) (vs++[I i,I 0,I 0]):=by rw [hI];exact hrow.snoc ⟨i,0,0⟩
     clear hI
     have hev:=rg_eqs (w:=.slice gwa gwn gwc) (o:=.slice goa gon goc) (m:=.slice gma gmn gmc) (c:=r.cols) (y:=x.year) (show i - 1 < 60 by omega) hpj
     rw [show ((i - 1:Nat):Int) = (i:Int) - 1 by omega] at hev
     repeat' (first | (refine ob ?_ ?_;(first | trivial | omega | (simp only [inR];omega) | exact ble (by rfl) | exact SlR.some ‹_› (by omega));(conv=>whnf)) | (first | (refine ra ‹_› (by rfl) ?_;(conv=>whnf)) | (refine rb ‹_› (by rfl) ?_;(conv=>whnf)) | (refine rc ‹_› (by rfl) ?_;(conv=>whnf)) | (refine rd ‹_› (by rfl) ?_;(conv=>whnf))))
     refine EqsP.mk ⟨_,hev,rfl,W.mk ?_⟩
     (conv=>whnf)
     repeat' (first | (refine OblP.mk rfl (W.mk ?_);(conv=>whnf)) | (refine OblP.mk (by omega) (W.mk ?_);(conv=>whnf)) | (first | (refine ra ‹_› (by rfl) ?_;(conv=>whnf)) | (refine rb ‹_› (by rfl) ?_;(conv=>whnf)) | (refine rc ‹_› (by rfl) ?_;(conv=>whnf)) | (refine rd ‹_› (by rfl) ?_;(conv=>whnf))))
     have hn1:1≤(n + 1):=by have:=hrow2;have h1:=this.n;omega
     obtain ⟨L0,s,hL,hvs,hpl⟩:=row_last hrow2 hn1
     have hvl:((vs++[I i,I 0,I 0])).length = (L0.map shE.f).flatten.length + 3:=by rw [hvs];simp
     generalize hpre:(L0.map shE.f).flatten = pre at hpl hvs hvl
     have hoff:((((n + 1):Nat):Int) - 1).toNat * 3 = pre.length:=by rw [hpl];congr 1;omega
     obtain ⟨sf,st,sy⟩:=s
     have hcl:clK (rgOf r x) (i + 1) = L0++[⟨sf,(i:Int) + 1,r.orders.foldl (yrS x i) sy⟩]:=by
      simp only [clK,hpi,if_true]
      rw [hL,setL_snoc,lastY_snoc];rfl
     repeat' (first | (refine OblP.mk (by simp only [inR];omega) (W.mk ?_);(conv=>whnf)) | (refine OblP.mk ⟨by omega,by omega⟩ (W.mk ?_);(conv=>whnf)) | (refine OblP.mk rfl (W.mk ?_);(conv=>whnf)) | (first | (refine ra ‹_› (by rfl) ?_;(conv=>whnf)) | (refine rb ‹_› (by rfl) ?_;(conv=>whnf)) | (refine rc ‹_› (by rfl) ?_;(conv=>whnf)) | (refine rd ‹_› (by rfl) ?_;(conv=>whnf))))
     refine OblP.mk (by show _≤List.length ((vs++[I i,I 0,I 0]));rw [hvl,hoff];omega) (W.mk ?_)
     refine den_setR_eq (set3v (vs:=(vs++[I i,I 0,I 0])) hvs hoff) ?_
     (conv=>whnf)
     repeat' (first | (refine ob ?_ ?_;(first | trivial | omega | (simp only [inR];omega) | exact ble (by rfl) | exact SlR.some ‹_› (by omega));(conv=>whnf)) | (first | (refine ra ‹_› (by rfl) ?_;(conv=>whnf)) | (refine rb ‹_› (by rfl) ?_;(conv=>whnf)) | (refine rc ‹_› (by rfl) ?_;(conv=>whnf)) | (refine rd ‹_› (by rfl) ?_;(conv=>whnf))))
     have hIn:∀ z,Row shE (L0++[z]) (n + 1) (pre++[I z.f,I z.t,I z.y]):=fun z=>⟨by have h1:=(hrow2).n;rw [h1,hL];simp,by rw [← hpre];simp [shE]⟩
     refine LoopP.of { α:=Nat × Int,fr:=fun y=>[(6, .c (.ptr 10 0)),(8, .c (.row 48 (n + 1))),(9, .v (I i)),(10, .c (.rptr 48 (((((n + 1):Nat):Int) - 1).toNat * 3))),(24, .v (.slice gwa gwn gwc)),(25, .v (I gwn)),(26, .v (I i)),(63, .v (.slice goa gon goc)),(64, .v (I gon)),(65, .v (I y.1))],H:=fun y=>[(10, .cells .anon ((rgl (.slice gwa gwn gwc) (.slice goa gon goc) (.slice gma gmn gmc) r.cols x.year (rgOf r x).p).map .val) 97),(48, .row none (n + 1) (pre++[I sf,I ((i:Int) + 1),I y.2]) 55 3)],ok:=fun y _=>y.1≤gon∧y.2 = (r.orders.take y.1).foldl (yrS x i) sy,m:=fun y=>gon - y.1 }
      (0,sy) (HeadP.of [] ⟨rfl,rfl,rfl,rfl,rfl,rfl,rfl,rfl,rfl,rfl,trivial⟩ ⟨rfl,rfl,trivial⟩) ⟨Nat.zero_le _,rfl⟩ (fun _=>⟨rfl,rfl⟩) (fun y G4 hg4 hx=>W.mk ?_)
     obtain ⟨k,yy⟩:=y
     obtain ⟨hk,hyy⟩:=hx
     dsimp only at hk hyy
     dsimp only
     (conv=>whnf)
     refine IteP.mk (fun hlt=>W.mk ?_) (fun hge=>W.mk ?_)<;>(conv=>whnf)
     ·have hlt:k < r.orders.length:=by omega
      have hc:=(SlR.grow (G:=G1) (G':=G4) (fun _ _ h=>h) ho1 (hg3.trans hg4)).el hlt
      have htk:=take_snoc (List.getElem?_eq_getElem hlt)
      have hb:=hfn.o _ (List.getElem_mem hlt)
      generalize r.orders[k] = o at hc htk hb
      have hc:CellsAt G4 (ab goa) (ao goa + k * 4) [I o.f,I o.t,I o.k,I o.u]:=hc
      have hst:(r.orders.take (k + 1)).foldl (yrS x i) sy = yrS x i yy o:=by rw [htk,List.foldl_append,hyy];rfl
      have hyr:yrS x i yy o = if shutsF x o && inF i o.f (o.t - 1) then max yy o.u else yy:=rfl
      repeat' (first | (refine ob ?_ ?_;(first | trivial | omega | (simp only [inR];omega) | exact ble (by rfl) | exact SlR.some ‹_› (by omega));(conv=>whnf)) | (first | (refine ra ‹_› (by rfl) ?_;(conv=>whnf)) | (refine rb ‹_› (by rfl) ?_;(conv=>whnf)) | (refine rc ‹_› (by rfl) ?_;(conv=>whnf)) | (refine rd ‹_› (by rfl) ?_;(conv=>whnf))))
      refine ScaP.g (ok2 rgRd odRd fun _ _=>True) (x:=(rgOf r x,o)) ⟨_,_,rfl,⟨_,_,_,rfl,(hgc.grow hg3).grow hg4⟩,rfl,trivial⟩ (fun v hv=>W.mk ?_)
      subst hv
      dsimp only
      (conv=>whnf)
      refine ForkP.mk (fun hq=>W.mk ?_) (fun hq=>W.mk ?_)<;>(conv=>whnf)
      rotate_left
      ·have hq:shutsF x o = false:=hq
       rw [hq,Bool.false_and,if_neg (by simp)] at hyr
       repeat' (first | (refine ob ?_ ?_;(first | trivial | omega | (simp only [inR];omega) | exact ble (by rfl) | exact SlR.some ‹_› (by omega));(conv=>whnf)) | (first | (refine ra ‹_› (by rfl) ?_;(conv=>whnf)) | (refine rb ‹_› (by rfl) ?_;(conv=>whnf)) | (refine rc ‹_› (by rfl) ?_;(conv=>whnf)) | (refine rd ‹_› (by rfl) ?_;(conv=>whnf))))
       refine RoundP.of (k + 1,yy) (HeadP.of [] ⟨rfl,rfl,rfl,rfl,rfl,rfl,rfl,rfl,rfl,rfl,trivial⟩ ⟨rfl,rfl,trivial⟩) ⟨by show k + 1≤gon;omega,by rw [hst,hyr]⟩ (by simp only;omega)
      have hq:shutsF x o = true:=hq
      repeat' (first | (refine ob ?_ ?_;(first | trivial | omega | (simp only [inR];omega) | exact ble (by rfl) | exact SlR.some ‹_› (by omega));(conv=>whnf)) | (first | (refine ra ‹_› (by rfl) ?_;(conv=>whnf)) | (refine rb ‹_› (by rfl) ?_;(conv=>whnf)) | (refine rc ‹_› (by rfl) ?_;(conv=>whnf)) | (refine rd ‹_› (by rfl) ?_;(conv=>whnf))))
      refine OblP.mk ⟨_,_,_,rfl⟩ (W.mk ?_)
      (conv=>whnf)
      refine ForkP.mk (fun hq2=>W.mk ?_) (fun hq2=>W.mk ?_)<;>(conv=>whnf)
      rotate_left
      ·have hq2:inF i o.f (o.t - 1) = false:=hq2
       rw [hq2,Bool.and_false,if_neg (by simp)] at hyr
       repeat' (first | (refine ob ?_ ?_;(first | trivial | omega | (simp only [inR];omega) | exact ble (by rfl) | exact SlR.some ‹_› (by omega));(conv=>whnf)) | (first | (refine ra ‹_› (by rfl) ?_;(conv=>whnf)) | (refine rb ‹_› (by rfl) ?_;(conv=>whnf)) | (refine rc ‹_› (by rfl) ?_;(conv=>whnf)) | (refine rd ‹_› (by rfl) ?_;(conv=>whnf))))
       refine RoundP.of (k + 1,yy) (HeadP.of [] ⟨rfl,rfl,rfl,rfl,rfl,rfl,rfl,rfl,rfl,rfl,trivial⟩ ⟨rfl,rfl,trivial⟩) ⟨by show k + 1≤gon;omega,by rw [hst,hyr]⟩ (by simp only;omega)
      have hq2:inF i o.f (o.t - 1) = true:=hq2
      rw [hq,hq2,Bool.true_and,if_pos rfl] at hyr
      refine EqP.mk ⟨_,get3c hoff,rfl,W.mk ?_⟩
      (conv=>whnf)
      repeat' (first | (refine ob ?_ ?_;(first | trivial | omega | (simp only [inR];omega) | exact ble (by rfl) | exact SlR.some ‹_› (by omega));(conv=>whnf)) | (first | (refine ra ‹_› (by rfl) ?_;(conv=>whnf)) | (refine rb ‹_› (by rfl) ?_;(conv=>whnf)) | (refine rc ‹_› (by rfl) ?_;(conv=>whnf)) | (refine rd ‹_› (by rfl) ?_;(conv=>whnf))))
      refine RelP.mk trivial (fun v G5 hg5 hq5=>W.mk ?_)
      obtain ⟨pa,pc,rfl,hpr⟩:=hq5
      (conv=>whnf)
      refine ScaP.g (ok1 (slRd intE) fun l=>1≤l.length) (x:=[yy,o.u]) ⟨_,rfl,hpr.slV (e:=intE) rfl rfl (by omega),by simp⟩ (fun v hv=>W.mk ?_)
      subst hv
      (conv=>whnf)
      refine OblP.mk (by show _≤List.length _;rw [hoff];simp) (W.mk ?_)
      refine den_setR_eq (set3c hoff) ?_
      (conv=>whnf)
      repeat' (first | (refine ob ?_ ?_;(first | trivial | omega | (simp only [inR];omega) | exact ble (by rfl) | exact SlR.some ‹_› (by omega));(conv=>whnf)) | (first | (refine ra ‹_› (by rfl) ?_;(conv=>whnf)) | (refine rb ‹_› (by rfl) ?_;(conv=>whnf)) | (refine rc ‹_› (by rfl) ?_;(conv=>whnf)) | (refine rd ‹_› (by rfl) ?_;(conv=>whnf))))
      refine RoundP.of (k + 1,max yy o.u) (HeadP.of [] ⟨rfl,rfl,rfl,rfl,rfl,rfl,rfl,rfl,rfl,rfl,trivial⟩ ⟨rfl,rfl,trivial⟩) ⟨by show k + 1≤gon;omega,by rw [hst,hyr]⟩ (by simp only;omega)
     ·have hke:k = r.orders.length:=by omega
      rw [hke,List.take_length] at hyy
      repeat' (first | (refine ob ?_ ?_;(first | trivial | omega | (simp only [inR];omega) | exact ble (by rfl) | exact SlR.some ‹_› (by omega));(conv=>whnf)) | (first | (refine ra ‹_› (by rfl) ?_;(conv=>whnf)) | (refine rb ‹_› (by rfl) ?_;(conv=>whnf)) | (refine rc ‹_› (by rfl) ?_;(conv=>whnf)) | (refine rd ‹_› (by rfl) ?_;(conv=>whnf))))
      refine RoundP.of (i + 1,(n + 1),pre++[I sf,I ((i:Int) + 1),I yy]) (HeadP.of [(1,some 48)] ⟨rfl,rfl,rfl,rfl,rfl,trivial⟩ ⟨rfl,rfl,trivial⟩) ⟨by show i + 1≤gwn;omega, ?_⟩ (by simp only;omega)
      rw [hcl, ← hyy]
      exact hIn ⟨sf,(i:Int) + 1,yy⟩
    | true =>
     have hI:clI (rgOf r x) i (clK (rgOf r x) i) = clK (rgOf r x) i:=if_neg (by rw [hpj];simp;exact h0)
     have hrow2:Row shE (clI (rgOf r x) i (clK (rgOf r x) i)) n vs:=by rw [hI];exact hrow
     clear hI
     have hn0:1≤n:=by
      have h5:=clK_ne (rgOf r x) (i - 1) hpj
      rw [show i - 1 + 1 = i by omega] at h5
      have:=List.length_pos_iff.2 h5
      omega
     have hev:=rg_eqs (w:=.slice gwa gwn gwc) (o:=.slice goa gon goc) (m:=.slice gma gmn gmc) (c:=r.cols) (y:=x.year) (show i - 1 < 60 by omega) hpj
     rw [show ((i - 1:Nat):Int) = (i:Int) - 1 by omega] at hev
     repeat' (first | (refine ob ?_ ?_;(first | trivial | omega | (simp only [inR];omega) | exact ble (by rfl) | exact SlR.some ‹_› (by omega));(conv=>whnf)) | (first | (refine ra ‹_› (by rfl) ?_;(conv=>whnf)) | (refine rb ‹_› (by rfl) ?_;(conv=>whnf)) | (refine rc ‹_› (by rfl) ?_;(conv=>whnf)) | (refine rd ‹_› (by rfl) ?_;(conv=>whnf))))
     refine EqsP.mk ⟨_,hev,rfl,W.mk ?_⟩
     (conv=>whnf)
     repeat' (first | (refine OblP.mk rfl (W.mk ?_);(conv=>whnf)) | (refine OblP.mk (by omega) (W.mk ?_);(conv=>whnf)) | (first | (refine ra ‹_› (by rfl) ?_;(conv=>whnf)) | (refine rb ‹_› (by rfl) ?_;(conv=>whnf)) | (refine rc ‹_› (by rfl) ?_;(conv=>whnf)) | (refine rd ‹_› (by rfl) ?_;(conv=>whnf))))
     have hn1:1≤n:=by have:=hrow2;have h1:=this.n;omega
     obtain ⟨L0,s,hL,hvs,hpl⟩:=row_last hrow2 hn1
     have hvl:(vs).length = (L0.map shE.f).flatten.length + 3:=by rw [hvs];simp
     generalize hpre:(L0.map shE.f).flatten = pre at hpl hvs hvl
     have hoff:(((n:Nat):Int) - 1).toNat * 3 = pre.length:=by rw [hpl];congr 1;omega
     obtain ⟨sf,st,sy⟩:=s
     have hcl:clK (rgOf r x) (i + 1) = L0++[⟨sf,(i:Int) + 1,r.orders.foldl (yrS x i) sy⟩]:=by
      simp only [clK,hpi,if_true]
      rw [hL,setL_snoc,lastY_snoc];rfl
     repeat' (first | (refine OblP.mk (by simp only [inR];omega) (W.mk ?_);(conv=>whnf)) | (refine OblP.mk ⟨by omega,by omega⟩ (W.mk ?_);(conv=>whnf)) | (refine OblP.mk rfl (W.mk ?_);(conv=>whnf)) | (first | (refine ra ‹_› (by rfl) ?_;(conv=>whnf)) | (refine rb ‹_› (by rfl) ?_;(conv=>whnf)) | (refine rc ‹_› (by rfl) ?_;(conv=>whnf)) | (refine rd ‹_› (by rfl) ?_;(conv=>whnf))))
     refine OblP.mk (by show _≤List.length (vs);rw [hvl,hoff];omega) (W.mk ?_)
     refine den_setR_eq (set3v (vs:=vs) hvs hoff) ?_
     (conv=>whnf)
     repeat' (first | (refine ob ?_ ?_;(first | trivial | omega | (simp only [inR];omega) | exact ble (by rfl) | exact SlR.some ‹_› (by omega));(conv=>whnf)) | (first | (refine ra ‹_› (by rfl) ?_;(conv=>whnf)) | (refine rb ‹_› (by rfl) ?_;(conv=>whnf)) | (refine rc ‹_› (by rfl) ?_;(conv=>whnf)) | (refine rd ‹_› (by rfl) ?_;(conv=>whnf))))
     have hIn:∀ z,Row shE (L0++[z]) n (pre++[I z.f,I z.t,I z.y]):=fun z=>⟨by have h1:=(hrow2).n;rw [h1,hL];simp,by rw [← hpre];simp [shE]⟩
     refine LoopP.of { α:=Nat × Int,fr:=fun y=>[(6, .c (.ptr 10 0)),(8, .c (.row 1 n)),(9, .v (I i)),(10, .c (.rptr 1 ((((n:Nat):Int) - 1).toNat * 3))),(24, .v (.slice gwa gwn gwc)),(25, .v (I gwn)),(26, .v (I i)),(63, .v (.slice goa gon goc)),(64, .v (I gon)),(65, .v (I y.1))],H:=fun y=>[(10, .cells .anon ((rgl (.slice gwa gwn gwc) (.slice goa gon goc) (.slice gma gmn gmc) r.cols x.year (rgOf r x).p).map .val) 97),(1, .row none n (pre++[I sf,I ((i:Int) + 1),I y.2]) 55 3)],ok:=fun y _=>y.1≤gon∧y.2 = (r.orders.take y.1).foldl (yrS x i) sy,m:=fun y=>gon - y.1 }
      (0,sy) (HeadP.of [] ⟨rfl,rfl,rfl,rfl,rfl,rfl,rfl,rfl,rfl,rfl,trivial⟩ ⟨rfl,rfl,trivial⟩) ⟨Nat.zero_le _,rfl⟩ (fun _=>⟨rfl,rfl⟩) (fun y G4 hg4 hx=>W.mk ?_)
     obtain ⟨k,yy⟩:=y
     obtain ⟨hk,hyy⟩:=hx
     dsimp only at hk hyy
     dsimp only
     (conv=>whnf)
     refine IteP.mk (fun hlt=>W.mk ?_) (fun hge=>W.mk ?_)<;>(conv=>whnf)
     ·have hlt:k < r.orders.length:=by omega
      have hc:=(SlR.grow (G:=G1) (G':=G4) (fun _ _ h=>h) ho1 (hg3.trans hg4)).el hlt
      have htk:=take_snoc (List.getElem?_eq_getElem hlt)
      have hb:=hfn.o _ (List.getElem_mem hlt)
      generalize r.orders[k] = o at hc htk hb
      have hc:CellsAt G4 (ab goa) (ao goa + k * 4) [I o.f,I o.t,I o.k,I o.u]:=hc
      have hst:(r.orders.take (k + 1)).foldl (yrS x i) sy = yrS x i yy o:=by rw [htk,List.foldl_append,hyy];rfl
      have hyr:yrS x i yy o = if shutsF x o && inF i o.f (o.t - 1) then max yy o.u else yy:=rfl
      repeat' (first | (refine ob ?_ ?_;(first | trivial | omega | (simp only [inR];omega) | exact ble (by rfl) | exact SlR.some ‹_› (by omega));(conv=>whnf)) | (first | (refine ra ‹_› (by rfl) ?_;(conv=>whnf)) | (refine rb ‹_› (by rfl) ?_;(conv=>whnf)) | (refine rc ‹_› (by rfl) ?_;(conv=>whnf)) | (refine rd ‹_› (by rfl) ?_;(conv=>whnf))))
      refine ScaP.g (ok2 rgRd odRd fun _ _=>True) (x:=(rgOf r x,o)) ⟨_,_,rfl,⟨_,_,_,rfl,(hgc.grow hg3).grow hg4⟩,rfl,trivial⟩ (fun v hv=>W.mk ?_)
      subst hv
      dsimp only
      (conv=>whnf)
      refine ForkP.mk (fun hq=>W.mk ?_) (fun hq=>W.mk ?_)<;>(conv=>whnf)
      rotate_left
      ·have hq:shutsF x o = false:=hq
       rw [hq,Bool.false_and,if_neg (by simp)] at hyr
       repeat' (first | (refine ob ?_ ?_;(first | trivial | omega | (simp only [inR];omega) | exact ble (by rfl) | exact SlR.some ‹_› (by omega));(conv=>whnf)) | (first | (refine ra ‹_› (by rfl) ?_;(conv=>whnf)) | (refine rb ‹_› (by rfl) ?_;(conv=>whnf)) | (refine rc ‹_› (by rfl) ?_;(conv=>whnf)) | (refine rd ‹_› (by rfl) ?_;(conv=>whnf))))
       refine RoundP.of (k + 1,yy) (HeadP.of [] ⟨rfl,rfl,rfl,rfl,rfl,rfl,rfl,rfl,rfl,rfl,trivial⟩ ⟨rfl,rfl,trivial⟩) ⟨by show k + 1≤gon;omega,by rw [hst,hyr]⟩ (by simp only;omega)
      have hq:shutsF x o = true:=hq
      repeat' (first | (refine ob ?_ ?_;(first | trivial | omega | (simp only [inR];omega) | exact ble (by rfl) | exact SlR.some ‹_› (by omega));(conv=>whnf)) | (first | (refine ra ‹_› (by rfl) ?_;(conv=>whnf)) | (refine rb ‹_› (by rfl) ?_;(conv=>whnf)) | (refine rc ‹_› (by rfl) ?_;(conv=>whnf)) | (refine rd ‹_› (by rfl) ?_;(conv=>whnf))))
      refine OblP.mk ⟨_,_,_,rfl⟩ (W.mk ?_)
      (conv=>whnf)
      refine ForkP.mk (fun hq2=>W.mk ?_) (fun hq2=>W.mk ?_)<;>(conv=>whnf)
      rotate_left
      ·have hq2:inF i o.f (o.t - 1) = false:=hq2
       rw [hq2,Bool.and_false,if_neg (by simp)] at hyr
       repeat' (first | (refine ob ?_ ?_;(first | trivial | omega | (simp only [inR];omega) | exact ble (by rfl) | exact SlR.some ‹_› (by omega));(conv=>whnf)) | (first | (refine ra ‹_› (by rfl) ?_;(conv=>whnf)) | (refine rb ‹_› (by rfl) ?_;(conv=>whnf)) | (refine rc ‹_› (by rfl) ?_;(conv=>whnf)) | (refine rd ‹_› (by rfl) ?_;(conv=>whnf))))
       refine RoundP.of (k + 1,yy) (HeadP.of [] ⟨rfl,rfl,rfl,rfl,rfl,rfl,rfl,rfl,rfl,rfl,trivial⟩ ⟨rfl,rfl,trivial⟩) ⟨by show k + 1≤gon;omega,by rw [hst,hyr]⟩ (by simp only;omega)
      have hq2:inF i o.f (o.t - 1) = true:=hq2
      rw [hq,hq2,Bool.true_and,if_pos rfl] at hyr
      refine EqP.mk ⟨_,get3c hoff,rfl,W.mk ?_⟩
      (conv=>whnf)
      repeat' (first | (refine ob ?_ ?_;(first | trivial | omega | (simp only [inR];omega) | exact ble (by rfl) | exact SlR.some ‹_› (by omega));(conv=>whnf)) | (first | (refine ra ‹_› (by rfl) ?_;(conv=>whnf)) | (refine rb ‹_› (by rfl) ?_;(conv=>whnf)) | (refine rc ‹_› (by rfl) ?_;(conv=>whnf)) | (refine rd ‹_› (by rfl) ?_;(conv=>whnf))))
      refine RelP.mk trivial (fun v G5 hg5 hq5=>W.mk ?_)
      obtain ⟨pa,pc,rfl,hpr⟩:=hq5
      (conv=>whnf)
      refine ScaP.g (ok1 (slRd intE) fun l=>1≤l.length) (x:=[yy,o.u]) ⟨_,rfl,hpr.slV (e:=intE) rfl rfl (by omega),by simp⟩ (fun v hv=>W.mk ?_)
      subst hv
      (conv=>whnf)
      refine OblP.mk (by show _≤List.length _;rw [hoff];simp) (W.mk ?_)
      refine den_setR_eq (set3c hoff) ?_
      (conv=>whnf)
      repeat' (first | (refine ob ?_ ?_;(first | trivial | omega | (simp only [inR];omega) | exact ble (by rfl) | exact SlR.some ‹_› (by omega));(conv=>whnf)) | (first | (refine ra ‹_› (by rfl) ?_;(conv=>whnf)) | (refine rb ‹_› (by rfl) ?_;(conv=>whnf)) | (refine rc ‹_› (by rfl) ?_;(conv=>whnf)) | (refine rd ‹_› (by rfl) ?_;(conv=>whnf))))
      refine RoundP.of (k + 1,max yy o.u) (HeadP.of [] ⟨rfl,rfl,rfl,rfl,rfl,rfl,rfl,rfl,rfl,rfl,trivial⟩ ⟨rfl,rfl,trivial⟩) ⟨by show k + 1≤gon;omega,by rw [hst,hyr]⟩ (by simp only;omega)
     ·have hke:k = r.orders.length:=by omega
      rw [hke,List.take_length] at hyy
      repeat' (first | (refine ob ?_ ?_;(first | trivial | omega | (simp only [inR];omega) | exact ble (by rfl) | exact SlR.some ‹_› (by omega));(conv=>whnf)) | (first | (refine ra ‹_› (by rfl) ?_;(conv=>whnf)) | (refine rb ‹_› (by rfl) ?_;(conv=>whnf)) | (refine rc ‹_› (by rfl) ?_;(conv=>whnf)) | (refine rd ‹_› (by rfl) ?_;(conv=>whnf))))
      refine RoundP.of (i + 1,n,pre++[I sf,I ((i:Int) + 1),I yy]) (HeadP.of [] ⟨rfl,rfl,rfl,rfl,rfl,trivial⟩ ⟨rfl,rfl,trivial⟩) ⟨by show i + 1≤gwn;omega, ?_⟩ (by simp only;omega)
      rw [hcl, ← hyy]
      exact hIn ⟨sf,(i:Int) + 1,yy⟩
end Go.Proofs.Ytpcpjmplgladmaa

namespace Go.Proofs.Ytpcpjmplgladmaa
open Go.Pal
set_option maxRecDepth 100000
def holK (g:Rg):Nat→List Int
 | 0=>[]
 | i + 1=>if holdsF (g.r.orders.getD i ⟨0,0,0,0⟩) g.x then holK g i++[(i:Int)] else holK g i
def holF (g:Rg):List Int:=holK g g.r.orders.length
theorem holK_len (g:Rg):∀ i,(holK g i).length≤i
 | 0=>by simp [holK]
 | i + 1=>by
  have:=holK_len g i
  simp only [holK]
  split
  ·simp;omega
  ·omega
theorem holK_mem (g:Rg):∀ i, ∀ k∈holK g i,0≤k∧k < i
 | 0,k,h=>by simp [holK] at h
 | i + 1,k,h=>by
  have ih:=holK_mem g i k
  simp only [holK] at h
  split at h
  ·rcases List.mem_append.1 h with h | h
   ·have:=ih h;omega
   ·simp at h;omega
  ·have:=ih h;omega
theorem holding61:Sound Try.prog 61 id (grel (args1 rgRd fun g=>g.r.orders.length≤1000) fun g v G=>SlV intE G v (holF g)):=by
 refine comp61.grel (Tab.nil _) (ok1 _ _) (fun args G s h=>?_) (fun x v G G' hg h=>h.grow hg) (fun args G g h=>?_)
 ·obtain ⟨v,rfl,_⟩:=h;simp
 ·obtain ⟨v,rfl,⟨w,o,m,rfl,hc⟩,hb⟩:=h
  have hgv:RgV G (.agg (rgl w o m g.r.cols g.x.year g.p).toArray) g:=⟨_,_,_,rfl,hc⟩
  obtain ⟨x0,y0,z0,rfl,lws,yws⟩:=id hc.rp.w
  obtain ⟨x1,y1,z1,rfl,los,yos⟩:=id hc.rp.o
  obtain ⟨x2,y2,z2,rfl,lms,yms⟩:=id hc.may
  have hon:=los.len
  (conv=>whnf)
  refine LoopP.of { α:=Nat × Nat × List Value,fr:=fun y=>[(2, .c (.row 1 y.2.1)),(3, .v (.func (.func 68) #[.agg (rgl (.slice x0 y0 z0) (.slice x1 y1 z1) (.slice x2 y2 z2) g.r.cols g.x.year g.p).toArray] #[])),(10, .v (.slice x1 y1 z1)),(11, .v (I y1)),(12, .v (I y.1))],H:=fun y=>[(1, .row none y.2.1 y.2.2 3 1)],ok:=fun y _=>y.1≤y1∧Row intE (holK g y.1) y.2.1 y.2.2,m:=fun y=>y1 - y.1 }
   (0,0,[]) (HeadP.of [(1,none)] ⟨rfl,rfl,rfl,rfl,rfl,trivial⟩ ⟨rfl,trivial⟩) ⟨Nat.zero_le _,Row.nil⟩ (fun _=>⟨rfl,rfl⟩) (fun y G1 hg1 hx=>W.mk ?_)
  obtain ⟨i,n,vs⟩:=y
  obtain ⟨hi,hrow⟩:=hx
  dsimp only at hi hrow
  have hrn:=hrow.n
  have hkl:=holK_len g i
  dsimp only
  (conv=>whnf)
  refine IteP.mk (fun hlt=>W.mk ?_) (fun hge=>W.mk ?_)<;>(conv=>whnf)
  ·have hlt:i < g.r.orders.length:=by omega
   have hcl:=(SlR.grow (G:=G) (G':=G1) (fun _ _ h=>h) los hg1).el hlt
   have hst:holK g (i + 1) = if holdsF g.r.orders[i] g.x then holK g i++[(i:Int)] else holK g i:=by simp [holK,hlt]
   generalize g.r.orders[i] = q at hcl hst
   have hcl:CellsAt G1 (ab x1) (ao x1 + i * 4) [I q.f,I q.t,I q.k,I q.u]:=hcl
   repeat' (first | (refine ob ?_ ?_;(first | trivial | omega | (simp only [inR];omega) | exact ble (by rfl) | exact SlR.some ‹_› (by omega));(conv=>whnf)) | (first | (refine ra ‹_› (by rfl) ?_;(conv=>whnf)) | (refine rb ‹_› (by rfl) ?_;(conv=>whnf)) | (refine rc ‹_› (by rfl) ?_;(conv=>whnf)) | (refine rd ‹_› (by rfl) ?_;(conv=>whnf))))
   refine CallvP.fn _ (SoundFn.of body68 (Sound.first (.agg (rgl (.slice x0 y0 z0) (.slice x1 y1 z1) (.slice x2 y2 z2) g.r.cols g.x.year g.p).toArray) holds68)) (W.mk ?_)
   (conv=>whnf)
   refine ScaP.g (ok2 rgRd odRd fun _ _=>True) (x:=(g,q)) ⟨_,_,rfl,rgRd.grow hg1 hgv,rfl,trivial⟩ (fun v hv=>W.mk ?_)
   subst hv
   dsimp only
   (conv=>whnf)
   refine ForkP.mk (fun hq=>W.mk ?_) (fun hq=>W.mk ?_)<;>(conv=>whnf)
   ·rw [if_pos hq] at hst
    repeat' (first | (refine OblP.mk rfl (W.mk ?_);(conv=>whnf)) | (refine ob ?_ ?_;(first | trivial | omega | (simp only [inR];omega) | exact ble (by rfl) | exact SlR.some ‹_› (by omega));(conv=>whnf)) | (first | (refine ra ‹_› (by rfl) ?_;(conv=>whnf)) | (refine rb ‹_› (by rfl) ?_;(conv=>whnf)) | (refine rc ‹_› (by rfl) ?_;(conv=>whnf)) | (refine rd ‹_› (by rfl) ?_;(conv=>whnf))))
    refine RoundP.of (i + 1,n + 1,vs++[I i]) (HeadP.of [(1,some 23)] ⟨rfl,rfl,rfl,rfl,rfl,trivial⟩ ⟨rfl,trivial⟩) ⟨by show i + 1≤y1;omega, ?_⟩ (by simp only;omega)
    rw [hst]
    exact hrow.snoc (i:Int)
   ·rw [if_neg (by rw [hq];simp)] at hst
    repeat' (first | (refine OblP.mk rfl (W.mk ?_);(conv=>whnf)) | (refine ob ?_ ?_;(first | trivial | omega | (simp only [inR];omega) | exact ble (by rfl) | exact SlR.some ‹_› (by omega));(conv=>whnf)) | (first | (refine ra ‹_› (by rfl) ?_;(conv=>whnf)) | (refine rb ‹_› (by rfl) ?_;(conv=>whnf)) | (refine rc ‹_› (by rfl) ?_;(conv=>whnf)) | (refine rd ‹_› (by rfl) ?_;(conv=>whnf))))
    refine RoundP.of (i + 1,n,vs) (HeadP.of [] ⟨rfl,rfl,rfl,rfl,rfl,trivial⟩ ⟨rfl,trivial⟩) ⟨by show i + 1≤y1;omega, ?_⟩ (by simp only;omega)
    rw [hst]
    exact hrow
  ·have hie:i = g.r.orders.length:=by omega
   subst hie
   refine PubP.mk (fun a1 c1 G2 hg2 hp=>W.mk ?_)
   (conv=>whnf)
   exact FinP.mk (hrow.pub hp (by omega))
def byF (g:Rg) (l:List Int):Nat→Bool:=l.foldl (fun p k=>hideF p (g.r.orders.getD k.toNat ⟨0,0,0,0⟩)) fun _=>false
structure ByOk (g:Rg) (l:List Int):Prop where
 i:∀ k∈l,0≤k∧k < g.r.orders.length
 o:∀ o∈g.r.orders,0≤o.f∧o.f≤o.t∧o.t≤60
def nmOB2 (nm:Option Nat) (vs:List Value):OB:=match nm with
 | none=>.cells .anon (vs.map .val) 95
 | some b=>.cells (.named b) (vs.map S1.of) 95
theorem by62:Sound Try.prog 62 id (gsca (args2 rgRd (slRd intE) ByOk) fun p v=>v = .agg (vll (byF p.1 p.2)).toArray):=by
 refine comp62.gsca (Tab.nil _) (fun args G s h=>?_) (fun args G p h=>?_)
 ·obtain ⟨v,w,rfl,_⟩:=h;simp
 ·obtain ⟨g,l⟩:=p
  obtain ⟨u,v,rfl,⟨w,o,m,rfl,hc⟩,⟨a,n,c,rfl,hl,hn⟩,hb0⟩:=h
  dsimp only at hc hl hb0
  obtain ⟨x0,y0,z0,rfl,lws,yws⟩:=id hc.rp.w
  obtain ⟨x1,y1,z1,rfl,los,yos⟩:=id hc.rp.o
  obtain ⟨x2,y2,z2,rfl,lms,yms⟩:=id hc.may
  have hon:=los.len
  have hln:=hl.len
  dsimp only
  (conv=>whnf)
  refine LoopP.of { α:=Nat × Option Nat × (Nat→Bool),fr:=fun y=>[(2, .c (.ptr 0 0)),(4, .c (.ptr 1 0)),(7, .v (.slice a n c)),(8, .v (I n)),(9, .v (I y.1))],H:=fun y=>[(0, .cells .anon ((rgl (.slice x0 y0 z0) (.slice x1 y1 z1) (.slice x2 y2 z2) g.r.cols g.x.year g.p).map .val) 97),(1,nmOB2 y.2.1 (([]:List Value)++vll y.2.2))],ok:=fun y _=>y.1≤l.length∧y.2.2 = byF g (l.take y.1),m:=fun y=>l.length - y.1 }
   (0,none,fun _=>false) (HeadP.of [] ⟨rfl,rfl,rfl,rfl,rfl,trivial⟩ ⟨rfl,rfl,trivial⟩) ⟨Nat.zero_le _,rfl⟩ (fun y=>⟨rfl,(by obtain ⟨i,nm,q⟩:=y;cases nm<;>rfl)⟩) (fun y G1 hg1 hx=>W.mk ?_)
  obtain ⟨i,nm,q⟩:=y
  obtain ⟨hi,hqe⟩:=hx
  dsimp only at hi hqe
  dsimp only
  cases nm with
  | none =>
   (conv=>whnf)
   refine IteP.mk (fun hlt=>W.mk ?_) (fun hge=>W.mk ?_)<;>(conv=>whnf)
   ·have hlt:i < l.length:=by omega
    have hcl:=(SlR.grow (G:=G) (G':=G1) (fun _ _ h=>h) hl hg1).el hlt
    have htk:=take_snoc (List.getElem?_eq_getElem hlt)
    have hki:=hb0.i _ (List.getElem_mem hlt)
    generalize l[i] = kk at hcl htk hki
    obtain ⟨k,rfl⟩:∃ k:Nat,kk = k:=⟨kk.toNat,by omega⟩
    have hk:k < g.r.orders.length:=by omega
    have hco:=(SlR.grow (G:=G) (G':=G1) (fun _ _ h=>h) los hg1).el hk
    have hb:=hb0.o _ (List.getElem_mem hk)
    have hst:byF g (l.take (i + 1)) = hideF q g.r.orders[k]:=by
     rw [htk,byF,List.foldl_append,hqe]
     simp [byF,hk]
    generalize g.r.orders[k] = o at hco hb hst
    have hco:CellsAt G1 (ab x1) (ao x1 + k * 4) [I o.f,I o.t,I o.k,I o.u]:=hco
    repeat' (first | (refine ob ?_ ?_;(first | trivial | omega | (simp only [inR];omega) | exact ble (by rfl) | exact SlR.some ‹_› (by omega));(conv=>whnf)) | (first | (refine ra ‹_› (by rfl) ?_;(conv=>whnf)) | (refine rb ‹_› (by rfl) ?_;(conv=>whnf)) | (refine rc ‹_› (by rfl) ?_;(conv=>whnf)) | (refine rd ‹_› (by rfl) ?_;(conv=>whnf))))
    refine NameP.mk (fun b=>W.mk ?_)
    (conv=>whnf)
    refine CallN.mk ⟨_,hide69n 95 b q o hb.1 hb.2.1 hb.2.2,body69,W.mk ?_⟩
    (conv=>whnf)
    refine StP.mk ⟨[(1,⟨b,true, .cells (([]:List Value)++vll q) 95⟩)],⟨⟨_,rfl,rfl⟩,trivial⟩,(by show ([1]:List Nat).Nodup;decide),⟨rfl,rfl⟩,fun v ns G3 hg3 hpost=>W.mk ?_⟩
    obtain ⟨rfl,rfl⟩:=hpost
    (conv=>whnf)
    (refine ob ?_ ?_;(first | trivial | omega | (simp only [inR];omega) | exact ble (by rfl) | exact SlR.some ‹_› (by omega));(conv=>whnf))
    refine RoundP.of (i + 1,some b,hideF q o) (HeadP.of [] ⟨rfl,rfl,rfl,rfl,rfl,trivial⟩ ⟨rfl,rfl,trivial⟩) ⟨hlt,hst.symm⟩ (by simp only;omega)
   ·have hie:i = l.length:=by omega
    subst hie
    rw [List.take_length] at hqe
    refine FinP.mk ?_
    rw [hqe];rfl
  | some b =>
   (conv=>whnf)
   refine IteP.mk (fun hlt=>W.mk ?_) (fun hge=>W.mk ?_)<;>(conv=>whnf)
   ·have hlt:i < l.length:=by omega
    have hcl:=(SlR.grow (G:=G) (G':=G1) (fun _ _ h=>h) hl hg1).el hlt
    have htk:=take_snoc (List.getElem?_eq_getElem hlt)
    have hki:=hb0.i _ (List.getElem_mem hlt)
    generalize l[i] = kk at hcl htk hki
    obtain ⟨k,rfl⟩:∃ k:Nat,kk = k:=⟨kk.toNat,by omega⟩
    have hk:k < g.r.orders.length:=by omega
    have hco:=(SlR.grow (G:=G) (G':=G1) (fun _ _ h=>h) los hg1).el hk
    have hb:=hb0.o _ (List.getElem_mem hk)
    have hst:byF g (l.take (i + 1)) = hideF q g.r.orders[k]:=by
     rw [htk,byF,List.foldl_append,hqe]
     simp [byF,hk]
    generalize g.r.orders[k] = o at hco hb hst
    have hco:CellsAt G1 (ab x1) (ao x1 + k * 4) [I o.f,I o.t,I o.k,I o.u]:=hco
    repeat' (first | (refine ob ?_ ?_;(first | trivial | omega | (simp only [inR];omega) | exact ble (by rfl) | exact SlR.some ‹_› (by omega));(conv=>whnf)) | (first | (refine ra ‹_› (by rfl) ?_;(conv=>whnf)) | (refine rb ‹_› (by rfl) ?_;(conv=>whnf)) | (refine rc ‹_› (by rfl) ?_;(conv=>whnf)) | (refine rd ‹_› (by rfl) ?_;(conv=>whnf))))
    (conv=>whnf)
    refine CallN.mk ⟨_,hide69n 95 b q o hb.1 hb.2.1 hb.2.2,body69,W.mk ?_⟩
    (conv=>whnf)
    refine StP.mk ⟨[(1,⟨b,true, .cells (([]:List Value)++vll q) 95⟩)],⟨⟨_,rfl,rfl⟩,trivial⟩,(by show ([1]:List Nat).Nodup;decide),⟨rfl,rfl⟩,fun v ns G3 hg3 hpost=>W.mk ?_⟩
    obtain ⟨rfl,rfl⟩:=hpost
    (conv=>whnf)
    (refine ob ?_ ?_;(first | trivial | omega | (simp only [inR];omega) | exact ble (by rfl) | exact SlR.some ‹_› (by omega));(conv=>whnf))
    refine RoundP.of (i + 1,some b,hideF q o) (HeadP.of [] ⟨rfl,rfl,rfl,rfl,rfl,trivial⟩ ⟨rfl,rfl,trivial⟩) ⟨hlt,hst.symm⟩ (by simp only;omega)
   ·have hie:i = l.length:=by omega
    subst hie
    rw [List.take_length] at hqe
    refine FinP.mk ?_
    rw [hqe];rfl
end Go.Proofs.Ytpcpjmplgladmaa

namespace Go.Proofs.Ytpcpjmplgladmaa
open Go.Shelf
def keysA_ren:Go.Shelf.Ren:=⟨fun | 7=>48 | 10=>74 | n=>n,fun | 23=>100 | 26=>3 | 3=>26 | 28=>107 | 0=>0 | 27=>106 | 33=>114 | 4=>4 | n=>n,fun | n=>n⟩
theorem keysA:SlLaysZI.n7 Try.prog keysA_ren:={
 mixed:=by kernel_rfl
 f7:=⟨Try.f48.name,by decide,Try.func48.trans (congrArg some (by kernel_rfl))⟩
 f10:=⟨Try.f74.name,by decide,Try.func74.trans (congrArg some (by kernel_rfl))⟩
 t0:=Try.underlying0
 a0:=Try.isAgg0
 z0:=Try.sizeOf0
 v0:=Try.zeroValue0
 t4:=Try.underlying4
 a4:=Try.isAgg4
 z4:=Try.sizeOf4
 v4:=Try.zeroValue4
 t23:=Try.underlying100
 a23:=Try.isAgg100
 z23:=Try.sizeOf100
 v23:=Try.zeroValue100
 t26:=Try.underlying3
 a26:=Try.isAgg3
 z26:=Try.sizeOf3
 v26:=Try.zeroValue3
 t27:=Try.underlying106
 a27:=Try.isAgg106
 z27:=Try.sizeOf106
 v27:=Try.zeroValue106
 t28:=Try.underlying107
 a28:=Try.isAgg107
 z28:=Try.sizeOf107
 v28:=Try.zeroValue107
 t33:=Try.underlying114
 a33:=Try.isAgg114
 z33:=Try.sizeOf114
 v33:=Try.zeroValue114 }
def sortedA_ren:Go.Shelf.Ren:=⟨fun | 6=>47 | 8=>72 | 9=>73 | 11=>82 | 13=>84 | 12=>83 | 23=>98 | 24=>99 | 14=>89 | 15=>90 | 16=>91 | 17=>92 | 18=>93 | 19=>94 | 20=>95 | 21=>96 | 22=>97 | 25=>101 | 26=>102 | 27=>103 | 28=>104 | 29=>105 | 30=>106 | 31=>107 | n=>n,fun | 26=>3 | 28=>107 | 24=>26 | 0=>0 | 3=>3 | 37=>122 | 48=>146 | 50=>148 | 4=>4 | 40=>139 | 39=>138 | 45=>143 | 5=>5 | 9=>9 | 51=>150 | 55=>154 | 57=>156 | 58=>157 | 33=>114 | n=>n,fun | n=>n⟩
theorem sortedA:SlLaysZI.n6 Try.prog sortedA_ren:={
 mixed:=by kernel_rfl
 f6:=⟨Try.f47.name,by decide,Try.func47.trans (congrArg some (by kernel_rfl))⟩
 f8:=⟨Try.f72.name,by decide,Try.func72.trans (congrArg some (by kernel_rfl))⟩
 f11:=⟨Try.f82.name,by decide,Try.func82.trans (congrArg some (by kernel_rfl))⟩
 t0:=Try.underlying0
 a0:=Try.isAgg0
 z0:=Try.sizeOf0
 v0:=Try.zeroValue0
 t24:=Try.underlying26
 a24:=Try.isAgg26
 z24:=Try.sizeOf26
 v24:=Try.zeroValue26
 t26:=Try.underlying3
 a26:=Try.isAgg3
 z26:=Try.sizeOf3
 v26:=Try.zeroValue3
 t28:=Try.underlying107
 a28:=Try.isAgg107
 z28:=Try.sizeOf107
 v28:=Try.zeroValue107
 i26:=by kernel_rfl }
def sortA_ren:Go.Shelf.Ren:=⟨fun | 5=>73 | 8=>84 | 7=>83 | 19=>98 | 20=>99 | 10=>89 | 11=>90 | 12=>91 | 13=>92 | 14=>93 | 15=>94 | 16=>95 | 17=>96 | 18=>97 | 30=>101 | 31=>102 | 32=>103 | 33=>104 | 34=>105 | 35=>106 | 40=>107 | n=>n,fun | 23=>26 | 25=>3 | 3=>3 | 32=>122 | 22=>26 | 0=>0 | 44=>146 | 46=>148 | 4=>4 | 36=>139 | 35=>138 | 41=>143 | 5=>5 | 9=>9 | 53=>150 | 57=>154 | 63=>156 | 64=>157 | n=>n,fun | n=>n⟩
theorem sortA:SlLaysM.n5 Try.prog sortA_ren:={
 mixed:=by kernel_rfl
 f5:=⟨Try.f73.name,by decide,Try.func73.trans (congrArg some (by kernel_rfl))⟩
 f7:=⟨Try.f83.name,by decide,Try.func83.trans (congrArg some (by kernel_rfl))⟩
 f8:=Try.func84.trans (congrArg some (by kernel_rfl))
 f10:=⟨Try.f89.name,by decide,Try.func89.trans (congrArg some (by kernel_rfl))⟩
 f11:=⟨Try.f90.name,by decide,Try.func90.trans (congrArg some (by kernel_rfl))⟩
 f12:=⟨Try.f91.name,by decide,Try.func91.trans (congrArg some (by kernel_rfl))⟩
 f13:=⟨Try.f92.name,by decide,Try.func92.trans (congrArg some (by kernel_rfl))⟩
 f14:=⟨Try.f93.name,by decide,Try.func93.trans (congrArg some (by kernel_rfl))⟩
 f15:=⟨Try.f94.name,by decide,Try.func94.trans (congrArg some (by kernel_rfl))⟩
 f16:=⟨Try.f95.name,by decide,Try.func95.trans (congrArg some (by kernel_rfl))⟩
 f17:=⟨Try.f96.name,by decide,Try.func96.trans (congrArg some (by kernel_rfl))⟩
 f18:=⟨Try.f97.name,by decide,Try.func97.trans (congrArg some (by kernel_rfl))⟩
 f19:=Try.func98.trans (congrArg some (by kernel_rfl))
 f20:=Try.func99.trans (congrArg some (by kernel_rfl))
 f30:=⟨Try.f101.name,by decide,Try.func101.trans (congrArg some (by kernel_rfl))⟩
 f31:=Try.func102.trans (congrArg some (by kernel_rfl))
 f32:=Try.func103.trans (congrArg some (by kernel_rfl))
 f33:=⟨Try.f104.name,by decide,Try.func104.trans (congrArg some (by kernel_rfl))⟩
 f34:=⟨Try.f105.name,by decide,Try.func105.trans (congrArg some (by kernel_rfl))⟩
 f35:=⟨Try.f106.name,by decide,Try.func106.trans (congrArg some (by kernel_rfl))⟩
 f40:=⟨Try.f107.name,by decide,Try.func107.trans (congrArg some (by kernel_rfl))⟩
 t0:=Try.underlying0
 a0:=Try.isAgg0
 z0:=Try.sizeOf0
 v0:=Try.zeroValue0
 t3:=Try.underlying3
 a3:=Try.isAgg3
 z3:=Try.sizeOf3
 v3:=Try.zeroValue3
 t4:=Try.underlying4
 a4:=Try.isAgg4
 z4:=Try.sizeOf4
 v4:=Try.zeroValue4
 t5:=Try.underlying5
 a5:=Try.isAgg5
 z5:=Try.sizeOf5
 v5:=Try.zeroValue5
 t9:=Try.underlying9
 a9:=Try.isAgg9
 z9:=Try.sizeOf9
 v9:=Try.zeroValue9
 t22:=Try.underlying26
 a22:=Try.isAgg26
 z22:=Try.sizeOf26
 v22:=Try.zeroValue26
 t23:=Try.underlying26
 a23:=Try.isAgg26
 z23:=Try.sizeOf26
 v23:=Try.zeroValue26
 t25:=Try.underlying3
 a25:=Try.isAgg3
 z25:=Try.sizeOf3
 v25:=Try.zeroValue3
 t32:=Try.underlying122
 a32:=Try.isAgg122
 z32:=Try.sizeOf122
 v32:=Try.zeroValue122
 t35:=Try.underlying138
 a35:=Try.isAgg138
 z35:=Try.sizeOf138
 v35:=Try.zeroValue138
 t36:=Try.underlying139
 a36:=Try.isAgg139
 z36:=Try.sizeOf139
 v36:=Try.zeroValue139
 t41:=Try.underlying143
 a41:=Try.isAgg143
 z41:=Try.sizeOf143
 v41:=Try.zeroValue143
 t44:=Try.underlying146
 a44:=Try.isAgg146
 z44:=Try.sizeOf146
 v44:=Try.zeroValue146
 t46:=Try.underlying148
 a46:=Try.isAgg148
 z46:=Try.sizeOf148
 v46:=Try.zeroValue148
 t53:=Try.underlying150
 a53:=Try.isAgg150
 z53:=Try.sizeOf150
 v53:=Try.zeroValue150
 t57:=Try.underlying154
 a57:=Try.isAgg154
 z57:=Try.sizeOf154
 v57:=Try.zeroValue154
 t63:=Try.underlying156
 a63:=Try.isAgg156
 z63:=Try.sizeOf156
 v63:=Try.zeroValue156
 t64:=Try.underlying157
 a64:=Try.isAgg157
 z64:=Try.sizeOf157
 v64:=Try.zeroValue157 }
end Go.Proofs.Ytpcpjmplgladmaa

namespace Go.Proofs.Ytpcpjmplgladmaa
open Go.Pal Go.RowKit Go.Maps Go.Sort
set_option maxRecDepth 100000
structure SMap (es:Array MapEntry) (clock:Nat) (m:Int→Option Value):Prop where
 is:MapIs Try.prog 3 I es m
 st:MapKept.Stamped es clock
 key:∀ x,m x≠none→inR .i64 x
theorem und3:Try.prog.underlying 3 = some (.int .i64):=by kernel_rfl
theorem SMap.nil:SMap #[] 0 (fun _=>none):=⟨MapIs.nil,MapKept.stamped_empty 0,fun x h=>absurd rfl h⟩
theorem SMap.find {es:Array MapEntry} {clock:Nat} {m:Int→Option Value} (h:SMap es clock m) {x:Int} (hx:inR .i64 x) :
  ∃ r,KeyFind Try.prog 3 (I x) es r∧(∀ z ok,lookV z ok es r = lookD z ok (m x))∧∀ v,SMap (putE es clock (I x) v r).1 (putE es clock (I x) v r).2 (fun y=>if y = x then some v else m y):=by
 obtain ⟨r,h1,h2,h3⟩:=MapIs.find (Maps.int_keyed und3) (fun x y e=>by cases e;rfl) h.is (Maps.keyOf_int_mk und3 (wf_i64' hx)) (by simp [Instr.sameBits])
 refine ⟨r,h1,h2,fun v=>⟨h3 clock v, ?_,fun y hy=>?_⟩⟩
 ·cases r with
  | none =>
   refine MapKept.stamped_push h.st fun e he hk=>?_
   have h3':=(h3 clock v).ex
   obtain ⟨D,k1,_,k3,_⟩:=h3'
   have hkeys:(putE es clock (I x) v none).1.toList.map (·.key) = D.map fun p=>I p.1:=by
    have:=congrArg (List.map Prod.fst) k1
    simpa [List.map_map,Function.comp_def] using this
   have hnd:((putE es clock (I x) v none).1.toList.map (·.key)).Nodup:=by
    rw [hkeys]
    have:(D.map fun p=>I p.1) = (D.map (·.1)).map I:=by simp [List.map_map,Function.comp_def]
    rw [this]
    exact k3.map _ (fun a b hab e=>hab (by cases e;rfl))
   simp only [putE,Array.toList_push,List.map_append,List.map_cons,List.map_nil] at hnd
   rw [List.nodup_append] at hnd
   exact hnd.2.2 _ (List.mem_map.2 ⟨e,he,rfl⟩) _ (by simp) hk
  | some i =>
   refine MapKept.stamped_modify h.st i _ (fun e _=>rfl) (fun e he hi=>?_)
   have hs:=h1.same i rfl
   have hf:=h1.find default
   simp only [hi,Option.map_some,Option.getD_some] at hs
   have:=h.is.ex
   obtain ⟨D,k1,_⟩:=this
   have hm:(e.key,e.val)∈es.toList.map (fun e=>(e.key,e.val)):=List.mem_map.2 ⟨e,he,rfl⟩
   rw [k1] at hm
   obtain ⟨p,hp,e1⟩:=List.mem_map.1 hm
   simp only [Prod.mk.injEq] at e1
   rw [← e1.1] at hs ⊢
   simp [Instr.sameBits] at hs
   rw [hs]
 ·by_cases hyx:y = x
  ·rw [hyx];exact hx
  ·rw [if_neg hyx] at hy;exact h.key y hy
structure Asc (ss:List Int) (m:Int→Option Value):Prop where
 lt:ss.Pairwise (· < ·)
 mem:∀ x,x∈ss↔m x≠none
def anyR:Value→Option (DataW Unit × List MemPlace):=fun _=>some (.nil,[])
theorem SMap.owns {W:World} {b:Nat} {es:Array MapEntry} {clock:Nat} {m:Int→Option Value} (h:SMap es clock m) (hw:W.heap[b]? = some (.map es clock)) (hsz:es.size≤100000) :
  ∃ D0:DataW Unit,W.ownsMap Try.prog 3 anyR b es.size D0∧Maps.size D0 = es.size∧∀ ss:List Int,ss.Perm (intKeys D0)→ss.Nodup∧∀ x,x∈ss↔m x≠none:=by
 obtain ⟨D,k1,k2,k3,k4,k5⟩:=h.is.ex
 have hmem:∀ e∈es.toList, ∃ p∈D,e.key = I p.1:=fun e he=>by
  have:(e.key,e.val)∈es.toList.map (fun e=>(e.key,e.val)):=List.mem_map.2 ⟨e,he,rfl⟩
  rw [k1] at this
  obtain ⟨p,hp,e1⟩:=List.mem_map.1 this
  simp only [Prod.mk.injEq] at e1
  exact ⟨p,hp,e1.1.symm⟩
 have hkey:∀ e∈es.toList, ∃ x,e.key = I x∧keyOf Try.prog 3 e.key = some (.int .i64 x):=fun e he=>by
  obtain ⟨p,hp,e1⟩:=hmem e he
  refine ⟨p.1,e1, ?_⟩
  rw [e1]
  exact Maps.keyOf_int_mk und3 (wf_i64' (h.key p.1 (by rw [k4 p hp];simp)))
 have hrg:es.toList.map (WideElems.rg Try.prog 3 anyR) = D.map fun p=>((.int .i64 p.1, .nil):Lit × DataW Unit):=by
  have e1:es.toList.map (·.key) = D.map fun p=>I p.1:=by
   have:=congrArg (List.map Prod.fst) k1
   simpa [List.map_map,Function.comp_def] using this
  have e2:es.toList.map (WideElems.rg Try.prog 3 anyR) = (es.toList.map (·.key)).map fun k=>(((keyOf Try.prog 3 k).getD (.bool false), .nil):Lit × DataW Unit):=by
   rw [List.map_map]
   refine List.map_congr_left fun e he=>?_
   obtain ⟨x,_,q2⟩:=hkey e he
   simp [WideElems.rg,WideElems.rd,q2,anyR]
  rw [e2,e1,List.map_map]
  refine List.map_congr_left fun p hp=>?_
  have:=Maps.keyOf_int_mk und3 (wf_i64' (h.key p.1 (by rw [k4 p hp];simp)))
  simp only [Function.comp_def]
  show ((keyOf Try.prog 3 (I p.1)).getD (.bool false),DataW.nil) = _
  rw [this];rfl
 refine ⟨.map ((es.toList.map (WideElems.rg Try.prog 3 anyR)).foldr DataW.insert []),⟨es,clock,hw,⟨by unfold maxLen;omega,h.st,fun e he=>?_⟩,Nat.le_refl _,rfl⟩, ?_,fun ss hss=>?_⟩
 ·obtain ⟨x,_,q2⟩:=hkey e he
  exact ⟨_,by simp only [WideElems.rd,q2,anyR,Option.bind_some,Option.map_some];rfl⟩
 ·have:=(WideShapes.sorted_perm (es.toList.map (WideElems.rg Try.prog 3 anyR))).length_eq
  show List.length _ = _
  rw [this];simp
 ·have hp:(intKeys (.map ((es.toList.map (WideElems.rg Try.prog 3 anyR)).foldr DataW.insert []))).Perm (D.map (·.1)):=by
   have:=(WideShapes.sorted_perm (es.toList.map (WideElems.rg Try.prog 3 anyR))).map (fun p:Lit × DataW Unit=>_root_.Go.intOf p.1)
   rw [hrg,List.map_map] at this
   rw [hrg]
   exact this
  have hp2:=hss.trans hp
  refine ⟨hp2.symm.nodup k3,fun x=>?_⟩
  rw [hp2.mem_iff]
  constructor
  ·intro hx
   obtain ⟨p,hp,rfl⟩:=List.mem_map.1 hx
   rw [k4 p hp];simp
  ·intro hx
   refine Classical.byContradiction fun hn=>hx (k5 x fun p hp e=>hn (List.mem_map.2 ⟨p,hp,e⟩))

/-! ### maps.Keys,slices.Sorted -/
theorem keys48 (b:Nat):Sound Try.prog 48 id (.rel (fun args _=>args = [.map (some b)]) (fun _ v G=>∃ cb,v = .func (.func 74) #[] #[.pointer (some ⟨cb,0,none⟩)]∧G cb = some (.cells #[.map (some b)] 100 (0,0)))):=by
 refine ⟨fun args v G G' hg ⟨cb,h1,h2⟩=>⟨cb,h1,hg _ _ h2⟩,fun args G W hs hp=>?_⟩
 subst hp
 have h:=callsIn_wide.1 (AnyZI.keys_in keysA Fence.wide 0 trivial rfl (some b) W)
 refine Calls.mono h ?_
 rintro e W' ⟨rfl,rfl⟩
 have hB:Below W.heap.size W (W.alloc (.cells #[.map (some b)] 100)):=(Below.refl _ _).alloc (Nat.le_refl _) _
 have hnone:G W.heap.size = none:=by
  cases hG:G W.heap.size with
  | none=>rfl
  | some o=>exact absurd (Array.getElem?_eq_some_iff.1 (hs _ o hG)).1 (Nat.lt_irrefl _)
 refine ⟨_,upd G W.heap.size (some (.cells #[.map (some b)] 100 (0,0))),rfl,⟨W.heap.size,rfl,by rw [upd_same]⟩,fun k o e=>?_,fun k o e=>?_,fun k o e=>?_,hB⟩
 ·by_cases hk:k = W.heap.size
  ·subst hk;rw [hnone] at e;cases e
  ·rw [upd_other _ _ hk];exact e
 ·by_cases hk:k = W.heap.size
  ·subst hk;rw [upd_same] at e;cases e;exact heap_alloc_new W _
  ·rw [upd_other _ _ hk] at e
   have:=hs _ _ e
   exact (hB.block k (Array.getElem?_eq_some_iff.1 this).1).trans this
 ·by_cases hk:k = W.heap.size
  ·subst hk;exact .inr (Nat.le_refl _)
  ·rw [upd_other _ _ hk] at e;exact .inl e
theorem sorts73 (m:Nat):AnyZI.SortsIn Try.prog sortedA_ren Fence.wide m :=
  ⟨fun blk off cap ss W hH hblk hsz=>callsIn_wide.2 (AnyM.slices_Sort_int sortA blk off cap ss W hH hblk hsz),
   fun p cap W=>callsIn_wide.2 (AnyM.slices_Sort_int_none sortA p cap W)⟩
theorem asc_of {ss:List Int} {m:Int→Option Value} (hnd:ss.Nodup) (hm:∀ x,x∈ss↔m x≠none):Asc (ss.mergeSort fun x y=>decide (x≤y)) m:=by
 have hp:=List.mergeSort_perm ss (fun x y=>decide (x≤y))
 have hs:=List.pairwise_mergeSort (le:=fun x y:Int=>decide (x≤y)) (fun a b c h1 h2=>by simp only [decide_eq_true_eq] at *;omega) (fun a b=>by simp only [Bool.or_eq_true,decide_eq_true_eq];omega) ss
 have hn:=hp.symm.nodup hnd
 refine ⟨?_,fun x=>by rw [hp.mem_iff];exact hm x⟩
 refine (hs.and hn).imp ?_
 rintro a b ⟨h1,h2⟩
 simp only [decide_eq_true_eq] at h1
 omega
theorem sorted47 (cb b:Nat) {es:Array MapEntry} {clock:Nat} {m:Int→Option Value} (h:SMap es clock m) (hsz:es.size≤100000):Sound Try.prog 47 id (.st (fun args ls G=>args = [.func (.func 74) #[] #[.pointer (some ⟨cb,0,none⟩)]]∧G cb = some (.cells #[.map (some b)] 100 (0,0))∧ls = [⟨b,false, .map es clock⟩])
  (fun _ _ v ns G=>ns = []∧∃ a n c ss,v = .slice a n c∧PubRow G a n c (ss.map I)∧ss.length = n∧Asc ss m)):=by
 refine ⟨fun args ls v ns G G' hg ⟨h0,a,n,c,ss,h1,h2,h3,h4⟩=>⟨h0,a,n,c,ss,h1,h2.grow hg,h3,h4⟩,fun args ls G W hs hls hnd hp=>?_⟩
 obtain ⟨rfl,hcb,rfl⟩:=hp
 obtain ⟨hw,hGb,_⟩:=hls ⟨b,false, .map es clock⟩ (by simp)
 have hw:W.heap[b]? = some (.map es clock):=hw
 obtain ⟨D0,hown,hD,hkeys⟩:=h.owns hw hsz
 have hcw:=hs cb _ hcb
 have hseq:SeqGives Fence.wide 1 Try.prog 74 #[.pointer (some ⟨cb,0,none⟩)] encZ (fun ss=>ss.Perm (intKeys D0)) (Maps.size D0) W :=
  AnyZI.keys_gives (ρ:=keysA_ren) { keysA with } Fence.wide _ trivial rfl (by omega) cb b es.size D0 _ (Array.getElem?_eq_some_iff.1 hcw).1 (by
   unfold World.cell?
   rw [show W.heap[(⟨cb,0,none⟩:Addr).block]? = _ from hcw];rfl) hown
 have cS:=AnyZI.sorted_in sortedA Fence.wide 4 trivial trivial trivial trivial rfl (by omega) (sorts73 _) (enters_of Try.func73 (by kernel_rfl) rfl) 74 #[.pointer (some ⟨cb,0,none⟩)] trivial (enters_of Try.func74 (by kernel_rfl) rfl) _ (Maps.size D0) (by rw [hD];unfold maxLen;omega) (by rw [hD];omega) W hseq
 change CallsIn _ _ Try.prog 47 _ _ _ at cS
 refine Calls.mono (callsIn_wide.1 cS) ?_
 rintro e W' ⟨v,ss,rfl,hS,hrow,hnil,hB⟩
 obtain ⟨hn1,hm1⟩:=hkeys ss hS
 have hasc:=asc_of hn1 hm1
 have hlen:(ss.mergeSort fun x y=>decide (x≤y)).length = ss.length:=List.length_mergeSort _
 have enc:(ss.mergeSort fun x y=>decide (x≤y)).map encZ = (ss.mergeSort fun x y=>decide (x≤y)).map I:=rfl
 have hGw:Sub G W':=fun k o e=>by
  have:=hs k o e
  rw [hB.block k (Array.getElem?_eq_some_iff.1 this).1];exact this
 rcases hrow.2 with ⟨rfl,hz⟩ | ⟨g,cap,cur,rfl,hbase,hg,r1,r2,r3,r4⟩
 ·have:ss = []:=List.eq_nil_of_length_eq_zero hz
  subst this
  exact ⟨_,[],G,rfl,⟨rfl,none,0,0,_,rfl,⟨Nat.le_refl _,fun h=>absurd rfl h,fun j v hj=>by simp at hj⟩,by simp,hasc⟩,rfl,Grow.refl _,hGw,fun k o e=>.inl e,⟨hB.os,hB.tape,hB.output,hB.size,fun k hk _=>hB.block k hk⟩⟩
 ·have hnone:G g = none:=by
   cases hG:G g with
   | none=>rfl
   | some o=>exact absurd (Array.getElem?_eq_some_iff.1 (hs _ o hG)).1 (by omega)
  refine ⟨_,[],upd G g (some (.cells cur 3 (0,0))),rfl,⟨rfl,some ⟨g,0,none⟩,ss.length,cap,_,rfl,⟨r1,fun _=>rfl,fun j v hj=>?_⟩,hlen,hasc⟩,rfl,fun k o e=>?_,fun k o e=>?_,fun k o e=>?_,⟨hB.os,hB.tape,hB.output,hB.size,fun k hk _=>hB.block k hk⟩⟩
  ·simp only [rd1,ab_some,ao_some,upd_same,Nat.zero_add]
   rw [← enc, ← r4,List.getElem?_take] at hj
   split at hj
   ·simpa using hj
   ·cases hj
  ·by_cases hk:k = g
   ·subst hk;rw [hnone] at e;cases e
   ·rw [upd_other _ _ hk];exact e
  ·by_cases hk:k = g
   ·subst hk;rw [upd_same] at e;cases e;exact hg
   ·rw [upd_other _ _ hk] at e;exact hGw k o e
  ·by_cases hk:k = g
   ·subst hk;exact .inr hbase
   ·rw [upd_other _ _ hk] at e;exact .inl e
end Go.Proofs.Ytpcpjmplgladmaa

namespace Go.Pal
open Go.RowKit
def heap0:Nat→Option OB:=fun i=>cond (Nat.beq i 0) (some (.heap fun _=>none)) none
theorem heap0_some {i:Nat} {ob:OB} (h:heap0 i = some ob):i = 0∧ob = .heap fun _=>none:=by
 unfold heap0 at h
 cases hb:Nat.beq i 0 with
 | true=>rw [hb] at h;cases h;exact ⟨Nat.eq_of_beq_eq_true hb,rfl⟩
 | false=>rw [hb] at h;cases h
section
variable {P:Program}
theorem sat_startH {n:Nat} {args:List Value} (hn:args.length≤n) {G:Hp} {W:World} (hsub:Sub G W):Sat (Root.of W) G n (fun k=>k < 1) (fun _=>undef) ⟨argFr args,heap0,G⟩ { tmps:=args.toArray++Array.replicate (n - args.toArray.size) undef,defers:=[] } W:=by
 refine ⟨⟨Beneath.refl _,hsub,fun b o h=>.inl h,fun h ob e=>?_,fun h ob v e e2=>?_,fun h ob e _ b hb=>?_,fun h ob h' ob' b e e2 _ hb _=>?_⟩,fun i=>argFr_ment _ args i,fun h ob e=>?_,fun i=>args_frame _ i,by simp;omega,rfl⟩
 ·obtain ⟨_,rfl⟩:=heap0_some e;exact fun b o ho=>by cases ho
 ·obtain ⟨_,rfl⟩:=heap0_some e;cases e2
 ·obtain ⟨_,rfl⟩:=heap0_some e;obtain ⟨o,ho⟩:=hb;cases ho
 ·obtain ⟨_,rfl⟩:=heap0_some e;obtain ⟨o,ho⟩:=hb;cases ho
 ·obtain ⟨rfl,rfl⟩:=heap0_some e;exact ⟨Nat.lt_succ_self 0,trivial⟩
def funVCH (P:Program) (tab:FuncId→Option PSpec) (ic:IC) (rs:List IRes) (args:List Value) (G:Hp) (K:Value→Hp→Prop):Prop :=
 vc P tab (.no []) ic 1 ⟨argFr args,heap0,G⟩ fun o _ σ=>match o with
  | .norm=>finKP rs σ K
  | .ret=>finKP rs σ K
  | .exit _=>False
theorem CompAt.callsH {f:FuncId} {ic:IC} {rs:List IRes} {nt:Nat} (C:CompAt P f 1 ic rs nt) (T:Tab P) {args:List Value} {G:Hp} {W:World} {K:Value→Hp→Prop} (hn:args.length≤nt) (hsub:Sub G W) (h:funVCH P T.get ic rs args G K) :
  Calls P f args.toArray W fun e W'=>∃ v G',e = .returned v∧K v G'∧Grow G G'∧Sub G' W'∧(∀ b o,G' b = some o→G b = some o∨W.heap.size≤b)∧Below W.heap.size W W':=by
 obtain ⟨fn,c,b2,h1,h2,h3,h4,rfl⟩:=C.ex
 have hs:SatE (baseEnv (fun _=>False) G W) [] fn.ntmps 1 (fun _=>False) (fun _=>undef) ⟨argFr args,heap0,G⟩ { tmps:=args.toArray++Array.replicate (fn.ntmps - args.toArray.size) undef,defers:=[] } W :=
  SatE.of (r:=Root.of W) (G0:=G) (fun _ h=>h) (fun _ h=>h.elim) (Agree.refl _ _) ⟨baseEnv_at.2 ⟨Beneath.refl _,fun b o h=>.inl h,fun b h=>(HdOf_start h).elim⟩,fun b hb=>hb.elim,hsub,marks_start⟩ (Grow.refl _) (sat_startH hn hsub)
 refine body_soundP T baseEnv_ok h1 h2 h3 h4 (K:=fun _ vs _ G=>FinP (K (wrapV vs) G)) hs h ?_
 intro σ' W' M E vs H' G' hk hg hd
 obtain ⟨q1,q2,_⟩:=baseEnv_at.1 hd.at_
 exact ⟨_,G',rfl,hk.out,hg,hd.sim.sub,fun b o e=>(q2 b o e).imp id (fun h=>h.resolve_right id),Beneath.below (w:=W) q1⟩
theorem CompAt.grelH {f:FuncId} {ic:IC} {rs:List IRes} {nt:Nat} {α:Type} {R:GRel α} (C:CompAt P f 1 ic rs nt) (T:Tab P) (ok:GOk R) {q:α→Value→Hp→Prop} (hn:∀ args G x,R args G x→args.length≤nt) (hm:∀ x v G G',Grow G G'→q x v G→q x v G') (h:∀ args G x,R args G x→funVCH P T.get ic rs args G fun v G'=>q x v G'):Sound P f id (grel R q) :=
 ⟨fun args v G G' hg ⟨x,h1,h2⟩=>⟨x,ok.grow _ _ _ _ hg h1,hm _ _ _ _ hg h2⟩,fun args G W hs ⟨x,hx⟩=>(CompAt.callsH C T (hn args G x hx) hs (h args G x hx)).mono fun e W' ⟨v,G',h1,h2,h3,h4,h5,h6⟩=>⟨v,G',h1,⟨x,ok.grow _ _ _ _ h3 hx,h2⟩,h3,h4,h5,h6⟩⟩
end
end Go.Pal

namespace Go.Proofs.Ytpcpjmplgladmaa
open Go.Pal Go.RowKit
set_option maxRecDepth 100000
theorem mapI_flat (l:List Int):l.map I = (l.map intE.f).flatten:=(flat1 I l).symm
theorem joinL_rowI {G:Hp} {b n0 n cap:Nat} {l:List Int} {rest:List Value} {w:Bool} (hl:l.length = n) (hc:n≤cap) (hb:n≤140737488355328):SlV intE (joinL G [⟨b,w, .row n0 n cap (l.map I) rest 3 1⟩]) (.slice (some ⟨b,0,none⟩) n cap) l:=by
 refine PubRow.slV (e:=intE) (vs:=l.map I) ⟨hc,fun _=>rfl,fun j v hj=>?_⟩ (mapI_flat l) hl hb
 have hj2:j < (l.map I).length:=(List.getElem?_eq_some_iff.1 hj).1
 show rd1 _ b (0 + j) = _
 simp only [rd1,joinL,Nat.beq_refl,cond_true,LB.obj,Nat.zero_add]
 simp only [List.getElem?_toArray,List.getElem?_append_left hj2,hj]
abbrev Cols:=Int→List Int
def addC (c:Int) (F:Cols) (h:Int):Cols:=if (F h).contains c then F else fun y=>if y = h then F h++[c] else F y
def stepC (g:Rg) (F:Cols) (e:Int × Pc):Cols:=if e.1 = -1 then F else (g.r.words.getD e.1.toNat ⟨noText,[]⟩).heads.foldl (addC e.2.col) F
def colsF (g:Rg):Cols:=(pcF g).foldl (stepC g) fun _=>[]
structure FoundIs (p:Hp) (m:Int→Option Value) (F:Cols):Prop where
 at_:∀ h v,m h = some v→∃ (b:Nat) (cs:List Value),v = .slice (some ⟨b,0,none⟩) (F h).length cs.length∧p b = some (.cells cs.toArray 3 (0,0))∧(F h).length≤cs.length∧cs.length≤maxLen∧cs.take (F h).length = (F h).map I
 no:∀ h,m h = none↔F h = []
 inj:∀ h h' b n c n' c',m h = some (.slice (some ⟨b,0,none⟩) n c)→m h' = some (.slice (some ⟨b,0,none⟩) n' c')→h = h'
theorem FoundIs.nil:FoundIs (fun _=>none) (fun _=>none) (fun _=>[]):=⟨fun h v e=>(by cases e),fun h=>by simp,fun h h' b n c n' c' e=>by cases e⟩
theorem FoundIs.put {p:Hp} {m:Int→Option Value} {F:Cols} (H:FoundIs p m F) {x c:Int} {b:Nat} {cs:List Value} (hx:(F x).contains c = false) (hb:p b = none∨∃ n k,m x = some (.slice (some ⟨b,0,none⟩) n k))
  (h1:(F x).length + 1≤cs.length) (h2:cs.length≤maxLen) (h3:cs.take ((F x).length + 1) = (F x++[c]).map I) :
  FoundIs (upd p b (some (.cells cs.toArray 3 (0,0)))) (fun y=>if y = x then some (.slice (some ⟨b,0,none⟩) ((F x).length + 1) cs.length) else m y) (addC c F x):=by
 have hF:∀ y,addC c F x y = if y = x then F x++[c] else F y:=fun y=>by rw [addC,hx];rfl
 have hne:∀ y b' n k,y≠x→m y = some (.slice (some ⟨b',0,none⟩) n k)→b'≠b:=fun y b' n k hy hm e=>by
  subst e
  rcases hb with hb | ⟨n',k',hm'⟩
  ·obtain ⟨b2,cs2,e1,e2,_⟩:=H.at_ y _ hm
   cases e1
   rw [hb] at e2;cases e2
  ·exact hy (H.inj _ _ _ _ _ _ _ hm hm')
 refine ⟨fun h v e=>?_,fun h=>?_,fun h h' b' n k n' k' e e'=>?_⟩
 ·by_cases hh:h = x
  ·subst hh
   rw [if_pos rfl] at e
   cases e
   rw [hF,if_pos rfl]
   refine ⟨b,cs, ?_,by rw [upd_same], ?_,h2, ?_⟩
   ·simp
   ·simpa using h1
   ·simpa using h3
  ·rw [if_neg hh] at e
   obtain ⟨b2,cs2,rfl,e2,e3⟩:=H.at_ h v e
   rw [hF,if_neg hh]
   exact ⟨b2,cs2,rfl,by rw [upd_other _ _ (hne h b2 _ _ hh e)];exact e2,e3⟩
 ·rw [hF]
  by_cases hh:h = x
  ·simp [hh]
  ·rw [if_neg hh,if_neg hh];exact H.no h
 ·by_cases hh:h = x<;>by_cases hh':h' = x
  ·rw [hh,hh']
  ·rw [if_pos hh] at e;rw [if_neg hh'] at e'
   cases e
   exact absurd rfl (hne h' _ _ _ hh' e')
  ·rw [if_neg hh] at e;rw [if_pos hh'] at e'
   cases e'
   exact absurd rfl (hne h _ _ _ hh e)
  ·rw [if_neg hh] at e;rw [if_neg hh'] at e'
   exact H.inj _ _ _ _ _ _ _ e e'
theorem asc_uniq:∀ {a b:List Int},a.Pairwise (· < ·)→b.Pairwise (· < ·)→(∀ x,x∈a↔x∈b)→a = b
 | [],[],_,_,_=>rfl
 | [],y :: b,_,_,h=>by have:=(h y).2 (by simp);simp at this
 | x :: a,[],_,_,h=>by have:=(h x).1 (by simp);simp at this
 | x :: a,y :: b,ha,hb,h=>by
  rw [List.pairwise_cons] at ha hb
  have hxy:x = y:=by
   have h1:=(h x).1 (by simp)
   have h2:=(h y).2 (by simp)
   rcases List.mem_cons.1 h1 with e | e
   ·exact e
   rcases List.mem_cons.1 h2 with e' | e'
   ·exact e'.symm
   have:=hb.1 x e
   have:=ha.1 y e'
   omega
  subst hxy
  congr 1
  refine asc_uniq ha.2 hb.2 fun z=>⟨fun hz=>?_,fun hz=>?_⟩
  ·rcases List.mem_cons.1 ((h z).1 (by simp [hz])) with e | e
   ·have:=ha.1 z hz;omega
   ·exact e
  ·rcases List.mem_cons.1 ((h z).2 (by simp [hz])) with e | e
   ·have:=hb.1 z hz;omega
   ·exact e
def hdsF (F:Cols):List Int:=((List.range 100).map (fun n:Nat=>(n:Int))).filter fun h=>!(F h).isEmpty
theorem hds_asc {F:Cols} {m:Int→Option Value} {ss:List Int} (h:Asc ss m) (hm:∀ h,m h = none↔F h = []) (hr:∀ h,F h≠[]→0≤h∧h≤99):ss = hdsF F:=by
 refine asc_uniq h.lt ?_ fun x=>?_
 ·refine List.Pairwise.filter _ ?_
  rw [List.pairwise_map]
  exact List.pairwise_lt_range.imp fun {a b} h=>by omega
 ·rw [h.mem,hdsF,List.mem_filter,List.mem_map]
  constructor
  ·intro hx
   have hx':F x≠[]:=fun e=>hx ((hm x).2 e)
   have:=hr x hx'
   refine ⟨⟨x.toNat,List.mem_range.2 (by omega),by omega⟩,by simpa using hx'⟩
  ·rintro ⟨_,hx⟩ e
   have:=(hm x).1 e
   simp [this] at hx
theorem ris_mem {most:Int} {l:List Int} (h:risM most l = true):∀ x∈l,0≤x∧x≤most:=fun x hx=>by
 obtain ⟨i,hi,rfl⟩:=List.getElem_of_mem hx
 simp only [risM,List.all_eq_true,List.mem_range] at h
 have:=h i hi
 simp only [risAt,inF,Bool.and_eq_true,decide_eq_true_eq,gd0 hi] at this
 exact this.1
theorem addC_rng {c:Int} {F:Cols} {x:Int} (h:∀ y,F y≠[]→0≤y∧y≤99) (hx:0≤x∧x≤99):∀ y,addC c F x y≠[]→0≤y∧y≤99:=fun y hy=>by
 unfold addC at hy
 split at hy
 ·exact h y hy
 ·by_cases e:y = x
  ·subst e;exact hx
  ·simp only [if_neg e] at hy;exact h y hy
end Go.Proofs.Ytpcpjmplgladmaa
