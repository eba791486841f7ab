/- Layer 3: the reference: change. Layer 3: the reference: Play; the error of a draft with steps. Layer 3: drawn drafts and steps, read without bounds; Thin, short, fault, ready. Layer 3: drafts and steps, copied for the program. Layer 3: the drawn values, opened. -/
import Derived.Test.YtfppbjfbghaclaaGreatMK
import Derived.Test.YtfppbjfbghaclaaGreatMC
import Derived.Test.YtfppbjfbghaclaaGreatRows
set_option linter.unusedSimpArgs false
set_option linter.unusedVariables false
namespace Go.Proofs.YtfppbjfbghaclaaGreat
open Go.Pal Go.RowKit
set_option maxRecDepth 100000
abbrev args4 {α β γ δ:Type} (A:Rd α) (B:Rd β) (C:Rd γ) (D:Rd δ) (q:α→β→γ→δ→Prop):GRel (α × β × γ × δ):=fun args G x=>∃ u v w z,args = [u,v,w,z]∧A.R G u x.1∧B.R G v x.2.1∧C.R G w x.2.2.1∧D.R G z x.2.2.2∧q x.1 x.2.1 x.2.2.1 x.2.2.2
theorem ok4 {α β γ δ:Type} (A:Rd α) (B:Rd β) (C:Rd γ) (D:Rd δ) (q:α→β→γ→δ→Prop):GOk (args4 A B C D q) :=
 ⟨fun _ _ _ _ ⟨u,v,w,z,h,h1,h2,h3,h4,_⟩ ⟨u',v',w',z',h',h1',h2',h3',h4',_⟩=>by rw [h] at h';cases h';exact Prod.ext (A.uniq h1 h1') (Prod.ext (B.uniq h2 h2') (Prod.ext (C.uniq h3 h3') (D.uniq h4 h4'))),fun _ _ _ _ hg ⟨u,v,w,z,h,h1,h2,h3,h4,h5⟩=>⟨u,v,w,z,h,A.grow hg h1,B.grow hg h2,C.grow hg h3,D.grow hg h4,h5⟩⟩
def spRd:Rd Sp:=⟨fun G v x=>∃ cs:List Value,v = .agg cs.toArray∧SpC G cs x,fun ⟨cs,h,h1⟩ ⟨cs',h',h1'⟩=>by
  rw [h] at h';simp only [Value.agg.injEq] at h'
  have:=congrArg Array.toList h'
  simp only at this
  subst this
  exact h1.uniq h1',fun hg ⟨cs,h,h1⟩=>⟨cs,h,SpC.grow _ _ hg h1⟩⟩
def refChF (d:Dr) (l:List It) (x:Sp) (n:Int):Option (List It) :=
 if fineF l x = true∧(cutF l x).all (fun i=>!refProt d (l.getD i default)) = true then some (insF (goneF l n (cutF l x)) (placeF l x) (putF n x.put)) else none
def refChR (x:Dr × List It × Sp × Int) (v:Value) (G:Hp):Prop:=match refChF x.1 x.2.1 x.2.2.1 x.2.2.2 with
 | some l'=>∃ lv,v = .tuple #[lv, .bool true]∧SlV itE G lv l'
 | none=>∃ a n c,v = .tuple #[.slice a n c, .bool false]
theorem refChR.grow {x:Dr × List It × Sp × Int} {v:Value} {G G':Hp} (hg:Grow G G') (h:refChR x v G):refChR x v G':=by
 unfold refChR at *
 split<;>rename_i e<;>rw [e] at h
 ·obtain ⟨lv,h1,h2⟩:=h;exact ⟨lv,h1,h2.grow hg⟩
 ·exact h
theorem goneF_o (n:Int) (i:Nat):∀ (ps:List Nat) (l:List It),((goneF l n ps).getD i default).o = (l.getD i default).o
 | [],l=>rfl
 | p :: ps,l=>by
  have h:=goneF_o n i ps (l.set p { l.getD p default with g:=n })
  have e:goneF l n (p :: ps) = goneF (l.set p { l.getD p default with g:=n }) n ps:=rfl
  rw [e,h]
  simp only [List.getD_eq_getElem?_getD,List.getElem?_set]
  split
  ·rename_i hp
   subst hp
   split
   ·rfl
   ·rename_i h2;rw [List.getElem?_eq_none (by omega)]
  ·rfl
theorem Row.setAt {α:Type} {E:El α} {l:List α} {n:Nat} {vs us:List Value} (h:Row E l n vs) {i d m:Nat} {x:α} (hi:i < l.length) (hd:d + m≤E.k) (hx:(E.f l[i]).take d++us++(E.f l[i]).drop (d + m) = E.f x):Row E (l.set i x) n (vs.take (i * E.k + d)++us++vs.drop (i * E.k + d + m)):=by
 obtain ⟨rfl,rfl⟩:=h
 refine ⟨by simp, ?_⟩
 have:=flat_set E l [] us hi hd hx
 simpa [flat] using this
theorem cutTake {α:Type} {e:El α} {G:Hp} {a:Option Addr} {n c i:Nat} {l:List α} (h:SlR e.k e.R G a n c l) (hi:i≤n) {k:Nat}:SlR e.k e.R G (cutA a (0:Int).toNat (c:Int).toNat k) ((i:Int).toNat - (0:Int).toNat) ((c:Int).toNat - (0:Int).toNat) (l.take i):=by
 have hl:=h.len
 have e1:i≠0→cutA a (0:Int).toNat (c:Int).toNat k = a:=fun h0=>by
  unfold cutA
  split
  ·rfl
  ·rw [h.some (by omega)]
   simp [Addr.add]
 refine ⟨by simp;omega,by have:=h.cap;simp;omega,fun h0=>?_,fun j hj=>?_⟩
 ·rw [e1 (by simpa using h0)]
  exact h.some (fun e=>h0 (by subst e;simp;omega))
 ·have hj1:j < i∧j < l.length:=by simp at hj;omega
  obtain ⟨cs,c1,c2,c3⟩:=h.at_ j hj1.2
  refine ⟨cs,c1, ?_,by simpa using c3⟩
  rw [e1 (by omega)];exact c2
theorem cutDrop {α:Type} {e:El α} {G:Hp} {a:Option Addr} {n c i:Nat} {l:List α} (h:SlR e.k e.R G a n c l) (hi:i≤n):SlR e.k e.R G (cutA a (i:Int).toNat (c:Int).toNat e.k) ((n:Int).toNat - (i:Int).toNat) ((c:Int).toNat - (i:Int).toNat) (l.drop i):=by
 have hl:=h.len
 have hc:=h.cap
 by_cases hin:i = n
 ·subst hin
  refine ⟨by rw [List.length_drop];omega,by omega,fun h0=>absurd (by omega) h0,fun j hj=>absurd hj (by rw [List.length_drop];omega)⟩
 ·have:=SlR.cut h (b:=i) (m:=n) hi (Nat.le_refl _) (by omega) (by omega)
  rw [List.take_of_length_le (by omega)] at this
  exact this
set_option maxHeartbeats 8000000 in
theorem change50:Sound Tryz.prog 50 id (grel (args4 drRd (slRd itE) spRd intRd fun _ l x _=>l.length≤10000∧x.put.length≤1000∧∀ s∈x.put,s.size≤1000000) refChR):=by
 refine comp50.grel (Tab.cons 21 _ visible21 body21 (Tab.cons 66 _ texts66 body66 (Tab.cons 74 _ prot74 body74 (Tab.nil _)))) (ok4 _ _ _ _ _) (fun args G s h=>?_) (fun x v G G' hg h=>h.grow hg) (fun args G x h=>?_)
 ·obtain ⟨u,v,w,z,rfl,_⟩:=h;simp
 ·obtain ⟨d,l,⟨xu,xa,xc,xp⟩,nn⟩:=x
  obtain ⟨_,_,_,_,rfl,hdr,hlv,⟨_,rfl,⟨pv,rfl,hp⟩⟩,rfl,hb1,hb2,hb3⟩:=h
  dsimp only at hdr hlv hp hb1 hb2 hb3
  obtain ⟨w,k,rfl,hw,hk⟩:=id hdr
  obtain ⟨wa,wn,wc,rfl,_,_⟩:=id hw
  obtain ⟨ka,kn,kc,rfl,_,_⟩:=id hk
  obtain ⟨a,n,c,rfl,hl,hn⟩:=id hlv
  obtain ⟨pa,pn,pc,rfl,hpl,hpn⟩:=id hp
  have hlen:=hl.len
  have hplen:=hpl.len
  dsimp only
  (conv=>whnf)
  refine RelP.g (ok1 (slRd itE) fun l=>l.length≤100000) (x:=l) ⟨_,rfl,hlv,by show l.length≤_;omega⟩ (Grow.refl _) (fun v G1 hg1 hq=>W.mk ?_)
  obtain ⟨va,vn,vc,rfl,hvl,hvn⟩:=hq
  have hvlen:=hvl.len
  have hvle:=placesN_le l l.length
  have hv9:vn≤10000:=by rw [← hvlen];exact Nat.le_trans hvle hb1
  (conv=>whnf)
  refine IteP.mk (fun f1=>W.mk ?_) (fun f1=>W.mk ?_)<;>(conv=>whnf)
  ·have hno:refChF d l ⟨xu,xa,xc,xp⟩ nn = none:=by
    unfold refChF
    rw [if_neg (fun h=>by have:=(fine_iff.1 h.1).1;simp only at this;omega)]
   rw [show refChR (d,l,⟨xu,xa,xc,xp⟩,nn) = fun v G=>∃ a n c,v = .tuple #[.slice a n c, .bool false] from by unfold refChR;rw [hno]]
   exact FinP.mk ⟨_,_,_,rfl⟩
  refine IteP.mk (fun f2=>W.mk ?_) (fun f2=>W.mk ?_)<;>(conv=>whnf)
  ·have hno:refChF d l ⟨xu,xa,xc,xp⟩ nn = none:=by
    unfold refChF
    rw [if_neg (fun h=>by have:=(fine_iff.1 h.1).2.1;simp only [inF,decide_eq_true_eq] at this;omega)]
   rw [show refChR (d,l,⟨xu,xa,xc,xp⟩,nn) = fun v G=>∃ a n c,v = .tuple #[.slice a n c, .bool false] from by unfold refChR;rw [hno]]
   exact FinP.mk ⟨_,_,_,rfl⟩
  refine IteP.mk (fun f3=>W.mk ?_) (fun f3=>W.mk ?_)<;>(conv=>whnf)
  ·have hno:refChF d l ⟨xu,xa,xc,xp⟩ nn = none:=by
    unfold refChF
    rw [if_neg (fun h=>by have:=(fine_iff.1 h.1).2.1;simp only [inF,decide_eq_true_eq] at this;omega)]
   rw [show refChR (d,l,⟨xu,xa,xc,xp⟩,nn) = fun v G=>∃ a n c,v = .tuple #[.slice a n c, .bool false] from by unfold refChR;rw [hno]]
   exact FinP.mk ⟨_,_,_,rfl⟩
  (refine ob ?_ ?_;(first | trivial | omega | (simp only [inR];omega) | exact ble (by rfl) | exact SlR.some ‹_› (by omega));(conv=>whnf))
  refine IteP.mk (fun f4=>W.mk ?_) (fun f4=>W.mk ?_)<;>(conv=>whnf)
  ·have hno:refChF d l ⟨xu,xa,xc,xp⟩ nn = none:=by
    unfold refChF
    rw [if_neg (fun h=>by have:=(fine_iff.1 h.1).2.2.1;simp only at this;rw [hvlen] at this;omega)]
   rw [show refChR (d,l,⟨xu,xa,xc,xp⟩,nn) = fun v G=>∃ a n c,v = .tuple #[.slice a n c, .bool false] from by unfold refChR;rw [hno]]
   exact FinP.mk ⟨_,_,_,rfl⟩
  refine ScaP.g (ok3 (slURd strE) intRd intRd fun l _ _=>∀ s∈l,s.size≤9223372036854775807) (x:=(xp,0,4)) ⟨_,_,_,rfl,SlV.u (hp.grow hg1),rfl,rfl,fun s h=>Nat.le_trans (hb3 s h) (by decide)⟩ (fun v hv=>W.mk ?_)
  subst hv
  dsimp only
  (conv=>whnf)
  refine ForkP.mk (fun f5=>W.mk ?_) (fun f5=>W.mk ?_)<;>(conv=>whnf)
  rotate_left
  ·have hno:refChF d l ⟨xu,xa,xc,xp⟩ nn = none:=by
    unfold refChF
    rw [if_neg (fun h=>by have:=(fine_iff.1 h.1).2.2.2.1;simp only at this;rw [f5] at this;cases this)]
   rw [show refChR (d,l,⟨xu,xa,xc,xp⟩,nn) = fun v G=>∃ a n c,v = .tuple #[.slice a n c, .bool false] from by unfold refChR;rw [hno]]
   exact FinP.mk ⟨_,_,_,rfl⟩
  refine IteP.mk (fun f6=>W.mk ?_) (fun f6=>W.mk ?_)<;>(conv=>whnf)
  focus
   refine IteP.mk (fun f7=>W.mk ?_) (fun f7=>W.mk ?_)<;>(conv=>whnf)
   ·have hno:refChF d l ⟨xu,xa,xc,xp⟩ nn = none:=by
     unfold refChF
     rw [if_neg (fun h=>by have:=(fine_iff.1 h.1).2.2.2.2;simp only at this;omega)]
    rw [show refChR (d,l,⟨xu,xa,xc,xp⟩,nn) = fun v G=>∃ a n c,v = .tuple #[.slice a n c, .bool false] from by unfold refChR;rw [hno]]
    exact FinP.mk ⟨_,_,_,rfl⟩
   have g5:0 < xc + (xp.length:Int):=by omega
   have hfine:fineF l ⟨xu,xa,xc,xp⟩ = true:=fine_iff.2 ⟨(by show 0≤xa;omega),(by show inF xc 0 4 = true;simp only [inF,decide_eq_true_eq];omega),(by show xa≤((placesF l).length:Int) - xc;omega),f5,g5⟩
   obtain ⟨q1,q2,q3⟩:=(SlR.grow (G:=G) (G':=G1) (fun _ _ h=>h) hl hg1).all
   refine OblP.mk (fun h=>hl.some h) (W.mk ?_);(conv=>whnf)
   refine RdP.at q1 q2 (W.mk ?_);(conv=>whnf)
   refine OblP.mk q3 (W.mk ?_);(conv=>whnf)
   refine OblP.mk rfl (W.mk ?_);(conv=>whnf)
   refine OblP.mk (by omega) (W.mk ?_);(conv=>whnf)
   refine IteP.mk (fun f8=>W.mk ?_) (fun f8=>W.mk ?_)<;>(conv=>whnf)
   ·exfalso;omega
   refine IteP.mk (fun f9=>W.mk ?_) (fun f9=>W.mk ?_)<;>(conv=>whnf)
   focus
    have ha:(xa - 1).toNat < (placesF l).length:=by omega
    have hce:=hvl.el ha
    repeat' (first | (refine ob ?_ ?_;(first | trivial | omega | (simp only [inR];omega) | exact ble (by rfl) | exact SlR.some ‹_› (by omega));(conv=>whnf)) | (first | (refine ra ‹_› (by rfl) ?_;(conv=>whnf)) | (refine rb ‹_› (by rfl) ?_;(conv=>whnf)) | (refine rc ‹_› (by rfl) ?_;(conv=>whnf)) | (refine rd ‹_› (by rfl) ?_;(conv=>whnf))))
    have hpf:placeF l ⟨xu,xa,xc,xp⟩ = (placesF l)[(xa - 1).toNat] + 1:=by
     unfold placeF
     rw [if_neg (by show ¬ 0 < xc;omega),if_pos (by show 0 < xa;omega)]
     show (placesF l).getD (xa.toNat - 1) 0 + 1 = _
     rw [show xa.toNat - 1 = (xa - 1).toNat by omega,List.getD_eq_getElem?_getD,List.getElem?_eq_getElem ha];rfl
    have hpll:(placesF l)[(xa - 1).toNat] + 1≤l.length:=placesN_lt (List.getElem_mem ha)
    generalize (placesF l)[(xa - 1).toNat] = pl0 at hce hpf hpll
    repeat' (first | (refine ob ?_ ?_;(first | trivial | omega | (simp only [inR];omega) | exact ble (by rfl) | exact SlR.some ‹_› (by omega));(conv=>whnf)) | (first | (refine ra ‹_› (by rfl) ?_;(conv=>whnf)) | (refine rb ‹_› (by rfl) ?_;(conv=>whnf)) | (refine rc ‹_› (by rfl) ?_;(conv=>whnf)) | (refine rd ‹_› (by rfl) ?_;(conv=>whnf))))
    obtain ⟨pl,hpl1⟩:∃ pl,pl = pl0 + 1:=⟨_,rfl⟩
    rw [← hpl1] at hpf hpll
    rw [show (pl0:Int) + 1 = (pl:Int) by omega]
   rotate_left
   focus
    have hpf:placeF l ⟨xu,xa,xc,xp⟩ = 0:=by
     unfold placeF
     rw [if_neg (by show ¬ 0 < xc;omega),if_neg (by show ¬ 0 < xa;omega)]
    have hpll:0≤l.length:=Nat.zero_le _
    obtain ⟨pl,hpl1⟩:∃ pl,pl = 0:=⟨_,rfl⟩
    rw [← hpl1] at hpf hpll
  rotate_left 2
  focus
   have g5:0 < xc + (xp.length:Int):=by omega
   have hfine:fineF l ⟨xu,xa,xc,xp⟩ = true:=fine_iff.2 ⟨(by show 0≤xa;omega),(by show inF xc 0 4 = true;simp only [inF,decide_eq_true_eq];omega),(by show xa≤((placesF l).length:Int) - xc;omega),f5,g5⟩
   obtain ⟨q1,q2,q3⟩:=(SlR.grow (G:=G) (G':=G1) (fun _ _ h=>h) hl hg1).all
   refine OblP.mk (fun h=>hl.some h) (W.mk ?_);(conv=>whnf)
   refine RdP.at q1 q2 (W.mk ?_);(conv=>whnf)
   refine OblP.mk q3 (W.mk ?_);(conv=>whnf)
   refine OblP.mk rfl (W.mk ?_);(conv=>whnf)
   refine OblP.mk (by omega) (W.mk ?_);(conv=>whnf)
   refine IteP.mk (fun f8=>W.mk ?_) (fun f8=>W.mk ?_)<;>(conv=>whnf)
   rotate_left
   ·exfalso;omega
   have ha:xa.toNat < (placesF l).length:=by omega
   have hce:=hvl.el ha
   repeat' (first | (refine ob ?_ ?_;(first | trivial | omega | (simp only [inR];omega) | exact ble (by rfl) | exact SlR.some ‹_› (by omega));(conv=>whnf)) | (first | (refine ra ‹_› (by rfl) ?_;(conv=>whnf)) | (refine rb ‹_› (by rfl) ?_;(conv=>whnf)) | (refine rc ‹_› (by rfl) ?_;(conv=>whnf)) | (refine rd ‹_› (by rfl) ?_;(conv=>whnf))))
   have hpf:placeF l ⟨xu,xa,xc,xp⟩ = (placesF l)[xa.toNat]:=by
    unfold placeF
    rw [if_pos (by show 0 < xc;omega)]
    simp [ha]
   have hpll:(placesF l)[xa.toNat]≤l.length:=Nat.le_of_lt (placesN_lt (List.getElem_mem ha))
   generalize (placesF l)[xa.toNat] = pl at hce hpf hpll
  all_goals
   obtain ⟨cs,hcs⟩:∃ cs,cs = cutF l ⟨xu,xa,xc,xp⟩:=⟨_,rfl⟩
   have hcsl:cs.length = xc.toNat:=by rw [hcs,cutF,List.length_take,List.length_drop];show min xc.toNat ((placesF l).length - xa.toNat) = _;omega
   have hcsg:∀ k (h:k < cs.length), ∃ h2:(xa + (k:Int)).toNat < (placesF l).length,cs[k] = (placesF l)[(xa + (k:Int)).toNat]:=fun k h=>⟨by omega,by subst hcs;simp [cutF,show (xa + (k:Int)).toNat = xa.toNat + k by omega]⟩
   refine LoopP.of { α:=Nat × Nat × List Value,fr:=fun x=>[(1, .v (.slice a n c)),(3, .v (I nn)),(4, .c (.ptr 0 0)),(6, .c (.ptr 1 0)),(10, .v (.slice va vn vc)),(11, .c (.row 52 x.2.1)),(12, .v (I (pl:Nat))),(13, .v (I x.1))],H:=fun x=>[(0, .cells .anon [.val (.slice wa wn wc), .val (.slice ka kn kc)] 25),(1, .cells .anon [.val (I xu), .val (I xa), .val (I xc), .val (.slice pa pn pc)] 61),(52, .row none x.2.1 x.2.2 49 4)],ok:=fun x _=>x.1≤cs.length∧Row itE (goneF l nn (cs.take x.1)) x.2.1 x.2.2∧∀ j < x.1,refProt d (l.getD (cs.getD j 0) default) = false,m:=fun x=>cs.length - x.1 }
    (0,0 + n,[]++(l.map itE.f).flatten) (HeadP.of [] ⟨rfl,rfl,rfl,rfl,rfl,rfl,(by first | rfl | (subst hpl1;rfl)),rfl,trivial⟩ ⟨rfl,rfl,rfl,trivial⟩) ⟨Nat.zero_le _,by simpa [goneF] using Row.of_all l hlen,fun j hj=>by omega⟩ (fun _=>⟨rfl,rfl⟩) (fun x G2 hg2 hx=>W.mk ?_)
   obtain ⟨kk,m,vs⟩:=x
   obtain ⟨hkk,hr,hpr⟩:=hx
   dsimp only at hkk hr hpr
   dsimp only
   have hmn:m = n:=by rw [hr.n,goneF_len,hlen]
   (conv=>whnf)
   refine IteP.mk (fun hlt=>W.mk ?_) (fun hge=>W.mk ?_)<;>(conv=>whnf)
   ·have h1:kk < cs.length:=by omega
    obtain ⟨h2,hck⟩:=hcsg kk h1
    have hvl2:=(SlR.grow (G:=G1) (G':=G2) (fun _ _ h=>h) hvl hg2)
    have hce2:=hvl2.el h2
    rw [← hck] at hce2
    have hpk:cs[kk] < l.length:=by rw [hck];exact placesN_lt (List.getElem_mem h2)
    have hcg:cs.getD kk 0 = cs[kk]:=by rw [List.getD_eq_getElem?_getD,List.getElem?_eq_getElem h1];rfl
    have hgs:goneF l nn (cs.take (kk + 1)) = (goneF l nn (cs.take kk)).set cs[kk] { (goneF l nn (cs.take kk)).getD cs[kk] default with g:=nn }:=by rw [List.take_add_one,List.getElem?_eq_getElem h1,show (some cs[kk]).toList = [cs[kk]] from rfl,goneF_snoc]
    have hgo:=goneF_o nn cs[kk] (cs.take kk) l
    have hgl:=goneF_len nn (cs.take kk) l
    have hmem:cs[kk]∈cutF l ⟨xu,xa,xc,xp⟩:=hcs ▸ List.getElem_mem h1
    generalize cs[kk] = p at hce2 hpk hcg hgs hgo hmem
    generalize goneF l nn (cs.take kk) = cur at hr hgs hgo hgl
    have hpc:p < cur.length:=by omega
    have hgd:cur.getD p default = cur[p]:=by rw [List.getD_eq_getElem?_getD,List.getElem?_eq_getElem hpc];rfl
    rw [hgd] at hgs hgo
    repeat' (first | (refine ob ?_ ?_;(first | trivial | omega | (simp only [inR];omega) | exact ble (by rfl) | exact SlR.some ‹_› (by omega));(conv=>whnf)) | (first | (refine ra ‹_› (by rfl) ?_;(conv=>whnf)) | (refine rb ‹_› (by rfl) ?_;(conv=>whnf)) | (refine rc ‹_› (by rfl) ?_;(conv=>whnf)) | (refine rd ‹_› (by rfl) ?_;(conv=>whnf))))
    refine EqP.row hr hpc (W.mk ?_)
    generalize hy:cur[p] = y at hgo hgs hgd
    (conv=>whnf)
    refine ScaP.g (ok2 drRd itRd fun _ _=>True) (x:=(d,y)) ⟨_,_,rfl,drRd.grow (hg1.trans hg2) hdr,rfl,trivial⟩ (fun v hv=>W.mk ?_)
    subst hv
    dsimp only
    have hpry:refProt d y = refProt d (l.getD p default):=by unfold refProt;rw [hgo]
    rw [hpry]
    (conv=>whnf)
    refine ForkP.mk (fun hb=>W.mk ?_) (fun hb=>W.mk ?_)<;>(conv=>whnf)
    ·have hno:refChF d l ⟨xu,xa,xc,xp⟩ nn = none:=by
      unfold refChF
      rw [if_neg (fun h=>by have:=List.all_eq_true.1 h.2 p hmem;rw [hb] at this;cases this)]
     rw [show refChR (d,l,⟨xu,xa,xc,xp⟩,nn) = fun v G=>∃ a n c,v = .tuple #[.slice a n c, .bool false] from by unfold refChR;rw [hno]]
     exact FinP.mk ⟨_,_,_,rfl⟩
    repeat' (first | (refine ob ?_ ?_;(first | trivial | omega | (simp only [inR];omega) | exact ble (by rfl) | exact SlR.some ‹_› (by omega));(conv=>whnf)) | (first | (refine ra ‹_› (by rfl) ?_;(conv=>whnf)) | (refine rb ‹_› (by rfl) ?_;(conv=>whnf)) | (refine rc ‹_› (by rfl) ?_;(conv=>whnf)) | (refine rd ‹_› (by rfl) ?_;(conv=>whnf))))
    have hvl9:=hr.len
    first | (refine OblP.mk (by show p * 4 + 3 + 1≤vs.length;rw [hvl9,show itE.k = 4 from rfl];omega) (W.mk ?_);(conv=>whnf)) | skip
    repeat' (refine ob ?_ ?_;(first | trivial | omega | (simp only [inR];omega) | exact ble (by rfl) | exact SlR.some ‹_› (by omega));(conv=>whnf))
    have hr2:=Row.setAt hr (us:=[I nn]) (d:=3) (m:=1) (x:={ y with g:=nn }) hpc (by decide) (by rw [hy];rfl)
    refine RoundP.of (kk + 1,m,_) (HeadP.of [] ⟨rfl,rfl,rfl,rfl,rfl,rfl,rfl,rfl,trivial⟩ ⟨rfl,rfl,rfl,trivial⟩) ⟨h1,by show Row itE (goneF l nn (cs.take (kk + 1))) m _;rw [hgs];exact hr2,fun j hj=>?_⟩ (by show cs.length - (kk + 1) < cs.length - kk;omega)
    rcases Nat.lt_or_eq_of_le (Nat.le_of_lt_succ hj) with h | h
    ·exact hpr j h
    ·subst h;rw [hcg];exact hb
   ·have:kk = cs.length:=by omega
    subst this
    rw [List.take_length] at hr
    have hprot:cs.all (fun i=>!refProt d (l.getD i default)) = true:=by
     rw [List.all_eq_true]
     intro z hz
     obtain ⟨j,hj,rfl⟩:=List.mem_iff_getElem.1 hz
     have hcg:cs.getD j 0 = cs[j]:=by rw [List.getD_eq_getElem?_getD,List.getElem?_eq_getElem hj];rfl
     have:=hpr j hj
     rw [hcg] at this
     rw [this];rfl
    have hyes:refChF d l ⟨xu,xa,xc,xp⟩ nn = some (insF (goneF l nn cs) pl (putF nn xp)):=by
     unfold refChF
     rw [← hcs,if_pos ⟨hfine,hprot⟩,hpf]
    refine LoopP.of { α:=Nat × Nat × List Value,fr:=fun x=>[(3, .v (I nn)),(6, .c (.ptr 1 0)),(11, .c (.row 52 m)),(12, .v (I (pl:Nat))),(14, .c (.row 53 x.2.1)),(15, .v (I x.1))],H:=fun x=>[(1, .cells .anon [.val (I xu), .val (I xa), .val (I xc), .val (.slice pa pn pc)] 61),(52, .row none m vs 49 4),(53, .row none x.2.1 x.2.2 49 4)],ok:=fun x _=>x.1≤xp.length∧Row itE (putF nn (xp.take x.1)) x.2.1 x.2.2,m:=fun x=>xp.length - x.1 }
     (0,0,[]) (HeadP.of [(53,none)] ⟨rfl,rfl,rfl,rfl,rfl,rfl,trivial⟩ ⟨rfl,rfl,rfl,trivial⟩) ⟨Nat.zero_le _,Row.nil⟩ (fun _=>⟨rfl,rfl⟩) (fun x G3 hg3 hx=>W.mk ?_)
    obtain ⟨kk,m2,ws⟩:=x
    obtain ⟨hkk,hr3⟩:=hx
    dsimp only at hkk hr3
    dsimp only
    have hmn2:m2 = kk:=by rw [hr3.n,putF,List.length_map,List.length_take];omega
    (conv=>whnf)
    refine IteP.mk (fun hlt=>W.mk ?_) (fun hge=>W.mk ?_)<;>(conv=>whnf)
    ·have h1:kk < xp.length:=by omega
     have hce3:=(SlR.grow (G:=G) (G':=G3) (fun _ _ h=>h) hpl (hg1.trans (hg2.trans hg3))).el h1
     have hr4:=hr3.snoc ⟨xp[kk], -1,nn,0⟩
     rw [show putF nn (xp.take kk)++[⟨xp[kk], -1,nn,0⟩] = putF nn (xp.take (kk + 1)) by rw [putF,putF,List.take_add_one,List.getElem?_eq_getElem h1,List.map_append];rfl] at hr4
     generalize xp[kk] = s at hce3 hr4
     repeat' (first | (refine ob ?_ ?_;(first | trivial | omega | (simp only [inR];omega) | exact ble (by rfl) | exact SlR.some ‹_› (by omega));(conv=>whnf)) | (first | (refine ra ‹_› (by rfl) ?_;(conv=>whnf)) | (refine rb ‹_› (by rfl) ?_;(conv=>whnf)) | (refine rc ‹_› (by rfl) ?_;(conv=>whnf)) | (refine rd ‹_› (by rfl) ?_;(conv=>whnf))))
     exact RoundP.of (kk + 1,m2 + 1,_) (HeadP.of [(53,some 126)] ⟨rfl,rfl,rfl,rfl,rfl,rfl,trivial⟩ ⟨rfl,rfl,rfl,trivial⟩) ⟨h1,hr4⟩ (by show xp.length - (kk + 1) < xp.length - kk;omega)
    ·have:kk = xp.length:=by omega
     subst this
     rw [List.take_length] at hr3
     refine PubP.mk (fun oa oc G4 hg4 hp4=>W.mk ?_)
     have hcur:SlR itE.k itE.R G4 oa m oc (goneF l nn cs):=hp4.sl hr.vs hr.n.symm
     have hcl:(goneF l nn cs).length = m:=hr.n.symm
     have hoc:=hp4.cap
     (conv=>whnf)
     refine DrawP.mk monoT_nil rfl (W.mk ?_)
     (conv=>whnf)
     repeat' (refine ob ?_ ?_;(first | trivial | omega | (simp only [inR];omega) | exact ble (by rfl) | exact SlR.some ‹_› (by omega));(conv=>whnf))
     have hA:=cutTake hcur (i:=pl) (by omega) (k:=4)
     have hB:=cutDrop hcur (i:=pl) (by omega)
     obtain ⟨a1,a2,a3⟩:=hA.all
     obtain ⟨b1,b2,b3⟩:=hB.all
     first | (refine OblP.mk hA.some (W.mk ?_);(conv=>whnf)) | skip
     refine RdP.at a1 a2 (W.mk ?_)
     (conv=>whnf)
     refine OblP.mk a3 (W.mk ?_)
     (conv=>whnf)
     have hm9:m≤10000:=by omega
     have hplm:pl≤m:=by omega
     have eB:((m:Nat):Int).toNat - ((pl:Nat):Int).toNat = m - pl:=by simp
     have hx9:m2≤1000:=by omega
     have ep:((pl:Nat):Int).toNat - ((0:Nat):Int).toNat = pl:=by simp
     first | (refine OblP.mk rfl (W.mk ?_);(conv=>whnf)) | skip
     first | (refine OblP.mk (by first | omega | (rw [ep];omega) | (rw [ep,eB];omega)) (W.mk ?_);(conv=>whnf)) | skip
     repeat' (refine ob ?_ ?_;(first | trivial | omega | (simp only [inR];omega) | exact ble (by rfl) | exact SlR.some ‹_› (by omega));(conv=>whnf))
     first | (refine OblP.mk (by first | omega | (rw [ep];omega) | (rw [ep,eB];omega)) (W.mk ?_);(conv=>whnf)) | skip
     repeat' (refine ob ?_ ?_;(first | trivial | omega | (simp only [inR];omega) | exact ble (by rfl) | exact SlR.some ‹_› (by omega));(conv=>whnf))
     first | (refine OblP.mk hB.some (W.mk ?_);(conv=>whnf)) | skip
     refine RdP.at b1 b2 (W.mk ?_)
     (conv=>whnf)
     refine OblP.mk b3 (W.mk ?_)
     (conv=>whnf)
     first | (refine OblP.mk rfl (W.mk ?_);(conv=>whnf)) | skip
     first | (refine OblP.mk (by first | omega | (rw [ep];omega) | (rw [ep,eB];omega)) (W.mk ?_);(conv=>whnf)) | skip
     refine PubP.mk (fun ga gc G5 hg5 hp5=>W.mk ?_)
     (conv=>whnf)
     have hlist:SlV itE G5 (.slice ga (0 + (((pl:Nat):Int).toNat - ((0:Nat):Int).toNat) + m2 + (((m:Nat):Int).toNat - ((pl:Nat):Int).toNat)) gc) (insF (goneF l nn cs) pl (putF nn xp)):=by
      refine hp5.slV ?_ ?_ (by rw [ep,eB];omega)
      ·rw [insF,List.map_append,List.map_append,List.flatten_append,List.flatten_append, ← hr3.vs,List.nil_append]
      ·have h1:=hr3.n
       simp only [insF,List.length_append,List.length_take,List.length_drop,hcl, ← h1]
       rw [ep,eB]
       omega
     exact FinP.mk (by unfold refChR;dsimp only;rw [hyes];exact ⟨_,rfl,hlist⟩)
end Go.Proofs.YtfppbjfbghaclaaGreat

namespace Go.Proofs.YtfppbjfbghaclaaGreat
open Go.Pal Go.RowKit
set_option maxRecDepth 100000
theorem valid_ks {d:Dr} (hv:validF d = true):∀ n∈d.ks,0≤n:=fun n hn=>by
 obtain ⟨i,hi,rfl⟩:=List.mem_iff_getElem.1 hn
 have h:=((valid_iff d).1 hv).2.2 i hi
 have hgd:d.ks.getD i 0 = d.ks[i]:=by simp [hi]
 rw [rKe,hgd] at h
 simp only [Bool.and_eq_true,inF,decide_eq_true_eq] at h
 exact h.1.1
theorem refProt_eq {d:Dr} (hv:validF d = true) (x:It):refProt d x = protF d x:=by
 unfold refProt protF
 by_cases h:x.o∈d.ks
 ·rw [decide_eq_true (valid_ks hv _ h),Bool.true_and]
 ·rw [decide_eq_false h,Bool.and_false]
theorem changeF_ref {d:Dr} (hv:validF d = true) (S:Sh) (x:Sp):changeF d S x = (refChF d S.its x (S.ch + 1)).map fun its=>⟨its,S.live++[S.ch + 1],S.ch + 1⟩:=by
 unfold changeF refChF
 simp only [refProt_eq hv]
 split<;>rfl
def PosL (S:Sh):Prop:=0≤S.ch∧∀ n∈S.live,1≤n
theorem posL_step {d:Dr} {S S':Sh} {x:Sp} (h:PosL S) (hs:stepF d S x = some S'):PosL S':=by
 obtain ⟨h1,h2⟩:=h
 unfold stepF at hs
 split at hs
 ·unfold changeF at hs
  split at hs
  ·cases hs
   refine ⟨by show 0≤S.ch + 1;omega,fun n hn=>?_⟩
   rcases List.mem_append.1 hn with hn | hn
   ·exact h2 n hn
   ·have:n = S.ch + 1:=by simpa using hn
    omega
  ·cases hs
 ·unfold undoF at hs
  split at hs
  ·cases hs
   exact ⟨h1,fun n hn=>h2 n (List.mem_filter.1 hn).1⟩
  ·cases hs
def refPlayR (x:Dr × List Sp) (v:Value) (G:Hp):Prop:=match playF x.1 (beginS x.1) x.2 0 with
 | .inl k=>∃ a n c b m e,v = .tuple #[.slice a n c, .slice b m e,I (k:Nat)]
 | .inr S=>∃ a b,v = .tuple #[a,b,I (-1)]∧SlV itE G a S.its∧SlV intE G b S.live
theorem refPlayR.grow {x:Dr × List Sp} {v:Value} {G G':Hp} (hg:Grow G G') (h:refPlayR x v G):refPlayR x v G':=by
 unfold refPlayR at *
 split<;>rename_i e<;>rw [e] at h
 ·exact h
 ·obtain ⟨a,b,h1,h2,h3⟩:=h;exact ⟨a,b,h1,h2.grow hg,h3.grow hg⟩
def FineS (steps:List Sp):Prop:=∀ x∈steps,x.put.length≤1000∧∀ s∈x.put,s.size≤1000000
set_option maxHeartbeats 4000000 in
theorem rplay20:Sound Tryz.prog 20 id (grel (args2 drRd spsRd fun d steps=>validF d = true∧steps.length≤1000∧FineS steps) refPlayR):=by
 refine comp20.grel (Tab.cons 47 _ begin47 body47 (Tab.cons 35 _ may35 body35 (Tab.cons 48 _ undo48 body48 (Tab.cons 49 _ without49 body49 (Tab.cons 50 _ change50 body50 (Tab.nil _)))))) (ok2 _ _ _) (fun args G s h=>?_) (fun x v G G' hg h=>h.grow hg) (fun args G x h=>?_)
 ·obtain ⟨u,v,rfl,_⟩:=h;simp
 ·obtain ⟨d,steps⟩:=x
  obtain ⟨_,_,rfl,hdr,⟨a,n,c,rfl,hst,hn⟩,hv,hs9,hfs⟩:=h
  dsimp only at hdr hst hv hs9 hfs
  obtain ⟨w,k,rfl,hw,hk⟩:=id hdr
  obtain ⟨wa,wn,wc,rfl,_,_⟩:=id hw
  obtain ⟨ka,kn,kc,rfl,_,_⟩:=id hk
  have hlen:=hst.len
  have hw60:=valid_ws hv
  (conv=>whnf)
  refine RelP.g (ok1 drRd fun d=>d.ws.length≤100000) (x:=d) ⟨_,rfl,hdr,by omega⟩ (Grow.refl _) (fun v G1 hg1 hq=>W.mk ?_)
  obtain ⟨ia,in_,ic,rfl,hil,hin⟩:=id hq
  (conv=>whnf)
  refine LoopP.of { α:=Nat × Sh × (Option Addr × Nat × Nat) × Nat × List Value,fr:=fun x=>[(1, .v (.slice a n c)),(2, .c (.ptr 0 0)),(7, .v (.slice x.2.2.1.1 x.2.2.1.2.1 x.2.2.1.2.2)),(8, .v (I x.2.1.ch)),(9, .c (.row 3 x.2.2.2.1)),(10, .v (I x.1))],H:=fun x=>[(0, .cells .anon [.val (.slice wa wn wc), .val (.slice ka kn kc)] 25),(3, .row none x.2.2.2.1 x.2.2.2.2 3 1)],ok:=fun x G=>x.1≤steps.length∧playF d x.2.1 (steps.drop x.1) x.1 = playF d (beginS d) steps 0∧x.2.1.cnt x.1∧PosL x.2.1∧SlV itE G (.slice x.2.2.1.1 x.2.2.1.2.1 x.2.2.1.2.2) x.2.1.its∧Row intE x.2.1.live x.2.2.2.1 x.2.2.2.2,m:=fun x=>steps.length - x.1 }
   (0,beginS d,(ia,in_,ic),0,[]) (HeadP.of [(3,none)] ⟨rfl,rfl,rfl,rfl,rfl,rfl,trivial⟩ ⟨rfl,rfl,trivial⟩) ⟨Nat.zero_le _,rfl,cnt_begin hw60,⟨Int.le_refl _,fun n hn=>by cases hn⟩,hq,Row.nil⟩ (fun _=>⟨rfl,rfl⟩) (fun x G2 hg2 hx=>W.mk ?_)
  obtain ⟨i,S,⟨ja,jn,jc⟩,m,vs⟩:=x
  obtain ⟨hi,hpl,hcnt,hpos,hits,hr⟩:=hx
  dsimp only at hi hpl hcnt hpos hits hr
  dsimp only
  obtain ⟨n1,n2,n3,n4⟩:=id hcnt
  have hm:=hr.n
  (conv=>whnf)
  refine IteP.mk (fun hlt=>W.mk ?_) (fun hge=>W.mk ?_)<;>(conv=>whnf)
  ·have h1:i < steps.length:=by omega
   have hdrop:steps.drop i = steps[i] :: steps.drop (i + 1):=List.drop_eq_getElem_cons h1
   obtain ⟨hf1,hf2⟩:=hfs _ (List.getElem_mem h1)
   obtain ⟨cs,c1,c2,c3⟩:=(SlR.grow (G:=G) (G':=G2) (fun cs x h=>SpC.grow cs x (hg1.trans hg2) h) hst (hg1.trans hg2)).at_ i h1
   generalize steps[i] = x at hdrop hf1 hf2 c3
   obtain ⟨xu,xa,xc,xp⟩:=x
   obtain ⟨pv,rfl,hp⟩:=id c3
   obtain ⟨pa,pn,pc,rfl,hpl2,hpn⟩:=id hp
   dsimp only at c2 hf1 hf2 hp
   repeat' (first | (refine ob ?_ ?_;(first | trivial | omega | (simp only [inR];omega) | exact ble (by rfl) | exact SlR.some ‹_› (by omega));(conv=>whnf)) | (first | (refine ra ‹_› (by rfl) ?_;(conv=>whnf)) | (refine rb ‹_› (by rfl) ?_;(conv=>whnf)) | (refine rc ‹_› (by rfl) ?_;(conv=>whnf)) | (refine rd ‹_› (by rfl) ?_;(conv=>whnf))))
   refine IteP.mk (fun hu=>W.mk ?_) (fun hu=>W.mk ?_)<;>(conv=>whnf)
   ·subst hu
    have hst2:stepF d S ⟨0,xa,xc,xp⟩ = (refChF d S.its ⟨0,xa,xc,xp⟩ (S.ch + 1)).map fun its=>⟨its,S.live++[S.ch + 1],S.ch + 1⟩:=by
     unfold stepF
     rw [if_pos rfl]
     exact changeF_ref hv S _
    (refine ob ?_ ?_;(first | trivial | omega | (simp only [inR];omega) | exact ble (by rfl) | exact SlR.some ‹_› (by omega));(conv=>whnf))
    refine RelP.g (ok4 drRd (slRd itE) spRd intRd fun _ l x _=>l.length≤10000∧x.put.length≤1000∧∀ s∈x.put,s.size≤1000000) (x:=(d,S.its,⟨0,xa,xc,xp⟩,S.ch + 1)) ⟨_,_,_,_,rfl,drRd.grow (hg1.trans hg2) hdr,hits,⟨_,rfl,c3⟩,rfl,by show S.its.length≤_;omega,hf1,hf2⟩ (Grow.refl _) (fun v G3 hg3 hq=>W.mk ?_)
    unfold refChR at hq
    dsimp only at hq
    cases hch:refChF d S.its ⟨0,xa,xc,xp⟩ (S.ch + 1) with
    | none =>
     rw [hch] at hq hst2
     have hstep:stepF d S ⟨0,xa,xc,xp⟩ = none:=hst2
     obtain ⟨la,ln,lc,rfl⟩:=hq
     (conv=>whnf)
     refine ForkP.mk (fun h=>by cases h) (fun _=>W.mk ?_)
     (conv=>whnf)
     refine PubP.mk (fun ga gc G4 hg4 hp4=>W.mk ?_)
     (conv=>whnf)
     have hno:playF d (beginS d) steps 0 = .inl i:=by rw [← hpl,hdrop,playF,hstep]
     exact FinP.mk (by unfold refPlayR;dsimp only;rw [hno];exact ⟨_,_,_,_,_,_,rfl⟩)
    | some its =>
     rw [hch] at hq hst2
     have hstep:stepF d S ⟨0,xa,xc,xp⟩ = some ⟨its,S.live++[S.ch + 1],S.ch + 1⟩:=hst2
     obtain ⟨lv,rfl,hlv⟩:=hq
     obtain ⟨la,ln,lc,rfl,_,_⟩:=id hlv
     have hr2:=hr.snoc (S.ch + 1)
     (conv=>whnf)
     refine ForkP.mk (fun _=>W.mk ?_) (fun h=>by cases h)
     (conv=>whnf)
     repeat' (refine ob ?_ ?_;(first | trivial | omega | (simp only [inR];omega) | exact ble (by rfl) | exact SlR.some ‹_› (by omega));(conv=>whnf))
     refine RoundP.of (i + 1,⟨its,S.live++[S.ch + 1],S.ch + 1⟩,(la,ln,lc),m + 1,_) (HeadP.of [(3,some 76)] ⟨rfl,rfl,rfl,rfl,rfl,rfl,trivial⟩ ⟨rfl,rfl,trivial⟩) ⟨h1, ?_,cnt_step hcnt hstep,posL_step hpos hstep,hlv,hr2⟩ (by show steps.length - (i + 1) < steps.length - i;omega)
     rw [← hpl,hdrop,playF,hstep]
   ·refine IteP.mk (fun hu2=>W.mk ?_) (fun hu2=>W.mk ?_)<;>(conv=>whnf)
    ·have hstep:stepF d S ⟨xu,xa,xc,xp⟩ = none:=by
      unfold stepF
      rw [if_neg hu]
      show undoF S xu = none
      have:¬ xu∈S.live:=fun h=>by have:=hpos.2 _ h;omega
      unfold undoF undoableF
      rw [decide_eq_false this];rfl
     refine PubP.mk (fun ga gc G4 hg4 hp4=>W.mk ?_)
     (conv=>whnf)
     have hno:playF d (beginS d) steps 0 = .inl i:=by rw [← hpl,hdrop,playF,hstep]
     exact FinP.mk (by unfold refPlayR;dsimp only;rw [hno];exact ⟨_,_,_,_,_,_,rfl⟩)
    ·refine PubP.mk (fun ga gc G4 hg4 hp4=>W.mk ?_)
     (conv=>whnf)
     have hlv:SlV intE G4 (.slice ga m gc) S.live:=hr.pub hp4 (by omega)
     refine ScaP.g (ok3 (slRd itE) (slRd intE) intRd fun _ _ _=>True) (x:=(S.its,S.live,xu)) ⟨_,_,_,rfl,hits.grow hg4,hlv,rfl,trivial⟩ (fun v hv2=>W.mk ?_)
     subst hv2
     dsimp only
     have hun:undoableF S xu = (decide (xu∈S.live) && S.its.all fun y=>y.m != xu || y.g == 0):=rfl
     rw [← hun]
     (conv=>whnf)
     refine ForkP.mk (fun hb=>W.mk ?_) (fun hb=>W.mk ?_)<;>(conv=>whnf)
     ·have hstep:stepF d S ⟨xu,xa,xc,xp⟩ = some ⟨(S.its.filter fun y=>y.m != xu).map (backF xu),S.live.filter (· != xu),S.ch⟩:=by
       unfold stepF
       rw [if_neg hu]
       show undoF S xu = _
       unfold undoF
       rw [if_pos hb]
      refine RelP.g (ok2 (slRd itE) intRd fun l _=>l.length≤100000) (x:=(S.its,xu)) ⟨_,_,rfl,hits.grow hg4,rfl,by show S.its.length≤_;omega⟩ (Grow.refl _) (fun v G5 hg5 hq=>W.mk ?_)
      obtain ⟨la,ln,lc,rfl,_,_⟩:=id hq
      (conv=>whnf)
      refine OwnP.g (ok2 (slRd intE) intRd fun l _=>l.length≤100000) (x:=(S.live,xu)) ⟨_,_,rfl,hlv.grow hg5,rfl,by show S.live.length≤_;omega⟩ (Grow.refl _) (fun n' vs' G6 hg6 hq6=>W.mk ?_)
      (conv=>whnf)
      repeat' (refine ob ?_ ?_;(first | trivial | omega | (simp only [inR];omega) | exact ble (by rfl) | exact SlR.some ‹_› (by omega));(conv=>whnf))
      refine RoundP.of (i + 1,⟨(S.its.filter fun y=>y.m != xu).map (backF xu),S.live.filter (· != xu),S.ch⟩,(la,ln,lc),n',vs') (HeadP.of [(3,some 47)] ⟨rfl,rfl,rfl,rfl,rfl,rfl,trivial⟩ ⟨rfl,rfl,trivial⟩) ⟨h1, ?_,cnt_step hcnt hstep,posL_step hpos hstep,hq.grow hg6,hq6⟩ (by show steps.length - (i + 1) < steps.length - i;omega)
      rw [← hpl,hdrop,playF,hstep]
     ·have hstep:stepF d S ⟨xu,xa,xc,xp⟩ = none:=by
       unfold stepF
       rw [if_neg hu]
       show undoF S xu = none
       unfold undoF
       rw [if_neg (by rw [hb];decide)]
      have hno:playF d (beginS d) steps 0 = .inl i:=by rw [← hpl,hdrop,playF,hstep]
      exact FinP.mk (by unfold refPlayR;dsimp only;rw [hno];exact ⟨_,_,_,_,_,_,rfl⟩)
  ·have:i = steps.length:=by omega
   subst this
   have hyes:playF d (beginS d) steps 0 = .inr S:=by rw [← hpl,List.drop_length];rfl
   refine PubP.mk (fun ga gc G4 hg4 hp4=>W.mk ?_)
   (conv=>whnf)
   exact FinP.mk (by unfold refPlayR;dsimp only;rw [hyes];exact ⟨_,_,rfl,hits.grow hg4,hr.pub hp4 (by omega)⟩)
end Go.Proofs.YtfppbjfbghaclaaGreat

namespace Go.Proofs.YtfppbjfbghaclaaGreat
open Go.Pal Go.RowKit
set_option maxRecDepth 100000
theorem SlU.v {α:Type} {e:El α} {G:Hp} {v:Value} {x:List α} (h:SlU e G v x) (hb:x.length≤140737488355328):SlV e G v x:=by
 obtain ⟨a,n,c,rfl,h,_⟩:=h
 exact ⟨a,n,c,rfl,h,by have:=h.len;omega⟩
def duRd:Rd Dr:=⟨fun G v d=>∃ w k,v = .agg #[w,k]∧SlU woE G w d.ws∧SlU intE G k d.ks,fun {_ _ x y} ⟨w,k,h,h1,h2⟩ ⟨w',k',h',h1',h2'⟩=>by
  rw [h] at h';simp only [Value.agg.injEq,Array.mk.injEq,List.cons.injEq,and_true] at h'
  obtain ⟨rfl,rfl⟩:=h'
  have e1:=h1.uniq h1'
  have e2:=h2.uniq h2'
  cases x;cases y;simp_all,fun hg ⟨w,k,h,h1,h2⟩=>⟨w,k,h,h1.grow hg,h2.grow hg⟩⟩
def SpU (G:Hp) (cs:List Value) (x:Sp):Prop:=∃ pv,cs = [I x.u,I x.a,I x.c,pv]∧SlU strE G pv x.put
theorem SpU.uniq {G:Hp} {cs:List Value} {x y:Sp} (h:SpU G cs x) (h':SpU G cs y):x = y:=by
 obtain ⟨pv,h1,h2⟩:=h
 obtain ⟨pv',h1',h2'⟩:=h'
 rw [h1] at h1'
 simp only [List.cons.injEq,Value.int.injEq,true_and,and_true] at h1'
 obtain ⟨e1,e2,e3,rfl⟩:=h1'
 have:=h2.uniq h2'
 cases x;cases y;simp_all
theorem SpU.grow {G G':Hp} (cs:List Value) (x:Sp) (hg:Grow G G') (h:SpU G cs x):SpU G' cs x:=by
 obtain ⟨pv,h1,h2⟩:=h
 exact ⟨pv,h1,h2.grow hg⟩
theorem SpU.c {G:Hp} {cs:List Value} {x:Sp} (h:SpU G cs x) (hb:x.put.length≤140737488355328):SpC G cs x:=by
 obtain ⟨pv,h1,h2⟩:=h
 exact ⟨pv,h1,h2.v hb⟩
def suRd:Rd (List Sp):=⟨fun G v l=>∃ a n c,v = .slice a n c∧SlR 4 SpU G a n c l∧n≤maxLen,fun ⟨a,n,c,h,h1,_⟩ ⟨a',n',c',h',h1',_⟩=>by
  rw [h] at h';cases h'
  exact h1.uniq (fun cs x y h h'=>SpU.uniq h h') h1',fun {G G' _ _} hg ⟨a,n,c,h,h1,h2⟩=>⟨a,n,c,h,SlR.grow (G:=G) (G':=G') (fun cs x h=>SpU.grow cs x hg h) h1 hg,h2⟩⟩
theorem SlR.imp {α:Type} {k:Nat} {R R':Hp→List Value→α→Prop} {G:Hp} {a:Option Addr} {n c:Nat} {l:List α} (h:SlR k R G a n c l) (hi:∀ cs, ∀ x∈l,R G cs x→R' G cs x):SlR k R' G a n c l :=
 ⟨h.len,h.cap,h.some,fun i hi2=>let ⟨cs,h1,h2,h3⟩:=h.at_ i hi2;⟨cs,h1,h2,hi cs _ (List.getElem_mem hi2) h3⟩⟩
def shortF (l:List ByteArray):Bool:=l.all (fun s=>decide (s.size≤40)) && decide (l.length≤6)
def thinF (d:Dr) (steps:List Sp):Bool:=d.ws.all (fun w=>decide (w.t.size≤40)) && steps.all (fun x=>shortF x.put) && decide (d.ws.length≤65) && decide (d.ks.length≤70) && decide (steps.length≤85)
theorem thin_iff {d:Dr} {steps:List Sp}:thinF d steps = true↔(∀ w∈d.ws,w.t.size≤40)∧(∀ x∈steps,shortF x.put = true)∧d.ws.length≤65∧d.ks.length≤70∧steps.length≤85:=by
 simp only [thinF,Bool.and_eq_true,List.all_eq_true,decide_eq_true_eq,and_assoc]
theorem short_iff {l:List ByteArray}:shortF l = true↔(∀ s∈l,s.size≤40)∧l.length≤6:=by
 simp only [shortF,Bool.and_eq_true,List.all_eq_true,decide_eq_true_eq]
theorem thin_fine {d:Dr} {steps:List Sp} (h:thinF d steps = true):FineS steps:=fun x hx=>by
 obtain ⟨h1,h2⟩:=short_iff.1 ((thin_iff.1 h).2.1 x hx)
 exact ⟨by omega,fun s hs=>by have:=h1 s hs;omega⟩
theorem thin_dr {d:Dr} {steps:List Sp} (h:thinF d steps = true) {G:Hp} {v:Value} (hd:duRd.R G v d):drRd.R G v d:=by
 obtain ⟨_,_,h3,h4,_⟩:=thin_iff.1 h
 obtain ⟨w,k,e,h1,h2⟩:=hd
 exact ⟨w,k,e,h1.v (by omega),h2.v (by omega)⟩
theorem thin_sps {d:Dr} {steps:List Sp} (h:thinF d steps = true) {G:Hp} {v:Value} (hd:suRd.R G v steps):spsRd.R G v steps:=by
 obtain ⟨a,n,c,e,h1,h2⟩:=hd
 refine ⟨a,n,c,e,SlR.imp h1 (fun cs x hx h3=>h3.c ?_),h2⟩
 have:=(thin_fine h x hx).1
 omega
theorem short28:Sound Tryz.prog 28 id (gsca (args1 ⟨SlU strE,SlU.uniq,SlU.grow⟩ fun _=>True) fun l v=>v = .bool (shortF l)):=by
 refine comp28.gsca (Tab.nil _) (fun args G s h=>?_) (fun args G l h=>?_)
 ·obtain ⟨v,rfl,_⟩:=h;simp
 ·obtain ⟨v,rfl,⟨a,n,c,rfl,hl,hn⟩,_⟩:=h
  have hlen:=hl.len
  have hm:=maxLen_lt
  (conv=>whnf)
  refine LoopP.of { α:=Nat,fr:=fun x=>[(0, .v (.slice a n c)),(3, .v (I x))],H:=fun _=>[],ok:=fun i _=>i≤l.length∧∀ j < i,decide ((l.getD j default).size≤40) = true,m:=fun x=>l.length - x }
   0 (HeadP.of [] ⟨rfl,rfl,trivial⟩ trivial) ⟨Nat.zero_le _,fun j hj=>by omega⟩ (fun _=>⟨rfl,rfl⟩) (fun (i:Nat) G' hG hx=>W.mk ?_)
  obtain ⟨hi2,hx⟩:=hx
  replace hl:=SlR.grow (G:=G) (G':=G') (fun _ _ h=>h) hl hG
  dsimp only
  (conv=>whnf)
  refine IteP.mk (fun hlt=>W.mk ?_) (fun hge=>W.mk ?_)<;>(conv=>whnf)
  ·have h1:i < l.length:=by omega
   have hc:=hl.el h1
   have hgd:l.getD i default = l[i]:=by simp [h1]
   have bad:decide ((l.getD i default).size≤40) = false→l.all (fun s=>decide (s.size≤40)) = false:=all_f (b:=fun s:ByteArray=>decide (s.size≤40)) h1
   rw [hgd] at bad
   have nxt:decide (l[i].size≤40) = true→∀ j < i + 1,decide ((l.getD j default).size≤40) = true:=fun ht j hj=>by
    rcases Nat.lt_or_eq_of_le (Nat.le_of_lt_succ hj) with h | h
    ·exact hx j h
    ·subst h;rw [hgd];exact ht
   generalize l[i] = s at hc bad nxt
   repeat' (first | (refine ob ?_ ?_;(first | trivial | omega | (simp only [inR];omega) | exact ble (by rfl) | exact SlR.some ‹_› (by omega));(conv=>whnf)) | (first | (refine ra ‹_› (by rfl) ?_;(conv=>whnf)) | (refine rb ‹_› (by rfl) ?_;(conv=>whnf)) | (refine rc ‹_› (by rfl) ?_;(conv=>whnf)) | (refine rd ‹_› (by rfl) ?_;(conv=>whnf))))
   refine IteP.mk (fun hq=>W.mk ?_) (fun hq=>W.mk ?_)<;>(conv=>whnf)
   ·refine FinP.mk (congrArg Value.bool ?_)
    rw [shortF,bad (decide_eq_false (by omega)),Bool.false_and]
   ·repeat' (refine ob ?_ ?_;(first | trivial | omega | (simp only [inR];omega) | exact ble (by rfl) | exact SlR.some ‹_› (by omega));(conv=>whnf))
    exact RoundP.of (i + 1) (HeadP.of [] ⟨rfl,rfl,trivial⟩ trivial) ⟨h1,nxt (decide_eq_true (by omega))⟩ (by simp only;omega)
  ·have:i = l.length:=by omega
   subst this
   have hall:l.all (fun s=>decide (s.size≤40)) = true:=all_t (d:=default) (b:=fun s:ByteArray=>decide (s.size≤40)) fun j hj=>hx j hj
   refine IteP.mk (fun hq=>W.mk ?_) (fun hq=>W.mk ?_)<;>(conv=>whnf)<;>refine FinP.mk (congrArg Value.bool ?_)<;>rw [shortF,hall,Bool.true_and]
   ·exact (decide_eq_true (by omega)).symm
   ·exact (decide_eq_false (by omega)).symm
theorem thin14:Sound Tryz.prog 14 id (gsca (args2 duRd suRd fun _ _=>True) fun x v=>v = .bool (thinF x.1 x.2)):=by
 refine comp14.gsca (Tab.cons 28 _ short28 body28 (Tab.nil _)) (fun args G s h=>?_) (fun args G x h=>?_)
 ·obtain ⟨u,v,rfl,_⟩:=h;simp
 ·obtain ⟨d,steps⟩:=x
  obtain ⟨_,_,rfl,⟨w,k,rfl,⟨wa,wn,wc,rfl,hwl,hwn⟩,⟨ka,kn,kc,rfl,hkl,hkn⟩⟩,⟨a,n,c,rfl,hst,hn⟩,_⟩:=h
  dsimp only at hwl hkl hst
  have hwlen:=hwl.len
  have hklen:=hkl.len
  have hlen:=hst.len
  have hm:=maxLen_lt
  dsimp only
  have no:¬ ((∀ w∈d.ws,w.t.size≤40)∧(∀ x∈steps,shortF x.put = true)∧d.ws.length≤65∧d.ks.length≤70∧steps.length≤85)→thinF d steps = false:=fun h=>by
   cases hv:thinF d steps with
   | false=>rfl
   | true=>exact absurd (thin_iff.1 hv) h
  (conv=>whnf)
  refine LoopP.of { α:=Nat,fr:=fun x=>[(1, .v (.slice a n c)),(2, .c (.ptr 0 0)),(5, .v (I x))],H:=fun _=>[(0, .cells .anon [.val (.slice wa wn wc), .val (.slice ka kn kc)] 25)],ok:=fun i _=>i≤d.ws.length∧∀ j (h:j < d.ws.length),j < i→d.ws[j].t.size≤40,m:=fun x=>d.ws.length - x }
   0 (HeadP.of [] ⟨rfl,rfl,rfl,trivial⟩ ⟨rfl,trivial⟩) ⟨Nat.zero_le _,fun j _ hj=>by omega⟩ (fun _=>⟨rfl,rfl⟩) (fun (i:Nat) G' hG hx=>W.mk ?_)
  obtain ⟨hi2,hx⟩:=hx
  replace hwl:=SlR.grow (G:=G) (G':=G') (fun _ _ h=>h) hwl hG
  dsimp only
  (conv=>whnf)
  refine IteP.mk (fun hlt=>W.mk ?_) (fun hge=>W.mk ?_)<;>(conv=>whnf)
  ·have h1:i < d.ws.length:=by omega
   have hc:=hwl.el h1
   have nxt:d.ws[i].t.size≤40→∀ j (h:j < d.ws.length),j < i + 1→d.ws[j].t.size≤40:=fun ht j h2 hj=>by
    rcases Nat.lt_or_eq_of_le (Nat.le_of_lt_succ hj) with h | h
    ·exact hx j h2 h
    ·subst h;exact ht
   have bad:¬ d.ws[i].t.size≤40→thinF d steps = false:=fun h=>no fun h2=>h (h2.1 _ (List.getElem_mem h1))
   generalize d.ws[i] = x at hc nxt bad
   repeat' (first | (refine ob ?_ ?_;(first | trivial | omega | (simp only [inR];omega) | exact ble (by rfl) | exact SlR.some ‹_› (by omega));(conv=>whnf)) | (first | (refine ra ‹_› (by rfl) ?_;(conv=>whnf)) | (refine rb ‹_› (by rfl) ?_;(conv=>whnf)) | (refine rc ‹_› (by rfl) ?_;(conv=>whnf)) | (refine rd ‹_› (by rfl) ?_;(conv=>whnf))))
   refine IteP.mk (fun hq=>W.mk ?_) (fun hq=>W.mk ?_)<;>(conv=>whnf)
   ·refine FinP.mk (congrArg Value.bool ?_)
    rw [bad (by omega)]
   ·repeat' (refine ob ?_ ?_;(first | trivial | omega | (simp only [inR];omega) | exact ble (by rfl) | exact SlR.some ‹_› (by omega));(conv=>whnf))
    exact RoundP.of (i + 1) (HeadP.of [] ⟨rfl,rfl,rfl,trivial⟩ ⟨rfl,trivial⟩) ⟨h1,nxt (by omega)⟩ (by simp only;omega)
  ·have:i = d.ws.length:=by omega
   subst this
   refine LoopP.of { α:=Nat,fr:=fun x=>[(1, .v (.slice a n c)),(2, .c (.ptr 0 0)),(6, .v (I x))],H:=fun _=>[(0, .cells .anon [.val (.slice wa wn wc), .val (.slice ka kn kc)] 25)],ok:=fun i _=>i≤steps.length∧∀ j (h:j < steps.length),j < i→shortF steps[j].put = true,m:=fun x=>steps.length - x }
    0 (HeadP.of [] ⟨rfl,rfl,rfl,trivial⟩ ⟨rfl,trivial⟩) ⟨Nat.zero_le _,fun j _ hj=>by omega⟩ (fun _=>⟨rfl,rfl⟩) (fun (i:Nat) G2 hG2 hx2=>W.mk ?_)
   obtain ⟨hi3,hx2⟩:=hx2
   dsimp only
   (conv=>whnf)
   refine IteP.mk (fun hlt=>W.mk ?_) (fun hge=>W.mk ?_)<;>(conv=>whnf)
   ·have h1:i < steps.length:=by omega
    obtain ⟨cs,c1,c2,c3⟩:=(SlR.grow (G:=G) (G':=G2) (fun cs x h=>SpU.grow cs x (hG.trans hG2) h) hst (hG.trans hG2)).at_ i h1
    have nxt:shortF steps[i].put = true→∀ j (h:j < steps.length),j < i + 1→shortF steps[j].put = true:=fun ht j h2 hj=>by
     rcases Nat.lt_or_eq_of_le (Nat.le_of_lt_succ hj) with h | h
     ·exact hx2 j h2 h
     ·subst h;exact ht
    have bad:¬ shortF steps[i].put = true→thinF d steps = false:=fun h=>no fun h2=>h (h2.2.1 _ (List.getElem_mem h1))
    generalize steps[i] = x at c3 nxt bad
    obtain ⟨pv,rfl,hp⟩:=c3
    obtain ⟨pa,pn,pc,rfl,_,_⟩:=id hp
    repeat' (first | (refine ob ?_ ?_;(first | trivial | omega | (simp only [inR];omega) | exact ble (by rfl) | exact SlR.some ‹_› (by omega));(conv=>whnf)) | (first | (refine ra ‹_› (by rfl) ?_;(conv=>whnf)) | (refine rb ‹_› (by rfl) ?_;(conv=>whnf)) | (refine rc ‹_› (by rfl) ?_;(conv=>whnf)) | (refine rd ‹_› (by rfl) ?_;(conv=>whnf))))
    refine ScaP.g (ok1 ⟨SlU strE,SlU.uniq,SlU.grow⟩ fun _=>True) (x:=x.put) ⟨_,rfl,hp,trivial⟩ (fun v hv=>W.mk ?_)
    subst hv
    (conv=>whnf)
    refine ForkP.mk (fun hb=>W.mk ?_) (fun hb=>W.mk ?_)<;>(conv=>whnf)
    ·repeat' (refine ob ?_ ?_;(first | trivial | omega | (simp only [inR];omega) | exact ble (by rfl) | exact SlR.some ‹_› (by omega));(conv=>whnf))
     exact RoundP.of (i + 1) (HeadP.of [] ⟨rfl,rfl,rfl,trivial⟩ ⟨rfl,trivial⟩) ⟨h1,nxt hb⟩ (by simp only;omega)
    ·refine FinP.mk (congrArg Value.bool ?_)
     rw [bad (by rw [hb];decide)]
   ·have:i = steps.length:=by omega
    subst this
    have m1:∀ w∈d.ws,w.t.size≤40:=fun w hw=>by
     obtain ⟨j,hj,rfl⟩:=List.mem_iff_getElem.1 hw
     exact hx j hj hj
    have m2:∀ x∈steps,shortF x.put = true:=fun w hw=>by
     obtain ⟨j,hj,rfl⟩:=List.mem_iff_getElem.1 hw
     exact hx2 j hj hj
    refine IteP.mk (fun q1=>W.mk ?_) (fun q1=>W.mk ?_)<;>(conv=>whnf)
    ·refine IteP.mk (fun q2=>W.mk ?_) (fun q2=>W.mk ?_)<;>(conv=>whnf)
     ·refine IteP.mk (fun q3=>W.mk ?_) (fun q3=>W.mk ?_)<;>(conv=>whnf)<;>refine FinP.mk (congrArg Value.bool ?_)
      ·exact (thin_iff.2 ⟨m1,m2,by omega,by omega,by omega⟩).symm
      ·rw [no fun h=>by omega]
     ·refine FinP.mk (congrArg Value.bool ?_)
      rw [no fun h=>by omega]
    ·refine FinP.mk (congrArg Value.bool ?_)
     rw [no fun h=>by omega]
def faultOf:End→Int × Nat
 | .arg=>(1,0)
 | .limit=>(3,0)
 | .fail k=>(9,k)
 | .ok _=>(0,0)
theorem fault19:Sound Tryz.prog 19 id (gsca (args2 drRd spsRd fun d steps=>thinF d steps = true) fun x v=>v = .tuple #[I (faultOf (endF x.1 x.2)).1,I (faultOf (endF x.1 x.2)).2]):=by
 refine comp19.gsca (Tab.cons 32 _ right32 body32 (Tab.cons 20 _ rplay20 body20 (Tab.nil _))) (fun args G s h=>?_) (fun args G x h=>?_)
 ·obtain ⟨u,v,rfl,_⟩:=h;simp
 ·obtain ⟨d,steps⟩:=x
  obtain ⟨_,_,rfl,hdr,hsr,ht⟩:=h
  dsimp only at hdr hsr ht
  obtain ⟨w,k,rfl,hw,hk⟩:=id hdr
  obtain ⟨wa,wn,wc,rfl,_,_⟩:=id hw
  obtain ⟨ka,kn,kc,rfl,_,_⟩:=id hk
  obtain ⟨a,n,c,rfl,hst,hn⟩:=id hsr
  obtain ⟨t1,t2,t3,t4,t5⟩:=thin_iff.1 ht
  have hlen:=hst.len
  dsimp only
  (conv=>whnf)
  refine ScaP.g (ok1 drRd fun d=>d.ks.length≤100000∧∀ w∈d.ws,w.t.size≤1000000) (x:=d) ⟨_,rfl,hdr,by omega,fun w hw=>by have:=t1 w hw;omega⟩ (fun v hv=>W.mk ?_)
  subst hv
  (conv=>whnf)
  refine ForkP.mk (fun hv=>W.mk ?_) (fun hv=>W.mk ?_)<;>(conv=>whnf)
  ·refine IteP.mk (fun q1=>W.mk ?_) (fun q1=>W.mk ?_)<;>(conv=>whnf)
   ·refine FinP.mk ?_
    have:endF d steps = .limit:=by unfold endF;rw [if_neg (by rw [hv];decide),if_pos (by omega)]
    rw [this];rfl
   ·refine RelP.g (ok2 drRd spsRd fun d steps=>validF d = true∧steps.length≤1000∧FineS steps) (x:=(d,steps)) ⟨_,_,rfl,hdr,hsr,hv,by show steps.length≤_;omega,thin_fine ht⟩ (Grow.refl _) (fun v G1 hg1 hq=>W.mk ?_)
    have he:endF d steps = match playF d (beginS d) steps 0 with
      | .inl k=>.fail k
      | .inr S=>.ok S:=by unfold endF;rw [if_neg (by rw [hv];decide),if_neg (by omega)];rfl
    rw [he]
    unfold refPlayR at hq
    dsimp only at hq
    generalize playF d (beginS d) steps 0 = e at hq
    cases e with
    | inl k =>
     obtain ⟨_,_,_,_,_,_,rfl⟩:=hq
     (conv=>whnf)
     refine IteP.mk (fun q2=>W.mk ?_) (fun q2=>W.mk ?_)<;>(conv=>whnf)
     ·exact FinP.mk rfl
     ·exfalso;omega
    | inr S =>
     obtain ⟨_,_,rfl,⟨_,_,_,rfl,_,_⟩,⟨_,_,_,rfl,_,_⟩⟩:=hq
     (conv=>whnf)
     refine IteP.mk (fun q2=>W.mk ?_) (fun q2=>W.mk ?_)<;>(conv=>whnf)
     ·exfalso;omega
     ·exact FinP.mk rfl
  ·refine FinP.mk ?_
   have:endF d steps = .arg:=by unfold endF;rw [if_pos hv]
   rw [this];rfl
def okE:End→Bool
 | .ok _=>true
 | _=>false
def readyF (d:Dr) (steps:List Sp):Bool:=thinF d steps && okE (endF d steps)
theorem ready25:Sound Tryz.prog 25 id (gsca (args2 duRd suRd fun _ _=>True) fun x v=>v = .bool (readyF x.1 x.2)):=by
 refine comp25.gsca (Tab.cons 14 _ thin14 body14 (Tab.cons 19 _ fault19 body19 (Tab.nil _))) (fun args G s h=>?_) (fun args G x h=>?_)
 ·obtain ⟨u,v,rfl,_⟩:=h;simp
 ·obtain ⟨d,steps⟩:=x
  obtain ⟨_,_,rfl,hdr,hsr,_⟩:=h
  dsimp only at hdr hsr
  obtain ⟨w,k,rfl,hw,hk⟩:=id hdr
  obtain ⟨wa,wn,wc,rfl,_,_⟩:=id hw
  obtain ⟨ka,kn,kc,rfl,_,_⟩:=id hk
  obtain ⟨a,n,c,rfl,hst,hn⟩:=id hsr
  dsimp only
  (conv=>whnf)
  refine ScaP.g (ok2 duRd suRd fun _ _=>True) (x:=(d,steps)) ⟨_,_,rfl,hdr,hsr,trivial⟩ (fun v hv=>W.mk ?_)
  subst hv
  dsimp only
  (conv=>whnf)
  refine ForkP.mk (fun ht=>W.mk ?_) (fun ht=>W.mk ?_)<;>(conv=>whnf)
  ·refine ScaP.g (ok2 drRd spsRd fun d steps=>thinF d steps = true) (x:=(d,steps)) ⟨_,_,rfl,thin_dr ht hdr,thin_sps ht hsr,ht⟩ (fun v hv=>W.mk ?_)
   subst hv
   dsimp only
   have hr:readyF d steps = okE (endF d steps):=by rw [readyF,ht,Bool.true_and]
   rw [hr]
   generalize endF d steps = e
   (conv=>whnf)
   refine IteP.mk (fun q=>W.mk ?_) (fun q=>W.mk ?_)<;>(conv=>whnf)<;>refine FinP.mk (congrArg Value.bool ?_)<;>cases e<;>first | rfl | (simp [faultOf] at q)
  ·refine FinP.mk (congrArg Value.bool ?_)
   rw [readyF,ht,Bool.false_and]
end Go.Proofs.YtfppbjfbghaclaaGreat

namespace Go.Proofs.YtfppbjfbghaclaaGreat
open Go.Pal Go.RowKit
set_option maxRecDepth 100000
theorem texts46:Sound Tryz.prog 46 id (grel (args1 (slRd strE) fun l=>l.length≤100000) fun l v G=>SlV strE G v l):=by
 refine comp46.grel (Tab.nil _) (ok1 _ _) (fun args G s h=>?_) (fun x v G G' hg h=>h.grow hg) (fun args G l h=>?_)
 ·obtain ⟨v,rfl,_⟩:=h;simp
 ·obtain ⟨v,rfl,⟨a,n,c,rfl,hl,hn⟩,hb⟩:=h
  have hlen:=hl.len
  obtain ⟨q1,q2,q3⟩:=hl.all
  (conv=>whnf)
  refine OblP.mk (fun h=>hl.some h) (W.mk ?_);(conv=>whnf)
  refine RdP.at q1 q2 (W.mk ?_);(conv=>whnf)
  refine OblP.mk q3 (W.mk ?_);(conv=>whnf)
  refine OblP.mk (by omega) (W.mk ?_);(conv=>whnf)
  refine PubP.mk (fun ga gc G4 hg4 hp=>W.mk ?_)
  (conv=>whnf)
  exact FinP.mk (hp.slV rfl hlen (by omega))
theorem draft17:Sound Tryz.prog 17 id (grel (args1 drRd fun d=>d.ws.length≤100000∧d.ks.length≤100000) fun d v G=>drRd.R G v d):=by
 refine comp17.grel (Tab.nil _) (ok1 _ _) (fun args G s h=>?_) (fun x v G G' hg h=>drRd.grow hg h) (fun args G d h=>?_)
 ·obtain ⟨v,rfl,_⟩:=h;simp
 ·obtain ⟨v,rfl,⟨w,k,rfl,⟨wa,wn,wc,rfl,hwl,hwn⟩,⟨ka,kn,kc,rfl,hkl,hkn⟩⟩,hb1,hb2⟩:=h
  have hwlen:=hwl.len
  have hklen:=hkl.len
  obtain ⟨q1,q2,q3⟩:=hkl.all
  (conv=>whnf)
  refine OblP.mk (fun h=>hkl.some h) (W.mk ?_);(conv=>whnf)
  refine RdP.at q1 q2 (W.mk ?_);(conv=>whnf)
  refine OblP.mk q3 (W.mk ?_);(conv=>whnf)
  refine OblP.mk (by omega) (W.mk ?_);(conv=>whnf)
  refine LoopP.of { α:=Nat × Nat × List Value,fr:=fun x=>[(1, .c (.ptr 0 0)),(2, .c (.ptr 1 0)),(3, .c (.ptr 6 0)),(4, .v (I x.1))],H:=fun x=>[(0, .cells .anon [.val (.slice wa wn wc), .val (.slice ka kn kc)] 25),(1, .cells .anon [.val (.slice none 0 0), .val (.slice none 0 0)] 35),(6, .cells .anon [.row 7 x.2.1, .row 4 kn] 35),(4, .row none kn (d.ks.map intE.f).flatten 3 1),(7, .row none x.2.1 x.2.2 107 3)],ok:=fun x _=>x.1≤d.ws.length∧Row woE (d.ws.take x.1) x.2.1 x.2.2,m:=fun x=>d.ws.length - x.1 }
   (0,0,[]) (HeadP.of [(7,none)] ⟨rfl,rfl,rfl,rfl,trivial⟩ ⟨rfl,rfl,rfl,rfl,rfl,trivial⟩) ⟨Nat.zero_le _,Row.nil⟩ (fun _=>⟨rfl,rfl⟩) (fun x G2 hg2 hx=>W.mk ?_)
  obtain ⟨i,m,vs⟩:=x
  obtain ⟨hi,hr⟩:=hx
  dsimp only at hi hr
  dsimp only
  have hm:m = i:=by rw [hr.n,List.length_take];omega
  (conv=>whnf)
  refine IteP.mk (fun hlt=>W.mk ?_) (fun hge=>W.mk ?_)<;>(conv=>whnf)
  ·have h1:i < d.ws.length:=by omega
   have hc:=(SlR.grow (G:=G) (G':=G2) (fun _ _ h=>h) hwl hg2).el h1
   have hr2:=hr.snoc d.ws[i]
   rw [show d.ws.take i++[d.ws[i]] = d.ws.take (i + 1) by rw [List.take_add_one,List.getElem?_eq_getElem h1];rfl] at hr2
   generalize d.ws[i] = x at hc hr2
   repeat' (first | (refine ob ?_ ?_;(first | trivial | omega | (simp only [inR];omega) | exact ble (by rfl) | exact SlR.some ‹_› (by omega));(conv=>whnf)) | (first | (refine ra ‹_› (by rfl) ?_;(conv=>whnf)) | (refine rb ‹_› (by rfl) ?_;(conv=>whnf)) | (refine rc ‹_› (by rfl) ?_;(conv=>whnf)) | (refine rd ‹_› (by rfl) ?_;(conv=>whnf))))
   exact RoundP.of (i + 1,m + 1,_) (HeadP.of [(7,some 31)] ⟨rfl,rfl,rfl,rfl,trivial⟩ ⟨rfl,rfl,rfl,rfl,rfl,trivial⟩) ⟨h1,hr2⟩ (by show d.ws.length - (i + 1) < d.ws.length - i;omega)
  ·have:i = d.ws.length:=by omega
   subst this
   rw [List.take_length] at hr
   refine PubP.mk (fun ga gc G4 hg4 hp=>W.mk ?_)
   (conv=>whnf)
   refine PubP.mk (fun ga2 gc2 G5 hg5 hp2=>W.mk ?_)
   (conv=>whnf)
   exact FinP.mk ⟨_,_,rfl,(hr.pub hp (by omega)).grow hg5,hp2.slV rfl hklen (by omega)⟩
theorem spv_snoc {G:Hp} {vs us:List Value} {l:List Sp} {x:Sp} (hv:vs.length = l.length * 4) (hvs:∀ i (h:i < l.length),((vs.drop (i * 4)).take 4).length = 4∧SpC G ((vs.drop (i * 4)).take 4) l[i]) (hu:us.length = 4) (hx:SpC G us x):∀ i (h:i < (l++[x]).length),(((vs++us).drop (i * 4)).take 4).length = 4∧SpC G (((vs++us).drop (i * 4)).take 4) (l++[x])[i]:=by
 intro i hi
 by_cases h:i < l.length
 ·rw [List.getElem_append_left h]
  have:((vs++us).drop (i * 4)).take 4 = (vs.drop (i * 4)).take 4:=by
   rw [List.drop_append_of_le_length (by omega),List.take_append_of_le_length (by rw [List.length_drop];omega)]
  rw [this];exact hvs i h
 ·have:i = l.length:=by simp at hi;omega
  subst this
  have e:(l++[x])[l.length] = x:=by simp
  rw [e,List.drop_append,List.drop_of_length_le (by omega),List.nil_append,show l.length * 4 - vs.length = 0 by omega,List.drop_zero,List.take_of_length_le (by omega)]
  exact ⟨hu,hx⟩
theorem steps18:Sound Tryz.prog 18 id (grel (args1 spsRd fun l=>l.length≤100000∧FineS l) fun l v G=>spsRd.R G v l):=by
 refine comp18.grel (Tab.cons 46 _ texts46 body46 (Tab.nil _)) (ok1 _ _) (fun args G s h=>?_) (fun x v G G' hg h=>spsRd.grow hg h) (fun args G l h=>?_)
 ·obtain ⟨v,rfl,_⟩:=h;simp
 ·obtain ⟨v,rfl,⟨a,n,c,rfl,hl,hn⟩,hb,hf⟩:=h
  have hlen:=hl.len
  (conv=>whnf)
  refine LoopP.of { α:=Nat × Nat × List Value,fr:=fun x=>[(0, .v (.slice a n c)),(3, .c (.row 1 x.2.1)),(4, .v (I x.1))],H:=fun x=>[(1, .row none x.2.1 x.2.2 76 4)],ok:=fun x G=>x.1≤l.length∧x.2.1 = x.1∧x.2.2.length = x.1 * 4∧∀ i (h:i < (l.take x.1).length),((x.2.2.drop (i * 4)).take 4).length = 4∧SpC G ((x.2.2.drop (i * 4)).take 4) (l.take x.1)[i],m:=fun x=>l.length - x.1 }
   (0,0,[]) (HeadP.of [(1,none)] ⟨rfl,rfl,rfl,trivial⟩ ⟨rfl,trivial⟩) ⟨Nat.zero_le _,rfl,rfl,fun i h=>absurd h (by simp)⟩ (fun _=>⟨rfl,rfl⟩) (fun x G2 hg2 hx=>W.mk ?_)
  obtain ⟨i,m,vs⟩:=x
  obtain ⟨hi,hm,hvl,hvs⟩:=hx
  dsimp only at hi hm hvl hvs
  dsimp only
  (conv=>whnf)
  refine IteP.mk (fun hlt=>W.mk ?_) (fun hge=>W.mk ?_)<;>(conv=>whnf)
  ·have h1:i < l.length:=by omega
   obtain ⟨cs,c1,c2,c3⟩:=(SlR.grow (G:=G) (G':=G2) (fun cs x h=>SpC.grow cs x hg2 h) hl hg2).at_ i h1
   have hfi:=hf _ (List.getElem_mem h1)
   have htk:l.take (i + 1) = l.take i++[l[i]]:=by rw [List.take_add_one,List.getElem?_eq_getElem h1];rfl
   generalize l[i] = x at c3 hfi htk
   obtain ⟨pv,rfl,hp⟩:=id c3
   obtain ⟨pa,pn,pc,rfl,hpl,hpn⟩:=id hp
   repeat' (first | (refine ob ?_ ?_;(first | trivial | omega | (simp only [inR];omega) | exact ble (by rfl) | exact SlR.some ‹_› (by omega));(conv=>whnf)) | (first | (refine ra ‹_› (by rfl) ?_;(conv=>whnf)) | (refine rb ‹_› (by rfl) ?_;(conv=>whnf)) | (refine rc ‹_› (by rfl) ?_;(conv=>whnf)) | (refine rd ‹_› (by rfl) ?_;(conv=>whnf))))
   refine RelP.g (ok1 (slRd strE) fun l=>l.length≤100000) (x:=x.put) ⟨_,rfl,hp,by show x.put.length≤_;omega⟩ (Grow.refl _) (fun v G3 hg3 hq=>W.mk ?_)
   obtain ⟨ra,rn,rc,rfl,_,_⟩:=id hq
   (conv=>whnf)
   repeat' (first | (refine ob ?_ ?_;(first | trivial | omega | (simp only [inR];omega) | exact ble (by rfl) | exact SlR.some ‹_› (by omega));(conv=>whnf)) | (first | (refine ra ‹_› (by rfl) ?_;(conv=>whnf)) | (refine rb ‹_› (by rfl) ?_;(conv=>whnf)) | (refine rc ‹_› (by rfl) ?_;(conv=>whnf)) | (refine rd ‹_› (by rfl) ?_;(conv=>whnf))))
   have hlt2:(l.take i).length = i:=by rw [List.length_take];omega
   have hnx:=spv_snoc (G:=G3) (x:=x) (us:=[I x.u,I x.a,I x.c, .slice ra rn rc]) (by rw [hlt2];exact hvl) (fun j hj=>⟨(hvs j hj).1,SpC.grow _ _ hg3 (hvs j hj).2⟩) rfl ⟨_,rfl,hq⟩
   rw [← htk] at hnx
   exact RoundP.of (i + 1,m + 1,_) (HeadP.of [(1,some 31)] ⟨rfl,rfl,rfl,trivial⟩ ⟨rfl,trivial⟩) ⟨h1,by show m + 1 = i + 1;omega,by show (vs++_).length = (i + 1) * 4;rw [List.length_append,hvl];simp;omega,hnx⟩ (by show l.length - (i + 1) < l.length - i;omega)
  ·have:i = l.length:=by omega
   subst this
   rw [List.take_length] at hvs
   refine PubP.mk (fun ga gc G4 hg4 hp=>W.mk ?_)
   (conv=>whnf)
   refine FinP.mk ⟨_,_,_,rfl,SlR.ofPub hp hm.symm fun i hi=>⟨(hvs i hi).1,SpC.grow _ _ hg4 (hvs i hi).2⟩,by unfold maxLen;omega⟩
end Go.Proofs.YtfppbjfbghaclaaGreat

namespace Go.Proofs.YtfppbjfbghaclaaGreat
open Go.Pal Go.RowKit Go.ChangeShapes
theorem SlR.map {α β:Type} {k:Nat} {R:Hp→List Value→α→Prop} {R':Hp→List Value→β→Prop} {G:Hp} {a:Option Addr} {n c:Nat} {l:List α} (f:α→β) (hf:∀ cs x,R G cs x→R' G cs (f x)) (h:SlR k R G a n c l):SlR k R' G a n c (l.map f) :=
 ⟨by rw [List.length_map,h.len],h.cap,h.some,fun i hi=>by
  obtain ⟨cs,h1,h2,h3⟩:=h.at_ i (by simpa using hi)
  exact ⟨cs,h1,h2,by rw [List.getElem_map];exact hf _ _ h3⟩⟩
theorem udl3:Tryz.prog.underlying 3 = some (.int .i64):=by kernel_rfl
theorem udl5:Tryz.prog.underlying 5 = some (.int .u8):=by kernel_rfl
theorem o3:Opens Tryz.prog 3 (cdInt .i64):=.int udl3
theorem o5:Opens Tryz.prog 5 (cdInt .u8):=.int udl5
theorem o9:Opens Tryz.prog 9 cdStr:=.str und9
theorem o23:Opens Tryz.prog 23 (cdSl (cdInt .i64)):=.slice (e:=3) (by kernel_rfl) o3 (by decide)
theorem o59:Opens Tryz.prog 59 (cdSl cdStr):=.slice (e:=9) (by kernel_rfl) o9 (by decide)
abbrev cdWo:=cdPair cdStr (cdPair (cdInt .i64) (cdPair (cdInt .i64) cdUnit))
theorem o63:Opens Tryz.prog 63 cdWo:=.struct (fs:=[(9,0),(3,1),(3,2)]) (by kernel_rfl) (by kernel_rfl) (OpensF.cons o9 (OpensF.cons o3 (OpensF.cons o3 OpensF.nil)))
theorem o22:Opens Tryz.prog 22 (cdSl cdWo):=.slice (e:=63) (by kernel_rfl) o63 (by decide)
abbrev cdDr:=cdPair (cdSl cdWo) (cdPair (cdSl (cdInt .i64)) cdUnit)
theorem o25:Opens Tryz.prog 25 cdDr:=.struct (fs:=[(22,0),(23,1)]) (by kernel_rfl) (by kernel_rfl) (OpensF.cons o22 (OpensF.cons o23 OpensF.nil))
theorem sli_cd {G:Hp} {a:Option Addr} {n c:Nat} {l:List Int} (h:SlR (cdInt .i64).k (cdInt .i64).R G a n c l):SlR intE.k intE.R G a n c l:=by
 have hi:∀ (cs:List Value) x,(cdInt .i64).R G cs x→intE.R G cs (id x):=fun _ _ h=>h.1
 have:=SlR.map id hi h
 rwa [List.map_id] at this
theorem sls_cd {G:Hp} {a:Option Addr} {n c:Nat} {l:List ByteArray} (h:SlR cdStr.k cdStr.R G a n c l):SlR strE.k strE.R G a n c l:=by
 have hi:∀ (cs:List Value) x,cdStr.R G cs x→strE.R G cs (id x):=fun _ _ h=>h.1
 have:=SlR.map id hi h
 rwa [List.map_id] at this
theorem wo_cd {G:Hp} {cs:List Value} {x} (h:cdWo.R G cs x):woE.R G cs ⟨x.1,x.2.1,x.2.2.1⟩:=by
 obtain ⟨_,_,rfl,⟨rfl,_⟩,_,_,rfl,⟨rfl,_⟩,_,_,rfl,⟨rfl,_⟩,rfl⟩:=h
 rfl
theorem dr_val {G:Hp} {v:Value} (h:∃ x,VR cdDr true G v x):∃ d,duRd.R G v d:=by
 obtain ⟨x,cs,rfl,_,_,e,⟨a,n,c,rfl,h1,h2⟩,_,_,rfl,⟨a',n',c',rfl,h3,h4⟩,rfl⟩:=h
 refine ⟨⟨x.1.map fun w=>⟨w.1,w.2.1,w.2.2.1⟩,x.2.1⟩, .slice a n c, .slice a' n' c', ?_,⟨a,n,c,rfl,SlR.map _ (fun _ _ h=>wo_cd h) h1,h2⟩,a',n',c',rfl,sli_cd h3,h4⟩
 simp at e
 exact congrArg Value.agg (Array.toList_inj.1 e)
theorem ownK:ownKnob Tryz.checked.prog.godebug = none:=by kernel_rfl
theorem laidK:laidOutB Tryz.checked.prog = true:=by kernel_rfl
theorem boolK:Tryz.checked.prog.underlying 4 = some .bool:=by kernel_rfl
abbrev dr0:Value:=.agg #[.slice none 0 0, .slice none 0 0]
abbrev sl0:Value:=.slice none 0 0
end Go.Proofs.YtfppbjfbghaclaaGreat
