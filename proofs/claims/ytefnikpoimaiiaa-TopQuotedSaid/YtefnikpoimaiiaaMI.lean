/- Layer 3: play, from outside; Play, CheckDraft. Layer 3: Play, CheckDraft. Layer 3: draft.sorted: slices.Sort, then slices.Compact: the kit's contracts laid at this program (the layings' numbers are printed by the kit's tool). Layer 3: the trace of an item with some sources. Layer 3: CheckDraft, Undoable. Layer 3: Undoable. Layer 3: numbers in order, each once; the sources of an item (plain). -/
import Derived.Test.YtefnikpoimaiiaaMH
import Derived.Test.YtefnikpoimaiiaaMD
import Derived.Shelf.Sort.Plain
import Derived.Shelf.Slices.CompactI
import Derived.Shelf.Slices.In.SortNone
import Derived.Test.YtefnikpoimaiiaaMF
set_option linter.unusedSimpArgs false
set_option linter.unusedVariables false
namespace Go.Proofs.Ytefnikpoimaiiaa
open Go.Pal Go.RowKit
set_option maxRecDepth 100000
def drRd:Rd Dr:=⟨fun G v d=>∃ w k,v = .agg #[w,k]∧SlV woE G w d.ws∧SlV intE G k d.ks,fun {_ _ x y} ⟨w,k,h,h1,h2⟩ ⟨w',k',h',h1',h2'⟩=>by
  rw [h] at h';simp only [Value.agg.injEq,Array.mk.injEq,List.cons.injEq,and_true] at h'
  obtain ⟨rfl,rfl⟩:=h'
  have e1:=h1.uniq h1'
  have e2:=h2.uniq h2'
  cases x;cases y;simp_all,fun hg ⟨w,k,h,h1,h2⟩=>⟨w,k,h,h1.grow hg,h2.grow hg⟩⟩
theorem SpC.uniq {G:Hp} {cs:List Value} {x y:Sp} (h:SpC G cs x) (h':SpC G cs y):x = y:=by
 obtain ⟨pv,h1,h2⟩:=h
 obtain ⟨pv',h1',h2'⟩:=h'
 rw [h1] at h1'
 simp only [List.cons.injEq,Value.int.injEq,true_and,and_true] at h1'
 obtain ⟨e1,e2,e3,rfl⟩:=h1'
 have:=h2.uniq h2'
 cases x;cases y;simp_all
def spsRd:Rd (List Sp):=⟨fun G v l=>∃ a n c,v = .slice a n c∧SlR 4 SpC G a n c l∧n≤maxLen,fun ⟨a,n,c,h,h1,_⟩ ⟨a',n',c',h',h1',_⟩=>by
  rw [h] at h';cases h'
  exact h1.uniq (fun cs x y h h'=>SpC.uniq h h') h1',fun {G G' _ _} hg ⟨a,n,c,h,h1,h2⟩=>⟨a,n,c,h,SlR.grow (G:=G) (G':=G') (fun cs x h=>SpC.grow cs x hg h) h1 hg,h2⟩⟩
theorem Sound.relG {P:Program} {f:FuncId} {sh:List Value→List Value} {α:Type} {R:GRel α} {q:α→Value→Hp→Prop} (ok:GOk R) (hm:∀ x v G G',Grow G G'→q x v G→q x v G') (h:∀ x,Sound P f sh (.rel (fun args G=>R args G x) fun _ v G=>q x v G)):Sound P f sh (grel R q) :=
 ⟨fun args v G G' hg ⟨x,h1,h2⟩=>⟨x,ok.grow _ _ _ _ hg h1,hm _ _ _ _ hg h2⟩,fun args G W hsub ⟨x,hx⟩=>((h x).2 args G W hsub hx).mono fun e W' ⟨v,G',h1,h2,h3,h4⟩=>⟨v,G',h1,⟨x,ok.grow _ _ _ _ h3 hx,h2⟩,h3,h4⟩⟩
theorem cnt_play {d:Dr}:∀ {steps:List Sp} {S S':Sh} {i:Nat},S.cnt i→playF d S steps i = .inr S'→S'.cnt (i + steps.length)
 | [],S,S',i,h,e=>by cases e;exact h
 | x :: r,S,S',i,h,e=>by
  simp only [playF] at e
  split at e
  ·rename_i S1 hs
   have:=cnt_play (cnt_step h hs) e
   rw [List.length_cons]
   rw [show i + (r.length + 1) = i + 1 + r.length by omega];exact this
  ·cases e
theorem cnt_begin {d:Dr} (h:d.ws.length≤60):(beginS d).cnt 0:=⟨by show (beginIts _ _).length≤_;rw [beginIts_len];omega,Nat.zero_le _,Int.le_refl _,Int.le_refl _⟩
theorem valid_ws {d:Dr} (hv:validF d = true):d.ws.length≤60:=by
 simp only [validF,Bool.and_eq_true,decide_eq_true_eq] at hv
 exact hv.1.1
inductive End
 | arg
 | limit
 | fail (k:Nat)
 | ok (S:Sh)
def endF (d:Dr) (steps:List Sp):End:=if validF d = false then .arg else if 80 < steps.length then .limit else match playF d (beginS d) steps 0 with
 | .inl k=>.fail k
 | .inr S=>.ok S
theorem endF_small {d:Dr} {steps:List Sp} {S:Sh} (h:endF d steps = .ok S):S.cnt 80:=by
 unfold endF at h
 split at h
 ·cases h
 ·rename_i hv
  split at h
  ·cases h
  ·rename_i hl
   split at h
   ·cases h
   ·rename_i e
    cases h
    obtain ⟨h1,h2,h3,h4⟩:=cnt_play (cnt_begin (valid_ws (by simpa using hv))) e
    exact ⟨by omega,by omega,h3,by omega⟩
def playR (x:Dr × List Sp) (v:Value) (G:Hp):Prop:=match endF x.1 x.2 with
 | .arg=>v = .tuple #[.pointer none,I 0,I 1]
 | .limit=>v = .tuple #[.pointer none,I 0,I 3]
 | .fail k=>v = .tuple #[.pointer none,I k,I 9]
 | .ok S=>∃ b,v = .tuple #[ptr b,I 0,I 0]∧ShC G b x.1 S
abbrev dsR:GRel (Dr × List Sp):=args2 drRd spsRd fun _ _=>True
theorem playR.grow {x:Dr × List Sp} {v:Value} {G G':Hp} (hg:Grow G G') (h:playR x v G):playR x v G':=by
 unfold playR at *
 split<;>rename_i e<;>rw [e] at h<;>first | exact h | (obtain ⟨b,h1,h2⟩:=h;exact ⟨b,h1,h2.grow hg⟩)
theorem play42r:Sound Try.prog 51 id (grel dsR playR):=by
 refine Sound.relG (ok2 _ _ _) (fun x v G G' hg h=>h.grow hg) fun x=>?_
 obtain ⟨d,steps⟩:=x
 refine Sound.hpRel (play42 d steps) (fun args G h=>?_) (fun args v p' G' G'' hg hp h=>?_) (fun args v G G' hg h=>h.grow hg)
 ·obtain ⟨v,w,rfl,⟨w1,k1,rfl,h1,h2⟩,⟨a,n,c,rfl,h3,h4⟩,_⟩:=h
  exact ⟨w1,k1,a,n,c,rfl,h1,h2,h3,h4⟩
 ·have hq:=h.2
  unfold playR endF
  dsimp only
  split at hq
  ·rename_i hv;rw [if_pos hv];exact hq
  ·rename_i hv;rw [if_neg hv]
   split at hq
   ·rename_i hl;rw [if_pos hl];exact hq
   ·rename_i hl;rw [if_neg hl]
    split at hq
    ·rename_i e;rw [e];exact hq
    ·rename_i S e;rw [e]
     obtain ⟨b,h1,h2⟩:=hq
     refine ⟨b,h1,h2.pub hg hp ?_⟩
     have:=cnt_play (cnt_begin (valid_ws (by simpa using hv))) e
     exact this.small (by omega)
end Go.Proofs.Ytefnikpoimaiiaa

namespace Go.Proofs.Ytefnikpoimaiiaa
open Go.Pal Go.RowKit
set_option maxRecDepth 100000
structure Vi where
 t:ByteArray
 o:Int
 m:Int
def viE:El Vi:=⟨3,fun x=>[.string x.t,I x.o,I x.m],fun {x y} h=>by cases x;cases y;simp at h;obtain ⟨rfl,rfl,rfl⟩:=h;rfl,fun _=>rfl,fun _ v hv=>by simp at hv;rcases hv with rfl | rfl | rfl<;>rfl⟩
def It.vi (x:It):Vi:=⟨x.t,x.o,x.m⟩
def shownF (S:Sh):List Vi:=(placesF S.its).map fun i=>(S.its.getD i default).vi
def showR (x:Dr × List Sp) (v:Value) (G:Hp):Prop:=match endF x.1 x.2 with
 | .arg=>v = .tuple #[.slice none 0 0, .slice none 0 0,I 0,I 1]
 | .limit=>v = .tuple #[.slice none 0 0, .slice none 0 0,I 0,I 3]
 | .fail k=>v = .tuple #[.slice none 0 0, .slice none 0 0,I k,I 9]
 | .ok S=>∃ a b,v = .tuple #[a,b,I 0,I 0]∧SlV viE G a (shownF S)∧SlV intE G b S.live
theorem showR.grow {x:Dr × List Sp} {v:Value} {G G':Hp} (hg:Grow G G') (h:showR x v G):showR x v G':=by
 unfold showR at *
 split<;>rename_i e<;>rw [e] at h<;>first | exact h | (obtain ⟨a,b,h1,h2,h3⟩:=h;exact ⟨a,b,h1,h2.grow hg,h3.grow hg⟩)
theorem play26:Sound Try.prog 22 id (grel dsR showR):=by
 refine comp26.grel (Tab.cons 51 _ play42r body42 (Tab.cons 52 _ vis44 body44 (Tab.nil _))) (ok2 _ _ _) (fun args G s h=>?_) (fun x v G G' hg h=>h.grow hg) (fun args G x h=>?_)
 ·obtain ⟨v,w,rfl,_⟩:=h;simp
 ·obtain ⟨d,steps⟩:=x
  obtain ⟨_,_,rfl,⟨w,k,rfl,hw,hk⟩,⟨a,n,c,rfl,hst,hn⟩,_⟩:=h
  obtain ⟨wa,wn,wc,rfl,_,_⟩:=id hw
  obtain ⟨ka,kn,kc,rfl,_,_⟩:=id hk
  (conv=>whnf)
  refine RelP.g (ok2 drRd spsRd fun _ _=>True) (x:=(d,steps)) ⟨_,_,rfl,⟨_,_,rfl,hw,hk⟩,⟨_,_,_,rfl,hst,hn⟩,trivial⟩ (Grow.refl _) (fun v G1 hg1 hq=>W.mk ?_)
  have hsm:=fun S=>endF_small (d:=d) (steps:=steps) (S:=S)
  unfold playR at hq
  unfold showR
  dsimp only at hq ⊢
  generalize endF d steps = e at hq hsm
  cases e with
  | arg =>
   subst hq
   (conv=>whnf)
   (refine IteP.mk (fun _=>W.mk ?_) (fun _=>W.mk ?_)<;>first | (exfalso;omega) | (conv=>whnf))
   exact FinP.mk rfl
  | limit =>
   subst hq
   (conv=>whnf)
   (refine IteP.mk (fun _=>W.mk ?_) (fun _=>W.mk ?_)<;>first | (exfalso;omega) | (conv=>whnf))
   exact FinP.mk rfl
  | fail k =>
   subst hq
   (conv=>whnf)
   (refine IteP.mk (fun _=>W.mk ?_) (fun _=>W.mk ?_)<;>first | (exfalso;omega) | (conv=>whnf))
   exact FinP.mk rfl
  | ok S =>
   obtain ⟨b,rfl,hs⟩:=hq
   obtain ⟨q1,q2,q3,q4⟩:=hsm S rfl
   (conv=>whnf)
   (refine IteP.mk (fun _=>W.mk ?_) (fun _=>W.mk ?_)<;>first | (exfalso;omega) | (conv=>whnf))
   refine RelP.g (ok1 shRd fun _=>True) (x:=(d,S)) ⟨_,rfl,⟨b,rfl,hs⟩,trivial⟩ (Grow.refl _) (fun v G2 hg2 hq=>W.mk ?_)
   obtain ⟨bx,rfl,b',hb',hs'⟩:=hq
   dsimp only at hs'
   (conv=>whnf)
   have hple:(placesF S.its).length≤S.its.length:=placesN_le _ _
   refine RangeP.of (visY S.its) { α:=Nat × Nat × List Value,fr:=[(4, .c (.ptr 1 0)),(8, .c (.ptr 12 0))],k:=fun x=>x.1,H:=fun x=>[(1, .cells .anon [.row 2 x.2.1] 74),(2, .row none x.2.1 x.2.2 84 3),(12, .cells .anon [.val (ptr b)] 141)],ok:=fun x _=>x.1≤(placesF S.its).length∧Row viE ((shownF S).take x.1) x.2.1 x.2.2 }
    (0,0,[]) (SoundFn.of body72 (vis72 bx d S)) (fun l=>⟨rfl,⟨b',hb',hs'⟩,rfl⟩) (fun y hy=>by obtain ⟨p,_,rfl⟩:=List.mem_map.1 hy;rfl) rfl (HeadP.of [(2,none)] ⟨rfl,rfl,trivial⟩ ⟨rfl,rfl,rfl,trivial⟩) ⟨Nat.zero_le _,Row.nil⟩ ⟨rfl,fun _=>rfl⟩ (fun _ _ _ _ h=>h)
    (fun x y G3 hg3 hx hy=>W.mk ?_) (fun x G3 hg3 hx hk=>W.mk ?_)
   ·obtain ⟨i,m,vs⟩:=x
    obtain ⟨hi,hr⟩:=hx
    simp only at hi hr hy
    have hlt:i < (placesF S.its).length:=by
     have:=(List.getElem?_eq_some_iff.1 hy).1
     rwa [visY_len] at this
    rw [visY_get hlt] at hy
    cases hy
    have hgd:(placesF S.its).getD i 0 = (placesF S.its)[i]:=by simp [hlt]
    have hm:m = i:=by rw [hr.n,List.length_take,shownF,List.length_map];omega
    have hpl:(placesF S.its).getD i 0 < S.its.length:=by rw [hgd];exact placesN_lt (List.getElem_mem hlt)
    have htk:(shownF S).take i++[(S.its.getD ((placesF S.its).getD i 0) default).vi] = (shownF S).take (i + 1):=by
     rw [List.take_add_one,shownF,List.getElem?_map,List.getElem?_eq_getElem hlt,hgd];rfl
    have hr2:=hr.snoc (S.its.getD ((placesF S.its).getD i 0) default).vi
    rw [htk] at hr2
    generalize (placesF S.its).getD i 0 = j at hpl hr2
    have hgj:S.its.getD j default = S.its[j]:=by simp [hpl]
    rw [hgj] at hr2
    obtain ⟨w3,k3,iv,lv,c1,c2,c3,⟨ia,im,ic,rfl,hil,him⟩,c5⟩:=hs.grow (hg2.trans hg3)
    have hime:=hil.len
    have hce:=hil.el hpl
    generalize S.its[j] = x at hce hr2
    dsimp only
    (conv=>whnf)
    repeat' (first | (refine ob ?_ ?_;(first | trivial | omega | (simp only [inR];omega) | exact ble (by rfl) | exact SlR.some ‹_› (by omega));(conv=>whnf)) | (first | (refine ra ‹_› (by rfl) ?_;(conv=>whnf)) | (refine rb ‹_› (by rfl) ?_;(conv=>whnf)) | (refine rc ‹_› (by rfl) ?_;(conv=>whnf)) | (refine rd ‹_› (by rfl) ?_;(conv=>whnf))))
    refine RoundR.mk ⟨(i + 1,m + 1,_),⟨[(2,some 37)],⟨rfl,rfl,rfl,trivial⟩,rfl,rfl⟩,⟨hlt,hr2⟩,rfl⟩
   ·obtain ⟨i,m,vs⟩:=x
    obtain ⟨hi,hr⟩:=hx
    simp only at hi hr hk
    rw [visY_len] at hk
    subst hk
    rw [show (placesF S.its).length = (shownF S).length by rw [shownF,List.length_map],List.take_length] at hr
    obtain ⟨w3,k3,iv,lv,c1,c2,c3,c4,⟨la,ln,lc,rfl,hll,hln⟩⟩:=hs.grow (hg2.trans hg3)
    (conv=>whnf)
    refine DrawP.mk monoT_nil rfl (W.mk ?_)
    (conv=>whnf)
    repeat' (first | (refine ob ?_ ?_;(first | trivial | omega | (simp only [inR];omega) | exact ble (by rfl) | exact SlR.some ‹_› (by omega));(conv=>whnf)) | (first | (refine ra ‹_› (by rfl) ?_;(conv=>whnf)) | (refine rb ‹_› (by rfl) ?_;(conv=>whnf)) | (refine rc ‹_› (by rfl) ?_;(conv=>whnf)) | (refine rd ‹_› (by rfl) ?_;(conv=>whnf))))
    have hrn:=hr.n
    rw [shownF,List.length_map] at hrn
    refine PubP.mk (fun ga gc G4 hg4 hp=>W.mk ?_)
    (conv=>whnf)
    exact FinP.mk ⟨_,_,rfl,hr.pub hp (by omega),_,_,_,rfl,SlR.grow (G:=G3) (G':=G4) (fun _ _ h=>h) hll hg4,hln⟩
end Go.Proofs.Ytefnikpoimaiiaa

namespace Go.Proofs.Ytefnikpoimaiiaa
open Go.Shelf
end Go.Proofs.Ytefnikpoimaiiaa
namespace Go.Proofs.Ytefnikpoimaiiaa
open Go.Pal Go.RowKit Go.Sort
set_option maxRecDepth 100000
def sortF (l:List Int):List Int:=Lib.compact (l.mergeSort fun x y=>decide (x≤y))
end Go.Proofs.Ytefnikpoimaiiaa

namespace Go.Proofs.Ytefnikpoimaiiaa
open Go.Pal Go.RowKit
set_option maxRecDepth 100000
structure Tr where
 src:List Int
 f:Int
 l:Int
 rep:List Int
def wordAt (d:Dr) (n:Int):Wo:=d.ws.getD n.toNat default
def fstN (d:Dr) (src:List Int) (i:Nat):Int:=if i = 0 then -1 else (wordAt d (src.getD 0 0)).s
def lstN (d:Dr) (src:List Int) (i:Nat):Int:=if i = 0 then -1 else (wordAt d (src.getD (i - 1) 0)).s
def repN (d:Dr) (src:List Int) (i:Nat):List Int:=(src.take i).map fun n=>(wordAt d n).r
def traceF (d:Dr) (src:List Int):Tr:=⟨src,fstN d src src.length,lstN d src src.length,sortF (repN d src src.length)⟩
abbrev srcR:GRel (Dr × List Int):=args2 drRd (slRd intE) fun d l=>l.length≤100000∧∀ n∈l,0≤n∧n < d.ws.length
end Go.Proofs.Ytefnikpoimaiiaa

namespace Go.Proofs.Ytefnikpoimaiiaa
open Go.Pal Go.RowKit
set_option maxRecDepth 100000
end Go.Proofs.Ytefnikpoimaiiaa

namespace Go.Proofs.Ytefnikpoimaiiaa
open Go.Pal Go.RowKit
set_option maxRecDepth 100000
def undosF (S:Sh):List Int:=S.live.filter fun n=>undoableF S n
def undoR (x:Dr × List Sp) (v:Value) (G:Hp):Prop:=match endF x.1 x.2 with
 | .arg=>v = .tuple #[.slice none 0 0,I 1]
 | .limit=>v = .tuple #[.slice none 0 0,I 3]
 | .fail _=>v = .tuple #[.slice none 0 0,I 9]
 | .ok S=>∃ u,v = .tuple #[u,I 0]∧SlV intE G u (undosF S)
theorem undoR.grow {x:Dr × List Sp} {v:Value} {G G':Hp} (hg:Grow G G') (h:undoR x v G):undoR x v G':=by
 unfold undoR at *
 split<;>rename_i e<;>rw [e] at h<;>first | exact h | (obtain ⟨a,h1,h2⟩:=h;exact ⟨a,h1,h2.grow hg⟩)
end Go.Proofs.Ytefnikpoimaiiaa

namespace Go.Proofs.Ytefnikpoimaiiaa
open Go.Pal Go.RowKit
set_option maxRecDepth 100000
/-! ### Sources -/
def WfI (N:Nat) (x:It):Prop:=(0≤x.o∧x.o < N)∨(x.o < 0∧1≤x.m∧(x.g = 0∨x.m < x.g))
def WfL (N:Nat) (L:List It):Prop:=∀ y∈L,WfI N y
def srcN (L:List It):Nat→Int→List Int
 | 0,_=>[]
 | f + 1,m=>sortF ((L.filter fun y=>decide (y.g = m)).flatMap fun y=>if 0≤y.o then [y.o] else srcN L f y.m)
def grpF (L:List It) (m:Int):List Int:=srcN L m.toNat m
def ofF (L:List It) (x:It):List Int:=if 0≤x.o then [x.o] else grpF L x.m
end Go.Proofs.Ytefnikpoimaiiaa
