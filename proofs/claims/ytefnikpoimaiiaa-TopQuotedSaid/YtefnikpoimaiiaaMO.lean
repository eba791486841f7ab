/- Quotations (plain): pieces, what may stand where; what is left of a draft is a quotation of it. Quotations (plain): what is visible is a quotation of the draft, at its places. Quotations: texts, remarks, gaps. Quotations: whether a text may be a word. Quotations: quote: what is read of a paper and a quotation. Quotations: whether a piece may have a place. Quotations: ProveQuote. Quotations: the law of TopQuoted. Quotations: the closed example of TopQuoted. -/
import Derived.Test.YtefnikpoimaiiaaMN
import Derived.Test.YtefnikpoimaiiaaMD
import Derived.Test.YtefnikpoimaiiaaMK
import Derived.Test.YtefnikpoimaiiaaMH
import Derived.Test.YtefnikpoimaiiaaML
import Derived.Test.YtefnikpoimaiiaaMI
import Derived.Test.YtefnikpoimaiiaaMC
set_option linter.unusedSimpArgs false
set_option linter.unusedVariables false
namespace Go.Proofs.Ytefnikpoimaiiaa
open Go.Pal Go.RowKit
set_option maxRecDepth 100000
abbrev gapT:ByteArray:=ByteArray.mk (Array.mk [46,46,46])
def remarkF (s:ByteArray):Bool:=decide (3≤s.size) && decide (byteAt s 0 = 91) && decide (byteAt s (s.size - 1) = 93)
structure Pc where
 t:ByteArray
 l:Bool
instance:Inhabited Pc:=⟨⟨default,false⟩⟩
def pcsN:List ByteArray→Bool→Bool→List Pc
 | [],_,_=>[]
 | s :: r,l,f=>if s = gapT then pcsN r true f else ⟨s,l || f⟩ :: pcsN r false false
def pcsF (q:List ByteArray):List Pc:=pcsN q false true
def quoteOk (paper q kept:List ByteArray):Bool:=inF paper.length 1 80 && inF q.length 1 80 && decide (kept.length≤20) && paper.all textF && q.all textF && kept.all textF
def memT (s:ByteArray) (kept:List ByteArray):Bool:=kept.any fun k=>decide (k = s)
def mayF (paper kept:List ByteArray) (p:Pc) (first:Bool) (last at_:Int):Bool :=
 inF at_ 0 ((paper.length:Int) - 1) && (remarkF p.t || decide (p.t = paper.getD at_.toNat default)) &&
 (first || (decide (last < at_) && (p.l || decide (at_ = last + 1)) && ((paper.take at_.toNat).drop (last + 1).toNat).all fun s=>!memT s kept))
def lastN (places:List Int) (n:Nat):Int:=if n = 0 then -1 else places.getD (n - 1) 0
def proveF (paper q kept:List ByteArray) (places:List Int):Bool :=
 quoteOk paper q kept && decide (0 < (pcsF q).length) && decide (places.length = (pcsF q).length) &&
 (List.range places.length).all fun n=>mayF paper kept ((pcsF q).getD n default) (decide (n = 0)) (lastN places n) (places.getD n 0)
/-! ### Steps that only take away -/
def cutS (x:Sp):Sp:={ x with put:=[] }
def cutsF (l:List Sp):List Sp:=(l.filter fun x=>decide (x.u≠0∨0 < x.c)).map cutS
def OrigI (d:Dr) (S:Sh):Prop:=S.its.map It.key = (beginIts d.ws d.ws.length).map It.key
theorem orig_m {d:Dr} {S:Sh} (h:OrigI d S):∀ y∈S.its,y.m = 0:=fun y hy=>by
 have h1:y.key∈S.its.map It.key:=List.mem_map.2 ⟨y,hy,rfl⟩
 rw [h] at h1
 obtain ⟨z,hz,e⟩:=List.mem_map.1 h1
 rw [← key_m e]
 simp only [beginIts,List.mem_map] at hz
 obtain ⟨i,_,rfl⟩:=hz
 rfl
theorem orig_step {d:Dr} {S S':Sh} {x:Sp} (hx:x.put = []) (hp:PosL S) (h:OrigI d S) (hs:stepF d S x = some S'):OrigI d S':=by
 unfold stepF at hs
 split at hs
 ·unfold changeF at hs
  split at hs
  ·cases hs
   show (insF _ _ (putF _ x.put)).map It.key = _
   rw [hx]
   show (insF (goneF S.its _ _) _ []).map It.key = _
   rw [insF,List.append_nil,List.take_append_drop,goneF_key]
   exact h
  ·cases hs
 ·unfold undoF at hs
  split at hs
  ·rename_i hu
   cases hs
   have hn:x.u∈S.live:=by
    simp only [undoableF,Bool.and_eq_true,decide_eq_true_eq] at hu
    exact hu.1
   have h1:=hp.2 _ hn
   show ((S.its.filter fun y=>y.m != x.u).map (backF x.u)).map It.key = _
   rw [List.filter_eq_self.2 (fun y hy=>by rw [orig_m h y hy];simp;omega),List.map_map]
   rw [show (It.key ∘ backF x.u) = It.key from funext fun y=>backF_key x.u y]
   exact h
  ·cases hs
theorem orig_play {d:Dr}:∀ {steps:List Sp} {S S':Sh} {i:Nat},(∀ x∈steps,x.put = [])→PosL S→OrigI d S→playF d S steps i = .inr S'→OrigI d S'
 | [],S,S',i,_,_,h,e=>by cases e;exact h
 | x :: r,S,S',i,hx,hp,h,e=>by
  simp only [playF] at e
  split at e
  ·rename_i S1 hs
   exact orig_play (fun y hy=>hx y (List.mem_cons_of_mem _ hy)) (posL_step hp hs) (orig_step (hx x (List.mem_cons_self ..)) hp h hs) e
  ·cases e
def visI (S:Sh):List Nat:=placesF S.its
theorem orig_at {d:Dr} {S:Sh} (h:OrigI d S) {i:Nat} (hi:i < S.its.length):i < d.ws.length∧(S.its.getD i default).vi = ⟨(d.ws.getD i default).t,(i:Int),0⟩:=by
 have hl:S.its.length = d.ws.length:=by simpa [beginIts] using congrArg List.length h
 refine ⟨by omega, ?_⟩
 have h1:(S.its.map It.key)[i]? = ((beginIts d.ws d.ws.length).map It.key)[i]?:=by rw [h]
 rw [List.getElem?_map,List.getElem?_map,List.getElem?_eq_getElem hi] at h1
 simp only [beginIts,List.getElem?_map,List.getElem?_range (show i < d.ws.length by omega),Option.map_some,Option.some.injEq,It.key,Prod.mk.injEq] at h1
 have e:S.its.getD i default = S.its[i]:=by simp [hi]
 rw [e]
 obtain ⟨e1,e2,e3⟩:=h1
 simp only [It.vi,Vi.mk.injEq]
 exact ⟨e1,e2,e3⟩
theorem orig_shown {d:Dr} {S:Sh} (h:OrigI d S):shownF S = (visI S).map fun (i:Nat)=>(⟨(d.ws.getD i default).t,(i:Int),0⟩:Vi):=by
 unfold shownF visI
 refine List.map_congr_left fun i hi=>?_
 exact (orig_at h (placesN_lt hi)).2
theorem vis_lt {d:Dr} {S:Sh} (h:OrigI d S):∀ i∈visI S,i < d.ws.length:=fun i hi=>(orig_at h (placesN_lt hi)).1
theorem vis_incr (S:Sh):(visI S).Pairwise (· < ·):=placesF_lt _
theorem vis_kept {d:Dr} {S:Sh} (h:OrigI d S) (hk:KeptI d S) {i:Nat} (hi:i < d.ws.length) (hik:(i:Int)∈d.ks):i∈visI S:=by
 have hl:S.its.length = d.ws.length:=by simpa [beginIts] using congrArg List.length h
 have hi2:i < S.its.length:=by omega
 have h1:=(orig_at h hi2).2
 have hy:S.its.getD i default∈S.its:=by
  have e:S.its.getD i default = S.its[i]:=by simp [hi2]
  rw [e];exact List.getElem_mem hi2
 have ho:(S.its.getD i default).o = (i:Int):=congrArg (fun v:Vi=>v.o) h1
 have hg:=((hk _ hik).2 _ hy ho).1
 exact List.mem_filter.2 ⟨List.mem_range.2 hi2,by simpa using hg⟩
/-! ### The quotation of what is visible -/
def quotN (ws:List Wo):List Nat→Int→Bool→List ByteArray
 | [],_,_=>[]
 | i :: r,last,f=>(if last + 1 < (i:Int)∧f = false then [gapT] else [])++(ws.getD i default).t :: quotN ws r (i:Int) false
def looseN:List Nat→Int→Bool→List Bool
 | [],_,_=>[]
 | i :: r,last,f=>(f || decide (last + 1 < (i:Int))) :: looseN r (i:Int) false
theorem quot_pcs {ws:List Wo}:∀ {V:List Nat} {last:Int} {f:Bool},(∀ i∈V,(ws.getD i default).t≠gapT)→pcsN (quotN ws V last f) false f = (V.zip (looseN V last f)).map fun p=>(⟨(ws.getD p.1 default).t,p.2⟩:Pc)
 | [],last,f,_=>rfl
 | i :: r,last,f,h=>by
  have hi:=h i (List.mem_cons_self ..)
  have hr:=quot_pcs (ws:=ws) (V:=r) (last:=(i:Int)) (f:=false) fun k hk=>h k (List.mem_cons_of_mem _ hk)
  unfold quotN looseN
  by_cases hg:last + 1 < (i:Int)∧f = false
  ·rw [if_pos hg]
   obtain ⟨h1,rfl⟩:=hg
   simp only [List.singleton_append,pcsN,if_true,if_neg hi,List.zip_cons_cons,List.map_cons]
   rw [hr]
   simp [h1]
  ·rw [if_neg hg]
   simp only [List.nil_append,pcsN,if_neg hi,List.zip_cons_cons,List.map_cons,Bool.false_or]
   rw [hr]
   congr 2
   cases f with
   | true=>rfl
   | false=>simp at hg;simp;omega
theorem loose_len:∀ (V:List Nat) (last:Int) (f:Bool),(looseN V last f).length = V.length
 | [],_,_=>rfl
 | i :: r,last,f=>by simp [looseN,loose_len r]
theorem loose_at:∀ {V:List Nat} {last:Int} {f:Bool} {n:Nat},n < V.length→(looseN V last f).getD n false = if n = 0 then (f || decide (last + 1 < (V.getD 0 0:Nat))) else decide (((V.getD (n - 1) 0:Nat):Int) + 1 < (V.getD n 0:Nat))
 | [],_,_,n,h=>absurd h (by simp)
 | i :: r,last,f,0,h=>by simp [looseN]
 | i :: r,last,f,n + 1,h=>by
  have hn:n < r.length:=by simpa using h
  show (looseN r (i:Int) false).getD n false = _
  rw [loose_at hn]
  cases n with
  | zero=>simp
  | succ n=>simp
end Go.Proofs.Ytefnikpoimaiiaa

namespace Go.Proofs.Ytefnikpoimaiiaa
open Go.Pal Go.RowKit
set_option maxRecDepth 100000
theorem incr_gap {V:List Nat} (h:V.Pairwise (· < ·)) {n:Nat} (h0:0 < n) (hn:n < V.length):V.getD (n - 1) 0 < V.getD n 0∧∀ j,V.getD (n - 1) 0 < j→j < V.getD n 0→j ∉ V:=by
 have e1:V.getD (n - 1) 0 = V[n - 1]'(by omega):=by simp [show n - 1 < V.length by omega]
 have e2:V.getD n 0 = V[n]:=by simp [hn]
 rw [e1,e2]
 have hp:=List.pairwise_iff_getElem.1 h
 refine ⟨hp _ _ _ _ (by omega),fun j h1 h2 hj=>?_⟩
 obtain ⟨k,hk,rfl⟩:=List.mem_iff_getElem.1 hj
 rcases Nat.lt_trichotomy k (n - 1) with h3 | h3 | h3
 ·have:=hp k (n - 1) hk (by omega) h3;omega
 ·subst h3;omega
 ·rcases Nat.lt_or_ge k n with h4 | h4
  ·omega
  ·rcases Nat.lt_or_eq_of_le h4 with h5 | h5
   ·have:=hp n k hn hk h5;omega
   ·subst h5;omega
theorem quot_text {ws:List Wo} (hw:∀ w∈ws,textF w.t = true):∀ {V:List Nat} {last:Int} {f:Bool},(∀ i∈V,i < ws.length)→(quotN ws V last f).all textF = true
 | [],_,_,_=>rfl
 | i :: r,last,f,h=>by
  have hi:=h i (List.mem_cons_self ..)
  have hr:=quot_text hw (V:=r) (last:=(i:Int)) (f:=false) fun k hk=>h k (List.mem_cons_of_mem _ hk)
  have e:ws.getD i default = ws[i]:=by simp [hi]
  have ht:=hw _ (List.getElem_mem hi)
  unfold quotN
  rw [List.all_append,List.all_cons,hr,e,ht]
  split
  ·decide +kernel
  ·rfl
theorem words_text {d:Dr} (hv:validF d = true):∀ w∈d.ws,textF w.t = true:=fun w hw=>by
 obtain ⟨i,hi,rfl⟩:=List.mem_iff_getElem.1 hw
 simp only [validF,Bool.and_eq_true,decide_eq_true_eq,List.all_eq_true] at hv
 have h:=hv.1.2 i (by simpa using hi)
 have e:d.ws.getD i default = d.ws[i]:=by simp [hi]
 simp only [woOk,e,Bool.and_eq_true] at h
 exact h.1.1
def paperF (d:Dr):List ByteArray:=d.ws.map (·.t)
theorem paper_at {d:Dr} {i:Nat} (h:i < d.ws.length):(paperF d).getD i default = (d.ws.getD i default).t:=by simp [paperF,h]
theorem prove_vis {d:Dr} {S:Sh} (hO:OrigI d S) (hv:validF d = true) (hgap:∀ w∈d.ws,w.t≠gapT) {kept:List ByteArray} (hkl:kept.length≤20) (hkt:kept.all textF = true)
  (hk:∀ i < d.ws.length,(d.ws.getD i default).t∈kept→i∈visI S) (h1:1≤d.ws.length) (hq1:1≤(quotN d.ws (visI S) (-1) true).length) (hq2:(quotN d.ws (visI S) (-1) true).length≤80) :
  proveF (paperF d) (quotN d.ws (visI S) (-1) true) kept ((visI S).map fun (i:Nat)=>(i:Int)) = true:=by
 have hvl:=vis_lt hO
 have hvi:=vis_incr S
 have h60:=valid_ws hv
 have hwt:=words_text hv
 generalize visI S = V at *
 have hg2:∀ i∈V,(d.ws.getD i default).t≠gapT:=fun i hi=>by
  have h:=hvl i hi
  have e:d.ws.getD i default = d.ws[i]:=by simp [h]
  rw [e];exact hgap _ (List.getElem_mem h)
 have hpc:pcsF (quotN d.ws V (-1) true) = (V.zip (looseN V (-1) true)).map fun p=>(⟨(d.ws.getD p.1 default).t,p.2⟩:Pc):=quot_pcs hg2
 have hpl:(pcsF (quotN d.ws V (-1) true)).length = V.length:=by rw [hpc,List.length_map,List.length_zip,loose_len,Nat.min_self]
 have hV:0 < V.length:=by
  cases V with
  | nil=>simp [quotN] at hq1
  | cons=>simp
 have hpt:(paperF d).length = d.ws.length:=by simp [paperF]
 have hpx:(paperF d).all textF = true:=by
  rw [paperF,List.all_map,List.all_eq_true]
  exact fun w hw=>hwt w hw
 have hqx:=quot_text hwt (last:=-1) (f:=true) hvl
 have hok:quoteOk (paperF d) (quotN d.ws V (-1) true) kept = true:=by
  simp only [quoteOk,Bool.and_eq_true,decide_eq_true_eq,inF]
  exact ⟨⟨⟨⟨⟨by rw [hpt];omega,by omega⟩,hkl⟩,hpx⟩,hqx⟩,hkt⟩
 simp only [proveF,Bool.and_eq_true,decide_eq_true_eq,hok,hpl,List.length_map,true_and]
 refine ⟨⟨hV,trivial⟩,range_all.2 fun n hn=>?_⟩
 have hpn:(pcsF (quotN d.ws V (-1) true)).getD n default = ⟨(d.ws.getD (V.getD n 0) default).t,(looseN V (-1) true).getD n false⟩:=by
  have hl:n < (looseN V (-1) true).length:=by rw [loose_len];exact hn
  have hz:n < (V.zip (looseN V (-1) true)).length:=by rw [List.length_zip];omega
  rw [hpc,List.getD_eq_getElem?_getD,List.getElem?_map,List.getElem?_eq_getElem hz,List.getElem_zip,List.getD_eq_getElem?_getD (l:=V),List.getElem?_eq_getElem hn,List.getD_eq_getElem?_getD (l:=looseN V (-1) true),List.getElem?_eq_getElem hl]
  rfl
 have hin:V.getD n 0∈V:=by
  have e:V.getD n 0 = V[n]:=by simp [hn]
  rw [e];exact List.getElem_mem hn
 have hlt:=hvl _ hin
 have hpg:(V.map fun (i:Nat)=>(i:Int)).getD n 0 = ((V.getD n 0:Nat):Int):=by simp [hn]
 rw [hpn,hpg]
 have hte:=paper_at hlt
 simp only [mayF,Bool.and_eq_true,Int.toNat_natCast,hte,decide_true,Bool.or_true,and_true,inF,decide_eq_true_eq,Bool.or_eq_true,hpt]
 refine ⟨by omega, ?_⟩
 by_cases h0:n = 0
 ·exact .inl h0
 ·refine .inr ⟨?_, ?_⟩
  ·have hlast:lastN (V.map fun (i:Nat)=>(i:Int)) n = ((V.getD (n - 1) 0:Nat):Int):=by
    rw [lastN,if_neg h0];simp [show n - 1 < V.length by omega]
   obtain ⟨g1,g2⟩:=incr_gap hvi (by omega) hn
   rw [hlast,loose_at hn,if_neg h0]
   refine ⟨by omega, ?_⟩
   by_cases hc:((V.getD (n - 1) 0:Nat):Int) + 1 < (V.getD n 0:Nat)
   ·exact .inl (decide_eq_true hc)
   ·exact .inr (by omega)
  ·have hlast:lastN (V.map fun (i:Nat)=>(i:Int)) n = ((V.getD (n - 1) 0:Nat):Int):=by
    rw [lastN,if_neg h0];simp [show n - 1 < V.length by omega]
   obtain ⟨g1,g2⟩:=incr_gap hvi (by omega) hn
   rw [hlast,List.all_eq_true]
   intro s hs
   rw [show (((V.getD (n - 1) 0:Nat):Int) + 1).toNat = V.getD (n - 1) 0 + 1 by omega] at hs
   obtain ⟨k,hk1,rfl⟩:=List.mem_iff_getElem.1 hs
   have hk2:V.getD (n - 1) 0 + 1 + k < V.getD n 0:=by
    rw [List.length_drop,List.length_take] at hk1;omega
   have e:((paperF d).take (V.getD n 0)).drop (V.getD (n - 1) 0 + 1) = ((paperF d).take (V.getD n 0)).drop (V.getD (n - 1) 0 + 1):=rfl
   rw [List.getElem_drop,List.getElem_take]
   have hj:V.getD (n - 1) 0 + 1 + k < d.ws.length:=by omega
   have e2:(paperF d)[V.getD (n - 1) 0 + 1 + k]'(by rw [hpt];exact hj) = (d.ws.getD (V.getD (n - 1) 0 + 1 + k) default).t:=by
    have e3:d.ws.getD (V.getD (n - 1) 0 + 1 + k) default = d.ws[V.getD (n - 1) 0 + 1 + k]:=by rw [List.getD_eq_getElem?_getD,List.getElem?_eq_getElem hj];rfl
    rw [e3];simp only [paperF,List.getElem_map]
   rw [e2]
   cases hd:memT (d.ws.getD (V.getD (n - 1) 0 + 1 + k) default).t kept with
   | false=>rfl
   | true =>
    obtain ⟨x,hx,e3⟩:=List.any_eq_true.1 hd
    have e4:x = _:=of_decide_eq_true e3
    exact absurd (hk _ hj (e4 ▸ hx)) (g2 _ (by omega) hk2)
end Go.Proofs.Ytefnikpoimaiiaa

namespace Go.Proofs.Ytefnikpoimaiiaa
open Go.Pal Go.RowKit
set_option maxRecDepth 100000
theorem cloQ160 {l:List Int} {gf:FuncId} {fs cp:Array Value} {J:Nat→Hp→Hp→Prop} {F:Nat→Prop} {bs:Nat→Bool} (hJ:Judge Try.prog (.func (.func gf) fs cp) (fun n=>U n) l J F bs true) {b:Nat} (hb:¬ F b):Judge Try.prog (.func (.func 160) #[] #[ptr b]) (fun n=>U n) l (fun i p G=>J i p G∧p b = some (.cells #[.func (.func gf) fs cp] 244 (0,0))) F (fun i=>!(bs i)) false:=by
 refine ⟨fun i hi hpr=>SoundFn.of bodyQ160 ?_,fun i p p' G hp h=>⟨hJ.up i p p' G hp h.1,hp _ _ h.2⟩,fun i p G G' hg h=>⟨hJ.mono i p G G' hg h.1,h.2⟩,fun i p G k h hk=>hJ.has i p G k h.1 hk⟩
 have hcall:=hJ.call i hi (fun j hj=>by simpa using hpr j hj)
 refine compQ160.hp (Tab.nil _) (fun args p G h=>?_) (fun args p v p' G G' hg h=>⟨h.1,⟨hJ.mono _ _ _ _ hg h.2.1.1,h.2.1.2⟩,h.2.2⟩) (fun args p G h=>?_)
 ·obtain ⟨rfl,_⟩:=h;simp
 ·obtain ⟨rfl,hj,hbx⟩:=h
  generalize l[i] = x at hcall
  (conv=>whnf)
  refine RdhP.h (ds:=[.func (.func gf) fs cp]) hbx rfl (W.mk ?_)
  (conv=>whnf)
  refine CallvP.fn _ hcall (W.mk ?_)
  (conv=>whnf)
  refine HpcP.mk ⟨rfl,hj⟩ (fun v p' G2 hg2 hq=>W.mk ?_)
  obtain ⟨rfl,hj2,hk2⟩:=hq
  dsimp only
  (conv=>whnf)
  refine ForkP.mk (fun he=>W.mk ?_) (fun he=>W.mk ?_)<;>(conv=>whnf)<;>refine NmP.mk ⟨[],W.mk ?_⟩<;>(conv=>whnf)<;>refine FinHp.of rfl ⟨?_,⟨hj2,hk2 _ _ hb hbx⟩,hk2⟩<;>rw [he]<;>rfl
theorem allQ121 {l:List Int} {gf:FuncId} {fs cp:Array Value} {J:Nat→Hp→Hp→Prop} {F:Nat→Prop} {bs:Nat→Bool} (hJ:Judge Try.prog (.func (.func gf) fs cp) (fun n=>U n) l J F bs true):Sound Try.prog 121 id (allS u8E l (.func (.func gf) fs cp) J F bs):=by
 refine compQ121.hp (Tab.nil _) (fun args p G h=>?_) (fun args p v p' G G' hg h=>⟨allQ_mono hJ.mono hg h.1,h.2⟩) (fun args p G h=>?_)
 ·obtain ⟨v,rfl,_⟩:=h;simp
 ·obtain ⟨v,rfl,hsl,hj⟩:=h
  obtain ⟨a,n,c,rfl,_⟩:=hsl.shape
  (conv=>whnf)
  refine NewP.mk (fun b hb=>W.mk ?_)
  (conv=>whnf)
  have hF:¬ F b:=fun h=>by obtain ⟨o,e⟩:=hJ.has 0 p G b hj h;rw [hb] at e;cases e
  have hup:∀ k o,p k = some o→upd p b (some (.cells #[Value.func (.func gf) fs cp] 244 (0,0))) k = some o:=fun k o e=>by
   rw [upd_other _ _ (fun h=>by rw [h,hb] at e;cases e)];exact e
  refine CallH.mk _ (con114 (cloQ160 hJ hF)) body114 (W.mk ?_)
  (conv=>whnf)
  refine HpcP.mk ⟨_,rfl,hsl.up hup,hJ.up 0 _ _ _ hup hj,upd_same _ _ _⟩ (fun v p' G2 hg2 hq=>W.mk ?_)
  obtain ⟨hq,hk⟩:=hq
  have hk2:KeepHp F p p':=fun k o h1 h2=>hk k o h1 (hup k o h2)
  rcases hq with ⟨rfl,hf,hj2,_⟩ | ⟨i,hi,rfl,hbi,hf,hj2,_⟩
  ·dsimp only
   (conv=>whnf)
   refine ForkP.mk (fun h=>by cases h) (fun _=>W.mk ?_)
   (conv=>whnf)
   refine NmP.mk ⟨[],W.mk ?_⟩
   (conv=>whnf)
   exact FinHp.of rfl ⟨.inl ⟨rfl,fun i hi=>by simpa using hf i hi,hj2⟩,hk2⟩
  ·dsimp only
   (conv=>whnf)
   refine ForkP.mk (fun _=>W.mk ?_) (fun h=>by cases h)
   (conv=>whnf)
   refine NmP.mk ⟨[],W.mk ?_⟩
   (conv=>whnf)
   exact FinHp.of rfl ⟨.inr ⟨rfl,i,hi,by simpa using hbi,fun j hj=>by simpa using hf j hj,hj2⟩,hk2⟩
theorem cloQ124 {l:List ByteArray} {gf:FuncId} {fs cp:Array Value} {J:Nat→Hp→Hp→Prop} {F:Nat→Prop} {bs:Nat→Bool} (hJ:Judge Try.prog (.func (.func gf) fs cp) (fun s=>.string s) l J F bs true) {b:Nat} (hb:¬ F b):Judge Try.prog (.func (.func 124) #[] #[ptr b]) (fun s=>.string s) l (fun i p G=>J i p G∧p b = some (.cells #[.func (.func gf) fs cp] 69 (0,0))) F (fun i=>!(bs i)) false:=by
 refine ⟨fun i hi hpr=>SoundFn.of bodyQ124 ?_,fun i p p' G hp h=>⟨hJ.up i p p' G hp h.1,hp _ _ h.2⟩,fun i p G G' hg h=>⟨hJ.mono i p G G' hg h.1,h.2⟩,fun i p G k h hk=>hJ.has i p G k h.1 hk⟩
 have hcall:=hJ.call i hi (fun j hj=>by simpa using hpr j hj)
 refine compQ124.hp (Tab.nil _) (fun args p G h=>?_) (fun args p v p' G G' hg h=>⟨h.1,⟨hJ.mono _ _ _ _ hg h.2.1.1,h.2.1.2⟩,h.2.2⟩) (fun args p G h=>?_)
 ·obtain ⟨rfl,_⟩:=h;simp
 ·obtain ⟨rfl,hj,hbx⟩:=h
  generalize l[i] = x at hcall
  (conv=>whnf)
  refine RdhP.h (ds:=[.func (.func gf) fs cp]) hbx rfl (W.mk ?_)
  (conv=>whnf)
  refine CallvP.fn _ hcall (W.mk ?_)
  (conv=>whnf)
  refine HpcP.mk ⟨rfl,hj⟩ (fun v p' G2 hg2 hq=>W.mk ?_)
  obtain ⟨rfl,hj2,hk2⟩:=hq
  dsimp only
  (conv=>whnf)
  refine ForkP.mk (fun he=>W.mk ?_) (fun he=>W.mk ?_)<;>(conv=>whnf)<;>refine NmP.mk ⟨[],W.mk ?_⟩<;>(conv=>whnf)<;>refine FinHp.of rfl ⟨?_,⟨hj2,hk2 _ _ hb hbx⟩,hk2⟩<;>rw [he]<;>rfl
theorem allQ84 {l:List ByteArray} {gf:FuncId} {fs cp:Array Value} {J:Nat→Hp→Hp→Prop} {F:Nat→Prop} {bs:Nat→Bool} (hJ:Judge Try.prog (.func (.func gf) fs cp) (fun s=>.string s) l J F bs true):Sound Try.prog 84 id (allS strE l (.func (.func gf) fs cp) J F bs):=by
 refine compQ84.hp (Tab.nil _) (fun args p G h=>?_) (fun args p v p' G G' hg h=>⟨allQ_mono hJ.mono hg h.1,h.2⟩) (fun args p G h=>?_)
 ·obtain ⟨v,rfl,_⟩:=h;simp
 ·obtain ⟨v,rfl,hsl,hj⟩:=h
  obtain ⟨a,n,c,rfl,_⟩:=hsl.shape
  (conv=>whnf)
  refine NewP.mk (fun b hb=>W.mk ?_)
  (conv=>whnf)
  have hF:¬ F b:=fun h=>by obtain ⟨o,e⟩:=hJ.has 0 p G b hj h;rw [hb] at e;cases e
  have hup:∀ k o,p k = some o→upd p b (some (.cells #[Value.func (.func gf) fs cp] 69 (0,0))) k = some o:=fun k o e=>by
   rw [upd_other _ _ (fun h=>by rw [h,hb] at e;cases e)];exact e
  refine CallH.mk _ (con107 (cloQ124 hJ hF)) body107 (W.mk ?_)
  (conv=>whnf)
  refine HpcP.mk ⟨_,rfl,hsl.up hup,hJ.up 0 _ _ _ hup hj,upd_same _ _ _⟩ (fun v p' G2 hg2 hq=>W.mk ?_)
  obtain ⟨hq,hk⟩:=hq
  have hk2:KeepHp F p p':=fun k o h1 h2=>hk k o h1 (hup k o h2)
  rcases hq with ⟨rfl,hf,hj2,_⟩ | ⟨i,hi,rfl,hbi,hf,hj2,_⟩
  ·dsimp only
   (conv=>whnf)
   refine ForkP.mk (fun h=>by cases h) (fun _=>W.mk ?_)
   (conv=>whnf)
   refine NmP.mk ⟨[],W.mk ?_⟩
   (conv=>whnf)
   exact FinHp.of rfl ⟨.inl ⟨rfl,fun i hi=>by simpa using hf i hi,hj2⟩,hk2⟩
  ·dsimp only
   (conv=>whnf)
   refine ForkP.mk (fun _=>W.mk ?_) (fun h=>by cases h)
   (conv=>whnf)
   refine NmP.mk ⟨[],W.mk ?_⟩
   (conv=>whnf)
   exact FinHp.of rfl ⟨.inr ⟨rfl,i,hi,by simpa using hbi,fun j hj=>by simpa using hf j hj,hj2⟩,hk2⟩
theorem pur_eqT (a b:ByteArray):∀ w,((POp.bin .eql 9).sem [.string a, .string b]).run Try.prog w = .ok (.bool (decide (a = b))) w:=fun w=>by
 have e1:(POp.bin .eql 9).sem [.string a, .string b] = (do eqGuard .eql 9 (.tmp 0) (.tmp 0) (.string a) (.string b);binOp .eql 9 (.string a) (.string b)):=rfl
 have e2:(a.toList == b.toList) = decide (a = b):=by
  rw [Bool.eq_iff_iff]
  simp only [ByteArray.toList_eq,beq_iff_eq,decide_eq_true_eq]
  exact ⟨fun h=>by cases a;cases b;simp [Array.toList_inj] at h;rw [h],fun h=>by rw [h]⟩
 rw [e1,eqGuard_at_string,binOp_string_eql,e2]
 rfl
theorem gap20:Sound Try.prog 20 id (gsca (args1 strRd fun _=>True) fun s v=>v = .bool (decide (s = gapT))):=by
 refine compQ20.gsca (Tab.nil _) (fun args G s h=>?_) (fun args G s h=>?_)
 ·obtain ⟨v,rfl,_⟩:=h;simp
 ·obtain ⟨v,rfl,rfl,_⟩:=h
  (conv=>whnf)
  refine PurP.of _ (pur_eqT s gapT) (W.mk ?_)
  (conv=>whnf)
  refine ForkP.mk (fun h=>W.mk ?_) (fun h=>W.mk ?_)<;>(conv=>whnf)<;>exact FinP.mk (congrArg Value.bool h.symm)
theorem remark21:Sound Try.prog 21 id (gsca (args1 strRd fun s=>s.size≤1000000) fun s v=>v = .bool (remarkF s)):=by
 refine compQ21.gsca (Tab.nil _) (fun args G s h=>?_) (fun args G s h=>?_)
 ·obtain ⟨v,rfl,_⟩:=h;simp
 ·obtain ⟨v,rfl,rfl,hs⟩:=h
  (conv=>whnf)
  refine IteP.mk (fun h3=>W.mk ?_) (fun h3=>W.mk ?_)<;>(conv=>whnf)
  ·have h3:3≤s.size:=by omega
   refine PurP.of _ (idx9 s 0 (by omega)) (W.mk ?_)
   (conv=>whnf)
   refine IteP.mk (fun h4=>W.mk ?_) (fun h4=>W.mk ?_)<;>(conv=>whnf)
   ·repeat' (refine ob ?_ ?_;(first | trivial | omega | (simp only [inR];omega) | exact ble (by rfl) | exact SlR.some ‹_› (by omega));(conv=>whnf))
    have hx:=idx9 s (s.size - 1) (by omega)
    rw [show ((s.size - 1:Nat):Int) = (s.size:Int) - 1 by omega] at hx
    refine PurP.of _ hx (W.mk ?_)
    (conv=>whnf)
    refine IteP.mk (fun h5=>W.mk ?_) (fun h5=>W.mk ?_)<;>(conv=>whnf)<;>refine FinP.mk (congrArg Value.bool ?_)<;>simp [remarkF,h3,h4,h5]
   ·refine FinP.mk (congrArg Value.bool ?_)
    simp [remarkF,h4]
  ·refine FinP.mk (congrArg Value.bool ?_)
   rw [remarkF,decide_eq_false (by omega)];rfl
theorem remark85:Sound Try.prog 85 id (gsca (args1 strRd fun s=>s.size≤1000000) fun s v=>v = .bool (remarkF s)):=by
 refine compQ85.gsca (Tab.nil _) (fun args G s h=>?_) (fun args G s h=>?_)
 ·obtain ⟨v,rfl,_⟩:=h;simp
 ·obtain ⟨v,rfl,rfl,hs⟩:=h
  (conv=>whnf)
  refine IteP.mk (fun h3=>W.mk ?_) (fun h3=>W.mk ?_)<;>(conv=>whnf)
  ·have h3:3≤s.size:=by omega
   refine PurP.of _ (idx9 s 0 (by omega)) (W.mk ?_)
   (conv=>whnf)
   refine IteP.mk (fun h4=>W.mk ?_) (fun h4=>W.mk ?_)<;>(conv=>whnf)
   ·repeat' (refine ob ?_ ?_;(first | trivial | omega | (simp only [inR];omega) | exact ble (by rfl) | exact SlR.some ‹_› (by omega));(conv=>whnf))
    have hx:=idx9 s (s.size - 1) (by omega)
    rw [show ((s.size - 1:Nat):Int) = (s.size:Int) - 1 by omega] at hx
    refine PurP.of _ hx (W.mk ?_)
    (conv=>whnf)
    refine IteP.mk (fun h5=>W.mk ?_) (fun h5=>W.mk ?_)<;>(conv=>whnf)<;>refine FinP.mk (congrArg Value.bool ?_)<;>simp [remarkF,h3,h4,h5]
   ·refine FinP.mk (congrArg Value.bool ?_)
    simp [remarkF,h4]
  ·refine FinP.mk (congrArg Value.bool ?_)
   rw [remarkF,decide_eq_false (by omega)];rfl
end Go.Proofs.Ytefnikpoimaiiaa

namespace Go.Proofs.Ytefnikpoimaiiaa
open Go.Pal Go.RowKit
set_option maxRecDepth 100000
theorem within83:Sound Try.prog 83 id inS:=by
 refine compQ83.fn (Tab.nil _) (fun args G h=>?_) (fun args G h=>?_)
 ·obtain ⟨n,lo,hi,rfl⟩:=h;simp
 ·obtain ⟨n,lo,hi,rfl⟩:=h
  (conv=>whnf)
  repeat' (first | (refine IteP.mk (fun _=>W.mk ?_) (fun _=>W.mk ?_)<;>(conv=>whnf)) | (refine ob ?_ ?_;(first | trivial | omega | (simp only [inR];omega) | exact ble (by rfl) | exact SlR.some ‹_› (by omega));(conv=>whnf)) | (refine ForkP.mk (fun _=>W.mk ?_) (fun _=>W.mk ?_)<;>(conv=>whnf)) | (refine ra ‹_› (by rfl) ?_;(conv=>whnf)) | (refine rb ‹_› (by rfl) ?_;(conv=>whnf)) | (refine rc ‹_› (by rfl) ?_;(conv=>whnf)) | (refine rd ‹_› (by rfl) ?_;(conv=>whnf)) | (refine FinP.mk ?_))
  all_goals (refine congrArg Value.bool ?_;simp [inF, *])
theorem j122 (l:List Int) (b:Nat):Judge Try.prog (.func (.func 122) #[] #[ptr b]) (fun n=>U n) l (fun _ p _=>p b = some (.cells #[U 33] 5 (0,0))) (fun _=>False) (fun i=>byteF (l.getD i 0)) true:=by
 refine ⟨fun i hi _=>SoundFn.of bodyQ122 ?_,fun i p p' G hp h=>hp _ _ h,fun i p G G' _ h=>h,fun i p G k h hk=>hk.elim⟩
 refine compQ122.hp (Tab.nil _) (fun args p G h=>?_) (fun args p v p' G G' hg h=>h) (fun args p G h=>?_)
 ·obtain ⟨rfl,_⟩:=h;simp
 ·obtain ⟨rfl,hj⟩:=h
  have e:l.getD i 0 = l[i]:=by simp [hi]
  rw [e]
  generalize l[i] = x
  (conv=>whnf)
  refine RdhP.h (ds:=[U 33]) hj rfl (W.mk ?_)
  (conv=>whnf)
  refine IteP.mk (fun h1=>W.mk ?_) (fun h1=>W.mk ?_)<;>(conv=>whnf)
  ·refine IteP.mk (fun h2=>W.mk ?_) (fun h2=>W.mk ?_)<;>(conv=>whnf)
   ·refine NmP.mk ⟨[],W.mk ?_⟩
    (conv=>whnf)
    refine FinHp.of rfl ⟨congrArg Value.bool ?_,(And.intro hj KeepHp.refl)⟩
    simp [byteF,h1,h2]
   ·refine NmP.mk ⟨[],W.mk ?_⟩
    (conv=>whnf)
    refine FinHp.of rfl ⟨congrArg Value.bool ?_,(And.intro hj KeepHp.refl)⟩
    simp [byteF,h2]
  ·refine NmP.mk ⟨[],W.mk ?_⟩
   (conv=>whnf)
   refine FinHp.of rfl ⟨congrArg Value.bool ?_,(And.intro hj KeepHp.refl)⟩
   simp [byteF,h1]
theorem text82 (s:ByteArray):Sound Try.prog 82 id (pureS (fun args _=>args = [.string s,U 33]) (.bool (textF s))):=by
 refine compQ82.hp (Tab.nil _) (fun args p G h=>?_) (fun args p v p' G G' hg h=>h) (fun args p G h=>?_)
 ·subst h;simp
 ·subst h
  (conv=>whnf)
  refine CallH.mk _ within83 bodyQ83 (W.mk ?_)
  (conv=>whnf)
  refine OblP.mk ⟨_,_,_,rfl⟩ (W.mk ?_)
  (conv=>whnf)
  refine ForkP.mk (fun h1=>W.mk ?_) (fun h1=>W.mk ?_)<;>(conv=>whnf)
  ·refine RelP.mk trivial (fun v G1 hg1 hq=>W.mk ?_)
   obtain ⟨a,c,rfl,hp1⟩:=hq
   (conv=>whnf)
   refine NewP.mk (fun b hb=>W.mk ?_)
   (conv=>whnf)
   have hup:∀ k o,p k = some o→upd p b (some (.cells #[U 33] 5 (0,0))) k = some o:=fun k o e=>by
    rw [upd_other _ _ (fun h=>by rw [h,hb] at e;cases e)];exact e
   have hs32:s.size≤32:=by simp [inF] at h1;omega
   have hsl:SlV u8E G1 (.slice a s.size c) (bytesF s):=hp1.slV (by rw [bytesF,show u8E.f = fun x=>[U x] from rfl,flat1];simp [U]) (by simp [bytesF]) (by omega)
   refine CallH.mk _ (allQ121 (l:=bytesF s) (j122 (bytesF s) b)) bodyQ121 (W.mk ?_)
   (conv=>whnf)
   refine HpcP.mk ⟨_,rfl, .inl hsl,upd_same _ _ _⟩ (fun v p' G2 hg2 hq=>W.mk ?_)
   obtain ⟨hq,hk⟩:=hq
   have hk2:Keep p p':=fun k o h1 h2=>hk k o h1 (hup k o h2)
   rcases hq with ⟨rfl,hf,_⟩ | ⟨rfl,i,hi,hbi,_⟩
   ·dsimp only
    (conv=>whnf)
    refine ForkP.mk (fun _=>W.mk ?_) (fun h=>by cases h)
    (conv=>whnf)
    refine NmP.mk ⟨[],W.mk ?_⟩
    (conv=>whnf)
    refine FinHp.of rfl ⟨congrArg Value.bool ?_,hk2⟩
    rw [textF,h1,all_t hf];rfl
   ·dsimp only
    (conv=>whnf)
    refine ForkP.mk (fun h=>by cases h) (fun _=>W.mk ?_)
    (conv=>whnf)
    refine NmP.mk ⟨[],W.mk ?_⟩
    (conv=>whnf)
    refine FinHp.of rfl ⟨congrArg Value.bool ?_,hk2⟩
    rw [textF,h1,all_f hi hbi];rfl
  ·refine NewP.mk (fun b hb=>W.mk ?_)
   (conv=>whnf)
   refine NmP.mk ⟨[],W.mk ?_⟩
   (conv=>whnf)
   refine FinHp.of rfl ⟨congrArg Value.bool ?_,(fun k o _ h=>by rw [upd_other _ _ (fun e=>by rw [e,hb] at h;cases h)];exact h)⟩
   rw [textF,h1];rfl
theorem word81 (s:ByteArray):Sound Try.prog 81 id (pureS (fun args _=>args = [.string s]) (.bool (textF s))):=by
 refine compQ81.hp (Tab.nil _) (fun args p G h=>?_) (fun args p v p' G G' hg h=>h) (fun args p G h=>?_)
 ·subst h;simp
 ·subst h
  (conv=>whnf)
  refine CallH.mk _ (text82 s) bodyQ82 (W.mk ?_)
  (conv=>whnf)
  refine HpcP.mk rfl (fun v p1 G1 hg1 hq=>W.mk ?_)
  obtain ⟨rfl,hk1⟩:=hq
  dsimp only
  (conv=>whnf)
  refine ForkP.mk (fun e1=>W.mk ?_) (fun e1=>W.mk ?_)<;>(conv=>whnf)
  ·refine NmP.mk ⟨[],W.mk ?_⟩
   (conv=>whnf)
   refine FinHp.of rfl ⟨congrArg Value.bool ?_,hk1⟩
   exact e1.symm
  ·refine NmP.mk ⟨[],W.mk ?_⟩
   (conv=>whnf)
   refine FinHp.of rfl ⟨congrArg Value.bool ?_,hk1⟩
   exact e1.symm
end Go.Proofs.Ytefnikpoimaiiaa

namespace Go.Proofs.Ytefnikpoimaiiaa
open Go.Pal Go.RowKit
set_option maxRecDepth 100000
def pcE:El Pc:=⟨2,fun x=>[.string x.t, .bool x.l],fun {x y} h=>by cases x;cases y;simp at h;obtain ⟨rfl,rfl⟩:=h;rfl,fun _=>rfl,fun _ v hv=>by simp at hv;rcases hv with rfl | rfl<;>rfl⟩
def QuH (p G:Hp) (b:Nat) (paper kept:List ByteArray) (P:List Pc):Prop:=∃ pv kv qv,p b = some (.cells #[pv,kv,qv] 160 (0,0))∧SlV strE G pv paper∧SlV strE G kv kept∧RowH pcE 205 p qv P
theorem QuH.grow {p G G':Hp} {b:Nat} {paper kept:List ByteArray} {P:List Pc} (hg:Grow G G') (h:QuH p G b paper kept P):QuH p G' b paper kept P:=by
 obtain ⟨pv,kv,qv,h1,h2,h3,h4⟩:=h
 exact ⟨pv,kv,qv,h1,h2.grow hg,h3.grow hg,h4⟩
theorem QuH.up {p p' G:Hp} {b:Nat} {paper kept:List ByteArray} {P:List Pc} (hk:∀ k o,p k = some o→p' k = some o) (h:QuH p G b paper kept P):QuH p' G b paper kept P:=by
 obtain ⟨pv,kv,qv,h1,h2,h3,h4⟩:=h
 exact ⟨pv,kv,qv,hk _ _ h1,h2,h3,h4.mono fun k o _ e=>hk _ _ e⟩
def quoteQ (paper q kept:List ByteArray) (p:Hp) (v:Value) (p' G:Hp):Prop :=
 Keep p p'∧((quoteOk paper q kept = false∧v = .tuple #[.pointer none, .bool false])∨quoteOk paper q kept = true∧∃ b,v = .tuple #[ptr b, .bool (decide (0 < (pcsF q).length))]∧QuH p' G b paper kept (pcsF q))
theorem quoteQ.grow {paper q kept:List ByteArray} {p p' G G':Hp} {v:Value} (hg:Grow G G') (h:quoteQ paper q kept p v p' G):quoteQ paper q kept p v p' G':=⟨h.1,h.2.imp id fun ⟨h1,b,h2,h3⟩=>⟨h1,b,h2,h3.grow hg⟩⟩
theorem judge81 (l:List ByteArray):Judge Try.prog (.func (.func 81) #[] #[]) (fun s=>.string s) l (fun _ _ _=>True) (fun _=>False) (fun i=>textF (l.getD i default)) true:=Judge.pure bodyQ81 (fun s _=>word81 s) default
theorem all84 (l:List ByteArray):Sound Try.prog 84 id (pureS (fun args G=>∃ v,args = [v, .func (.func 81) #[] #[]]∧SlV strE G v l) (.bool (l.all textF))):=by
 refine Sound.hpImp (allQ84 (judge81 l)) (fun args p G _ ⟨v,h1,h2⟩=>⟨v,h1, .inl h2,trivial⟩) (fun args p v p' G ⟨h1,h2⟩=>⟨?_,h2⟩) (fun args p v p' G G' hg h=>h)
 rcases h1 with ⟨rfl,hf,_⟩ | ⟨rfl,i,hi,hbi,_⟩
 ·rw [all_t hf]
 ·rw [all_f hi hbi]
set_option maxHeartbeats 2000000 in
theorem quote54 (paper q kept:List ByteArray):Sound Try.prog 54 id (.hp (fun args p G=>∃ a b c,args = [a,b,c]∧SlV strE G a paper∧SlV strE G b q∧SlV strE G c kept) fun _ p v p' G=>quoteQ paper q kept p v p' G):=by
 refine compQ54.hp (Tab.nil _) (fun args p G h=>?_) (fun args p v p' G G' hg h=>h.grow hg) (fun args p G h=>?_)
 ·obtain ⟨a,b,c,rfl,_⟩:=h;simp
 ·obtain ⟨_,_,_,rfl,ha,hb,hc⟩:=h
  obtain ⟨aa,an,ac,rfl,hal,_⟩:=id ha
  obtain ⟨ba,bn,bc,rfl,hbl,hbn⟩:=id hb
  obtain ⟨ca,cn,cc,rfl,hcl,_⟩:=id hc
  have h1:=hal.len
  have h2:=hbl.len
  have h3:=hcl.len
  (conv=>whnf)
  refine CallH.mk _ within83 bodyQ83 (W.mk ?_)
  (conv=>whnf)
  refine OblP.mk ⟨_,_,_,rfl⟩ (W.mk ?_)
  (conv=>whnf)
  refine ForkP.mk (fun e1=>W.mk ?_) (fun e1=>W.mk ?_)<;>(conv=>whnf)
  rotate_left
  ·refine NmP.mk ⟨[],W.mk ?_⟩
   (conv=>whnf)
   refine FinHp.of rfl ⟨KeepHp.refl, .inl ⟨?_,rfl⟩⟩
   rw [quoteOk,h1,e1];rfl
  refine CallH.mk _ within83 bodyQ83 (W.mk ?_)
  (conv=>whnf)
  refine OblP.mk ⟨_,_,_,rfl⟩ (W.mk ?_)
  (conv=>whnf)
  refine ForkP.mk (fun e2=>W.mk ?_) (fun e2=>W.mk ?_)<;>(conv=>whnf)
  rotate_left
  ·refine NmP.mk ⟨[],W.mk ?_⟩
   (conv=>whnf)
   refine FinHp.of rfl ⟨KeepHp.refl, .inl ⟨?_,rfl⟩⟩
   rw [quoteOk,h2,e2];simp
  refine IteP.mk (fun e3=>W.mk ?_) (fun e3=>W.mk ?_)<;>(conv=>whnf)
  ·refine NmP.mk ⟨[],W.mk ?_⟩
   (conv=>whnf)
   refine FinHp.of rfl ⟨KeepHp.refl, .inl ⟨?_,rfl⟩⟩
   rw [quoteOk,decide_eq_false (by omega)];simp
  refine CallH.mk _ (all84 paper) bodyQ84 (W.mk ?_)
  (conv=>whnf)
  refine HpcP.mk ⟨_,rfl,ha⟩ (fun v p1 G1 hg1 hq=>W.mk ?_)
  obtain ⟨rfl,k1⟩:=hq
  dsimp only
  (conv=>whnf)
  refine ForkP.mk (fun e4=>W.mk ?_) (fun e4=>W.mk ?_)<;>(conv=>whnf)
  rotate_left
  ·refine NmP.mk ⟨[],W.mk ?_⟩
   (conv=>whnf)
   refine FinHp.of rfl ⟨k1, .inl ⟨?_,rfl⟩⟩
   rw [quoteOk,e4];simp
  refine CallH.mk _ (all84 q) bodyQ84 (W.mk ?_)
  (conv=>whnf)
  refine HpcP.mk ⟨_,rfl,hb.grow hg1⟩ (fun v p2 G2 hg2 hq=>W.mk ?_)
  obtain ⟨rfl,k2⟩:=hq
  dsimp only
  (conv=>whnf)
  refine ForkP.mk (fun e5=>W.mk ?_) (fun e5=>W.mk ?_)<;>(conv=>whnf)
  rotate_left
  ·refine NmP.mk ⟨[],W.mk ?_⟩
   (conv=>whnf)
   refine FinHp.of rfl ⟨(k1.trans k2), .inl ⟨?_,rfl⟩⟩
   rw [quoteOk,e5];simp
  refine CallH.mk _ (all84 kept) bodyQ84 (W.mk ?_)
  (conv=>whnf)
  refine HpcP.mk ⟨_,rfl,hc.grow (hg1.trans hg2)⟩ (fun v p3 G3 hg3 hq=>W.mk ?_)
  obtain ⟨rfl,k3⟩:=hq
  dsimp only
  have k:=k1.trans (k2.trans k3)
  have hG3:=hg1.trans (hg2.trans hg3)
  (conv=>whnf)
  refine ForkP.mk (fun e6=>W.mk ?_) (fun e6=>W.mk ?_)<;>(conv=>whnf)
  rotate_left
  ·refine NmP.mk ⟨[],W.mk ?_⟩
   (conv=>whnf)
   refine FinHp.of rfl ⟨k, .inl ⟨?_,rfl⟩⟩
   rw [quoteOk,e6];simp
  have hok:quoteOk paper q kept = true:=by
   rw [quoteOk,h1,h2,e1,e2,e4,e5,e6,decide_eq_true (by omega)];rfl
  refine LoopP.of { α:=Nat × Hp × Value × Bool × List Pc,fr:=fun x=>[(9, .c (.ptr 1041 0)),(10, .v (.bool x.2.2.2.1)),(50, .v (.slice ba bn bc)),(51, .v (I bn)),(52, .v (I x.1))],H:=fun x=>[(0, .heap x.2.1),(1041, .cells .anon [.val (.slice aa an ac), .val (.slice ca cn cc), .val x.2.2.1] 160)],ok:=fun x _=>x.1≤bn∧Keep p x.2.1∧RowH pcE 205 x.2.1 x.2.2.1 x.2.2.2.2∧(∀ b,blkOf x.2.2.1 = some b→p b = none)∧pcsF q = x.2.2.2.2++pcsN (q.drop x.1) x.2.2.2.1 x.2.2.2.2.isEmpty∧x.2.2.2.2.length≤x.1,m:=fun x=>bn - x.1 }
   (0,p3, .slice none 0 0,false,[]) (HeadP.of [] ⟨rfl,rfl,rfl,rfl,rfl,trivial⟩ ⟨rfl,rfl,trivial⟩) ⟨Nat.zero_le _,k,RowH.nil,fun b h=>(by cases h),rfl,Nat.le_refl _⟩ (fun _=>⟨rfl,rfl⟩) (fun x G4 hg4 hx=>W.mk ?_)
  obtain ⟨i,h,pv,lf,P⟩:=x
  obtain ⟨hi,hkp,hrow,hfr,hpc,hPl⟩:=hx
  dsimp only at hi hkp hrow hfr hpc hPl
  dsimp only
  have hb80:bn≤80:=by simp [inF] at e2;omega
  (conv=>whnf)
  refine IteP.mk (fun hlt=>W.mk ?_) (fun hge=>W.mk ?_)<;>(conv=>whnf)
  ·have hlt2:i < q.length:=by omega
   have hce:=(SlR.grow (G:=G) (G':=G4) (fun _ _ h=>h) hbl (hG3.trans hg4)).el hlt2
   rw [List.drop_eq_getElem_cons hlt2] at hpc
   generalize q[i] = s at hce hpc
   have hbs:=(SlR.grow (G:=G) (G':=G4) (fun _ _ h=>h) hbl (hG3.trans hg4)).some (by omega)
   repeat' (refine ob ?_ ?_;(first | trivial | omega | (simp only [inR];omega) | exact ble (by rfl) | exact SlR.some ‹_› (by omega));(conv=>whnf))
   refine RdhP.g hce rfl (W.mk ?_)
   (conv=>whnf)
   refine PurP.of _ (pur_neT s gapT) (W.mk ?_)
   (conv=>whnf)
   refine ForkP.mk (fun hs=>W.mk ?_) (fun hs=>W.mk ?_)<;>(conv=>whnf)
   ·have hs:s≠gapT:=by simpa using hs
    have hpn:pcsF q = (P++[(⟨s,lf || P.isEmpty⟩:Pc)])++pcsN (q.drop (i + 1)) false false:=by
     rw [hpc,pcsN,if_neg hs,List.append_assoc];rfl
    have hnext:∀ (h':Hp) (pv':Value),Keep p h'→RowH pcE 205 h' pv' (P++[(⟨s,lf || P.isEmpty⟩:Pc)])→(∀ b,blkOf pv' = some b→p b = none)→i + 1≤bn∧Keep p h'∧RowH pcE 205 h' pv' (P++[(⟨s,lf || P.isEmpty⟩:Pc)])∧(∀ b,blkOf pv' = some b→p b = none)∧pcsF q = (P++[(⟨s,lf || P.isEmpty⟩:Pc)])++pcsN (q.drop (i + 1)) false (P++[(⟨s,lf || P.isEmpty⟩:Pc)]).isEmpty∧(P++[(⟨s,lf || P.isEmpty⟩:Pc)]).length≤i + 1:=fun h' pv' a1 a2 a3=>⟨by omega,a1,a2,a3,by rw [hpn,show (P++[(⟨s,lf || P.isEmpty⟩:Pc)]).isEmpty = false by cases P<;>rfl],by simp;omega⟩
    rcases hrow with ⟨rfl,rfl⟩ | ⟨pb,c',rest,rfl,hb,hr,hc2,hm⟩
    ·cases lf<;>(conv=>whnf)
     ·repeat' (refine IteP.mk (fun _=>W.mk ?_) (fun _=>W.mk ?_)<;>first | (exfalso;omega) | (conv=>whnf))
      refine OblP.mk rfl (W.mk ?_)
      (conv=>whnf)
      refine OblP.mk ⟨by omega,by omega⟩ (W.mk ?_)
      (conv=>whnf)
      refine AppnP.mk (fun b' cap rest' hb1 hb2 hb3 hb4=>W.mk ?_)
      (conv=>whnf)
      repeat' (refine ob ?_ ?_;(first | trivial | omega | (simp only [inR];omega) | exact ble (by rfl) | exact SlR.some ‹_› (by omega));(conv=>whnf))
      have hok2:=hnext (upd h b' (some (.cells (pcE.f ⟨s,true⟩++rest').toArray 205 (0,0)))) (.slice (some ⟨b',0,none⟩) 1 cap) (fun k o hk e=>by rw [upd_other _ _ (fun hh=>by rw [hh] at e;rw [hkp _ _ hk e] at hb1;cases hb1)];exact hkp _ _ hk e) (RowH.appNew (E:=pcE) (l:=[]) (us:=[⟨s,true⟩]) (vs:=[]) rfl hb4 hb2 hb3) (fun b hb=>by
       cases hb
       cases e:p b' with
       | none=>rfl
       | some o=>rw [hkp _ _ id e] at hb1;cases hb1)
      refine PurP.of _ (pur_eqT s gapT) (W.mk ?_)
      (conv=>whnf)
      refine ForkP.mk (fun h=>absurd h (by simpa using hs)) (fun _=>W.mk ?_)
      (conv=>whnf)
      repeat' (refine ob ?_ ?_;(first | trivial | omega | (simp only [inR];omega) | exact ble (by rfl) | exact SlR.some ‹_› (by omega));(conv=>whnf))
      refine RoundP.of (i + 1,_,_,false,_) ?_ hok2 (by simp only;omega)
      exact HeadP.of [] ⟨rfl,rfl,rfl,rfl,rfl,trivial⟩ ⟨rfl,rfl,trivial⟩
     ·refine OblP.mk rfl (W.mk ?_)
      (conv=>whnf)
      refine OblP.mk ⟨by omega,by omega⟩ (W.mk ?_)
      (conv=>whnf)
      refine AppnP.mk (fun b' cap rest' hb1 hb2 hb3 hb4=>W.mk ?_)
      (conv=>whnf)
      repeat' (refine ob ?_ ?_;(first | trivial | omega | (simp only [inR];omega) | exact ble (by rfl) | exact SlR.some ‹_› (by omega));(conv=>whnf))
      have hok2:=hnext (upd h b' (some (.cells (pcE.f ⟨s,true⟩++rest').toArray 205 (0,0)))) (.slice (some ⟨b',0,none⟩) 1 cap) (fun k o hk e=>by rw [upd_other _ _ (fun hh=>by rw [hh] at e;rw [hkp _ _ hk e] at hb1;cases hb1)];exact hkp _ _ hk e) (RowH.appNew (E:=pcE) (l:=[]) (us:=[⟨s,true⟩]) (vs:=[]) rfl hb4 hb2 hb3) (fun b hb=>by
       cases hb
       cases e:p b' with
       | none=>rfl
       | some o=>rw [hkp _ _ id e] at hb1;cases hb1)
      refine PurP.of _ (pur_eqT s gapT) (W.mk ?_)
      (conv=>whnf)
      refine ForkP.mk (fun h=>absurd h (by simpa using hs)) (fun _=>W.mk ?_)
      (conv=>whnf)
      repeat' (refine ob ?_ ?_;(first | trivial | omega | (simp only [inR];omega) | exact ble (by rfl) | exact SlR.some ‹_› (by omega));(conv=>whnf))
      refine RoundP.of (i + 1,_,_,false,_) ?_ hok2 (by simp only;omega)
      exact HeadP.of [] ⟨rfl,rfl,rfl,rfl,rfl,trivial⟩ ⟨rfl,rfl,trivial⟩
    ·cases lf<;>(conv=>whnf)
     ·refine IteP.mk (fun h0=>W.mk ?_) (fun h0=>W.mk ?_)<;>(conv=>whnf)
      ·have hbb:(false || P.isEmpty) = true:=by rw [List.isEmpty_iff.2 (List.eq_nil_of_length_eq_zero (by omega))];rfl
       rw [hbb] at hnext
       have hin:=fun hc3=>RowH.appIn (t:=205) (p:=h) (b:=pb) (us:=[(⟨s,true⟩:Pc)]) hr hc3 hm
       have hnw:=fun (b' cap:Nat) (rest':List Value)=>RowH.appNew (t:=205) (p:=h) (b:=b') (c:=cap) (l:=P) (us:=[(⟨s,true⟩:Pc)]) (vs:=(flat pcE P++rest).take (P.length * pcE.k)) (rest':=rest') take_flat
       have hone:∀ u∈(flat pcE P++rest).take (P.length * pcE.k),u.oneCell' = true:=by rw [take_flat];exact flat_one _ _
       have hlen2:(flat pcE P++rest).length = c' * 2:=by rw [List.length_append,flat_len,hr,show pcE.k = 2 from rfl];omega
       refine HpkP.mk ⟨_,205,hb,W.mk ?_⟩
       (conv=>whnf)
       refine OblP.mk ⟨rfl,rfl,hlen2,hc2,hm,hone⟩ (W.mk ?_)
       (conv=>whnf)
       refine OblP.mk rfl (W.mk ?_)
       (conv=>whnf)
       refine OblP.mk ⟨by omega,by omega⟩ (W.mk ?_)
       (conv=>whnf)
       have hpb:p pb = none:=hfr pb rfl
       refine IteP.mk (fun hcap=>W.mk ?_) (fun hcap=>W.mk ?_)<;>(conv=>whnf)
       ·repeat' (refine ob ?_ ?_;(first | trivial | omega | (simp only [inR];omega) | exact ble (by rfl) | exact SlR.some ‹_› (by omega));(conv=>whnf))
        have hok2:=hnext _ _ (fun k o hk e=>by rw [upd_other _ _ (fun hh=>by rw [hh,hpb] at e;cases e)];exact hkp _ _ hk e) (hin (by simp only [List.length_singleton];omega)) (fun b hb'=>by cases hb';exact hpb)
        refine PurP.of _ (pur_eqT s gapT) (W.mk ?_)
        (conv=>whnf)
        refine ForkP.mk (fun h=>absurd h (by simpa using hs)) (fun _=>W.mk ?_)
        (conv=>whnf)
        repeat' (refine ob ?_ ?_;(first | trivial | omega | (simp only [inR];omega) | exact ble (by rfl) | exact SlR.some ‹_› (by omega));(conv=>whnf))
        refine RoundP.of (i + 1,_,_,false,_) ?_ hok2 (by simp only;omega)
        exact HeadP.of [] ⟨rfl,rfl,rfl,rfl,rfl,trivial⟩ ⟨rfl,rfl,trivial⟩
       ·refine AppnP.mk (fun b' cap rest' hb1 hb2 hb3 hb4=>W.mk ?_)
        (conv=>whnf)
        repeat' (refine ob ?_ ?_;(first | trivial | omega | (simp only [inR];omega) | exact ble (by rfl) | exact SlR.some ‹_› (by omega));(conv=>whnf))
        have hok2:=hnext _ _ (fun k o hk e=>by rw [upd_other _ _ (fun hh=>by rw [hh] at e;rw [hkp _ _ hk e] at hb1;cases hb1)];exact hkp _ _ hk e) (hnw b' cap rest' hb4 hb2 hb3) (fun b hb'=>by
         cases hb'
         cases e:p b' with
         | none=>rfl
         | some o=>rw [hkp _ _ id e] at hb1;cases hb1)
        refine PurP.of _ (pur_eqT s gapT) (W.mk ?_)
        (conv=>whnf)
        refine ForkP.mk (fun h=>absurd h (by simpa using hs)) (fun _=>W.mk ?_)
        (conv=>whnf)
        repeat' (refine ob ?_ ?_;(first | trivial | omega | (simp only [inR];omega) | exact ble (by rfl) | exact SlR.some ‹_› (by omega));(conv=>whnf))
        refine RoundP.of (i + 1,_,_,false,_) ?_ hok2 (by simp only;omega)
        exact HeadP.of [] ⟨rfl,rfl,rfl,rfl,rfl,trivial⟩ ⟨rfl,rfl,trivial⟩
      ·have hbb:(false || P.isEmpty) = false:=by
        cases P with
        | nil=>exact absurd rfl h0
        | cons=>rfl
       rw [hbb] at hnext
       have hin:=fun hc3=>RowH.appIn (t:=205) (p:=h) (b:=pb) (us:=[(⟨s,false⟩:Pc)]) hr hc3 hm
       have hnw:=fun (b' cap:Nat) (rest':List Value)=>RowH.appNew (t:=205) (p:=h) (b:=b') (c:=cap) (l:=P) (us:=[(⟨s,false⟩:Pc)]) (vs:=(flat pcE P++rest).take (P.length * pcE.k)) (rest':=rest') take_flat
       have hone:∀ u∈(flat pcE P++rest).take (P.length * pcE.k),u.oneCell' = true:=by rw [take_flat];exact flat_one _ _
       have hlen2:(flat pcE P++rest).length = c' * 2:=by rw [List.length_append,flat_len,hr,show pcE.k = 2 from rfl];omega
       refine HpkP.mk ⟨_,205,hb,W.mk ?_⟩
       (conv=>whnf)
       refine OblP.mk ⟨rfl,rfl,hlen2,hc2,hm,hone⟩ (W.mk ?_)
       (conv=>whnf)
       refine OblP.mk rfl (W.mk ?_)
       (conv=>whnf)
       refine OblP.mk ⟨by omega,by omega⟩ (W.mk ?_)
       (conv=>whnf)
       have hpb:p pb = none:=hfr pb rfl
       refine IteP.mk (fun hcap=>W.mk ?_) (fun hcap=>W.mk ?_)<;>(conv=>whnf)
       ·repeat' (refine ob ?_ ?_;(first | trivial | omega | (simp only [inR];omega) | exact ble (by rfl) | exact SlR.some ‹_› (by omega));(conv=>whnf))
        have hok2:=hnext _ _ (fun k o hk e=>by rw [upd_other _ _ (fun hh=>by rw [hh,hpb] at e;cases e)];exact hkp _ _ hk e) (hin (by simp only [List.length_singleton];omega)) (fun b hb'=>by cases hb';exact hpb)
        refine PurP.of _ (pur_eqT s gapT) (W.mk ?_)
        (conv=>whnf)
        refine ForkP.mk (fun h=>absurd h (by simpa using hs)) (fun _=>W.mk ?_)
        (conv=>whnf)
        repeat' (refine ob ?_ ?_;(first | trivial | omega | (simp only [inR];omega) | exact ble (by rfl) | exact SlR.some ‹_› (by omega));(conv=>whnf))
        refine RoundP.of (i + 1,_,_,false,_) ?_ hok2 (by simp only;omega)
        exact HeadP.of [] ⟨rfl,rfl,rfl,rfl,rfl,trivial⟩ ⟨rfl,rfl,trivial⟩
       ·refine AppnP.mk (fun b' cap rest' hb1 hb2 hb3 hb4=>W.mk ?_)
        (conv=>whnf)
        repeat' (refine ob ?_ ?_;(first | trivial | omega | (simp only [inR];omega) | exact ble (by rfl) | exact SlR.some ‹_› (by omega));(conv=>whnf))
        have hok2:=hnext _ _ (fun k o hk e=>by rw [upd_other _ _ (fun hh=>by rw [hh] at e;rw [hkp _ _ hk e] at hb1;cases hb1)];exact hkp _ _ hk e) (hnw b' cap rest' hb4 hb2 hb3) (fun b hb'=>by
         cases hb'
         cases e:p b' with
         | none=>rfl
         | some o=>rw [hkp _ _ id e] at hb1;cases hb1)
        refine PurP.of _ (pur_eqT s gapT) (W.mk ?_)
        (conv=>whnf)
        refine ForkP.mk (fun h=>absurd h (by simpa using hs)) (fun _=>W.mk ?_)
        (conv=>whnf)
        repeat' (refine ob ?_ ?_;(first | trivial | omega | (simp only [inR];omega) | exact ble (by rfl) | exact SlR.some ‹_› (by omega));(conv=>whnf))
        refine RoundP.of (i + 1,_,_,false,_) ?_ hok2 (by simp only;omega)
        exact HeadP.of [] ⟨rfl,rfl,rfl,rfl,rfl,trivial⟩ ⟨rfl,rfl,trivial⟩
     ·rw [Bool.true_or] at hnext
      have hin:=fun hc3=>RowH.appIn (t:=205) (p:=h) (b:=pb) (us:=[(⟨s,true⟩:Pc)]) hr hc3 hm
      have hnw:=fun (b' cap:Nat) (rest':List Value)=>RowH.appNew (t:=205) (p:=h) (b:=b') (c:=cap) (l:=P) (us:=[(⟨s,true⟩:Pc)]) (vs:=(flat pcE P++rest).take (P.length * pcE.k)) (rest':=rest') take_flat
      have hone:∀ u∈(flat pcE P++rest).take (P.length * pcE.k),u.oneCell' = true:=by rw [take_flat];exact flat_one _ _
      have hlen2:(flat pcE P++rest).length = c' * 2:=by rw [List.length_append,flat_len,hr,show pcE.k = 2 from rfl];omega
      refine HpkP.mk ⟨_,205,hb,W.mk ?_⟩
      (conv=>whnf)
      refine OblP.mk ⟨rfl,rfl,hlen2,hc2,hm,hone⟩ (W.mk ?_)
      (conv=>whnf)
      refine OblP.mk rfl (W.mk ?_)
      (conv=>whnf)
      refine OblP.mk ⟨by omega,by omega⟩ (W.mk ?_)
      (conv=>whnf)
      have hpb:p pb = none:=hfr pb rfl
      refine IteP.mk (fun hcap=>W.mk ?_) (fun hcap=>W.mk ?_)<;>(conv=>whnf)
      ·repeat' (refine ob ?_ ?_;(first | trivial | omega | (simp only [inR];omega) | exact ble (by rfl) | exact SlR.some ‹_› (by omega));(conv=>whnf))
       have hok2:=hnext _ _ (fun k o hk e=>by rw [upd_other _ _ (fun hh=>by rw [hh,hpb] at e;cases e)];exact hkp _ _ hk e) (hin (by simp only [List.length_singleton];omega)) (fun b hb'=>by cases hb';exact hpb)
       refine PurP.of _ (pur_eqT s gapT) (W.mk ?_)
       (conv=>whnf)
       refine ForkP.mk (fun h=>absurd h (by simpa using hs)) (fun _=>W.mk ?_)
       (conv=>whnf)
       repeat' (refine ob ?_ ?_;(first | trivial | omega | (simp only [inR];omega) | exact ble (by rfl) | exact SlR.some ‹_› (by omega));(conv=>whnf))
       refine RoundP.of (i + 1,_,_,false,_) ?_ hok2 (by simp only;omega)
       exact HeadP.of [] ⟨rfl,rfl,rfl,rfl,rfl,trivial⟩ ⟨rfl,rfl,trivial⟩
      ·refine AppnP.mk (fun b' cap rest' hb1 hb2 hb3 hb4=>W.mk ?_)
       (conv=>whnf)
       repeat' (refine ob ?_ ?_;(first | trivial | omega | (simp only [inR];omega) | exact ble (by rfl) | exact SlR.some ‹_› (by omega));(conv=>whnf))
       have hok2:=hnext _ _ (fun k o hk e=>by rw [upd_other _ _ (fun hh=>by rw [hh] at e;rw [hkp _ _ hk e] at hb1;cases hb1)];exact hkp _ _ hk e) (hnw b' cap rest' hb4 hb2 hb3) (fun b hb'=>by
        cases hb'
        cases e:p b' with
        | none=>rfl
        | some o=>rw [hkp _ _ id e] at hb1;cases hb1)
       refine PurP.of _ (pur_eqT s gapT) (W.mk ?_)
       (conv=>whnf)
       refine ForkP.mk (fun h=>absurd h (by simpa using hs)) (fun _=>W.mk ?_)
       (conv=>whnf)
       repeat' (refine ob ?_ ?_;(first | trivial | omega | (simp only [inR];omega) | exact ble (by rfl) | exact SlR.some ‹_› (by omega));(conv=>whnf))
       refine RoundP.of (i + 1,_,_,false,_) ?_ hok2 (by simp only;omega)
       exact HeadP.of [] ⟨rfl,rfl,rfl,rfl,rfl,trivial⟩ ⟨rfl,rfl,trivial⟩
   ·have hs:s = gapT:=by simpa using hs
    have hpn:pcsF q = P++pcsN (q.drop (i + 1)) true P.isEmpty:=by
     rw [hpc,pcsN,if_pos hs]
    subst hs
    refine PurP.of _ (pur_eqT gapT gapT) (W.mk ?_)
    (conv=>whnf)
    refine ForkP.mk (fun _=>W.mk ?_) (fun h=>absurd h (by simp))
    (conv=>whnf)
    repeat' (refine ob ?_ ?_;(first | trivial | omega | (simp only [inR];omega) | exact ble (by rfl) | exact SlR.some ‹_› (by omega));(conv=>whnf))
    exact RoundP.of (i + 1,h,pv,true,P) (HeadP.of [] ⟨rfl,rfl,rfl,rfl,rfl,trivial⟩ ⟨rfl,rfl,trivial⟩) ⟨by show i + 1≤bn;omega,hkp,hrow,hfr,hpn,by show P.length≤i + 1;omega⟩ (by simp only;omega)
  ·have hin:i = q.length:=by omega
   subst hin
   rw [List.drop_length,pcsN,List.append_nil] at hpc
   have fin:∀ b:Nat,h b = none→∃ q',q' = upd h b (some (.cells #[.slice aa an ac, .slice ca cn cc,pv] 160 (0,0)))∧(∀ k o,h k = some o→q' k = some o)∧q' b = some (.cells #[.slice aa an ac, .slice ca cn cc,pv] 160 (0,0)):=fun b hb=>⟨_,rfl,fun k o e=>by rw [upd_other _ _ (fun hh=>by rw [hh,hb] at e;cases e)];exact e,upd_same _ _ _⟩
   obtain ⟨qa,qc,rfl⟩:=hrow.sl
   (conv=>whnf)
   refine IteP.mk (fun h0=>W.mk ?_) (fun h0=>W.mk ?_)<;>(conv=>whnf)<;>refine NmP.mk ⟨[1041],fun b hb=>?_⟩<;>have hb:h b = none:=hb<;>refine W.mk ?_<;>(conv=>whnf)<;>obtain ⟨q',hq',hk2,hat⟩:=fin b hb
   all_goals
    refine FinHp.mk ⟨q',fun y o e=>?_,⟨hkp.trans fun k o _ e=>hk2 k o e, .inr ⟨hok,b, ?_,_,_,_,hat,ha.grow (hG3.trans hg4),hc.grow (hG3.trans hg4),by rw [hpc];exact hrow.mono fun k o _ e=>hk2 k o e⟩⟩⟩
    ·by_cases hy:y = b
     ·subst hy
      rw [hat] at e;cases e
      exact .inr (.inl ⟨1041,_,160,_,rfl,rfl,rfl⟩)
     ·rw [hq',upd_other _ _ hy] at e
      exact .inl ⟨h,rfl,e⟩
    ·rw [hpc];first | (rw [decide_eq_true (by omega)];rfl) | (rw [decide_eq_false (by omega)];rfl)
end Go.Proofs.Ytefnikpoimaiiaa

namespace Go.Proofs.Ytefnikpoimaiiaa
open Go.Pal Go.RowKit
set_option maxRecDepth 100000
def idxT (l:List ByteArray) (q:ByteArray) (k:Nat):Int:=match l with
 | []=>-1
 | r :: t=>if q = r then (k:Int) else idxT t q (k + 1)
theorem idxT_has:∀ (l:List ByteArray) (q:ByteArray) (k:Nat),decide (0≤idxT l q k) = memT q l
 | [],q,k=>rfl
 | r :: t,q,k=>by
  unfold idxT memT
  by_cases h:q = r
  ·subst h;simp
  ·rw [if_neg h,idxT_has t q (k + 1),memT,List.any_cons,decide_eq_false (fun e=>h e.symm),Bool.false_or]
theorem idx125:Sound Try.prog 125 id (gsca (args2 (slRd strE) strRd fun _ _=>True) fun x v=>v = I (idxT x.1 x.2 0)):=by
 refine compQ125.gsca (Tab.nil _) (fun args G s h=>?_) (fun args G x h=>?_)
 ·obtain ⟨v,w,rfl,_⟩:=h;simp
 ·obtain ⟨l,q⟩:=x
  obtain ⟨u,w,rfl,⟨a,n,c,rfl,hl,hn⟩,rfl,_⟩:=h
  dsimp only at hl
  have hlen:=hl.len
  dsimp only
  (conv=>whnf)
  refine LoopP.of { α:=Nat,fr:=fun x=>[(0, .v (.slice a n c)),(1, .v (.string q)),(6, .v (.slice a n c)),(7, .v (I n)),(8, .v (I x))],H:=fun _=>[],ok:=fun i _=>i≤l.length∧idxT l q 0 = idxT (l.drop i) q i,m:=fun x=>l.length - x }
   0 (HeadP.of [] ⟨rfl,rfl,rfl,rfl,rfl,trivial⟩ trivial) ⟨Nat.zero_le _,rfl⟩ (fun _=>⟨rfl,rfl⟩) (fun (i:Nat) G' hG hx=>W.mk ?_)
  obtain ⟨hi,hx⟩:=hx
  replace hl:=SlR.grow (G:=G) (G':=G') (fun _ _ h=>h) hl hG
  dsimp only
  (conv=>whnf)
  refine IteP.mk (fun hlt=>W.mk ?_) (fun hge=>W.mk ?_)<;>(conv=>whnf)
  ·have h1:i < l.length:=by omega
   have hc:=hl.el h1
   rw [List.drop_eq_getElem_cons h1,idxT] at hx
   generalize l[i] = r at hc hx
   repeat' (first | (refine ob ?_ ?_;(first | trivial | omega | (simp only [inR];omega) | exact ble (by rfl) | exact SlR.some ‹_› (by omega));(conv=>whnf)) | (first | (refine ra ‹_› (by rfl) ?_;(conv=>whnf)) | (refine rb ‹_› (by rfl) ?_;(conv=>whnf)) | (refine rc ‹_› (by rfl) ?_;(conv=>whnf)) | (refine rd ‹_› (by rfl) ?_;(conv=>whnf))))
   refine PurP.of _ (pur_eqT q r) (W.mk ?_)
   (conv=>whnf)
   refine ForkP.mk (fun hq=>W.mk ?_) (fun hq=>W.mk ?_)<;>(conv=>whnf)
   ·refine FinP.mk ?_
    show I (i:Nat) = I (idxT l q 0)
    rw [hx,if_pos (of_decide_eq_true hq)]
   ·rw [if_neg (of_decide_eq_false hq)] at hx
    repeat' (refine ob ?_ ?_;(first | trivial | omega | (simp only [inR];omega) | exact ble (by rfl) | exact SlR.some ‹_› (by omega));(conv=>whnf))
    refine RoundP.of (i + 1) (HeadP.of [] ⟨rfl,rfl,rfl,rfl,rfl,trivial⟩ trivial) ⟨h1,hx⟩ (by simp only;omega)
  ·refine FinP.mk ?_
   rw [hx,List.drop_of_length_le (by omega)];rfl
theorem has87:Sound Try.prog 87 id (gsca (args2 (slRd strE) strRd fun _ _=>True) fun x v=>v = .bool (memT x.2 x.1)):=by
 refine compQ87.gsca (Tab.cons 125 _ idx125 bodyQ125 (Tab.nil _)) (fun args G s h=>?_) (fun args G x h=>?_)
 ·obtain ⟨v,w,rfl,_⟩:=h;simp
 ·obtain ⟨l,q⟩:=x
  obtain ⟨u,w,rfl,hl,rfl,_⟩:=h
  obtain ⟨a,n,c,rfl,hl1,hn⟩:=id hl
  dsimp only
  (conv=>whnf)
  refine ScaP.g (ok2 (slRd strE) strRd fun _ _=>True) (x:=(l,q)) ⟨_,_,rfl,hl,rfl,trivial⟩ (fun v hv=>W.mk ?_)
  subst hv
  dsimp only
  (conv=>whnf)
  refine IteP.mk (fun h=>W.mk ?_) (fun h=>W.mk ?_)<;>(conv=>whnf)<;>refine FinP.mk ?_<;>refine congrArg Value.bool ?_<;>rw [← idxT_has l q 0]<;>simp [h]
theorem has87H (l:List ByteArray) (q:ByteArray):Sound Try.prog 87 id (.hp (fun args p G=>∃ w,args = [w, .string q]∧SlV strE G w l) fun _ p v p' _=>v = .bool (memT q l)∧p' = p) :=
 Sound.hpImp (Sound.hpSca (Sound.scaAt has87 (ok2 _ _ _) (l,q))) (fun args p G _ ⟨w,h1,h2⟩ G1 _ ho=>⟨w,_,h1,h2.grow ho.1,rfl,trivial⟩) (fun args p v p' G ⟨h1,_,_,_,h2⟩=>⟨h2,h1⟩) (fun args p v p' G G' hg h=>h)
theorem judge86 (l:List ByteArray) (b bx:Nat) (paper kept:List ByteArray) (P:List Pc):Judge Try.prog (.func (.func 86) #[] #[ptr bx]) (fun s=>.string s) l (fun _ p G=>p bx = some (.cells #[ptr b] 155 (0,0))∧QuH p G b paper kept P) (fun _=>False) (fun i=>!memT (l.getD i default) kept) true:=by
 refine ⟨fun i hi _=>SoundFn.of bodyQ86 ?_,fun i p p' G hp h=>⟨hp _ _ h.1,h.2.up hp⟩,fun i p G G' hg h=>⟨h.1,h.2.grow hg⟩,fun i p G k h hk=>hk.elim⟩
 refine compQ86.hp (Tab.nil _) (fun args p G h=>?_) (fun args p v p' G G' hg h=>⟨h.1,⟨h.2.1.1,h.2.1.2.grow hg⟩,h.2.2⟩) (fun args p G h=>?_)
 ·obtain ⟨rfl,_⟩:=h;simp
 ·obtain ⟨rfl,hbx,hq⟩:=h
  have e:l.getD i default = l[i]:=by simp [hi]
  rw [e]
  generalize l[i] = s
  obtain ⟨pv,kv,qv,c1,c2,c3,c4⟩:=id hq
  obtain ⟨ka,kn,kc,rfl,_,_⟩:=id c3
  (conv=>whnf)
  refine RdhP.h (ds:=[ptr b]) hbx rfl (W.mk ?_)
  (conv=>whnf)
  refine RdhP.h (ds:=[pv, .slice ka kn kc,qv]) c1 rfl (W.mk ?_)
  (conv=>whnf)
  refine CallH.mk _ (has87H kept s) bodyQ87 (W.mk ?_)
  (conv=>whnf)
  refine HpcP.mk ⟨_,rfl,c3⟩ (fun v p1 G1 hg1 hq1=>W.mk ?_)
  obtain ⟨rfl,rfl⟩:=hq1
  cases hm:memT s kept with
  | true =>
   (conv=>whnf)
   refine ForkP.mk (fun _=>W.mk ?_) (fun h=>by cases h)
   (conv=>whnf)
   refine NmP.mk ⟨[],W.mk ?_⟩
   (conv=>whnf)
   exact FinHp.of rfl ⟨rfl,⟨hbx,hq.grow hg1⟩,KeepHp.refl⟩
  | false =>
   (conv=>whnf)
   refine ForkP.mk (fun h=>by cases h) (fun _=>W.mk ?_)
   (conv=>whnf)
   refine NmP.mk ⟨[],W.mk ?_⟩
   (conv=>whnf)
   exact FinHp.of rfl ⟨rfl,⟨hbx,hq.grow hg1⟩,KeepHp.refl⟩
set_option maxHeartbeats 2000000 in
theorem may55 (b:Nat) (paper kept:List ByteArray) (P:List Pc) (n:Nat) (hn:n < P.length) (hP:P.length≤1000) (hpp:∀ s∈P.map (·.t),s.size≤1000000) (last at_:Int) (hl:n≠0→0≤last∧last < paper.length) (hp9:paper.length≤1000) :
  Sound Try.prog 55 id (.hp (fun args p G=>args = [ptr b,I n,I last,I at_]∧QuH p G b paper kept P) fun _ p v p' _=>v = .bool (mayF paper kept (P.getD n default) (decide (n = 0)) last at_)∧Keep p p'):=by
 refine compQ55.hp (Tab.cons 83 _ within83 bodyQ83 (Tab.cons 85 _ remark85 bodyQ85 (Tab.nil _))) (fun args p G h=>?_) (fun args p v p' G G' hg h=>h) (fun args p G h=>?_)
 ·obtain ⟨rfl,_⟩:=h;simp
 ·obtain ⟨rfl,hq⟩:=h
  obtain ⟨pv,kv,qv,c1,c2,c3,c4⟩:=id hq
  obtain ⟨pa,pn,pc,rfl,hpl,hpn⟩:=id c2
  obtain ⟨ka,kn,kc,rfl,_,_⟩:=id c3
  have hplen:=hpl.len
  rcases c4 with ⟨rfl,h0⟩ | ⟨wb,wc,rest,rfl,hwb,hr,hc,hm⟩
  ·rw [h0] at hn;simp at hn
  have e:P.getD n default = P[n]:=by simp [hn]
  have hsz:=hpp P[n].t (List.mem_map.2 ⟨_,List.getElem_mem hn,rfl⟩)
  have hfl:=flat_at pcE P rest hn
  rw [e]
  generalize P[n] = x at hsz hfl
  (conv=>whnf)
  refine RdhP.h (ds:=[.slice pa pn pc, .slice ka kn kc, .slice (some ⟨wb,0,none⟩) P.length wc]) c1 rfl (W.mk ?_)
  (conv=>whnf)
  repeat' (refine ob ?_ ?_;(first | trivial | omega | (simp only [inR];omega) | exact ble (by rfl) | exact SlR.some ‹_› (by omega));(conv=>whnf))
  refine RowH.cells (cs:=pcE.f x) hwb (by rw [← hfl];simp;rfl) rfl (W.mk ?_)
  (conv=>whnf)
  refine RdhP.h (ds:=[.slice pa pn pc, .slice ka kn kc, .slice (some ⟨wb,0,none⟩) P.length wc]) c1 rfl (W.mk ?_)
  (conv=>whnf)
  repeat' (refine ob ?_ ?_;(first | trivial | omega | (simp only [inR];omega) | exact ble (by rfl) | exact SlR.some ‹_› (by omega));(conv=>whnf))
  refine OblP.mk (fun _ _=>⟨_,_,_,rfl⟩) (W.mk ?_)
  (conv=>whnf)
  refine ForkP.mk (fun e1=>W.mk ?_) (fun e1=>W.mk ?_)<;>(conv=>whnf)
  rotate_left
  ·refine NmP.mk ⟨[],W.mk ?_⟩
   (conv=>whnf)
   refine FinHp.of rfl ⟨congrArg Value.bool (Eq.symm ?_),KeepHp.refl⟩
   rw [mayF,hplen,e1];rfl
  have e1':0≤at_∧at_≤(pn:Int) - 1:=by simpa [inF] using e1
  refine ScaP.gh (ok1 strRd fun s=>s.size≤1000000) (x:=x.t) ⟨_,rfl,rfl,hsz⟩ (fun v hv=>W.mk ?_)
  subst hv
  dsimp only
  obtain ⟨at2,rfl⟩:∃ m:Nat,at_ = (m:Int):=⟨at_.toNat,by omega⟩
  have hat:at2 < paper.length:=by omega
  have hce:=hpl.el hat
  have hpg:paper.getD ((at2:Int)).toNat default = paper[at2]:=by simp [hat]
  obtain ⟨xt,xl⟩:=x
  dsimp only at hsz
  cases hrem:remarkF xt with
  | true =>
   have hte:(remarkF xt || decide (xt = paper.getD ((at2:Int)).toNat default)) = true:=by rw [hrem];rfl
   (conv=>whnf)
   refine ForkP.mk (fun _=>W.mk ?_) (fun h=>by cases h)
   (conv=>whnf)
   refine IteP.mk (fun h0=>W.mk ?_) (fun h0=>W.mk ?_)<;>(conv=>whnf)
   ·refine NmP.mk ⟨[],W.mk ?_⟩
    (conv=>whnf)
    refine FinHp.of rfl ⟨congrArg Value.bool (Eq.symm ?_),KeepHp.refl⟩
    rw [mayF,hplen,e1]
    simp only [hte,decide_eq_true (show n = 0 by omega)];rfl
   obtain ⟨l1,l2⟩:=hl (by omega)
   refine IteP.mk (fun h1=>W.mk ?_) (fun h1=>W.mk ?_)<;>(conv=>whnf)
   ·refine NmP.mk ⟨[],W.mk ?_⟩
    (conv=>whnf)
    refine FinHp.of rfl ⟨congrArg Value.bool (Eq.symm ?_),KeepHp.refl⟩
    rw [mayF,hplen,e1]
    simp only [hte,decide_eq_false (show ¬ n = 0 by omega),decide_eq_false (show ¬ last < (at2:Int) by omega)];rfl
   refine ForkP.mk (fun hx=>W.mk ?_) (fun hx=>W.mk ?_)<;>(conv=>whnf)
   ·have hx:xl = true:=hx
    subst hx
    have hor:(true || decide ((at2:Int) = last + 1)) = true:=rfl
    refine RdhP.h (ds:=[.slice pa pn pc, .slice ka kn kc, .slice (some ⟨wb,0,none⟩) P.length wc]) c1 rfl (W.mk ?_)
    (conv=>whnf)
    repeat' (refine ob ?_ ?_;(first | trivial | omega | (simp only [inR];omega) | exact ble (by rfl) | exact SlR.some ‹_› (by omega));(conv=>whnf))
    have hcap:=hpl.cap
    refine OblP.mk ⟨by omega,by omega,by omega,Int.le_refl _⟩ (W.mk ?_)
    (conv=>whnf)
    refine NewP.mk (fun bx hbx=>W.mk ?_)
    (conv=>whnf)
    have hup:∀ k o,p k = some o→upd p bx (some (.cells #[ptr b] 155 (0,0))) k = some o:=fun k o e=>by
     rw [upd_other _ _ (fun h=>by rw [h,hbx] at e;cases e)];exact e
    have hcut:=SlR.cut hpl (b:=(last + 1).toNat) (m:=at2) (by omega) (by omega) (by omega) (by omega)
    refine CallH.mk _ (allQ84 (l:=(paper.take at2).drop (last + 1).toNat) (judge86 _ b bx paper kept P)) bodyQ84 (W.mk ?_)
    (conv=>whnf)
    refine HpcP.mk ⟨_,rfl, .inl ⟨_,_,_,rfl,hcut,by omega⟩,upd_same _ _ _,hq.up hup⟩ (fun v p2 G2 hg2 hq2=>W.mk ?_)
    obtain ⟨hq2,hk2⟩:=hq2
    have hk3:Keep p p2:=fun k o h1 h2=>hk2 k o h1 (hup k o h2)
    rcases hq2 with ⟨rfl,hf,_⟩ | ⟨rfl,j,hj,hbj,_⟩
    ·have hall:((paper.take at2).drop (last + 1).toNat).all (fun s=>!memT s kept) = true:=all_t (b:=fun s=>!memT s kept) (d:=default) hf
     (conv=>whnf)
     refine ForkP.mk (fun _=>W.mk ?_) (fun h=>by cases h)
     (conv=>whnf)
     refine NmP.mk ⟨[],W.mk ?_⟩
     (conv=>whnf)
     refine FinHp.of rfl ⟨congrArg Value.bool (Eq.symm ?_),hk3⟩
     rw [mayF,hplen,e1,Int.toNat_natCast,hall]
     simp only [Int.toNat_natCast] at hte
     simp only [hte,hor,decide_eq_false (show ¬ n = 0 by omega),decide_eq_true (show last < (at2:Int) by omega)];rfl
    ·have hall:((paper.take at2).drop (last + 1).toNat).all (fun s=>!memT s kept) = false:=all_f (b:=fun s=>!memT s kept) (d:=default) hj hbj
     (conv=>whnf)
     refine ForkP.mk (fun h=>by cases h) (fun _=>W.mk ?_)
     (conv=>whnf)
     refine NmP.mk ⟨[],W.mk ?_⟩
     (conv=>whnf)
     refine FinHp.of rfl ⟨congrArg Value.bool (Eq.symm ?_),hk3⟩
     rw [mayF,hplen,e1,Int.toNat_natCast,hall]
     simp only [Int.toNat_natCast] at hte
     simp only [hte,hor,decide_eq_false (show ¬ n = 0 by omega),decide_eq_true (show last < (at2:Int) by omega)];rfl
   ·have hx:xl = false:=hx
    subst hx
    repeat' (refine ob ?_ ?_;(first | trivial | omega | (simp only [inR];omega) | exact ble (by rfl) | exact SlR.some ‹_› (by omega));(conv=>whnf))
    refine IteP.mk (fun h2=>W.mk ?_) (fun h2=>W.mk ?_)<;>(conv=>whnf)
    ·have hor:(false || decide ((at2:Int) = last + 1)) = true:=by rw [decide_eq_true h2];rfl
     refine RdhP.h (ds:=[.slice pa pn pc, .slice ka kn kc, .slice (some ⟨wb,0,none⟩) P.length wc]) c1 rfl (W.mk ?_)
     (conv=>whnf)
     repeat' (refine ob ?_ ?_;(first | trivial | omega | (simp only [inR];omega) | exact ble (by rfl) | exact SlR.some ‹_› (by omega));(conv=>whnf))
     have hcap:=hpl.cap
     refine OblP.mk ⟨by omega,by omega,by omega,Int.le_refl _⟩ (W.mk ?_)
     (conv=>whnf)
     refine NewP.mk (fun bx hbx=>W.mk ?_)
     (conv=>whnf)
     have hup:∀ k o,p k = some o→upd p bx (some (.cells #[ptr b] 155 (0,0))) k = some o:=fun k o e=>by
      rw [upd_other _ _ (fun h=>by rw [h,hbx] at e;cases e)];exact e
     have hcut:=SlR.cut hpl (b:=(last + 1).toNat) (m:=at2) (by omega) (by omega) (by omega) (by omega)
     refine CallH.mk _ (allQ84 (l:=(paper.take at2).drop (last + 1).toNat) (judge86 _ b bx paper kept P)) bodyQ84 (W.mk ?_)
     (conv=>whnf)
     refine HpcP.mk ⟨_,rfl, .inl ⟨_,_,_,rfl,hcut,by omega⟩,upd_same _ _ _,hq.up hup⟩ (fun v p2 G2 hg2 hq2=>W.mk ?_)
     obtain ⟨hq2,hk2⟩:=hq2
     have hk3:Keep p p2:=fun k o h1 h2=>hk2 k o h1 (hup k o h2)
     rcases hq2 with ⟨rfl,hf,_⟩ | ⟨rfl,j,hj,hbj,_⟩
     ·have hall:((paper.take at2).drop (last + 1).toNat).all (fun s=>!memT s kept) = true:=all_t (b:=fun s=>!memT s kept) (d:=default) hf
      (conv=>whnf)
      refine ForkP.mk (fun _=>W.mk ?_) (fun h=>by cases h)
      (conv=>whnf)
      refine NmP.mk ⟨[],W.mk ?_⟩
      (conv=>whnf)
      refine FinHp.of rfl ⟨congrArg Value.bool (Eq.symm ?_),hk3⟩
      rw [mayF,hplen,e1,Int.toNat_natCast,hall]
      simp only [Int.toNat_natCast] at hte
      simp only [hte,hor,decide_eq_false (show ¬ n = 0 by omega),decide_eq_true (show last < (at2:Int) by omega)];rfl
     ·have hall:((paper.take at2).drop (last + 1).toNat).all (fun s=>!memT s kept) = false:=all_f (b:=fun s=>!memT s kept) (d:=default) hj hbj
      (conv=>whnf)
      refine ForkP.mk (fun h=>by cases h) (fun _=>W.mk ?_)
      (conv=>whnf)
      refine NmP.mk ⟨[],W.mk ?_⟩
      (conv=>whnf)
      refine FinHp.of rfl ⟨congrArg Value.bool (Eq.symm ?_),hk3⟩
      rw [mayF,hplen,e1,Int.toNat_natCast,hall]
      simp only [Int.toNat_natCast] at hte
      simp only [hte,hor,decide_eq_false (show ¬ n = 0 by omega),decide_eq_true (show last < (at2:Int) by omega)];rfl
    ·refine NmP.mk ⟨[],W.mk ?_⟩
     (conv=>whnf)
     refine FinHp.of rfl ⟨congrArg Value.bool (Eq.symm ?_),KeepHp.refl⟩
     rw [mayF,hplen,e1]
     simp only [hte,decide_eq_false (show ¬ n = 0 by omega),decide_eq_false h2,decide_eq_true (show last < (at2:Int) by omega)];rfl
  | false =>
   (conv=>whnf)
   refine ForkP.mk (fun h=>by cases h) (fun _=>W.mk ?_)
   (conv=>whnf)
   refine RdhP.h (ds:=[.slice pa pn pc, .slice ka kn kc, .slice (some ⟨wb,0,none⟩) P.length wc]) c1 rfl (W.mk ?_)
   (conv=>whnf)
   repeat' (refine ob ?_ ?_;(first | trivial | omega | (simp only [inR];omega) | exact ble (by rfl) | exact SlR.some ‹_› (by omega));(conv=>whnf))
   refine RdhP.g hce rfl (W.mk ?_)
   (conv=>whnf)
   refine PurP.of _ (pur_neT xt paper[at2]) (W.mk ?_)
   (conv=>whnf)
   refine ForkP.mk (fun hne=>W.mk ?_) (fun hne=>W.mk ?_)<;>(conv=>whnf)
   ·refine NmP.mk ⟨[],W.mk ?_⟩
    (conv=>whnf)
    refine FinHp.of rfl ⟨congrArg Value.bool (Eq.symm ?_),KeepHp.refl⟩
    have hne:¬ xt = paper[at2]:=by simpa using hne
    rw [mayF,hplen,e1]
    simp only [hpg,hrem,decide_eq_false hne];rfl
   ·have heq:xt = paper[at2]:=by simpa using hne
    have hte:(remarkF xt || decide (xt = paper.getD ((at2:Int)).toNat default)) = true:=by rw [hpg,decide_eq_true heq,Bool.or_true]
    refine IteP.mk (fun h0=>W.mk ?_) (fun h0=>W.mk ?_)<;>(conv=>whnf)
    ·refine NmP.mk ⟨[],W.mk ?_⟩
     (conv=>whnf)
     refine FinHp.of rfl ⟨congrArg Value.bool (Eq.symm ?_),KeepHp.refl⟩
     rw [mayF,hplen,e1]
     simp only [hte,decide_eq_true (show n = 0 by omega)];rfl
    obtain ⟨l1,l2⟩:=hl (by omega)
    refine IteP.mk (fun h1=>W.mk ?_) (fun h1=>W.mk ?_)<;>(conv=>whnf)
    ·refine NmP.mk ⟨[],W.mk ?_⟩
     (conv=>whnf)
     refine FinHp.of rfl ⟨congrArg Value.bool (Eq.symm ?_),KeepHp.refl⟩
     rw [mayF,hplen,e1]
     simp only [hte,decide_eq_false (show ¬ n = 0 by omega),decide_eq_false (show ¬ last < (at2:Int) by omega)];rfl
    refine ForkP.mk (fun hx=>W.mk ?_) (fun hx=>W.mk ?_)<;>(conv=>whnf)
    ·have hx:xl = true:=hx
     subst hx
     have hor:(true || decide ((at2:Int) = last + 1)) = true:=rfl
     refine RdhP.h (ds:=[.slice pa pn pc, .slice ka kn kc, .slice (some ⟨wb,0,none⟩) P.length wc]) c1 rfl (W.mk ?_)
     (conv=>whnf)
     repeat' (refine ob ?_ ?_;(first | trivial | omega | (simp only [inR];omega) | exact ble (by rfl) | exact SlR.some ‹_› (by omega));(conv=>whnf))
     have hcap:=hpl.cap
     refine OblP.mk ⟨by omega,by omega,by omega,Int.le_refl _⟩ (W.mk ?_)
     (conv=>whnf)
     refine NewP.mk (fun bx hbx=>W.mk ?_)
     (conv=>whnf)
     have hup:∀ k o,p k = some o→upd p bx (some (.cells #[ptr b] 155 (0,0))) k = some o:=fun k o e=>by
      rw [upd_other _ _ (fun h=>by rw [h,hbx] at e;cases e)];exact e
     have hcut:=SlR.cut hpl (b:=(last + 1).toNat) (m:=at2) (by omega) (by omega) (by omega) (by omega)
     refine CallH.mk _ (allQ84 (l:=(paper.take at2).drop (last + 1).toNat) (judge86 _ b bx paper kept P)) bodyQ84 (W.mk ?_)
     (conv=>whnf)
     refine HpcP.mk ⟨_,rfl, .inl ⟨_,_,_,rfl,hcut,by omega⟩,upd_same _ _ _,hq.up hup⟩ (fun v p2 G2 hg2 hq2=>W.mk ?_)
     obtain ⟨hq2,hk2⟩:=hq2
     have hk3:Keep p p2:=fun k o h1 h2=>hk2 k o h1 (hup k o h2)
     rcases hq2 with ⟨rfl,hf,_⟩ | ⟨rfl,j,hj,hbj,_⟩
     ·have hall:((paper.take at2).drop (last + 1).toNat).all (fun s=>!memT s kept) = true:=all_t (b:=fun s=>!memT s kept) (d:=default) hf
      (conv=>whnf)
      refine ForkP.mk (fun _=>W.mk ?_) (fun h=>by cases h)
      (conv=>whnf)
      refine NmP.mk ⟨[],W.mk ?_⟩
      (conv=>whnf)
      refine FinHp.of rfl ⟨congrArg Value.bool (Eq.symm ?_),hk3⟩
      rw [mayF,hplen,e1,Int.toNat_natCast,hall]
      simp only [Int.toNat_natCast] at hte
      simp only [hte,hor,decide_eq_false (show ¬ n = 0 by omega),decide_eq_true (show last < (at2:Int) by omega)];rfl
     ·have hall:((paper.take at2).drop (last + 1).toNat).all (fun s=>!memT s kept) = false:=all_f (b:=fun s=>!memT s kept) (d:=default) hj hbj
      (conv=>whnf)
      refine ForkP.mk (fun h=>by cases h) (fun _=>W.mk ?_)
      (conv=>whnf)
      refine NmP.mk ⟨[],W.mk ?_⟩
      (conv=>whnf)
      refine FinHp.of rfl ⟨congrArg Value.bool (Eq.symm ?_),hk3⟩
      rw [mayF,hplen,e1,Int.toNat_natCast,hall]
      simp only [Int.toNat_natCast] at hte
      simp only [hte,hor,decide_eq_false (show ¬ n = 0 by omega),decide_eq_true (show last < (at2:Int) by omega)];rfl
    ·have hx:xl = false:=hx
     subst hx
     repeat' (refine ob ?_ ?_;(first | trivial | omega | (simp only [inR];omega) | exact ble (by rfl) | exact SlR.some ‹_› (by omega));(conv=>whnf))
     refine IteP.mk (fun h2=>W.mk ?_) (fun h2=>W.mk ?_)<;>(conv=>whnf)
     ·have hor:(false || decide ((at2:Int) = last + 1)) = true:=by rw [decide_eq_true h2];rfl
      refine RdhP.h (ds:=[.slice pa pn pc, .slice ka kn kc, .slice (some ⟨wb,0,none⟩) P.length wc]) c1 rfl (W.mk ?_)
      (conv=>whnf)
      repeat' (refine ob ?_ ?_;(first | trivial | omega | (simp only [inR];omega) | exact ble (by rfl) | exact SlR.some ‹_› (by omega));(conv=>whnf))
      have hcap:=hpl.cap
      refine OblP.mk ⟨by omega,by omega,by omega,Int.le_refl _⟩ (W.mk ?_)
      (conv=>whnf)
      refine NewP.mk (fun bx hbx=>W.mk ?_)
      (conv=>whnf)
      have hup:∀ k o,p k = some o→upd p bx (some (.cells #[ptr b] 155 (0,0))) k = some o:=fun k o e=>by
       rw [upd_other _ _ (fun h=>by rw [h,hbx] at e;cases e)];exact e
      have hcut:=SlR.cut hpl (b:=(last + 1).toNat) (m:=at2) (by omega) (by omega) (by omega) (by omega)
      refine CallH.mk _ (allQ84 (l:=(paper.take at2).drop (last + 1).toNat) (judge86 _ b bx paper kept P)) bodyQ84 (W.mk ?_)
      (conv=>whnf)
      refine HpcP.mk ⟨_,rfl, .inl ⟨_,_,_,rfl,hcut,by omega⟩,upd_same _ _ _,hq.up hup⟩ (fun v p2 G2 hg2 hq2=>W.mk ?_)
      obtain ⟨hq2,hk2⟩:=hq2
      have hk3:Keep p p2:=fun k o h1 h2=>hk2 k o h1 (hup k o h2)
      rcases hq2 with ⟨rfl,hf,_⟩ | ⟨rfl,j,hj,hbj,_⟩
      ·have hall:((paper.take at2).drop (last + 1).toNat).all (fun s=>!memT s kept) = true:=all_t (b:=fun s=>!memT s kept) (d:=default) hf
       (conv=>whnf)
       refine ForkP.mk (fun _=>W.mk ?_) (fun h=>by cases h)
       (conv=>whnf)
       refine NmP.mk ⟨[],W.mk ?_⟩
       (conv=>whnf)
       refine FinHp.of rfl ⟨congrArg Value.bool (Eq.symm ?_),hk3⟩
       rw [mayF,hplen,e1,Int.toNat_natCast,hall]
       simp only [Int.toNat_natCast] at hte
       simp only [hte,hor,decide_eq_false (show ¬ n = 0 by omega),decide_eq_true (show last < (at2:Int) by omega)];rfl
      ·have hall:((paper.take at2).drop (last + 1).toNat).all (fun s=>!memT s kept) = false:=all_f (b:=fun s=>!memT s kept) (d:=default) hj hbj
       (conv=>whnf)
       refine ForkP.mk (fun h=>by cases h) (fun _=>W.mk ?_)
       (conv=>whnf)
       refine NmP.mk ⟨[],W.mk ?_⟩
       (conv=>whnf)
       refine FinHp.of rfl ⟨congrArg Value.bool (Eq.symm ?_),hk3⟩
       rw [mayF,hplen,e1,Int.toNat_natCast,hall]
       simp only [Int.toNat_natCast] at hte
       simp only [hte,hor,decide_eq_false (show ¬ n = 0 by omega),decide_eq_true (show last < (at2:Int) by omega)];rfl
     ·refine NmP.mk ⟨[],W.mk ?_⟩
      (conv=>whnf)
      refine FinHp.of rfl ⟨congrArg Value.bool (Eq.symm ?_),KeepHp.refl⟩
      rw [mayF,hplen,e1]
      simp only [hte,decide_eq_false (show ¬ n = 0 by omega),decide_eq_false h2,decide_eq_true (show last < (at2:Int) by omega)];rfl
end Go.Proofs.Ytefnikpoimaiiaa

namespace Go.Proofs.Ytefnikpoimaiiaa
open Go.Pal Go.RowKit
set_option maxRecDepth 100000
theorem pcs_mem:∀ {q:List ByteArray} {l f:Bool} {x:Pc},x∈pcsN q l f→x.t∈q
 | [],_,_,_,h=>by cases h
 | s :: r,l,f,x,h=>by
  unfold pcsN at h
  split at h
  ·exact List.mem_cons_of_mem _ (pcs_mem h)
  ·rcases List.mem_cons.1 h with rfl | h
   ·exact List.mem_cons_self ..
   ·exact List.mem_cons_of_mem _ (pcs_mem h)
theorem pcs_le:∀ (q:List ByteArray) (l f:Bool),(pcsN q l f).length≤q.length
 | [],_,_=>Nat.le_refl _
 | s :: r,l,f=>by
  unfold pcsN
  split
  ·exact Nat.le_succ_of_le (pcs_le r _ _)
  ·simpa using pcs_le r _ _
theorem quote_sz {paper q kept:List ByteArray} (h:quoteOk paper q kept = true):paper.length≤80∧(pcsF q).length≤80∧∀ s∈(pcsF q).map (·.t),s.size≤1000000:=by
 simp only [quoteOk,Bool.and_eq_true,inF,decide_eq_true_eq,List.all_eq_true] at h
 obtain ⟨⟨⟨⟨⟨h1,h2⟩,h3⟩,h4⟩,h5⟩,h6⟩:=h
 refine ⟨by omega,by have:=pcs_le q false true;unfold pcsF;omega,fun s hs=>?_⟩
 obtain ⟨x,hx,rfl⟩:=List.mem_map.1 hs
 have:=h5 _ (pcs_mem hx)
 simp only [textF,Bool.and_eq_true,inF,decide_eq_true_eq] at this
 omega
set_option maxHeartbeats 2000000 in
theorem prove25h (paper q kept:List ByteArray) (places:List Int):Sound Try.prog 25 id (.hp (fun args p G=>∃ a b c e,args = [a,b,c,e]∧SlV strE G a paper∧SlV strE G b q∧SlV strE G c kept∧SlV intE G e places) fun _ _ v _ _=>v = .bool (proveF paper q kept places)):=by
 refine compQ25.hp (Tab.nil _) (fun args p G h=>?_) (fun args p v p' G G' hg h=>h) (fun args p G h=>?_)
 ·obtain ⟨a,b,c,e,rfl,_⟩:=h;simp
 ·obtain ⟨_,_,_,_,rfl,ha,hb,hc,he⟩:=h
  obtain ⟨aa,an,ac,rfl,_,_⟩:=id ha
  obtain ⟨ba,bn,bc,rfl,_,_⟩:=id hb
  obtain ⟨ca,cn,cc,rfl,_,_⟩:=id hc
  obtain ⟨ea,en,ec,rfl,hel,hen⟩:=id he
  have helen:=hel.len
  (conv=>whnf)
  refine CallH.mk _ (quote54 paper q kept) bodyQ54 (W.mk ?_)
  (conv=>whnf)
  refine HpcP.mk ⟨_,_,_,rfl,ha,hb,hc⟩ (fun v p1 G1 hg1 hq=>W.mk ?_)
  obtain ⟨hk1,⟨hno,rfl⟩ | ⟨hok,b,rfl,hqu⟩⟩:=hq
  ·(conv=>whnf)
   refine ForkP.mk (fun h=>by cases h) (fun _=>W.mk ?_)
   (conv=>whnf)
   refine NmP.mk ⟨[],W.mk ?_⟩
   (conv=>whnf)
   refine FinHp.of rfl (congrArg Value.bool (Eq.symm ?_))
   rw [proveF,hno];rfl
  obtain ⟨z1,z2,z3⟩:=quote_sz hok
  obtain ⟨pv,kv,qv,c1,c2,c3,c4⟩:=id hqu
  obtain ⟨qa,qc,rfl⟩:=c4.sl
  (conv=>whnf)
  refine ForkP.mk (fun h0=>W.mk ?_) (fun h0=>W.mk ?_)<;>(conv=>whnf)
  rotate_left
  ·refine NmP.mk ⟨[],W.mk ?_⟩
   (conv=>whnf)
   refine FinHp.of rfl (congrArg Value.bool (Eq.symm ?_))
   rw [proveF,hok,h0];rfl
  refine RdhP.h (ds:=[pv,kv, .slice qa (pcsF q).length qc]) c1 rfl (W.mk ?_)
  (conv=>whnf)
  refine IteP.mk (fun h1=>W.mk ?_) (fun h1=>W.mk ?_)<;>(conv=>whnf)
  rotate_left
  ·refine NmP.mk ⟨[],W.mk ?_⟩
   (conv=>whnf)
   refine FinHp.of rfl (congrArg Value.bool (Eq.symm ?_))
   rw [proveF,hok,h0,decide_eq_false (by omega)];rfl
  have hpl:places.length = (pcsF q).length:=by omega
  refine LoopP.of { α:=Nat × Hp,fr:=fun x=>[(9, .v (ptr b)),(11, .v (I (lastN places x.1))),(33, .v (.slice ea en ec)),(34, .v (I en)),(35, .v (I x.1))],H:=fun x=>[(0, .heap x.2)],ok:=fun x _=>x.1≤en∧Keep p1 x.2∧∀ j < x.1,mayF paper kept ((pcsF q).getD j default) (decide (j = 0)) (lastN places j) (places.getD j 0) = true,m:=fun x=>en - x.1 }
   (0,p1) (HeadP.of [] ⟨rfl,rfl,rfl,rfl,rfl,trivial⟩ ⟨rfl,trivial⟩) ⟨Nat.zero_le _,KeepHp.refl,fun j hj=>by omega⟩ (fun _=>⟨rfl,rfl⟩) (fun x G2 hg2 hx=>W.mk ?_)
  obtain ⟨i,h⟩:=x
  obtain ⟨hi,hkh,hmay⟩:=hx
  dsimp only at hi hkh hmay
  dsimp only
  (conv=>whnf)
  refine IteP.mk (fun hlt=>W.mk ?_) (fun hge=>W.mk ?_)<;>(conv=>whnf)
  ·have hlt2:i < places.length:=by omega
   have hel2:=SlR.grow (G:=G) (G':=G2) (fun _ _ h=>h) hel (hg1.trans hg2)
   have hce:=hel2.el hlt2
   have hgd:places.getD i 0 = places[i]:=by simp [hlt2]
   have hls:lastN places (i + 1) = places[i]:=by rw [lastN,if_neg (by omega)];exact hgd
   have hl:i≠0→0≤lastN places i∧lastN places i < paper.length:=fun hi0=>by
    have hm:=hmay (i - 1) (by omega)
    rw [lastN,if_neg hi0]
    simp only [mayF,Bool.and_eq_true,inF,decide_eq_true_eq] at hm
    omega
   have bad:mayF paper kept ((pcsF q).getD i default) (decide (i = 0)) (lastN places i) (places.getD i 0) = false→proveF paper q kept places = false:=fun hb=>by
    have:(List.range places.length).all (fun n=>mayF paper kept ((pcsF q).getD n default) (decide (n = 0)) (lastN places n) (places.getD n 0)) = false:=by
     cases hh:(List.range places.length).all (fun n=>mayF paper kept ((pcsF q).getD n default) (decide (n = 0)) (lastN places n) (places.getD n 0)) with
     | false=>rfl
     | true=>rw [range_all.1 hh i hlt2] at hb;cases hb
    rw [proveF,this,Bool.and_false]
   rw [hgd] at bad
   have hmay2:∀ bb,mayF paper kept ((pcsF q).getD i default) (decide (i = 0)) (lastN places i) places[i] = true→bb = places[i]→∀ j < i + 1,mayF paper kept ((pcsF q).getD j default) (decide (j = 0)) (lastN places j) (places.getD j 0) = true:=fun bb hm _ j hj=>by
    rcases Nat.lt_or_eq_of_le (Nat.le_of_lt_succ hj) with h | h
    ·exact hmay j h
    ·subst h;rw [hgd];exact hm
   generalize places[i] = at_ at hce bad hmay2 hls
   repeat' (refine ob ?_ ?_;(first | trivial | omega | (simp only [inR];omega) | exact ble (by rfl) | exact SlR.some ‹_› (by omega));(conv=>whnf))
   refine RdhP.g hce rfl (W.mk ?_)
   (conv=>whnf)
   refine CallH.mk _ (may55 b paper kept (pcsF q) i (by omega) (by omega) z3 (lastN places i) at_ hl (by omega)) bodyQ55 (W.mk ?_)
   (conv=>whnf)
   refine HpcP.mk ⟨rfl,(hqu.grow hg2).up fun k o e=>hkh k o id e⟩ (fun v p3 G3 hg3 hq3=>W.mk ?_)
   obtain ⟨rfl,hk3⟩:=hq3
   cases hm:mayF paper kept ((pcsF q).getD i default) (decide (i = 0)) (lastN places i) at_ with
   | true =>
    (conv=>whnf)
    refine ForkP.mk (fun _=>W.mk ?_) (fun h=>by cases h)
    (conv=>whnf)
    repeat' (refine ob ?_ ?_;(first | trivial | omega | (simp only [inR];omega) | exact ble (by rfl) | exact SlR.some ‹_› (by omega));(conv=>whnf))
    exact RoundP.of (i + 1,p3) (HeadP.of [] ⟨rfl,congrArg (fun z=>SV.v (I z)) hls,rfl,rfl,rfl,trivial⟩ ⟨rfl,trivial⟩) ⟨by show i + 1≤en;omega,hkh.trans hk3,hmay2 _ hm rfl⟩ (by simp only;omega)
   | false =>
    (conv=>whnf)
    refine ForkP.mk (fun h=>by cases h) (fun _=>W.mk ?_)
    (conv=>whnf)
    refine NmP.mk ⟨[],W.mk ?_⟩
    (conv=>whnf)
    refine FinHp.of rfl (congrArg Value.bool (Eq.symm ?_))
    exact bad hm
  ·have hin:i = places.length:=by omega
   subst hin
   refine NmP.mk ⟨[],W.mk ?_⟩
   (conv=>whnf)
   refine FinHp.of rfl (congrArg Value.bool (Eq.symm ?_))
   simp only [proveF,hok,h0,Bool.true_and,decide_eq_true hpl]
   exact range_all.2 hmay
theorem prove25:Sound Try.prog 25 id (gsca (args4 (slRd strE) (slRd strE) (slRd strE) (slRd intE) fun _ _ _ _=>True) fun x v=>v = .bool (proveF x.1 x.2.1 x.2.2.1 x.2.2.2)):=by
 refine Sound.scaG fun x=>?_
 intro args G W hsub hx
 obtain ⟨a,b,c,e,h,h1,h2,h3,h4,_⟩:=hx
 refine (Sound.hpSca0 (prove25h x.1 x.2.1 x.2.2.1 x.2.2.2) args G W hsub ⟨a,b,c,e,h,h1,h2,h3,h4⟩).mono ?_
 rintro e W' ⟨v,k1,⟨_,_,k2⟩,k3⟩
 exact ⟨v,k1,k2,k3⟩
end Go.Proofs.Ytefnikpoimaiiaa

namespace Go.Proofs.Ytefnikpoimaiiaa
open Go.Pal Go.RowKit
set_option maxRecDepth 100000
def lastV:List Nat→Int→Int
 | [],l=>l
 | i :: r,_=>lastV r (i:Int)
def frstV:List Nat→Bool→Bool
 | [],f=>f
 | _ :: _,_=>false
theorem quotN_snoc (ws:List Wo) (x:Nat):∀ (V:List Nat) (l:Int) (f:Bool),quotN ws (V++[x]) l f = quotN ws V l f++((if lastV V l + 1 < (x:Int)∧frstV V f = false then [gapT] else [])++[(ws.getD x default).t])
 | [],l,f=>rfl
 | i :: r,l,f=>by
  show (if l + 1 < (i:Int)∧f = false then [gapT] else [])++(ws.getD i default).t :: quotN ws (r++[x]) (i:Int) false = _
  rw [quotN_snoc ws x r (i:Int) false]
  have e:frstV r false = false:=by cases r<;>rfl
  show _ = ((if l + 1 < (i:Int)∧f = false then [gapT] else [])++(ws.getD i default).t :: quotN ws r (i:Int) false)++((if lastV r (i:Int) + 1 < (x:Int)∧false = false then [gapT] else [])++[(ws.getD x default).t])
  rw [e]
  simp
theorem lastV_snoc (x:Nat):∀ (V:List Nat) (l:Int),lastV (V++[x]) l = (x:Int)
 | [],l=>rfl
 | i :: r,l=>lastV_snoc x r (i:Int)
theorem frstV_take {V:List Nat} {i:Nat} (h:i≤V.length):frstV (V.take i) true = decide (i = 0):=by
 cases i with
 | zero=>rfl
 | succ i =>
  cases V with
  | nil=>simp at h
  | cons x r=>rfl
theorem quotN_len (ws:List Wo):∀ (V:List Nat) (l:Int) (f:Bool),(quotN ws V l f).length≤2 * V.length
 | [],_,_=>Nat.le_refl _
 | i :: r,l,f=>by
  have:=quotN_len ws r (i:Int) false
  unfold quotN
  simp only [List.length_append,List.length_cons]
  split<;>simp<;>omega
theorem lastV_ge:∀ (V:List Nat) (l:Int), -1≤l→-1≤lastV V l
 | [],l,h=>h
 | i :: r,l,h=>lastV_ge r (i:Int) (by omega)
theorem lastV_lt {V:List Nat} (h:V.Pairwise (· < ·)) {i:Nat} (hi:i < V.length):lastV (V.take i) (-1) < (V[i]:Int):=by
 cases i with
 | zero=>show (-1:Int) < _;omega
 | succ i =>
  have e:V.take (i + 1) = V.take i++[V[i]]:=by rw [List.take_add_one,List.getElem?_eq_getElem (show i < V.length by omega)];rfl
  rw [e,lastV_snoc]
  have:=List.pairwise_iff_getElem.1 h i (i + 1) (by omega) hi (by omega)
  omega
abbrev quoS:PSpec:=gsca (fun args _ (_:Unit)=>args = []) fun _ v=>v = .bool true
def u8Rd:Rd Int:=⟨fun _ v x=>v = U x,fun {_ _ _ _} h h'=>by rw [h] at h';cases h';rfl,fun {_ _ _ _} _ h=>h⟩
set_option maxHeartbeats 4000000 in
theorem law4 (hquo:Sound Try.prog 19 id quoS):Sound Try.prog 4 id (gsca (args3 duRd suRd u8Rd fun _ _ n=>0≤n∧n≤255) fun _ v=>v = .bool true):=by
 refine compQ4.gsca (Tab.cons 19 _ hquo bodyQ19 (Tab.cons 17 _ thin14 body14 (Tab.cons 18 _ right32 body32 (Tab.cons 20 _ gap20 bodyQ20 (Tab.cons 21 _ remark21 bodyQ21 (Tab.cons 23 _ draft17 body17 (Tab.cons 24 _ steps18 body18 (Tab.cons 22 _ play26 body26 (Tab.cons 25 _ prove25 bodyQ25 (Tab.cons 26 _ has24 body24 (Tab.nil _))))))))))) (fun args G s h=>?_) (fun args G x h=>?_)
 ·obtain ⟨u,v,w,rfl,_⟩:=h;simp
 ·obtain ⟨d,steps,which⟩:=x
  obtain ⟨_,_,_,rfl,hdu,hsu,rfl,hw0,hw9⟩:=h
  dsimp only at hdu hsu hw0 hw9
  obtain ⟨w,k,rfl,hw,hk⟩:=id hdu
  obtain ⟨wa,wn,wc,rfl,hwl,_⟩:=id hw
  obtain ⟨ka,kn,kc,rfl,hkl,_⟩:=id hk
  obtain ⟨sa,sn,sc,rfl,hst,hsn⟩:=id hsu
  have hwlen:=hwl.len
  have hslen:=hst.len
  dsimp only
  (conv=>whnf)
  refine ScaP.g (ok2 duRd suRd fun _ _=>True) (x:=(d,steps)) ⟨_,_,rfl,hdu,hsu,trivial⟩ (fun v hv=>W.mk ?_)
  subst hv
  dsimp only
  (conv=>whnf)
  refine ForkP.mk (fun hthin=>W.mk ?_) (fun ht=>W.mk ?_)<;>(conv=>whnf)
  rotate_left
  ·(refine ScaP.g okU (G:=fun _=>none) (x:=()) rfl (fun v hv=>W.mk ?_);subst hv;(conv=>whnf);refine ForkP.mk (fun _=>W.mk ?_) (fun h=>by cases h);(conv=>whnf);exact FinP.mk rfl)
  obtain ⟨t1,t2,t3,t4,t5⟩:=thin_iff.1 hthin
  have hdr:=thin_dr hthin hdu
  have hsr:=thin_sps hthin hsu
  refine ScaP.g (ok1 drRd fun d=>d.ks.length≤100000∧∀ w∈d.ws,w.t.size≤1000000) (x:=d) ⟨_,rfl,hdr,by omega,fun w hw=>by have:=t1 w hw;omega⟩ (fun v hv2=>W.mk ?_)
  subst hv2
  (conv=>whnf)
  refine ForkP.mk (fun hv=>W.mk ?_) (fun hv=>W.mk ?_)<;>(conv=>whnf)
  rotate_left
  ·(refine ScaP.g okU (G:=fun _=>none) (x:=()) rfl (fun v hv=>W.mk ?_);subst hv;(conv=>whnf);refine ForkP.mk (fun _=>W.mk ?_) (fun h=>by cases h);(conv=>whnf);exact FinP.mk rfl)
  refine IteP.mk (fun h80=>W.mk ?_) (fun h80=>W.mk ?_)<;>(conv=>whnf)
  ·(refine ScaP.g okU (G:=fun _=>none) (x:=()) rfl (fun v hv=>W.mk ?_);subst hv;(conv=>whnf);refine ForkP.mk (fun _=>W.mk ?_) (fun h=>by cases h);(conv=>whnf);exact FinP.mk rfl)
  refine IteP.mk (fun hw1=>W.mk ?_) (fun hw1=>W.mk ?_)<;>(conv=>whnf)
  ·(refine ScaP.g okU (G:=fun _=>none) (x:=()) rfl (fun v hv=>W.mk ?_);subst hv;(conv=>whnf);refine ForkP.mk (fun _=>W.mk ?_) (fun h=>by cases h);(conv=>whnf);exact FinP.mk rfl)
  refine LoopP.of { α:=Nat × Nat × List Value,fr:=fun x=>[(1, .v (.slice sa sn sc)),(2, .v (.int .u8 which)),(3, .c (.ptr 0 0)),(7, .c (.row 24 x.2.1)),(8, .v (.slice none 0 0)),(9, .v (.slice none 0 0)),(10, .v (I x.1))],H:=fun x=>[(0, .cells .anon [.val (.slice wa wn wc), .val (.slice ka kn kc)] 64),(24, .row none x.2.1 x.2.2 9 1)],ok:=fun x _=>x.1≤d.ws.length∧Row strE ((paperF d).take x.1) x.2.1 x.2.2∧∀ j < x.1,(d.ws.getD j default).t≠gapT∧remarkF (d.ws.getD j default).t = false,m:=fun x=>d.ws.length - x.1 }
   (0,0,[]) (HeadP.of [(24,none)] ⟨rfl,rfl,rfl,rfl,rfl,rfl,rfl,trivial⟩ ⟨rfl,rfl,trivial⟩) ⟨Nat.zero_le _,Row.nil,fun j hj=>by omega⟩ (fun _=>⟨rfl,rfl⟩) (fun x G1 hg1 hx=>W.mk ?_)
  obtain ⟨i,m,vs⟩:=x
  obtain ⟨hi,hr,hgr⟩:=hx
  dsimp only at hi hr hgr
  dsimp only
  (conv=>whnf)
  refine IteP.mk (fun hlt=>W.mk ?_) (fun hge=>W.mk ?_)<;>(conv=>whnf)
  ·have h1:i < d.ws.length:=by omega
   have hce:=(SlR.grow (G:=G) (G':=G1) (fun _ _ h=>h) hwl hg1).el h1
   have hgd:d.ws.getD i default = d.ws[i]:=by simp [h1]
   have hsz:=t1 _ (List.getElem_mem h1)
   have hpt:(paperF d).take i++[d.ws[i].t] = (paperF d).take (i + 1):=by
    rw [List.take_add_one,paperF,List.getElem?_map,List.getElem?_eq_getElem h1];rfl
   have hr2:=hr.snoc d.ws[i].t
   rw [hpt] at hr2
   have nxt:d.ws[i].t≠gapT→remarkF d.ws[i].t = false→∀ j < i + 1,(d.ws.getD j default).t≠gapT∧remarkF (d.ws.getD j default).t = false:=fun e1 e2 j hj=>by
    rcases Nat.lt_or_eq_of_le (Nat.le_of_lt_succ hj) with h | h
    ·exact hgr j h
    ·subst h;rw [hgd];exact ⟨e1,e2⟩
   generalize d.ws[i] = x at hce hsz hr2 nxt
   repeat' (first | (refine ob ?_ ?_;(first | trivial | omega | (simp only [inR];omega) | exact ble (by rfl) | exact SlR.some ‹_› (by omega));(conv=>whnf)) | (first | (refine ra ‹_› (by rfl) ?_;(conv=>whnf)) | (refine rb ‹_› (by rfl) ?_;(conv=>whnf)) | (refine rc ‹_› (by rfl) ?_;(conv=>whnf)) | (refine rd ‹_› (by rfl) ?_;(conv=>whnf))))
   refine ScaP.g (ok1 strRd fun _=>True) (x:=x.t) ⟨_,rfl,rfl,trivial⟩ (fun v hv2=>W.mk ?_)
   subst hv2
   (conv=>whnf)
   refine ForkP.mk (fun hg=>W.mk ?_) (fun hg=>W.mk ?_)<;>(conv=>whnf)
   ·(refine ScaP.g okU (G:=fun _=>none) (x:=()) rfl (fun v hv=>W.mk ?_);subst hv;(conv=>whnf);refine ForkP.mk (fun _=>W.mk ?_) (fun h=>by cases h);(conv=>whnf);exact FinP.mk rfl)
   repeat' (first | (refine ob ?_ ?_;(first | trivial | omega | (simp only [inR];omega) | exact ble (by rfl) | exact SlR.some ‹_› (by omega));(conv=>whnf)) | (first | (refine ra ‹_› (by rfl) ?_;(conv=>whnf)) | (refine rb ‹_› (by rfl) ?_;(conv=>whnf)) | (refine rc ‹_› (by rfl) ?_;(conv=>whnf)) | (refine rd ‹_› (by rfl) ?_;(conv=>whnf))))
   refine ScaP.g (ok1 strRd fun s=>s.size≤1000000) (x:=x.t) ⟨_,rfl,rfl,by show x.t.size≤_;omega⟩ (fun v hv2=>W.mk ?_)
   subst hv2
   (conv=>whnf)
   refine ForkP.mk (fun hrm=>W.mk ?_) (fun hrm=>W.mk ?_)<;>(conv=>whnf)
   ·(refine ScaP.g okU (G:=fun _=>none) (x:=()) rfl (fun v hv=>W.mk ?_);subst hv;(conv=>whnf);refine ForkP.mk (fun _=>W.mk ?_) (fun h=>by cases h);(conv=>whnf);exact FinP.mk rfl)
   have hm:=hr.n
   have hm2:m≤100:=by rw [hm,List.length_take];simp [paperF];omega
   repeat' (first | (refine ob ?_ ?_;(first | trivial | omega | (simp only [inR];omega) | exact ble (by rfl) | exact SlR.some ‹_› (by omega));(conv=>whnf)) | (first | (refine ra ‹_› (by rfl) ?_;(conv=>whnf)) | (refine rb ‹_› (by rfl) ?_;(conv=>whnf)) | (refine rc ‹_› (by rfl) ?_;(conv=>whnf)) | (refine rd ‹_› (by rfl) ?_;(conv=>whnf))))
   exact RoundP.of (i + 1,m + 1,_) (HeadP.of [(24,some 59)] ⟨rfl,rfl,rfl,rfl,rfl,rfl,rfl,trivial⟩ ⟨rfl,rfl,trivial⟩) ⟨h1,hr2,nxt (of_decide_eq_false hg) hrm⟩ (by show d.ws.length - (i + 1) < d.ws.length - i;omega)
  ·have hin:i = d.ws.length:=by omega
   subst hin
   have hpl:(paperF d).length = d.ws.length:=by simp [paperF]
   rw [List.take_of_length_le (by omega)] at hr
   refine LoopP.of { α:=Nat × Nat × List Value,fr:=fun x=>[(1, .v (.slice sa sn sc)),(2, .v (.int .u8 which)),(3, .c (.ptr 0 0)),(7, .c (.row 24 m)),(8, .v (.slice none 0 0)),(9, .v (.slice none 0 0)),(11, .c (.row 64 x.2.1)),(12, .v (I x.1))],H:=fun x=>[(0, .cells .anon [.val (.slice wa wn wc), .val (.slice ka kn kc)] 64),(24, .row none m vs 9 1),(64, .row none x.2.1 x.2.2 73 4)],ok:=fun x G=>x.1≤steps.length∧RowSp G (cutsF (steps.take x.1)) x.2.1 x.2.2,m:=fun x=>steps.length - x.1 }
    (0,0,[]) (HeadP.of [(64,none)] ⟨rfl,rfl,rfl,rfl,rfl,rfl,rfl,rfl,trivial⟩ ⟨rfl,rfl,rfl,trivial⟩) ⟨Nat.zero_le _,rfl,rfl,fun i h=>absurd h (by simp [cutsF])⟩ (fun _=>⟨rfl,rfl⟩) (fun x G2 hg2 hx=>W.mk ?_)
   obtain ⟨i2,m2,vs2⟩:=x
   obtain ⟨hi2,hr2⟩:=hx
   dsimp only at hi2 hr2
   dsimp only
   have hm2:m2≤100:=by
    rw [hr2.1]
    have h1:(cutsF (steps.take i2)).length≤(steps.take i2).length:=by rw [cutsF,List.length_map];exact List.length_filter_le _ _
    rw [List.length_take] at h1;omega
   (conv=>whnf)
   refine IteP.mk (fun hlt=>W.mk ?_) (fun hge=>W.mk ?_)<;>(conv=>whnf)
   ·have h1:i2 < steps.length:=by omega
    have hsr2:=spsRd.grow (hg1.trans hg2) hsr
    obtain ⟨_,_,_,e,hst2,_⟩:=hsr2
    cases e
    obtain ⟨cs,c1,c2,c3⟩:=hst2.at_ i2 h1
    have htk:steps.take (i2 + 1) = steps.take i2++[steps[i2]]:=by rw [List.take_add_one,List.getElem?_eq_getElem h1];rfl
    generalize steps[i2] = x at c3 htk
    obtain ⟨xu,xa,xc,xp⟩:=x
    obtain ⟨pv,rfl,hp⟩:=c3
    obtain ⟨pa,pn,pc,rfl,_,_⟩:=id hp
    repeat' (first | (refine ob ?_ ?_;(first | trivial | omega | (simp only [inR];omega) | exact ble (by rfl) | exact SlR.some ‹_› (by omega));(conv=>whnf)) | (first | (refine ra ‹_› (by rfl) ?_;(conv=>whnf)) | (refine rb ‹_› (by rfl) ?_;(conv=>whnf)) | (refine rc ‹_› (by rfl) ?_;(conv=>whnf)) | (refine rd ‹_› (by rfl) ?_;(conv=>whnf))))
    have hno:¬ (xu≠0∨0 < xc)→cutsF (steps.take (i2 + 1)) = cutsF (steps.take i2):=fun h=>by
     rw [htk,cutsF,cutsF,List.filter_append,List.map_append]
     simp [h]
    have hyes:(xu≠0∨0 < xc)→cutsF (steps.take (i2 + 1)) = cutsF (steps.take i2)++[⟨xu,xa,xc,[]⟩]:=fun h=>by
     rw [htk,cutsF,cutsF,List.filter_append,List.map_append]
     simp [h,cutS]
    have hnx:=hr2.snoc (x:=⟨xu,xa,xc,[]⟩) (us:=[I xu,I xa,I xc, .slice none 0 0]) rfl ⟨_,rfl,SlV.nil⟩
    refine IteP.mk (fun hu=>W.mk ?_) (fun hu=>W.mk ?_)<;>(conv=>whnf)
    ·have hu:xu = 0:=hu
     refine IteP.mk (fun hc0=>W.mk ?_) (fun hc0=>W.mk ?_)<;>(conv=>whnf)
     ·rw [← hyes (.inr hc0)] at hnx
      repeat' (first | (refine ob ?_ ?_;(first | trivial | omega | (simp only [inR];omega) | exact ble (by rfl) | exact SlR.some ‹_› (by omega));(conv=>whnf)) | (first | (refine ra ‹_› (by rfl) ?_;(conv=>whnf)) | (refine rb ‹_› (by rfl) ?_;(conv=>whnf)) | (refine rc ‹_› (by rfl) ?_;(conv=>whnf)) | (refine rd ‹_› (by rfl) ?_;(conv=>whnf))))
      exact RoundP.of (i2 + 1,m2 + 1,_) (HeadP.of [(64,some 89)] ⟨rfl,rfl,rfl,rfl,rfl,rfl,rfl,rfl,trivial⟩ ⟨rfl,rfl,rfl,trivial⟩) ⟨h1,hnx⟩ (by show steps.length - (i2 + 1) < steps.length - i2;omega)
     ·repeat' (first | (refine ob ?_ ?_;(first | trivial | omega | (simp only [inR];omega) | exact ble (by rfl) | exact SlR.some ‹_› (by omega));(conv=>whnf)) | (first | (refine ra ‹_› (by rfl) ?_;(conv=>whnf)) | (refine rb ‹_› (by rfl) ?_;(conv=>whnf)) | (refine rc ‹_› (by rfl) ?_;(conv=>whnf)) | (refine rd ‹_› (by rfl) ?_;(conv=>whnf))))
      exact RoundP.of (i2 + 1,m2,vs2) (HeadP.of [] ⟨rfl,rfl,rfl,rfl,rfl,rfl,rfl,rfl,trivial⟩ ⟨rfl,rfl,rfl,trivial⟩) ⟨h1,by show RowSp G2 (cutsF (steps.take (i2 + 1))) m2 vs2;rw [hno (fun h=>h.elim (fun h=>h hu) (fun h=>hc0 h))];exact hr2⟩ (by show steps.length - (i2 + 1) < steps.length - i2;omega)
    ·have hu:¬ xu = 0:=hu
     rw [← hyes (.inl hu)] at hnx
     repeat' (first | (refine ob ?_ ?_;(first | trivial | omega | (simp only [inR];omega) | exact ble (by rfl) | exact SlR.some ‹_› (by omega));(conv=>whnf)) | (first | (refine ra ‹_› (by rfl) ?_;(conv=>whnf)) | (refine rb ‹_› (by rfl) ?_;(conv=>whnf)) | (refine rc ‹_› (by rfl) ?_;(conv=>whnf)) | (refine rd ‹_› (by rfl) ?_;(conv=>whnf))))
     exact RoundP.of (i2 + 1,m2 + 1,_) (HeadP.of [(64,some 89)] ⟨rfl,rfl,rfl,rfl,rfl,rfl,rfl,rfl,trivial⟩ ⟨rfl,rfl,rfl,trivial⟩) ⟨h1,hnx⟩ (by show steps.length - (i2 + 1) < steps.length - i2;omega)
   ·have hin2:i2 = steps.length:=by omega
    subst hin2
    rw [List.take_length] at hr2
    have hG2:=hg1.trans hg2
    have hcl:(cutsF steps).length≤80:=by
     have h1:(cutsF steps).length≤steps.length:=by rw [cutsF,List.length_map];exact List.length_filter_le _ _
     omega
    have hcf:FineS (cutsF steps):=fun x hx=>by
     rw [cutsF] at hx
     obtain ⟨y,_,rfl⟩:=List.mem_map.1 hx
     exact ⟨Nat.zero_le _,fun s hs=>by cases hs⟩
    refine RelP.g (ok1 drRd fun d=>d.ws.length≤100000∧d.ks.length≤100000) (x:=d) ⟨_,rfl,drRd.grow hG2 hdr,by omega,by omega⟩ (Grow.refl _) (fun v G3 hg3 hq3=>W.mk ?_)
    obtain ⟨_,_,rfl,⟨_,_,_,rfl,_,_⟩,⟨_,_,_,rfl,_,_⟩⟩:=id hq3
    have hG3:=hG2.trans hg3
    (conv=>whnf)
    refine PubP.mk (fun xa xc G4 hg4 hp4=>W.mk ?_)
    have hsp4:=(hr2.grow (hg3.trans hg4)).pub hp4 (by omega)
    (conv=>whnf)
    refine RelP.g (ok1 spsRd fun l=>l.length≤100000∧FineS l) (x:=cutsF steps) ⟨_,rfl,hsp4,by show (cutsF steps).length≤_;omega,hcf⟩ (Grow.refl _) (fun v G5 hg5 hq5=>W.mk ?_)
    obtain ⟨_,_,_,rfl,_,_⟩:=id hq5
    (conv=>whnf)
    refine RelP.g (ok2 drRd spsRd fun _ _=>True) (x:=(d,cutsF steps)) ⟨_,_,rfl,drRd.grow (hg4.trans hg5) hq3,hq5,trivial⟩ (Grow.refl _) (fun v G6 hg6 hq=>W.mk ?_)
    unfold showR at hq
    dsimp only at hq
    have hG6:=hG3.trans (hg4.trans (hg5.trans hg6))
    cases hE:endF d (cutsF steps) with
    | arg =>
     exfalso
     unfold endF at hE
     rw [if_neg (by rw [hv];decide)] at hE
     split at hE
     ·cases hE
     ·split at hE<;>cases hE
    | limit =>
     exfalso
     unfold endF at hE
     rw [if_neg (by rw [hv];decide),if_neg (by omega)] at hE
     split at hE<;>cases hE
    | fail kk =>
     rw [hE] at hq
     subst hq
     (conv=>whnf)
     repeat' (refine IteP.mk (fun _=>W.mk ?_) (fun _=>W.mk ?_)<;>first | (exfalso;omega) | (conv=>whnf))
     (refine ScaP.g okU (G:=fun _=>none) (x:=()) rfl (fun v hv=>W.mk ?_);subst hv;(conv=>whnf);refine ForkP.mk (fun _=>W.mk ?_) (fun h=>by cases h);(conv=>whnf);exact FinP.mk rfl)
    | ok S =>
     rw [hE] at hq
     obtain ⟨la,lb,rfl,hx1,hx2⟩:=hq
     obtain ⟨aa,an,ac,rfl,hl,hln⟩:=id hx1
     obtain ⟨_,_,_,rfl,_,_⟩:=id hx2
     obtain ⟨_,_,hply⟩:=endF_ok hE
     have hO:OrigI d S:=orig_play (fun x hx=>by
      rw [cutsF] at hx
      obtain ⟨y,_,rfl⟩:=List.mem_map.1 hx
      rfl) (posL_begin d) rfl hply
     have hK:KeptI d S:=(play_inv (I:=KeptI d) (fun hp h hs=>kept_step hv hp h hs) (posL_begin d) (kept_begin hv) hply).1
     have hsh:=orig_shown hO
     have hvl:=vis_lt hO
     have hvi:=vis_incr S
     rw [hsh] at hl
     have hv60:(visI S).length≤60:=by
      have h1:(visI S).length≤S.its.length:=placesN_le S.its S.its.length
      have h2:S.its.length = d.ws.length:=by simpa [beginIts] using congrArg List.length hO
      have:=valid_ws hv
      omega
     generalize hV:visI S = V at hl hvl hvi hv60
     have hllen:=hl.len
     rw [List.length_map] at hllen
     have hm24:m = d.ws.length:=by rw [hr.n,hpl]
     have hw60:=valid_ws hv
     (conv=>whnf)
     repeat' (refine IteP.mk (fun _=>W.mk ?_) (fun _=>W.mk ?_)<;>first | (exfalso;omega) | (conv=>whnf))
     refine LoopP.of { α:=Nat × (Nat × List Value) × Nat × List Value,fr:=fun x=>[(2, .v (.int .u8 which)),(3, .c (.ptr 0 0)),(7, .c (.row 24 m)),(8, .c (.row 25 x.2.1.1)),(9, .v (.slice none 0 0)),(14, .v (.slice aa an ac)),(18, .c (.row 116 x.2.2.1)),(19, .v (I (lastV (V.take x.1) (-1)))),(20, .v (I x.1))],H:=fun x=>[(0, .cells .anon [.val (.slice wa wn wc), .val (.slice ka kn kc)] 64),(24, .row none m vs 9 1),(25, .row none x.2.1.1 x.2.1.2 9 1),(116, .row none x.2.2.1 x.2.2.2 3 1)],ok:=fun x _=>x.1≤V.length∧Row strE (quotN d.ws (V.take x.1) (-1) true) x.2.1.1 x.2.1.2∧Row intE ((V.take x.1).map fun (i:Nat)=>(i:Int)) x.2.2.1 x.2.2.2,m:=fun x=>V.length - x.1 }
      (0,(0,[]),0,[]) (HeadP.of [(25,none),(116,none)] ⟨rfl,rfl,rfl,rfl,rfl,rfl,rfl,rfl,rfl,trivial⟩ ⟨rfl,rfl,rfl,rfl,trivial⟩) ⟨Nat.zero_le _,Row.nil,Row.nil⟩ (fun _=>⟨rfl,rfl⟩) (fun x G7 hg7 hx=>W.mk ?_)
     obtain ⟨i,⟨mq,vq⟩,mp,vp⟩:=x
     obtain ⟨hi,hrq,hrp⟩:=hx
     dsimp only at hi hrq hrp
     dsimp only
     have hmq:mq≤200:=by
      have h1:=hrq.n
      have h2:=quotN_len d.ws (V.take i) (-1) true
      rw [List.length_take] at h2;omega
     have hmp:mp≤100:=by have h1:=hrp.n;rw [List.length_map,List.length_take] at h1;omega
     (conv=>whnf)
     refine IteP.mk (fun hlt=>W.mk ?_) (fun hge=>W.mk ?_)<;>(conv=>whnf)
     ·have h1:i < V.length:=by omega
      have hl7:=SlR.grow (G:=G6) (G':=G7) (fun _ _ h=>h) hl hg7
      have hce:=hl7.el (i:=i) (by rw [List.length_map];exact h1)
      rw [List.getElem_map] at hce
      replace hce:CellsAt G7 (ab aa) (ao aa + i * 3) [.string (d.ws.getD V[i] default).t,I (V[i]:Nat),I 0]:=hce
      have hvl1:=hvl _ (List.getElem_mem h1)
      have htk:V.take (i + 1) = V.take i++[V[i]]:=by rw [List.take_add_one,List.getElem?_eq_getElem h1];rfl
      have hlast:lastV (V.take i) (-1) < (V[i]:Int):=lastV_lt hvi h1
      have hq:=quotN_snoc d.ws V[i] (V.take i) (-1) true
      rw [← htk,frstV_take (by omega)] at hq
      have hls:lastV (V.take (i + 1)) (-1) = (V[i]:Int):=by rw [htk];exact lastV_snoc _ _ _
      have hrp2:=hrp.snoc (V[i]:Int)
      rw [show ((V.take i).map fun (i:Nat)=>(i:Int))++[(V[i]:Int)] = (V.take (i + 1)).map fun (i:Nat)=>(i:Int) by rw [htk,List.map_append];rfl] at hrp2
      have hlo:-1≤lastV (V.take i) (-1):=lastV_ge _ _ (by omega)
      generalize V[i] = o at hce hvl1 hlast hq hls hrp2
      generalize lastV (V.take i) (-1) = last at hlast hq hlo
      repeat' (first | (refine ob ?_ ?_;(first | trivial | omega | (simp only [inR];omega) | exact ble (by rfl) | exact SlR.some ‹_› (by omega));(conv=>whnf)) | (first | (refine ra ‹_› (by rfl) ?_;(conv=>whnf)) | (refine rb ‹_› (by rfl) ?_;(conv=>whnf)) | (refine rc ‹_› (by rfl) ?_;(conv=>whnf)) | (refine rd ‹_› (by rfl) ?_;(conv=>whnf))) | (refine IteP.mk (fun _=>W.mk ?_) (fun _=>W.mk ?_)<;>first | (exfalso;omega) | (conv=>whnf)))
      all_goals first
       | exact RoundP.of (i + 1,(mq + 1,_),mp + 1,_) (HeadP.of [(25,some 170),(116,some 174)] ⟨rfl,rfl,rfl,rfl,rfl,rfl,rfl,congrArg (fun z=>SV.v (I z)) hls,rfl,trivial⟩ ⟨rfl,rfl,rfl,rfl,trivial⟩) ⟨h1,(by show Row strE (quotN d.ws (V.take (i + 1)) (-1) true) _ _;rw [hq,if_neg (by simp only [not_and,decide_eq_false_iff_not];omega),List.nil_append];exact hrq.snoc _),hrp2⟩ (by show V.length - (i + 1) < V.length - i;omega)
       | exact RoundP.of (i + 1,(mq + 1 + 1,_),mp + 1,_) (HeadP.of [(25,some 170),(116,some 174)] ⟨rfl,rfl,rfl,rfl,rfl,rfl,rfl,congrArg (fun z=>SV.v (I z)) hls,rfl,trivial⟩ ⟨rfl,rfl,rfl,rfl,trivial⟩) ⟨h1,(by show Row strE (quotN d.ws (V.take (i + 1)) (-1) true) _ _;rw [hq,if_pos (by simp only [decide_eq_false_iff_not];omega), ← List.append_assoc];exact (hrq.snoc gapT).snoc _),hrp2⟩ (by show V.length - (i + 1) < V.length - i;omega)
     ·have hin3:i = V.length:=by omega
      subst hin3
      rw [List.take_length] at hrq hrp
      refine IteP.mk (fun hq0=>W.mk ?_) (fun hq0=>W.mk ?_)<;>(conv=>whnf)
      ·(refine ScaP.g okU (G:=fun _=>none) (x:=()) rfl (fun v hv=>W.mk ?_);subst hv;(conv=>whnf);refine ForkP.mk (fun _=>W.mk ?_) (fun h=>by cases h);(conv=>whnf);exact FinP.mk rfl)
      refine IteP.mk (fun hq80=>W.mk ?_) (fun hq80=>W.mk ?_)<;>(conv=>whnf)
      ·(refine ScaP.g okU (G:=fun _=>none) (x:=()) rfl (fun v hv=>W.mk ?_);subst hv;(conv=>whnf);refine ForkP.mk (fun _=>W.mk ?_) (fun h=>by cases h);(conv=>whnf);exact FinP.mk rfl)
      have hql:=hrq.n
      repeat' (first | (refine ob ?_ ?_;(first | trivial | omega | (simp only [inR];omega) | exact ble (by rfl) | exact SlR.some ‹_› (by omega));(conv=>whnf)) | (first | (refine ra ‹_› (by rfl) ?_;(conv=>whnf)) | (refine rb ‹_› (by rfl) ?_;(conv=>whnf)) | (refine rc ‹_› (by rfl) ?_;(conv=>whnf)) | (refine rd ‹_› (by rfl) ?_;(conv=>whnf))) | (refine IteP.mk (fun _=>W.mk ?_) (fun _=>W.mk ?_)<;>first | (exfalso;omega) | (conv=>whnf)))
      have hgap:∀ w∈d.ws,w.t≠gapT:=fun w hw=>by
       obtain ⟨j,hj,rfl⟩:=List.mem_iff_getElem.1 hw
       have h1:=(hgr j hj).1
       have e:d.ws.getD j default = d.ws[j]:=by simp [hj]
       rwa [e] at h1
      have hprv:=fun (kept:List ByteArray) (h1:kept.length≤20) (h2:kept.all textF = true) (h3:∀ i < d.ws.length,(d.ws.getD i default).t∈kept→i∈V)=>hV ▸ prove_vis hO hv hgap h1 h2 (by rw [hV];exact h3) (by omega) (by rw [hV, ← hql];omega) (by rw [hV, ← hql];omega)
      refine PubP.mk (fun b1 c1 G8 hg8 hp8=>W.mk ?_)
      (conv=>whnf)
      refine PubP.mk (fun b2 c2 G9 hg9 hp9=>W.mk ?_)
      (conv=>whnf)
      refine PubP.mk (fun b3 c3 G10 hg10 hp10=>W.mk ?_)
      (conv=>whnf)
      have s1:=SlV.grow (hg9.trans hg10) (hr.pub hp8 (by omega))
      have s2:=SlV.grow hg10 (hrq.pub hp9 (by omega))
      have s3:=hrp.pub hp10 (by omega)
      refine ScaP.g (ok4 (slRd strE) (slRd strE) (slRd strE) (slRd intE) fun _ _ _ _=>True) (x:=(paperF d,quotN d.ws V (-1) true,[],V.map fun (i:Nat)=>(i:Int))) ⟨_,_,_,_,rfl,s1,s2,SlV.nil,s3,trivial⟩ (fun v hv2=>W.mk ?_)
      dsimp only at hv2
      rw [hprv [] (Nat.zero_le _) rfl (fun i _ h=>by cases h)] at hv2
      subst hv2
      (conv=>whnf)
      refine ForkP.mk (fun _=>W.mk ?_) (fun h=>by cases h)
      (conv=>whnf)
      repeat' (first | (refine ob ?_ ?_;(first | trivial | omega | (simp only [inR];omega) | exact ble (by rfl) | exact SlR.some ‹_› (by omega));(conv=>whnf)) | (first | (refine ra ‹_› (by rfl) ?_;(conv=>whnf)) | (refine rb ‹_› (by rfl) ?_;(conv=>whnf)) | (refine rc ‹_› (by rfl) ?_;(conv=>whnf)) | (refine rd ‹_› (by rfl) ?_;(conv=>whnf))) | (refine IteP.mk (fun _=>W.mk ?_) (fun _=>W.mk ?_)<;>first | (exfalso;omega) | (conv=>whnf)))
      obtain ⟨sj,hsj⟩:∃ j:Nat,which % (m:Int) = (j:Int):=⟨(which % (m:Int)).toNat,by have:=Int.emod_nonneg which (show (m:Int)≠0 by omega);omega⟩
      have hsm:sj < m:=by have:=Int.emod_lt_of_pos which (show (0:Int) < (m:Int) by omega);omega
      rw [hsj]
      refine OblP.mk ⟨by omega,by omega⟩ (W.mk ?_)
      (conv=>whnf)
      repeat' (first | (refine ob ?_ ?_;(first | trivial | omega | (simp only [inR];omega) | exact ble (by rfl) | exact SlR.some ‹_› (by omega));(conv=>whnf)) | (first | (refine ra ‹_› (by rfl) ?_;(conv=>whnf)) | (refine rb ‹_› (by rfl) ?_;(conv=>whnf)) | (refine rc ‹_› (by rfl) ?_;(conv=>whnf)) | (refine rd ‹_› (by rfl) ?_;(conv=>whnf))) | (refine IteP.mk (fun _=>W.mk ?_) (fun _=>W.mk ?_)<;>first | (exfalso;omega) | (conv=>whnf)))
      have hsp:sj < (paperF d).length:=by omega
      refine EqP.row hr hsp (W.mk ?_)
      have hsd:(paperF d)[sj] = (d.ws.getD sj default).t:=by
       have e:d.ws.getD sj default = d.ws[sj]'(by omega):=by simp [show sj < d.ws.length by omega]
       rw [e];simp only [paperF,List.getElem_map]
      have hst2:textF (paperF d)[sj] = true:=by
       rw [hsd]
       have e:d.ws.getD sj default = d.ws[sj]'(by omega):=by simp [show sj < d.ws.length by omega]
       rw [e];exact words_text hv _ (List.getElem_mem _)
      generalize (paperF d)[sj] = stays at hst2
      (conv=>whnf)
      repeat' (first | (refine ob ?_ ?_;(first | trivial | omega | (simp only [inR];omega) | exact ble (by rfl) | exact SlR.some ‹_› (by omega));(conv=>whnf)) | (first | (refine ra ‹_› (by rfl) ?_;(conv=>whnf)) | (refine rb ‹_› (by rfl) ?_;(conv=>whnf)) | (refine rc ‹_› (by rfl) ?_;(conv=>whnf)) | (refine rd ‹_› (by rfl) ?_;(conv=>whnf))) | (refine IteP.mk (fun _=>W.mk ?_) (fun _=>W.mk ?_)<;>first | (exfalso;omega) | (conv=>whnf)))
      refine LoopP.of { α:=Nat × Unit,fr:=fun x=>[(3, .c (.ptr 0 0)),(7, .c (.row 24 m)),(8, .c (.row 25 mq)),(9, .v (.slice none 0 0)),(18, .c (.row 116 mp)),(21, .v (.string stays)),(22, .v (I x.1))],H:=fun _=>[(0, .cells .anon [.val (.slice wa wn wc), .val (.slice ka kn kc)] 64),(24, .row none m vs 9 1),(25, .row none mq vq 9 1),(116, .row none mp vp 3 1)],ok:=fun x _=>x.1≤d.ws.length∧∀ j < x.1,(d.ws.getD j default).t = stays→(j:Int)∈d.ks,m:=fun x=>d.ws.length - x.1 }
       (0,()) (HeadP.of [] ⟨rfl,rfl,rfl,rfl,rfl,rfl,rfl,trivial⟩ ⟨rfl,rfl,rfl,rfl,trivial⟩) ⟨Nat.zero_le _,fun j hj=>by omega⟩ (fun _=>⟨rfl,rfl⟩) (fun x G11 hg11 hx=>W.mk ?_)
      obtain ⟨i,_⟩:=x
      obtain ⟨hi4,hkp⟩:=hx
      replace hi4:i≤d.ws.length:=hi4
      replace hkp:∀ j < i,(d.ws.getD j default).t = stays→(j:Int)∈d.ks:=hkp
      try dsimp only
      (conv=>whnf)
      refine IteP.mk (fun hlt=>W.mk ?_) (fun hge4=>W.mk ?_)<;>(conv=>whnf)
      ·have h1:i < d.ws.length:=by omega
       have h1p:i < (paperF d).length:=by omega
       repeat' (first | (refine ob ?_ ?_;(first | trivial | omega | (simp only [inR];omega) | exact ble (by rfl) | exact SlR.some ‹_› (by omega));(conv=>whnf)) | (first | (refine ra ‹_› (by rfl) ?_;(conv=>whnf)) | (refine rb ‹_› (by rfl) ?_;(conv=>whnf)) | (refine rc ‹_› (by rfl) ?_;(conv=>whnf)) | (refine rd ‹_› (by rfl) ?_;(conv=>whnf))))
       refine EqP.row hr h1p (W.mk ?_)
       have hpd:(paperF d)[i] = (d.ws.getD i default).t:=by
        have e:d.ws.getD i default = d.ws[i]:=by simp [h1]
        rw [e];simp only [paperF,List.getElem_map]
       rw [hpd]
       have nxt:((d.ws.getD i default).t = stays→(i:Int)∈d.ks)→∀ j < i + 1,(d.ws.getD j default).t = stays→(j:Int)∈d.ks:=fun e1 j hj=>by
        rcases Nat.lt_or_eq_of_le (Nat.le_of_lt_succ hj) with h | h
        ·exact hkp j h
        ·subst h;exact e1
       generalize (d.ws.getD i default).t = tx at nxt
       (conv=>whnf)
       refine PurP.of _ (pur_eqT tx stays) (W.mk ?_)
       (conv=>whnf)
       refine ForkP.mk (fun heq=>W.mk ?_) (fun hne=>W.mk ?_)<;>(conv=>whnf)
       ·repeat' (first | (refine ob ?_ ?_;(first | trivial | omega | (simp only [inR];omega) | exact ble (by rfl) | exact SlR.some ‹_› (by omega));(conv=>whnf)) | (first | (refine ra ‹_› (by rfl) ?_;(conv=>whnf)) | (refine rb ‹_› (by rfl) ?_;(conv=>whnf)) | (refine rc ‹_› (by rfl) ?_;(conv=>whnf)) | (refine rd ‹_› (by rfl) ?_;(conv=>whnf))))
        refine ScaP.g (ok2 (slRd intE) intRd fun _ _=>True) (x:=(d.ks,(i:Int))) ⟨_,_,rfl,SlV.grow (hG6.trans (hg7.trans (hg8.trans (hg9.trans (hg10.trans hg11))))) ⟨_,_,_,rfl,hkl,by have:=hkl.len;show kn≤140737488355328;omega⟩,rfl,trivial⟩ (fun v hv2=>W.mk ?_)
        subst hv2
        (conv=>whnf)
        refine ForkP.mk (fun hin=>W.mk ?_) (fun hout=>W.mk ?_)<;>(conv=>whnf)
        ·repeat' (first | (refine ob ?_ ?_;(first | trivial | omega | (simp only [inR];omega) | exact ble (by rfl) | exact SlR.some ‹_› (by omega));(conv=>whnf)) | (first | (refine ra ‹_› (by rfl) ?_;(conv=>whnf)) | (refine rb ‹_› (by rfl) ?_;(conv=>whnf)) | (refine rc ‹_› (by rfl) ?_;(conv=>whnf)) | (refine rd ‹_› (by rfl) ?_;(conv=>whnf))))
         exact RoundP.of (i + 1,()) (HeadP.of [] ⟨rfl,rfl,rfl,rfl,rfl,rfl,rfl,trivial⟩ ⟨rfl,rfl,rfl,rfl,trivial⟩) ⟨h1,nxt (fun _=>of_decide_eq_true hin)⟩ (by show d.ws.length - (i + 1) < d.ws.length - i;omega)
        ·(refine ScaP.g okU (G:=fun _=>none) (x:=()) rfl (fun v hv=>W.mk ?_);subst hv;(conv=>whnf);refine ForkP.mk (fun _=>W.mk ?_) (fun h=>by cases h);(conv=>whnf);exact FinP.mk rfl)
       ·repeat' (first | (refine ob ?_ ?_;(first | trivial | omega | (simp only [inR];omega) | exact ble (by rfl) | exact SlR.some ‹_› (by omega));(conv=>whnf)) | (first | (refine ra ‹_› (by rfl) ?_;(conv=>whnf)) | (refine rb ‹_› (by rfl) ?_;(conv=>whnf)) | (refine rc ‹_› (by rfl) ?_;(conv=>whnf)) | (refine rd ‹_› (by rfl) ?_;(conv=>whnf))))
        exact RoundP.of (i + 1,()) (HeadP.of [] ⟨rfl,rfl,rfl,rfl,rfl,rfl,rfl,trivial⟩ ⟨rfl,rfl,rfl,rfl,trivial⟩) ⟨h1,nxt (fun e=>absurd e (of_decide_eq_false hne))⟩ (by show d.ws.length - (i + 1) < d.ws.length - i;omega)
      ·have hie:i = d.ws.length:=by omega
       subst hie
       repeat' (first | (refine ob ?_ ?_;(first | trivial | omega | (simp only [inR];omega) | exact ble (by rfl) | exact SlR.some ‹_› (by omega));(conv=>whnf)) | (first | (refine ra ‹_› (by rfl) ?_;(conv=>whnf)) | (refine rb ‹_› (by rfl) ?_;(conv=>whnf)) | (refine rc ‹_› (by rfl) ?_;(conv=>whnf)) | (refine rd ‹_› (by rfl) ?_;(conv=>whnf))) | (refine IteP.mk (fun _=>W.mk ?_) (fun _=>W.mk ?_)<;>first | (exfalso;omega) | (conv=>whnf)))
       refine PubP.mk (fun e1 f1 G12 hg12 hp12=>W.mk ?_)
       (conv=>whnf)
       refine PubP.mk (fun e2 f2 G13 hg13 hp13=>W.mk ?_)
       (conv=>whnf)
       refine PubP.mk (fun e3 f3 G14 hg14 hp14=>W.mk ?_)
       (conv=>whnf)
       refine PubP.mk (fun e4 f4 G15 hg15 hp15=>W.mk ?_)
       (conv=>whnf)
       have u1:=SlV.grow ((hg13.trans hg14).trans hg15) (hr.pub hp12 (by omega))
       have u2:=SlV.grow (hg14.trans hg15) (hrq.pub hp13 (by omega))
       have u3:=SlV.grow hg15 ((show Row strE [stays] 1 [.string stays] from Row.nil.snoc stays).pub hp14 (by omega))
       have u4:=hrp.pub hp15 (by omega)
       refine ScaP.g (ok4 (slRd strE) (slRd strE) (slRd strE) (slRd intE) fun _ _ _ _=>True) (x:=(paperF d,quotN d.ws V (-1) true,[stays],V.map fun (i:Nat)=>(i:Int))) ⟨_,_,_,_,rfl,u1,u2,u3,u4,trivial⟩ (fun v hv2=>W.mk ?_)
       dsimp only at hv2
       rw [hprv [stays] (by show 1≤20;omega) (by simp [hst2]) (fun j hj h=>hV ▸ vis_kept hO hK hj (hkp j hj (by simpa using h)))] at hv2
       subst hv2
       (conv=>whnf)
       refine ForkP.mk (fun _=>W.mk ?_) (fun h=>by cases h)
       (conv=>whnf)
       (refine ScaP.g okU (G:=fun _=>none) (x:=()) rfl (fun v hv=>W.mk ?_);subst hv;(conv=>whnf);refine ForkP.mk (fun _=>W.mk ?_) (fun h=>by cases h);(conv=>whnf);exact FinP.mk rfl)
end Go.Proofs.Ytefnikpoimaiiaa

namespace Go.Proofs.Ytefnikpoimaiiaa
open Go.Pal Go.RowKit
set_option maxRecDepth 100000
def papQ:List ByteArray:=[ByteArray.mk #[97],ByteArray.mk #[98],ByteArray.mk #[99]]
def quoQ:List ByteArray:=[ByteArray.mk #[97],ByteArray.mk #[46,46,46],ByteArray.mk #[99]]
structure FB where
 q:Nat
 qb:Nat
 lb:Nat
 mb:Nat
 pb:Nat
 sb:Nat
 fb:Nat
def FB.caps (B:FB):Array Value:=#[ptr B.qb,ptr B.lb,ptr B.pb,ptr B.sb,ptr B.fb]
structure FH (p G:Hp) (B:FB) (L:List Int):Prop where
 qb:p B.qb = some (.cells #[ptr B.q] 155 (0,0))
 qu:QuH p G B.q papQ [] (pcsF quoQ)
 lb:p B.lb = some (.cells #[.map (some B.mb)] 193 (0,0))
 mb:∃ c,p B.mb = some (.map #[] c)
 pb:∃ v,p B.pb = some (.cells #[v] 68 (0,0))∧SlV strE G v papQ
 sb:∃ v,p B.sb = some (.cells #[v] 62 (0,0))∧RowH intE 3 p v L
 fb:p B.fb = some (.cells #[.func (.func 74) #[] B.caps] 194 (0,0))
theorem FH.grow {p G G':Hp} {B:FB} {L:List Int} (hg:Grow G G') (h:FH p G B L):FH p G' B L :=
 ⟨h.qb,h.qu.grow hg,h.lb,h.mb,by obtain ⟨v,h1,h2⟩:=h.pb;exact ⟨v,h1,h2.grow hg⟩,h.sb,h.fb⟩
theorem FH.up {p p' G:Hp} {B:FB} {L:List Int} (hk:∀ k o,p k = some o→p' k = some o) (h:FH p G B L):FH p' G B L :=
 ⟨hk _ _ h.qb,h.qu.up hk,hk _ _ h.lb,by obtain ⟨c,h⟩:=h.mb;exact ⟨c,hk _ _ h⟩,by obtain ⟨v,h1,h2⟩:=h.pb;exact ⟨v,hk _ _ h1,h2⟩,by obtain ⟨v,h1,h2⟩:=h.sb;exact ⟨v,hk _ _ h1,h2.mono fun b o _ e=>hk _ _ e⟩,hk _ _ h.fb⟩
theorem FH.put {p p' G:Hp} {B:FB} {L L':List Int} (h:FH p G B L) (hk:∀ k o,p k = some o→(∀ cs x,o≠.cells cs 62 x)→(∀ cs x,o≠.cells cs 3 x)→p' k = some o) {v:Value} (h1:p' B.sb = some (.cells #[v] 62 (0,0))) (h2:RowH intE 3 p' v L'):FH p' G B L':=by
 have go:∀ {k:Nat} {cs:Array Value} {t:TypeId} {x:Nat × Nat},p k = some (.cells cs t x)→t≠62→t≠3→p' k = some (.cells cs t x):=fun {k cs t x} e e1 e2=>hk k _ e (fun cs' x' e'=>by cases e';exact e1 rfl) (fun cs' x' e'=>by cases e';exact e2 rfl)
 obtain ⟨pv,kv,qv,q1,q2,q3,q4⟩:=h.qu
 refine ⟨go h.qb (by decide) (by decide),⟨pv,kv,qv,go q1 (by decide) (by decide),q2,q3, ?_⟩,go h.lb (by decide) (by decide), ?_, ?_,⟨v,h1,h2⟩,go h.fb (by decide) (by decide)⟩
 ·rcases q4 with q4 | ⟨b,c,rest,e1,e2,e3⟩
  ·exact .inl q4
  ·exact .inr ⟨b,c,rest,e1,go e2 (by decide) (by decide),e3⟩
 ·obtain ⟨c,h⟩:=h.mb
  exact ⟨c,hk _ _ h (fun _ _ e=>by cases e) (fun _ _ e=>by cases e)⟩
 ·obtain ⟨v,h1,h2⟩:=h.pb
  exact ⟨v,go h1 (by decide) (by decide),h2⟩
def lstQ (n:Nat):Int:=if n = 0 then -1 else if n = 1 then 0 else 2
def doneQ:Nat→List Int
 | 0=>[]
 | 1=>[0]
 | _=>[0,2]
def tgtQ (n:Nat):Nat:=if n = 0 then 0 else 2
theorem may_no:∀ n < 2, ∀ at_ < tgtQ n,lstQ n < at_→mayF papQ [] ((pcsF quoQ).getD n default) (decide (n = 0)) (lstQ n) at_ = false:=by decide +kernel
theorem may_yes:∀ n < 2,mayF papQ [] ((pcsF quoQ).getD n default) (decide (n = 0)) (lstQ n) (tgtQ n) = true:=by decide +kernel
theorem pcs_len:(pcsF quoQ).length = 2:=by decide +kernel
theorem pcs_sz:∀ s∈(pcsF quoQ).map (·.t),s.size≤1000000:=by decide +kernel
theorem law196:WideMaps.KeyLaw Try.prog 196:=deep_law (m:=2) (by decide) (by kernel_rfl) (by kernel_rfl) (by kernel_rfl)
theorem keyQ0 (a b:Int) (h:(keyOf Try.prog 196 (.agg #[I a,I b])).isSome = true) (hs:Instr.sameBits 10000 (.agg #[I a,I b]) (.agg #[I a,I b]) = true):KeyFind Try.prog 196 (.agg #[I a,I b]) #[] none:=by
 obtain ⟨l,hl⟩:=Option.isSome_iff_exists.1 h
 rcases keyFind_of law196 hl hs (es:=#[]) (by simp) (by simp) with ⟨h,_⟩ | ⟨j,e,_,h,_⟩
 ·exact h
 ·simp at h
theorem keyQ {n:Nat} (h:n < 2):KeyFind Try.prog 196 (.agg #[I n,I (lstQ n)]) #[] none:=by
 rcases (show n = 0∨n = 1 by omega) with rfl | rfl
 ·exact keyQ0 0 (-1) (by kernel_rfl) (by kernel_rfl)
 ·exact keyQ0 1 0 (by kernel_rfl) (by kernel_rfl)
set_option maxHeartbeats 2000000 in
theorem find74 (B:FB):∀ k n:Nat,n + k = 2→Sound Try.prog 74 (fun a=>(#[]:Array Value).toList++a++B.caps.toList) (.hp (fun args p G=>args = [I n,I (lstQ n)]∧FH p G B (doneQ n)) fun _ p v p' G=>v = .bool true∧FH p' G B [0,2]):=by
 intro k
 induction k with
 | zero =>
  intro n hn
  obtain rfl:n = 2:=by omega
  refine compQ74.hp (Tab.nil _) (fun args p G h=>?_) (fun args p v p' G G' hg h=>⟨h.1,h.2.grow hg⟩) (fun args p G h=>?_)
  ·obtain ⟨rfl,_⟩:=h;simp [FB.caps]
  ·obtain ⟨rfl,hF⟩:=h
   obtain ⟨pv,kv,qv,c1,c2,c3,c4⟩:=id hF.qu
   obtain ⟨qa,qc,rfl⟩:=c4.sl
   (conv=>whnf)
   refine RdhP.h (ds:=[ptr B.q]) hF.qb rfl (W.mk ?_)
   (conv=>whnf)
   refine RdhP.h (ds:=[pv,kv, .slice qa (pcsF quoQ).length qc]) c1 rfl (W.mk ?_)
   rw [pcs_len]
   (conv=>whnf)
   refine IteP.mk (fun _=>W.mk ?_) (fun h=>absurd rfl h)
   (conv=>whnf)
   refine NmP.mk ⟨[],W.mk ?_⟩
   (conv=>whnf)
   exact FinHp.of rfl ⟨rfl,hF⟩
 | succ k ih =>
  intro n hn
  have hn2:n < 2:=by omega
  refine compQ74.hp (Tab.nil _) (fun args p G h=>?_) (fun args p v p' G G' hg h=>⟨h.1,h.2.grow hg⟩) (fun args p G h=>?_)
  ·obtain ⟨rfl,_⟩:=h;simp [FB.caps]
  ·obtain ⟨rfl,hF⟩:=h
   obtain ⟨pv,kv,qv,c1,c2,c3,c4⟩:=id hF.qu
   obtain ⟨qa,qc,rfl⟩:=c4.sl
   obtain ⟨mc,hmb⟩:=hF.mb
   obtain ⟨xv,hpb,hpv⟩:=hF.pb
   obtain ⟨xa,xn,xc,rfl,hxl,_⟩:=id hpv
   have hxn:xn = 3:=hxl.len.symm
   subst hxn
   (conv=>whnf)
   refine RdhP.h (ds:=[ptr B.q]) hF.qb rfl (W.mk ?_)
   (conv=>whnf)
   refine RdhP.h (ds:=[pv,kv, .slice qa (pcsF quoQ).length qc]) c1 rfl (W.mk ?_)
   rw [pcs_len]
   (conv=>whnf)
   refine IteP.mk (fun h=>absurd h (by omega)) (fun _=>W.mk ?_)
   (conv=>whnf)
   refine RdhP.h (ds:=[.map (some B.mb)]) hF.lb rfl (W.mk ?_)
   (conv=>whnf)
   refine OblP.mk ⟨_,_,hmb⟩ (W.mk ?_)
   (conv=>whnf)
   refine KeyP.mk ⟨none,by rw [hmb];exact keyQ hn2,W.mk ?_⟩
   (conv=>whnf)
   have hl0:-1≤lstQ n∧lstQ n≤0:=by rcases (show n = 0∨n = 1 by omega) with rfl | rfl<;>decide
   have htg:tgtQ n≤2∧lstQ n < tgtQ n∧(tgtQ n:Int) = lstQ (n + 1):=by rcases (show n = 0∨n = 1 by omega) with rfl | rfl<;>decide
   have hdo:doneQ n++[(tgtQ n:Int)] = doneQ (n + 1):=by rcases (show n = 0∨n = 1 by omega) with rfl | rfl<;>decide
   have hdl:(doneQ n).length = n:=by rcases (show n = 0∨n = 1 by omega) with rfl | rfl<;>decide
   refine ForkP.mk (fun h=>by cases h) (fun _=>W.mk ?_)
   (conv=>whnf)
   obtain ⟨s0,hs0⟩:∃ s:Nat,(s:Int) = lstQ n + 1:=⟨(lstQ n + 1).toNat,by omega⟩
   repeat' (refine ob ?_ ?_;(first | trivial | omega | (simp only [inR];omega) | exact ble (by rfl) | exact SlR.some ‹_› (by omega));(conv=>whnf))
   refine LoopP.of { α:=Nat × Hp,fr:=fun x=>[(0, .v (I n)),(1, .v (I (lstQ n))),(2, .v (ptr B.qb)),(3, .v (ptr B.lb)),(4, .v (ptr B.pb)),(5, .v (ptr B.sb)),(6, .v (ptr B.fb)),(9, .v (.bool false)),(10, .v (I x.1))],H:=fun x=>[(0, .heap x.2)],ok:=fun x G=>x.1≤tgtQ n∧lstQ n < x.1∧FH x.2 G B (doneQ n),m:=fun x=>3 - x.1 }
    (s0,p) (HeadP.of [] ⟨rfl,rfl,rfl,rfl,rfl,rfl,rfl,rfl,congrArg (fun z=>SV.v (I z)) hs0,trivial⟩ ⟨rfl,trivial⟩) ⟨by omega,by show lstQ n < (s0:Int);omega,hF⟩ (fun _=>⟨rfl,rfl⟩) (fun x G1 hg1 hx=>W.mk ?_)
   obtain ⟨i,h⟩:=x
   obtain ⟨hi,hli,hF1⟩:=hx
   dsimp only at hi hli hF1
   dsimp only
   obtain ⟨yv,hpb1,hpv1⟩:=hF1.pb
   obtain ⟨ya,yn,yc,rfl,hyl,_⟩:=id hpv1
   have hyn:yn = 3:=hyl.len.symm
   subst hyn
   (conv=>whnf)
   refine RdhP.h (ds:=[.slice ya 3 yc]) hpb1 rfl (W.mk ?_)
   (conv=>whnf)
   refine IteP.mk (fun hlt=>W.mk ?_) (fun hge=>absurd hge (by omega))
   (conv=>whnf)
   refine RdhP.h (ds:=[ptr B.q]) hF1.qb rfl (W.mk ?_)
   (conv=>whnf)
   refine CallH.mk _ (may55 B.q papQ [] (pcsF quoQ) n (by rw [pcs_len];exact hn2) (by rw [pcs_len];omega) pcs_sz (lstQ n) i (fun h0=>by rcases (show n = 1 by omega) with rfl;decide) (by decide)) bodyQ55 (W.mk ?_)
   (conv=>whnf)
   refine HpcP.mk ⟨rfl,hF1.qu⟩ (fun v p3 G3 hg3 hq3=>W.mk ?_)
   obtain ⟨rfl,hk3⟩:=hq3
   have hF3:FH p3 G3 B (doneQ n):=(hF1.grow hg3).up fun k o e=>hk3 k o id e
   rcases Nat.lt_or_eq_of_le hi with hlt2 | rfl
   ·rw [may_no n hn2 i hlt2 hli]
    (conv=>whnf)
    refine ForkP.mk (fun h=>by cases h) (fun _=>W.mk ?_)
    (conv=>whnf)
    repeat' (refine ob ?_ ?_;(first | trivial | omega | (simp only [inR];omega) | exact ble (by rfl) | exact SlR.some ‹_› (by omega));(conv=>whnf))
    exact RoundP.of (i + 1,p3) (HeadP.of [] ⟨rfl,rfl,rfl,rfl,rfl,rfl,rfl,rfl,rfl,trivial⟩ ⟨rfl,trivial⟩) ⟨hlt2,by show lstQ n < ((i + 1:Nat):Int);omega,hF3⟩ (by show 3 - (i + 1) < 3 - i;omega)
   ·rw [may_yes n hn2]
    (conv=>whnf)
    refine ForkP.mk (fun _=>W.mk ?_) (fun h=>by cases h)
    (conv=>whnf)
    obtain ⟨sv,hsb,hsr⟩:=hF3.sb
    have hmx:n≤1:=by omega
    rcases hsr with ⟨rfl,hd0⟩ | ⟨b,c',rest,rfl,hb,hr,hc,hm⟩
    ·refine RdhP.h (ds:=[.slice none 0 0]) hsb rfl (W.mk ?_)
     (conv=>whnf)
     refine OblP.mk rfl (W.mk ?_)
     (conv=>whnf)
     refine OblP.mk ⟨by omega,by omega⟩ (W.mk ?_)
     (conv=>whnf)
     refine AppnP.mk (fun b' cap rest' hb1 hb2 hb3 hb4=>W.mk ?_)
     (conv=>whnf)
     have hdo2:[(tgtQ n:Int)] = doneQ (n + 1):=by rw [← hdo,hd0];rfl
     have hrow:RowH intE 3 (upd p3 b' (some (.cells ([I (tgtQ n)]++rest').toArray 3 (0,0)))) (.slice (some ⟨b',0,none⟩) 1 cap) (doneQ (n + 1)):=by
      rw [← hdo2]
      exact RowH.appNew (E:=intE) (l:=[]) (us:=[(tgtQ n:Int)]) (vs:=[]) rfl hb4 hb2 hb3
     have hne:B.sb≠b':=fun h=>by rw [h,hb1] at hsb;cases hsb
     refine HpkP.mk ⟨[.slice none 0 0],62,(upd_other _ _ hne).trans hsb,W.mk ?_⟩
     (conv=>whnf)
     refine OblP.mk (Nat.le_refl _) (W.mk ?_)
     (conv=>whnf)
     have hpo:∀ k o,p3 k = some o→(∀ cs x,o≠.cells cs 62 x)→(∀ cs x,o≠.cells cs 3 x)→(upd p3 b' (some (.cells ([I (tgtQ n)]++rest').toArray 3 (0,0)))) k = some o:=fun k o e _ _=>by
      rw [upd_other _ _ (fun h=>by rw [h,hb1] at e;cases e)];exact e
     have hF4:FH (upd (upd p3 b' (some (.cells ([I (tgtQ n)]++rest').toArray 3 (0,0)))) B.sb (some (.cells #[.slice (some ⟨b',0,none⟩) 1 cap] 62 (0,0)))) G3 B (doneQ (n + 1)):=hF3.put (fun k o e e1 e2=>by rw [upd_other _ _ (fun h=>by rw [h,hsb] at e;injection e with e;exact e1 _ _ e.symm)];exact hpo k o e e1 e2) (upd_same _ _ _) (hrow.mono fun k o hk e=>by cases hk;rw [upd_other _ _ (hne).symm];exact e)
     refine RdhP.h (ds:=[.func (.func 74) #[] B.caps]) hF4.fb rfl (W.mk ?_)
     (conv=>whnf)
     repeat' (refine ob ?_ ?_;(first | trivial | omega | (simp only [inR];omega) | exact ble (by rfl) | exact SlR.some ‹_› (by omega));(conv=>whnf))
     refine CallvP.fn _ (SoundFn.of bodyQ74 (ih (n + 1) (by omega))) (W.mk ?_)
     (conv=>whnf)
     refine HpcP.mk ⟨by rw [← htg.2.2];rfl,hF4⟩ (fun v p5 G5 hg5 hq5=>W.mk ?_)
     obtain ⟨rfl,hF5⟩:=hq5
     (conv=>whnf)
     refine ForkP.mk (fun _=>W.mk ?_) (fun h=>by cases h)
     (conv=>whnf)
     refine NmP.mk ⟨[],W.mk ?_⟩
     (conv=>whnf)
     exact FinHp.of rfl ⟨rfl,hF5⟩
    ·have hon:(flat intE (doneQ n)++rest).length = c' * 1:=by rw [List.length_append,flat_len,hr,show intE.k = 1 from rfl];omega
     have hin:=fun hc2=>RowH.appIn (t:=3) (p:=p3) (b:=b) (us:=[(tgtQ n:Int)]) hr hc2 hm
     have hnw:=fun (b' cap:Nat) (rest':List Value)=>RowH.appNew (t:=3) (p:=p3) (b:=b') (c:=cap) (l:=doneQ n) (us:=[(tgtQ n:Int)]) (vs:=(flat intE (doneQ n)++rest).take ((doneQ n).length * intE.k)) (rest':=rest') take_flat
     have hone:∀ u∈(flat intE (doneQ n)++rest).take ((doneQ n).length * intE.k),u.oneCell' = true:=by rw [take_flat];exact flat_one _ _
     rw [hdo] at hin hnw
     rw [hdl] at hc hin hnw hone
     rw [hdl] at hsb
     have hbs:B.sb≠b:=fun h=>by
      rw [h,hb] at hsb;injection hsb with q;injection q with _ q2;exact absurd q2 (by decide)
     refine RdhP.h (ds:=[.slice (some ⟨b,0,none⟩) n c']) hsb rfl (W.mk ?_)
     (conv=>whnf)
     refine HpkP.mk ⟨_,3,hb,W.mk ?_⟩
     (conv=>whnf)
     refine OblP.mk ⟨rfl,rfl,hon,hc,hm,hone⟩ (W.mk ?_)
     (conv=>whnf)
     refine OblP.mk rfl (W.mk ?_)
     (conv=>whnf)
     refine OblP.mk ⟨by omega,by omega⟩ (W.mk ?_)
     (conv=>whnf)
     refine IteP.mk (fun hcap=>W.mk ?_) (fun hcap=>W.mk ?_)<;>(conv=>whnf)
     ·refine HpkP.mk ⟨[.slice (some ⟨b,0,none⟩) n c'],62,(upd_other _ _ hbs).trans hsb,W.mk ?_⟩
      (conv=>whnf)
      refine OblP.mk (Nat.le_refl _) (W.mk ?_)
      (conv=>whnf)
      have hrow:=hin (by simp only [List.length_singleton];omega)
      have hpo:∀ k o,p3 k = some o→(∀ cs x,o≠.cells cs 62 x)→(∀ cs x,o≠.cells cs 3 x)→upd p3 b (some (Obj.cells (List.take (n * intE.k) (flat intE (doneQ n)++rest)++flat intE [(tgtQ n:Int)]++List.drop ((n + [(tgtQ n:Int)].length) * intE.k) (flat intE (doneQ n)++rest)).toArray 3 (0,0))) k = some o:=fun k o e _ h3=>by
       rw [upd_other _ _ (fun h=>by rw [h,hb] at e;injection e with e;exact h3 _ _ e.symm)];exact e
      have hF4:FH (upd (upd p3 b (some (Obj.cells (List.take (n * intE.k) (flat intE (doneQ n)++rest)++flat intE [(tgtQ n:Int)]++List.drop ((n + [(tgtQ n:Int)].length) * intE.k) (flat intE (doneQ n)++rest)).toArray 3 (0,0)))) B.sb (some (.cells #[.slice (some ⟨b,0,none⟩) (n + 1) c'] 62 (0,0)))) G3 B (doneQ (n + 1)):=hF3.put (fun k o e e1 e2=>by rw [upd_other _ _ (fun h=>by rw [h,hsb] at e;injection e with e;exact e1 _ _ e.symm)];exact hpo k o e e1 e2) (upd_same _ _ _) (hrow.mono fun k o hk e=>by cases hk;rw [upd_other _ _ (hbs).symm];exact e)
      refine RdhP.h (ds:=[.func (.func 74) #[] B.caps]) hF4.fb rfl (W.mk ?_)
      (conv=>whnf)
      repeat' (refine ob ?_ ?_;(first | trivial | omega | (simp only [inR];omega) | exact ble (by rfl) | exact SlR.some ‹_› (by omega));(conv=>whnf))
      refine CallvP.fn _ (SoundFn.of bodyQ74 (ih (n + 1) (by omega))) (W.mk ?_)
      (conv=>whnf)
      refine HpcP.mk ⟨by rw [← htg.2.2];rfl,hF4⟩ (fun v p5 G5 hg5 hq5=>W.mk ?_)
      obtain ⟨rfl,hF5⟩:=hq5
      (conv=>whnf)
      refine ForkP.mk (fun _=>W.mk ?_) (fun h=>by cases h)
      (conv=>whnf)
      refine NmP.mk ⟨[],W.mk ?_⟩
      (conv=>whnf)
      exact FinHp.of rfl ⟨rfl,hF5⟩
     ·refine AppnP.mk (fun b' cap rest' hb1 hb2 hb3 hb4=>W.mk ?_)
      (conv=>whnf)
      have hne:B.sb≠b':=fun h=>by rw [h,hb1] at hsb;cases hsb
      refine HpkP.mk ⟨[.slice (some ⟨b,0,none⟩) n c'],62,(upd_other _ _ hne).trans hsb,W.mk ?_⟩
      (conv=>whnf)
      refine OblP.mk (Nat.le_refl _) (W.mk ?_)
      (conv=>whnf)
      have hrow:=hnw b' cap rest' hb4 hb2 hb3
      have hpo:∀ k o,p3 k = some o→(∀ cs x,o≠.cells cs 62 x)→(∀ cs x,o≠.cells cs 3 x)→upd p3 b' (some (Obj.cells (List.take (n * intE.k) (flat intE (doneQ n)++rest)++flat intE [(tgtQ n:Int)]++rest').toArray 3 (0,0))) k = some o:=fun k o e _ _=>by
       rw [upd_other _ _ (fun h=>by rw [h,hb1] at e;cases e)];exact e
      have hF4:FH (upd (upd p3 b' (some (Obj.cells (List.take (n * intE.k) (flat intE (doneQ n)++rest)++flat intE [(tgtQ n:Int)]++rest').toArray 3 (0,0)))) B.sb (some (.cells #[.slice (some ⟨b',0,none⟩) (n + 1) cap] 62 (0,0)))) G3 B (doneQ (n + 1)):=hF3.put (fun k o e e1 e2=>by rw [upd_other _ _ (fun h=>by rw [h,hsb] at e;injection e with e;exact e1 _ _ e.symm)];exact hpo k o e e1 e2) (upd_same _ _ _) (hrow.mono fun k o hk e=>by cases hk;rw [upd_other _ _ (hne).symm];exact e)
      refine RdhP.h (ds:=[.func (.func 74) #[] B.caps]) hF4.fb rfl (W.mk ?_)
      (conv=>whnf)
      repeat' (refine ob ?_ ?_;(first | trivial | omega | (simp only [inR];omega) | exact ble (by rfl) | exact SlR.some ‹_› (by omega));(conv=>whnf))
      refine CallvP.fn _ (SoundFn.of bodyQ74 (ih (n + 1) (by omega))) (W.mk ?_)
      (conv=>whnf)
      refine HpcP.mk ⟨by rw [← htg.2.2];rfl,hF4⟩ (fun v p5 G5 hg5 hq5=>W.mk ?_)
      obtain ⟨rfl,hF5⟩:=hq5
      (conv=>whnf)
      refine ForkP.mk (fun _=>W.mk ?_) (fun h=>by cases h)
      (conv=>whnf)
      refine NmP.mk ⟨[],W.mk ?_⟩
      (conv=>whnf)
      exact FinHp.of rfl ⟨rfl,hF5⟩
theorem upd_up {p:Hp} {b k:Nat} {o o':Obj} (hb:p b = none) (h:p k = some o):upd p b (some o') k = some o:=by
 rw [upd_other _ _ (fun e=>by rw [e,hb] at h;cases h)];exact h
theorem fh_new {p1 G:Hp} {q mb qb lb pb sb fb:Nat} {pv:Value} (hqu:QuH p1 G q papQ [] (pcsF quoQ)) (hpv:SlV strE G pv papQ) (h1:p1 mb = none) (h2:upd p1 mb (some (.map #[] 0)) qb = none)
  (h3:upd (upd p1 mb (some (.map #[] 0))) qb (some (.cells #[ptr q] 155 (0,0))) lb = none)
  (h4:upd (upd (upd p1 mb (some (.map #[] 0))) qb (some (.cells #[ptr q] 155 (0,0)))) lb (some (.cells #[.map (some mb)] 193 (0,0))) pb = none)
  (h5:upd (upd (upd (upd p1 mb (some (.map #[] 0))) qb (some (.cells #[ptr q] 155 (0,0)))) lb (some (.cells #[.map (some mb)] 193 (0,0)))) pb (some (.cells #[pv] 68 (0,0))) sb = none)
  (h6:upd (upd (upd (upd (upd p1 mb (some (.map #[] 0))) qb (some (.cells #[ptr q] 155 (0,0)))) lb (some (.cells #[.map (some mb)] 193 (0,0)))) pb (some (.cells #[pv] 68 (0,0)))) sb (some (.cells #[.slice none 0 0] 62 (0,0))) fb = none) :
  FH (upd (upd (upd (upd (upd (upd (upd p1 mb (some (.map #[] 0))) qb (some (.cells #[ptr q] 155 (0,0)))) lb (some (.cells #[.map (some mb)] 193 (0,0)))) pb (some (.cells #[pv] 68 (0,0)))) sb (some (.cells #[.slice none 0 0] 62 (0,0)))) fb (some (.cells #[.nilFunc] 194 (0,0)))) fb (some (.cells #[.func (.func 74) #[] #[ptr qb,ptr lb,ptr pb,ptr sb,ptr fb]] 194 (0,0)))) G ⟨q,qb,lb,mb,pb,sb,fb⟩ []:=by
 have e6:∀ {P:Hp} {o:Obj},P fb = none→∀ {k:Nat} {x:Obj},P k = some x→upd (upd P fb (some (.cells #[.nilFunc] 194 (0,0)))) fb (some o) k = some x:=fun {P o} hf {k x} h=>by
  have hne:k≠fb:=fun e=>by rw [e,hf] at h;cases h
  rw [upd_other _ _ hne,upd_other _ _ hne];exact h
 refine ⟨e6 h6 (upd_up h5 (upd_up h4 (upd_up h3 (upd_same _ _ _)))),hqu.up fun k o h=>e6 h6 (upd_up h5 (upd_up h4 (upd_up h3 (upd_up h2 (upd_up h1 h))))),e6 h6 (upd_up h5 (upd_up h4 (upd_same _ _ _))),⟨0,e6 h6 (upd_up h5 (upd_up h4 (upd_up h3 (upd_up h2 (upd_same _ _ _)))))⟩,⟨pv,e6 h6 (upd_up h5 (upd_same _ _ _)),hpv⟩,⟨_,e6 h6 (upd_same _ _ _),RowH.nil⟩,upd_same _ _ _⟩
set_option maxHeartbeats 2000000 in
theorem quote50h:Sound Try.prog 50 id (.hp (fun args p G=>∃ a b,args = [a,b, .slice none 0 0]∧SlV strE G a papQ∧SlV strE G b quoQ) fun _ p v p' G=>∃ w,v = .tuple #[w,I 0]∧RowH intE 3 p' w [0,2]):=by
 refine compQ50.hp (Tab.nil _) (fun args p G h=>?_) (fun args p v p' G G' hg h=>h) (fun args p G h=>?_)
 ·obtain ⟨a,b,rfl,_⟩:=h;simp
 ·obtain ⟨a,b,rfl,ha,hb⟩:=h
  obtain ⟨aa,an,ac,rfl,_,_⟩:=id ha
  obtain ⟨ba,bn,bc,rfl,_,_⟩:=id hb
  (conv=>whnf)
  refine CallH.mk _ (quote54 papQ quoQ []) bodyQ54 (W.mk ?_)
  (conv=>whnf)
  refine HpcP.mk ⟨_,_,_,rfl,ha,hb,SlV.nil⟩ (fun v p1 G1 hg1 hq=>W.mk ?_)
  obtain ⟨hk1,⟨hno,_⟩ | ⟨hok,q,rfl,hqu⟩⟩:=hq
  ·exact absurd hno (by decide +kernel)
  (conv=>whnf)
  refine ForkP.mk (fun _=>W.mk ?_) (fun h=>absurd h (by decide +kernel))
  (conv=>whnf)
  refine NewP.mk (fun mb hmb=>W.mk ?_)
  (conv=>whnf)
  refine NewP.mk (fun qb hqb=>W.mk ?_)
  (conv=>whnf)
  refine NewP.mk (fun lb hlb=>W.mk ?_)
  (conv=>whnf)
  refine NewP.mk (fun pb hpb=>W.mk ?_)
  (conv=>whnf)
  refine NewP.mk (fun sb hsb=>W.mk ?_)
  (conv=>whnf)
  refine NewP.mk (fun fb hfb=>W.mk ?_)
  (conv=>whnf)
  have hF:=fh_new hqu (ha.grow hg1) hmb hqb hlb hpb hsb hfb
  refine HpkP.mk ⟨[.nilFunc],194,upd_same _ _ _,W.mk ?_⟩
  (conv=>whnf)
  refine OblP.mk (Nat.le_refl _) (W.mk ?_)
  (conv=>whnf)
  refine RdhP.h (ds:=[.func (.func 74) #[] #[ptr qb,ptr lb,ptr pb,ptr sb,ptr fb]]) hF.fb rfl (W.mk ?_)
  (conv=>whnf)
  refine CallvP.fn _ (SoundFn.of bodyQ74 (find74 ⟨q,qb,lb,mb,pb,sb,fb⟩ 2 0 rfl)) (W.mk ?_)
  (conv=>whnf)
  refine HpcP.mk ⟨rfl,hF⟩ (fun v p5 G5 hg5 hq5=>W.mk ?_)
  obtain ⟨rfl,hF5⟩:=hq5
  (conv=>whnf)
  refine ForkP.mk (fun _=>W.mk ?_) (fun h=>by cases h)
  (conv=>whnf)
  obtain ⟨w,hsb5,hw5⟩:=hF5.sb
  obtain ⟨wa,wc,rfl⟩:=hw5.sl
  refine RdhP.h (ds:=[.slice wa 2 wc]) hsb5 rfl (W.mk ?_)
  (conv=>whnf)
  refine NmP.mk ⟨[],W.mk ?_⟩
  (conv=>whnf)
  exact FinHp.of rfl ⟨_,rfl,hw5⟩
theorem quote50:Sound Try.prog 50 id (.rel (fun args G=>∃ a b,args = [a,b, .slice none 0 0]∧SlV strE G a papQ∧SlV strE G b quoQ) fun _ v G=>∃ w,v = .tuple #[w,I 0]∧SlV intE G w [0,2]):=by
 refine Sound.hpRel quote50h (fun args G h=>h) (fun args v p' G' G'' hg hp h=>?_) (fun args v G G' hg h=>?_)
 ·obtain ⟨w,h1,h2⟩:=h
  exact ⟨w,h1,h2.slV hp (by decide)⟩
 ·obtain ⟨w,h1,h2⟩:=h
  exact ⟨w,h1,h2.grow hg⟩
set_option maxHeartbeats 2000000 in
theorem quotes19:Sound Try.prog 19 id quoS:=by
 refine compQ19.gsca (Tab.cons 50 _ quote50 bodyQ50 (Tab.nil _)) (fun args G s h=>?_) (fun args G x h=>?_)
 ·subst h;simp
 ·obtain rfl:=h
  (conv=>whnf)
  refine PubP.mk (fun a1 c1 G1 hg1 hp1=>W.mk ?_)
  (conv=>whnf)
  refine PubP.mk (fun a2 c2 G2 hg2 hp2=>W.mk ?_)
  (conv=>whnf)
  refine RelP.mk ⟨_,_,rfl,(hp1.slV (e:=strE) (l:=papQ) rfl rfl (by decide)).grow hg2,hp2.slV (e:=strE) (l:=quoQ) rfl rfl (by decide)⟩ (fun v G3 hg3 hq=>W.mk ?_)
  obtain ⟨w,rfl,wa,wn,wc,rfl,hl,_⟩:=hq
  have hn:wn = 2:=hl.len.symm
  subst hn
  (conv=>whnf)
  refine IteP.mk (fun _=>W.mk ?_) (fun h=>absurd rfl h)
  (conv=>whnf)
  refine IteP.mk (fun _=>W.mk ?_) (fun h=>absurd rfl h)
  (conv=>whnf)
  have e0:=hl.el (i:=0) (by decide)
  have e1:=hl.el (i:=1) (by decide)
  repeat' (first | (refine ob ?_ ?_;(first | trivial | omega | (simp only [inR];omega) | exact ble (by rfl) | exact SlR.some ‹_› (by omega));(conv=>whnf)) | (first | (refine ra ‹_› (by rfl) ?_;(conv=>whnf)) | (refine rb ‹_› (by rfl) ?_;(conv=>whnf)) | (refine rc ‹_› (by rfl) ?_;(conv=>whnf)) | (refine rd ‹_› (by rfl) ?_;(conv=>whnf))))
  refine IteP.mk (fun _=>W.mk ?_) (fun h=>absurd rfl h)
  (conv=>whnf)
  repeat' (first | (refine ob ?_ ?_;(first | trivial | omega | (simp only [inR];omega) | exact ble (by rfl) | exact SlR.some ‹_› (by omega));(conv=>whnf)) | (first | (refine ra ‹_› (by rfl) ?_;(conv=>whnf)) | (refine rb ‹_› (by rfl) ?_;(conv=>whnf)) | (refine rc ‹_› (by rfl) ?_;(conv=>whnf)) | (refine rd ‹_› (by rfl) ?_;(conv=>whnf))))
  refine IteP.mk (fun _=>W.mk ?_) (fun h=>absurd rfl h)
  (conv=>whnf)
  exact FinP.mk rfl

end Go.Proofs.Ytefnikpoimaiiaa
