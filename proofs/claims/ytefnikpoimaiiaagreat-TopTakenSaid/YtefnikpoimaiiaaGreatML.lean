/- Layer 3: the reference: change. Layer 3: the reference: Play; the error of a draft with steps. Layer 3: drawn drafts and steps, read without bounds; Thin, short, fault, ready. Layer 3: drafts and steps, copied for the program. Layer 3: the drawn values, opened. -/
import Derived.Test.YtefnikpoimaiiaaGreatMK
import Derived.Test.YtefnikpoimaiiaaGreatMC
import Derived.Test.YtefnikpoimaiiaaGreatRows
set_option linter.unusedSimpArgs false
set_option linter.unusedVariables false
namespace Go.Proofs.YtefnikpoimaiiaaGreat
open Go.Pal Go.RowKit
set_option maxRecDepth 100000
abbrev args4 {α β γ δ:Type} (A:Rd α) (B:Rd β) (C:Rd γ) (D:Rd δ) (q:α→β→γ→δ→Prop):GRel (α × β × γ × δ):=fun args G x=>∃ u v w z,args = [u,v,w,z]∧A.R G u x.1∧B.R G v x.2.1∧C.R G w x.2.2.1∧D.R G z x.2.2.2∧q x.1 x.2.1 x.2.2.1 x.2.2.2
def refChF (d:Dr) (l:List It) (x:Sp) (n:Int):Option (List It) :=
 if fineF l x = true∧(cutF l x).all (fun i=>!refProt d (l.getD i default)) = true then some (insF (goneF l n (cutF l x)) (placeF l x) (putF n x.put)) else none
def refChR (x:Dr × List It × Sp × Int) (v:Value) (G:Hp):Prop:=match refChF x.1 x.2.1 x.2.2.1 x.2.2.2 with
 | some l'=>∃ lv,v = .tuple #[lv, .bool true]∧SlV itE G lv l'
 | none=>∃ a n c,v = .tuple #[.slice a n c, .bool false]
theorem refChR.grow {x:Dr × List It × Sp × Int} {v:Value} {G G':Hp} (hg:Grow G G') (h:refChR x v G):refChR x v G':=by
 unfold refChR at *
 split<;>rename_i e<;>rw [e] at h
 ·obtain ⟨lv,h1,h2⟩:=h;exact ⟨lv,h1,h2.grow hg⟩
 ·exact h
theorem Row.setAt {α:Type} {E:El α} {l:List α} {n:Nat} {vs us:List Value} (h:Row E l n vs) {i d m:Nat} {x:α} (hi:i < l.length) (hd:d + m≤E.k) (hx:(E.f l[i]).take d++us++(E.f l[i]).drop (d + m) = E.f x):Row E (l.set i x) n (vs.take (i * E.k + d)++us++vs.drop (i * E.k + d + m)):=by
 obtain ⟨rfl,rfl⟩:=h
 refine ⟨by simp, ?_⟩
 have:=flat_set E l [] us hi hd hx
 simpa [flat] using this
end Go.Proofs.YtefnikpoimaiiaaGreat

namespace Go.Proofs.YtefnikpoimaiiaaGreat
open Go.Pal Go.RowKit
set_option maxRecDepth 100000
def PosL (S:Sh):Prop:=0≤S.ch∧∀ n∈S.live,1≤n
theorem posL_step {d:Dr} {S S':Sh} {x:Sp} (h:PosL S) (hs:stepF d S x = some S'):PosL S':=by
 obtain ⟨h1,h2⟩:=h
 unfold stepF at hs
 split at hs
 ·unfold changeF at hs
  split at hs
  ·cases hs
   refine ⟨by show 0≤S.ch + 1;omega,fun n hn=>?_⟩
   rcases List.mem_append.1 hn with hn | hn
   ·exact h2 n hn
   ·have:n = S.ch + 1:=by simpa using hn
    omega
  ·cases hs
 ·unfold undoF at hs
  split at hs
  ·cases hs
   exact ⟨h1,fun n hn=>h2 n (List.mem_filter.1 hn).1⟩
  ·cases hs
def refPlayR (x:Dr × List Sp) (v:Value) (G:Hp):Prop:=match playF x.1 (beginS x.1) x.2 0 with
 | .inl k=>∃ a n c b m e,v = .tuple #[.slice a n c, .slice b m e,I (k:Nat)]
 | .inr S=>∃ a b,v = .tuple #[a,b,I (-1)]∧SlV itE G a S.its∧SlV intE G b S.live
theorem refPlayR.grow {x:Dr × List Sp} {v:Value} {G G':Hp} (hg:Grow G G') (h:refPlayR x v G):refPlayR x v G':=by
 unfold refPlayR at *
 split<;>rename_i e<;>rw [e] at h
 ·exact h
 ·obtain ⟨a,b,h1,h2,h3⟩:=h;exact ⟨a,b,h1,h2.grow hg,h3.grow hg⟩
def FineS (steps:List Sp):Prop:=∀ x∈steps,x.put.length≤1000∧∀ s∈x.put,s.size≤1000000
end Go.Proofs.YtefnikpoimaiiaaGreat

namespace Go.Proofs.YtefnikpoimaiiaaGreat
open Go.Pal Go.RowKit
set_option maxRecDepth 100000
theorem SlU.v {α:Type} {e:El α} {G:Hp} {v:Value} {x:List α} (h:SlU e G v x) (hb:x.length≤140737488355328):SlV e G v x:=by
 obtain ⟨a,n,c,rfl,h,_⟩:=h
 exact ⟨a,n,c,rfl,h,by have:=h.len;omega⟩
def duRd:Rd Dr:=⟨fun G v d=>∃ w k,v = .agg #[w,k]∧SlU woE G w d.ws∧SlU intE G k d.ks,fun {_ _ x y} ⟨w,k,h,h1,h2⟩ ⟨w',k',h',h1',h2'⟩=>by
  rw [h] at h';simp only [Value.agg.injEq,Array.mk.injEq,List.cons.injEq,and_true] at h'
  obtain ⟨rfl,rfl⟩:=h'
  have e1:=h1.uniq h1'
  have e2:=h2.uniq h2'
  cases x;cases y;simp_all,fun hg ⟨w,k,h,h1,h2⟩=>⟨w,k,h,h1.grow hg,h2.grow hg⟩⟩
def SpU (G:Hp) (cs:List Value) (x:Sp):Prop:=∃ pv,cs = [I x.u,I x.a,I x.c,pv]∧SlU strE G pv x.put
theorem SpU.uniq {G:Hp} {cs:List Value} {x y:Sp} (h:SpU G cs x) (h':SpU G cs y):x = y:=by
 obtain ⟨pv,h1,h2⟩:=h
 obtain ⟨pv',h1',h2'⟩:=h'
 rw [h1] at h1'
 simp only [List.cons.injEq,Value.int.injEq,true_and,and_true] at h1'
 obtain ⟨e1,e2,e3,rfl⟩:=h1'
 have:=h2.uniq h2'
 cases x;cases y;simp_all
theorem SpU.grow {G G':Hp} (cs:List Value) (x:Sp) (hg:Grow G G') (h:SpU G cs x):SpU G' cs x:=by
 obtain ⟨pv,h1,h2⟩:=h
 exact ⟨pv,h1,h2.grow hg⟩
theorem SpU.c {G:Hp} {cs:List Value} {x:Sp} (h:SpU G cs x) (hb:x.put.length≤140737488355328):SpC G cs x:=by
 obtain ⟨pv,h1,h2⟩:=h
 exact ⟨pv,h1,h2.v hb⟩
def suRd:Rd (List Sp):=⟨fun G v l=>∃ a n c,v = .slice a n c∧SlR 4 SpU G a n c l∧n≤maxLen,fun ⟨a,n,c,h,h1,_⟩ ⟨a',n',c',h',h1',_⟩=>by
  rw [h] at h';cases h'
  exact h1.uniq (fun cs x y h h'=>SpU.uniq h h') h1',fun {G G' _ _} hg ⟨a,n,c,h,h1,h2⟩=>⟨a,n,c,h,SlR.grow (G:=G) (G':=G') (fun cs x h=>SpU.grow cs x hg h) h1 hg,h2⟩⟩
theorem SlR.imp {α:Type} {k:Nat} {R R':Hp→List Value→α→Prop} {G:Hp} {a:Option Addr} {n c:Nat} {l:List α} (h:SlR k R G a n c l) (hi:∀ cs, ∀ x∈l,R G cs x→R' G cs x):SlR k R' G a n c l :=
 ⟨h.len,h.cap,h.some,fun i hi2=>let ⟨cs,h1,h2,h3⟩:=h.at_ i hi2;⟨cs,h1,h2,hi cs _ (List.getElem_mem hi2) h3⟩⟩
def shortF (l:List ByteArray):Bool:=l.all (fun s=>decide (s.size≤40)) && decide (l.length≤6)
def thinF (d:Dr) (steps:List Sp):Bool:=d.ws.all (fun w=>decide (w.t.size≤40)) && steps.all (fun x=>shortF x.put) && decide (d.ws.length≤65) && decide (d.ks.length≤70) && decide (steps.length≤85)
theorem thin_iff {d:Dr} {steps:List Sp}:thinF d steps = true↔(∀ w∈d.ws,w.t.size≤40)∧(∀ x∈steps,shortF x.put = true)∧d.ws.length≤65∧d.ks.length≤70∧steps.length≤85:=by
 simp only [thinF,Bool.and_eq_true,List.all_eq_true,decide_eq_true_eq,and_assoc]
theorem short_iff {l:List ByteArray}:shortF l = true↔(∀ s∈l,s.size≤40)∧l.length≤6:=by
 simp only [shortF,Bool.and_eq_true,List.all_eq_true,decide_eq_true_eq]
theorem thin_fine {d:Dr} {steps:List Sp} (h:thinF d steps = true):FineS steps:=fun x hx=>by
 obtain ⟨h1,h2⟩:=short_iff.1 ((thin_iff.1 h).2.1 x hx)
 exact ⟨by omega,fun s hs=>by have:=h1 s hs;omega⟩
theorem thin_dr {d:Dr} {steps:List Sp} (h:thinF d steps = true) {G:Hp} {v:Value} (hd:duRd.R G v d):drRd.R G v d:=by
 obtain ⟨_,_,h3,h4,_⟩:=thin_iff.1 h
 obtain ⟨w,k,e,h1,h2⟩:=hd
 exact ⟨w,k,e,h1.v (by omega),h2.v (by omega)⟩
theorem thin_sps {d:Dr} {steps:List Sp} (h:thinF d steps = true) {G:Hp} {v:Value} (hd:suRd.R G v steps):spsRd.R G v steps:=by
 obtain ⟨a,n,c,e,h1,h2⟩:=hd
 refine ⟨a,n,c,e,SlR.imp h1 (fun cs x hx h3=>h3.c ?_),h2⟩
 have:=(thin_fine h x hx).1
 omega
theorem short28:Sound Tryz.prog 47 id (gsca (args1 ⟨SlU strE,SlU.uniq,SlU.grow⟩ fun _=>True) fun l v=>v = .bool (shortF l)):=by
 refine comp28.gsca (Tab.nil _) (fun args G s h=>?_) (fun args G l h=>?_)
 ·obtain ⟨v,rfl,_⟩:=h;simp
 ·obtain ⟨v,rfl,⟨a,n,c,rfl,hl,hn⟩,_⟩:=h
  have hlen:=hl.len
  have hm:=maxLen_lt
  (conv=>whnf)
  refine LoopP.of { α:=Nat,fr:=fun x=>[(0, .v (.slice a n c)),(3, .v (I x))],H:=fun _=>[],ok:=fun i _=>i≤l.length∧∀ j < i,decide ((l.getD j default).size≤40) = true,m:=fun x=>l.length - x }
   0 (HeadP.of [] ⟨rfl,rfl,trivial⟩ trivial) ⟨Nat.zero_le _,fun j hj=>by omega⟩ (fun _=>⟨rfl,rfl⟩) (fun (i:Nat) G' hG hx=>W.mk ?_)
  obtain ⟨hi2,hx⟩:=hx
  replace hl:=SlR.grow (G:=G) (G':=G') (fun _ _ h=>h) hl hG
  dsimp only
  (conv=>whnf)
  refine IteP.mk (fun hlt=>W.mk ?_) (fun hge=>W.mk ?_)<;>(conv=>whnf)
  ·have h1:i < l.length:=by omega
   have hc:=hl.el h1
   have hgd:l.getD i default = l[i]:=by simp [h1]
   have bad:decide ((l.getD i default).size≤40) = false→l.all (fun s=>decide (s.size≤40)) = false:=all_f (b:=fun s:ByteArray=>decide (s.size≤40)) h1
   rw [hgd] at bad
   have nxt:decide (l[i].size≤40) = true→∀ j < i + 1,decide ((l.getD j default).size≤40) = true:=fun ht j hj=>by
    rcases Nat.lt_or_eq_of_le (Nat.le_of_lt_succ hj) with h | h
    ·exact hx j h
    ·subst h;rw [hgd];exact ht
   generalize l[i] = s at hc bad nxt
   repeat' (first | (refine ob ?_ ?_;(first | trivial | omega | (simp only [inR];omega) | exact ble (by rfl) | exact SlR.some ‹_› (by omega));(conv=>whnf)) | (first | (refine ra ‹_› (by rfl) ?_;(conv=>whnf)) | (refine rb ‹_› (by rfl) ?_;(conv=>whnf)) | (refine rc ‹_› (by rfl) ?_;(conv=>whnf)) | (refine rd ‹_› (by rfl) ?_;(conv=>whnf))))
   refine IteP.mk (fun hq=>W.mk ?_) (fun hq=>W.mk ?_)<;>(conv=>whnf)
   ·refine FinP.mk (congrArg Value.bool ?_)
    rw [shortF,bad (decide_eq_false (by omega)),Bool.false_and]
   ·repeat' (refine ob ?_ ?_;(first | trivial | omega | (simp only [inR];omega) | exact ble (by rfl) | exact SlR.some ‹_› (by omega));(conv=>whnf))
    exact RoundP.of (i + 1) (HeadP.of [] ⟨rfl,rfl,trivial⟩ trivial) ⟨h1,nxt (decide_eq_true (by omega))⟩ (by simp only;omega)
  ·have:i = l.length:=by omega
   subst this
   have hall:l.all (fun s=>decide (s.size≤40)) = true:=all_t (d:=default) (b:=fun s:ByteArray=>decide (s.size≤40)) fun j hj=>hx j hj
   refine IteP.mk (fun hq=>W.mk ?_) (fun hq=>W.mk ?_)<;>(conv=>whnf)<;>refine FinP.mk (congrArg Value.bool ?_)<;>rw [shortF,hall,Bool.true_and]
   ·exact (decide_eq_true (by omega)).symm
   ·exact (decide_eq_false (by omega)).symm
theorem thin14:Sound Tryz.prog 18 id (gsca (args2 duRd suRd fun _ _=>True) fun x v=>v = .bool (thinF x.1 x.2)):=by
 refine comp14.gsca (Tab.cons 47 _ short28 body28 (Tab.nil _)) (fun args G s h=>?_) (fun args G x h=>?_)
 ·obtain ⟨u,v,rfl,_⟩:=h;simp
 ·obtain ⟨d,steps⟩:=x
  obtain ⟨_,_,rfl,⟨w,k,rfl,⟨wa,wn,wc,rfl,hwl,hwn⟩,⟨ka,kn,kc,rfl,hkl,hkn⟩⟩,⟨a,n,c,rfl,hst,hn⟩,_⟩:=h
  dsimp only at hwl hkl hst
  have hwlen:=hwl.len
  have hklen:=hkl.len
  have hlen:=hst.len
  have hm:=maxLen_lt
  dsimp only
  have no:¬ ((∀ w∈d.ws,w.t.size≤40)∧(∀ x∈steps,shortF x.put = true)∧d.ws.length≤65∧d.ks.length≤70∧steps.length≤85)→thinF d steps = false:=fun h=>by
   cases hv:thinF d steps with
   | false=>rfl
   | true=>exact absurd (thin_iff.1 hv) h
  (conv=>whnf)
  refine LoopP.of { α:=Nat,fr:=fun x=>[(1, .v (.slice a n c)),(2, .c (.ptr 0 0)),(5, .v (I x))],H:=fun _=>[(0, .cells .anon [.val (.slice wa wn wc), .val (.slice ka kn kc)] 58)],ok:=fun i _=>i≤d.ws.length∧∀ j (h:j < d.ws.length),j < i→d.ws[j].t.size≤40,m:=fun x=>d.ws.length - x }
   0 (HeadP.of [] ⟨rfl,rfl,rfl,trivial⟩ ⟨rfl,trivial⟩) ⟨Nat.zero_le _,fun j _ hj=>by omega⟩ (fun _=>⟨rfl,rfl⟩) (fun (i:Nat) G' hG hx=>W.mk ?_)
  obtain ⟨hi2,hx⟩:=hx
  replace hwl:=SlR.grow (G:=G) (G':=G') (fun _ _ h=>h) hwl hG
  dsimp only
  (conv=>whnf)
  refine IteP.mk (fun hlt=>W.mk ?_) (fun hge=>W.mk ?_)<;>(conv=>whnf)
  ·have h1:i < d.ws.length:=by omega
   have hc:=hwl.el h1
   have nxt:d.ws[i].t.size≤40→∀ j (h:j < d.ws.length),j < i + 1→d.ws[j].t.size≤40:=fun ht j h2 hj=>by
    rcases Nat.lt_or_eq_of_le (Nat.le_of_lt_succ hj) with h | h
    ·exact hx j h2 h
    ·subst h;exact ht
   have bad:¬ d.ws[i].t.size≤40→thinF d steps = false:=fun h=>no fun h2=>h (h2.1 _ (List.getElem_mem h1))
   generalize d.ws[i] = x at hc nxt bad
   repeat' (first | (refine ob ?_ ?_;(first | trivial | omega | (simp only [inR];omega) | exact ble (by rfl) | exact SlR.some ‹_› (by omega));(conv=>whnf)) | (first | (refine ra ‹_› (by rfl) ?_;(conv=>whnf)) | (refine rb ‹_› (by rfl) ?_;(conv=>whnf)) | (refine rc ‹_› (by rfl) ?_;(conv=>whnf)) | (refine rd ‹_› (by rfl) ?_;(conv=>whnf))))
   refine IteP.mk (fun hq=>W.mk ?_) (fun hq=>W.mk ?_)<;>(conv=>whnf)
   ·refine FinP.mk (congrArg Value.bool ?_)
    rw [bad (by omega)]
   ·repeat' (refine ob ?_ ?_;(first | trivial | omega | (simp only [inR];omega) | exact ble (by rfl) | exact SlR.some ‹_› (by omega));(conv=>whnf))
    exact RoundP.of (i + 1) (HeadP.of [] ⟨rfl,rfl,rfl,trivial⟩ ⟨rfl,trivial⟩) ⟨h1,nxt (by omega)⟩ (by simp only;omega)
  ·have:i = d.ws.length:=by omega
   subst this
   refine LoopP.of { α:=Nat,fr:=fun x=>[(1, .v (.slice a n c)),(2, .c (.ptr 0 0)),(6, .v (I x))],H:=fun _=>[(0, .cells .anon [.val (.slice wa wn wc), .val (.slice ka kn kc)] 58)],ok:=fun i _=>i≤steps.length∧∀ j (h:j < steps.length),j < i→shortF steps[j].put = true,m:=fun x=>steps.length - x }
    0 (HeadP.of [] ⟨rfl,rfl,rfl,trivial⟩ ⟨rfl,trivial⟩) ⟨Nat.zero_le _,fun j _ hj=>by omega⟩ (fun _=>⟨rfl,rfl⟩) (fun (i:Nat) G2 hG2 hx2=>W.mk ?_)
   obtain ⟨hi3,hx2⟩:=hx2
   dsimp only
   (conv=>whnf)
   refine IteP.mk (fun hlt=>W.mk ?_) (fun hge=>W.mk ?_)<;>(conv=>whnf)
   ·have h1:i < steps.length:=by omega
    obtain ⟨cs,c1,c2,c3⟩:=(SlR.grow (G:=G) (G':=G2) (fun cs x h=>SpU.grow cs x (hG.trans hG2) h) hst (hG.trans hG2)).at_ i h1
    have nxt:shortF steps[i].put = true→∀ j (h:j < steps.length),j < i + 1→shortF steps[j].put = true:=fun ht j h2 hj=>by
     rcases Nat.lt_or_eq_of_le (Nat.le_of_lt_succ hj) with h | h
     ·exact hx2 j h2 h
     ·subst h;exact ht
    have bad:¬ shortF steps[i].put = true→thinF d steps = false:=fun h=>no fun h2=>h (h2.2.1 _ (List.getElem_mem h1))
    generalize steps[i] = x at c3 nxt bad
    obtain ⟨pv,rfl,hp⟩:=c3
    obtain ⟨pa,pn,pc,rfl,_,_⟩:=id hp
    repeat' (first | (refine ob ?_ ?_;(first | trivial | omega | (simp only [inR];omega) | exact ble (by rfl) | exact SlR.some ‹_› (by omega));(conv=>whnf)) | (first | (refine ra ‹_› (by rfl) ?_;(conv=>whnf)) | (refine rb ‹_› (by rfl) ?_;(conv=>whnf)) | (refine rc ‹_› (by rfl) ?_;(conv=>whnf)) | (refine rd ‹_› (by rfl) ?_;(conv=>whnf))))
    refine ScaP.g (ok1 ⟨SlU strE,SlU.uniq,SlU.grow⟩ fun _=>True) (x:=x.put) ⟨_,rfl,hp,trivial⟩ (fun v hv=>W.mk ?_)
    subst hv
    (conv=>whnf)
    refine ForkP.mk (fun hb=>W.mk ?_) (fun hb=>W.mk ?_)<;>(conv=>whnf)
    ·repeat' (refine ob ?_ ?_;(first | trivial | omega | (simp only [inR];omega) | exact ble (by rfl) | exact SlR.some ‹_› (by omega));(conv=>whnf))
     exact RoundP.of (i + 1) (HeadP.of [] ⟨rfl,rfl,rfl,trivial⟩ ⟨rfl,trivial⟩) ⟨h1,nxt hb⟩ (by simp only;omega)
    ·refine FinP.mk (congrArg Value.bool ?_)
     rw [bad (by rw [hb];decide)]
   ·have:i = steps.length:=by omega
    subst this
    have m1:∀ w∈d.ws,w.t.size≤40:=fun w hw=>by
     obtain ⟨j,hj,rfl⟩:=List.mem_iff_getElem.1 hw
     exact hx j hj hj
    have m2:∀ x∈steps,shortF x.put = true:=fun w hw=>by
     obtain ⟨j,hj,rfl⟩:=List.mem_iff_getElem.1 hw
     exact hx2 j hj hj
    refine IteP.mk (fun q1=>W.mk ?_) (fun q1=>W.mk ?_)<;>(conv=>whnf)
    ·refine IteP.mk (fun q2=>W.mk ?_) (fun q2=>W.mk ?_)<;>(conv=>whnf)
     ·refine IteP.mk (fun q3=>W.mk ?_) (fun q3=>W.mk ?_)<;>(conv=>whnf)<;>refine FinP.mk (congrArg Value.bool ?_)
      ·exact (thin_iff.2 ⟨m1,m2,by omega,by omega,by omega⟩).symm
      ·rw [no fun h=>by omega]
     ·refine FinP.mk (congrArg Value.bool ?_)
      rw [no fun h=>by omega]
    ·refine FinP.mk (congrArg Value.bool ?_)
     rw [no fun h=>by omega]
end Go.Proofs.YtefnikpoimaiiaaGreat

namespace Go.Proofs.YtefnikpoimaiiaaGreat
open Go.Pal Go.RowKit
set_option maxRecDepth 100000
theorem texts46:Sound Tryz.prog 61 id (grel (args1 (slRd strE) fun l=>l.length≤100000) fun l v G=>SlV strE G v l):=by
 refine comp46.grel (Tab.nil _) (ok1 _ _) (fun args G s h=>?_) (fun x v G G' hg h=>h.grow hg) (fun args G l h=>?_)
 ·obtain ⟨v,rfl,_⟩:=h;simp
 ·obtain ⟨v,rfl,⟨a,n,c,rfl,hl,hn⟩,hb⟩:=h
  have hlen:=hl.len
  obtain ⟨q1,q2,q3⟩:=hl.all
  (conv=>whnf)
  refine OblP.mk (fun h=>hl.some h) (W.mk ?_);(conv=>whnf)
  refine RdP.at q1 q2 (W.mk ?_);(conv=>whnf)
  refine OblP.mk q3 (W.mk ?_);(conv=>whnf)
  refine OblP.mk (by omega) (W.mk ?_);(conv=>whnf)
  refine PubP.mk (fun ga gc G4 hg4 hp=>W.mk ?_)
  (conv=>whnf)
  exact FinP.mk (hp.slV rfl hlen (by omega))
theorem draft17:Sound Tryz.prog 26 id (grel (args1 drRd fun d=>d.ws.length≤100000∧d.ks.length≤100000) fun d v G=>drRd.R G v d):=by
 refine comp17.grel (Tab.nil _) (ok1 _ _) (fun args G s h=>?_) (fun x v G G' hg h=>drRd.grow hg h) (fun args G d h=>?_)
 ·obtain ⟨v,rfl,_⟩:=h;simp
 ·obtain ⟨v,rfl,⟨w,k,rfl,⟨wa,wn,wc,rfl,hwl,hwn⟩,⟨ka,kn,kc,rfl,hkl,hkn⟩⟩,hb1,hb2⟩:=h
  have hwlen:=hwl.len
  have hklen:=hkl.len
  obtain ⟨q1,q2,q3⟩:=hkl.all
  (conv=>whnf)
  refine OblP.mk (fun h=>hkl.some h) (W.mk ?_);(conv=>whnf)
  refine RdP.at q1 q2 (W.mk ?_);(conv=>whnf)
  refine OblP.mk q3 (W.mk ?_);(conv=>whnf)
  refine OblP.mk (by omega) (W.mk ?_);(conv=>whnf)
  refine LoopP.of { α:=Nat × Nat × List Value,fr:=fun x=>[(1, .c (.ptr 0 0)),(2, .c (.ptr 1 0)),(3, .c (.ptr 6 0)),(4, .v (I x.1))],H:=fun x=>[(0, .cells .anon [.val (.slice wa wn wc), .val (.slice ka kn kc)] 58),(1, .cells .anon [.val (.slice none 0 0), .val (.slice none 0 0)] 84),(6, .cells .anon [.row 7 x.2.1, .row 4 kn] 84),(4, .row none kn (d.ks.map intE.f).flatten 3 1),(7, .row none x.2.1 x.2.2 132 3)],ok:=fun x _=>x.1≤d.ws.length∧Row woE (d.ws.take x.1) x.2.1 x.2.2,m:=fun x=>d.ws.length - x.1 }
   (0,0,[]) (HeadP.of [(7,none)] ⟨rfl,rfl,rfl,rfl,trivial⟩ ⟨rfl,rfl,rfl,rfl,rfl,trivial⟩) ⟨Nat.zero_le _,Row.nil⟩ (fun _=>⟨rfl,rfl⟩) (fun x G2 hg2 hx=>W.mk ?_)
  obtain ⟨i,m,vs⟩:=x
  obtain ⟨hi,hr⟩:=hx
  dsimp only at hi hr
  dsimp only
  have hm:m = i:=by rw [hr.n,List.length_take];omega
  (conv=>whnf)
  refine IteP.mk (fun hlt=>W.mk ?_) (fun hge=>W.mk ?_)<;>(conv=>whnf)
  ·have h1:i < d.ws.length:=by omega
   have hc:=(SlR.grow (G:=G) (G':=G2) (fun _ _ h=>h) hwl hg2).el h1
   have hr2:=hr.snoc d.ws[i]
   rw [show d.ws.take i++[d.ws[i]] = d.ws.take (i + 1) by rw [List.take_add_one,List.getElem?_eq_getElem h1];rfl] at hr2
   generalize d.ws[i] = x at hc hr2
   repeat' (first | (refine ob ?_ ?_;(first | trivial | omega | (simp only [inR];omega) | exact ble (by rfl) | exact SlR.some ‹_› (by omega));(conv=>whnf)) | (first | (refine ra ‹_› (by rfl) ?_;(conv=>whnf)) | (refine rb ‹_› (by rfl) ?_;(conv=>whnf)) | (refine rc ‹_› (by rfl) ?_;(conv=>whnf)) | (refine rd ‹_› (by rfl) ?_;(conv=>whnf))))
   exact RoundP.of (i + 1,m + 1,_) (HeadP.of [(7,some 31)] ⟨rfl,rfl,rfl,rfl,trivial⟩ ⟨rfl,rfl,rfl,rfl,rfl,trivial⟩) ⟨h1,hr2⟩ (by show d.ws.length - (i + 1) < d.ws.length - i;omega)
  ·have:i = d.ws.length:=by omega
   subst this
   rw [List.take_length] at hr
   refine PubP.mk (fun ga gc G4 hg4 hp=>W.mk ?_)
   (conv=>whnf)
   refine PubP.mk (fun ga2 gc2 G5 hg5 hp2=>W.mk ?_)
   (conv=>whnf)
   exact FinP.mk ⟨_,_,rfl,(hr.pub hp (by omega)).grow hg5,hp2.slV rfl hklen (by omega)⟩
theorem spv_snoc {G:Hp} {vs us:List Value} {l:List Sp} {x:Sp} (hv:vs.length = l.length * 4) (hvs:∀ i (h:i < l.length),((vs.drop (i * 4)).take 4).length = 4∧SpC G ((vs.drop (i * 4)).take 4) l[i]) (hu:us.length = 4) (hx:SpC G us x):∀ i (h:i < (l++[x]).length),(((vs++us).drop (i * 4)).take 4).length = 4∧SpC G (((vs++us).drop (i * 4)).take 4) (l++[x])[i]:=by
 intro i hi
 by_cases h:i < l.length
 ·rw [List.getElem_append_left h]
  have:((vs++us).drop (i * 4)).take 4 = (vs.drop (i * 4)).take 4:=by
   rw [List.drop_append_of_le_length (by omega),List.take_append_of_le_length (by rw [List.length_drop];omega)]
  rw [this];exact hvs i h
 ·have:i = l.length:=by simp at hi;omega
  subst this
  have e:(l++[x])[l.length] = x:=by simp
  rw [e,List.drop_append,List.drop_of_length_le (by omega),List.nil_append,show l.length * 4 - vs.length = 0 by omega,List.drop_zero,List.take_of_length_le (by omega)]
  exact ⟨hu,hx⟩
theorem steps18:Sound Tryz.prog 27 id (grel (args1 spsRd fun l=>l.length≤100000∧FineS l) fun l v G=>spsRd.R G v l):=by
 refine comp18.grel (Tab.cons 61 _ texts46 body46 (Tab.nil _)) (ok1 _ _) (fun args G s h=>?_) (fun x v G G' hg h=>spsRd.grow hg h) (fun args G l h=>?_)
 ·obtain ⟨v,rfl,_⟩:=h;simp
 ·obtain ⟨v,rfl,⟨a,n,c,rfl,hl,hn⟩,hb,hf⟩:=h
  have hlen:=hl.len
  (conv=>whnf)
  refine LoopP.of { α:=Nat × Nat × List Value,fr:=fun x=>[(0, .v (.slice a n c)),(3, .c (.row 1 x.2.1)),(4, .v (I x.1))],H:=fun x=>[(1, .row none x.2.1 x.2.2 133 4)],ok:=fun x G=>x.1≤l.length∧x.2.1 = x.1∧x.2.2.length = x.1 * 4∧∀ i (h:i < (l.take x.1).length),((x.2.2.drop (i * 4)).take 4).length = 4∧SpC G ((x.2.2.drop (i * 4)).take 4) (l.take x.1)[i],m:=fun x=>l.length - x.1 }
   (0,0,[]) (HeadP.of [(1,none)] ⟨rfl,rfl,rfl,trivial⟩ ⟨rfl,trivial⟩) ⟨Nat.zero_le _,rfl,rfl,fun i h=>absurd h (by simp)⟩ (fun _=>⟨rfl,rfl⟩) (fun x G2 hg2 hx=>W.mk ?_)
  obtain ⟨i,m,vs⟩:=x
  obtain ⟨hi,hm,hvl,hvs⟩:=hx
  dsimp only at hi hm hvl hvs
  dsimp only
  (conv=>whnf)
  refine IteP.mk (fun hlt=>W.mk ?_) (fun hge=>W.mk ?_)<;>(conv=>whnf)
  ·have h1:i < l.length:=by omega
   obtain ⟨cs,c1,c2,c3⟩:=(SlR.grow (G:=G) (G':=G2) (fun cs x h=>SpC.grow cs x hg2 h) hl hg2).at_ i h1
   have hfi:=hf _ (List.getElem_mem h1)
   have htk:l.take (i + 1) = l.take i++[l[i]]:=by rw [List.take_add_one,List.getElem?_eq_getElem h1];rfl
   generalize l[i] = x at c3 hfi htk
   obtain ⟨pv,rfl,hp⟩:=id c3
   obtain ⟨pa,pn,pc,rfl,hpl,hpn⟩:=id hp
   repeat' (first | (refine ob ?_ ?_;(first | trivial | omega | (simp only [inR];omega) | exact ble (by rfl) | exact SlR.some ‹_› (by omega));(conv=>whnf)) | (first | (refine ra ‹_› (by rfl) ?_;(conv=>whnf)) | (refine rb ‹_› (by rfl) ?_;(conv=>whnf)) | (refine rc ‹_› (by rfl) ?_;(conv=>whnf)) | (refine rd ‹_› (by rfl) ?_;(conv=>whnf))))
   refine RelP.g (ok1 (slRd strE) fun l=>l.length≤100000) (x:=x.put) ⟨_,rfl,hp,by show x.put.length≤_;omega⟩ (Grow.refl _) (fun v G3 hg3 hq=>W.mk ?_)
   obtain ⟨ra,rn,rc,rfl,_,_⟩:=id hq
   (conv=>whnf)
   repeat' (first | (refine ob ?_ ?_;(first | trivial | omega | (simp only [inR];omega) | exact ble (by rfl) | exact SlR.some ‹_› (by omega));(conv=>whnf)) | (first | (refine ra ‹_› (by rfl) ?_;(conv=>whnf)) | (refine rb ‹_› (by rfl) ?_;(conv=>whnf)) | (refine rc ‹_› (by rfl) ?_;(conv=>whnf)) | (refine rd ‹_› (by rfl) ?_;(conv=>whnf))))
   have hlt2:(l.take i).length = i:=by rw [List.length_take];omega
   have hnx:=spv_snoc (G:=G3) (x:=x) (us:=[I x.u,I x.a,I x.c, .slice ra rn rc]) (by rw [hlt2];exact hvl) (fun j hj=>⟨(hvs j hj).1,SpC.grow _ _ hg3 (hvs j hj).2⟩) rfl ⟨_,rfl,hq⟩
   rw [← htk] at hnx
   exact RoundP.of (i + 1,m + 1,_) (HeadP.of [(1,some 31)] ⟨rfl,rfl,rfl,trivial⟩ ⟨rfl,trivial⟩) ⟨h1,by show m + 1 = i + 1;omega,by show (vs++_).length = (i + 1) * 4;rw [List.length_append,hvl];simp;omega,hnx⟩ (by show l.length - (i + 1) < l.length - i;omega)
  ·have:i = l.length:=by omega
   subst this
   rw [List.take_length] at hvs
   refine PubP.mk (fun ga gc G4 hg4 hp=>W.mk ?_)
   (conv=>whnf)
   refine FinP.mk ⟨_,_,_,rfl,SlR.ofPub hp hm.symm fun i hi=>⟨(hvs i hi).1,SpC.grow _ _ hg4 (hvs i hi).2⟩,by unfold maxLen;omega⟩
def RowSp (G:Hp) (l:List Sp) (n:Nat) (vs:List Value):Prop:=n = l.length∧vs.length = n * 4∧∀ i (h:i < l.length),((vs.drop (i * 4)).take 4).length = 4∧SpC G ((vs.drop (i * 4)).take 4) l[i]
theorem RowSp.grow {G G':Hp} {l:List Sp} {n:Nat} {vs:List Value} (hg:Grow G G') (h:RowSp G l n vs):RowSp G' l n vs:=⟨h.1,h.2.1,fun i hi=>⟨(h.2.2 i hi).1,SpC.grow _ _ hg (h.2.2 i hi).2⟩⟩
theorem RowSp.snoc {G:Hp} {l:List Sp} {n:Nat} {vs us:List Value} {x:Sp} (h:RowSp G l n vs) (hu:us.length = 4) (hx:SpC G us x):RowSp G (l++[x]) (n + 1) (vs++us):=by
 obtain ⟨rfl,h2,h3⟩:=h
 exact ⟨by simp,by rw [List.length_append,h2,hu];omega,spv_snoc h2 h3 hu hx⟩
theorem RowSp.pub {G:Hp} {a:Option Addr} {l:List Sp} {n c:Nat} {vs:List Value} (h:RowSp G l n vs) (hp:PubRow G a n c vs) (hb:n≤1000000):spsRd.R G (.slice a n c) l :=
 ⟨_,_,_,rfl,SlR.ofPub hp h.1.symm h.2.2,by unfold maxLen;omega⟩
end Go.Proofs.YtefnikpoimaiiaaGreat

namespace Go.Proofs.YtefnikpoimaiiaaGreat
open Go.Pal Go.RowKit Go.ChangeShapes
theorem SlR.map {α β:Type} {k:Nat} {R:Hp→List Value→α→Prop} {R':Hp→List Value→β→Prop} {G:Hp} {a:Option Addr} {n c:Nat} {l:List α} (f:α→β) (hf:∀ cs x,R G cs x→R' G cs (f x)) (h:SlR k R G a n c l):SlR k R' G a n c (l.map f) :=
 ⟨by rw [List.length_map,h.len],h.cap,h.some,fun i hi=>by
  obtain ⟨cs,h1,h2,h3⟩:=h.at_ i (by simpa using hi)
  exact ⟨cs,h1,h2,by rw [List.getElem_map];exact hf _ _ h3⟩⟩
theorem udl3:Tryz.prog.underlying 3 = some (.int .i64):=by kernel_rfl
theorem udl5:Tryz.prog.underlying 5 = some (.int .u8):=by kernel_rfl
theorem o3:Opens Tryz.prog 3 (cdInt .i64):=.int udl3
theorem o5:Opens Tryz.prog 5 (cdInt .u8):=.int udl5
theorem o9:Opens Tryz.prog 9 cdStr:=.str und9
theorem o23:Opens Tryz.prog 30 (cdSl (cdInt .i64)):=.slice (e:=3) (by kernel_rfl) o3 (by decide)
theorem o59:Opens Tryz.prog 22 (cdSl cdStr):=.slice (e:=9) (by kernel_rfl) o9 (by decide)
abbrev cdWo:=cdPair cdStr (cdPair (cdInt .i64) (cdPair (cdInt .i64) cdUnit))
theorem o63:Opens Tryz.prog 76 cdWo:=.struct (fs:=[(9,0),(3,1),(3,2)]) (by kernel_rfl) (by kernel_rfl) (OpensF.cons o9 (OpensF.cons o3 (OpensF.cons o3 OpensF.nil)))
theorem o22:Opens Tryz.prog 56 (cdSl cdWo):=.slice (e:=76) (by kernel_rfl) o63 (by decide)
abbrev cdDr:=cdPair (cdSl cdWo) (cdPair (cdSl (cdInt .i64)) cdUnit)
theorem o25:Opens Tryz.prog 58 cdDr:=.struct (fs:=[(56,0),(30,1)]) (by kernel_rfl) (by kernel_rfl) (OpensF.cons o22 (OpensF.cons o23 OpensF.nil))
abbrev cdSp:=cdPair (cdInt .i64) (cdPair (cdInt .i64) (cdPair (cdInt .i64) (cdPair (cdSl cdStr) cdUnit)))
theorem o61:Opens Tryz.prog 130 cdSp:=.struct (fs:=[(3,0),(3,1),(3,2),(22,3)]) (by kernel_rfl) (by kernel_rfl) (OpensF.cons o3 (OpensF.cons o3 (OpensF.cons o3 (OpensF.cons o59 OpensF.nil))))
theorem o26:Opens Tryz.prog 59 (cdSl cdSp):=.slice (e:=130) (by kernel_rfl) o61 (by decide)
theorem sli_cd {G:Hp} {a:Option Addr} {n c:Nat} {l:List Int} (h:SlR (cdInt .i64).k (cdInt .i64).R G a n c l):SlR intE.k intE.R G a n c l:=by
 have hi:∀ (cs:List Value) x,(cdInt .i64).R G cs x→intE.R G cs (id x):=fun _ _ h=>h.1
 have:=SlR.map id hi h
 rwa [List.map_id] at this
theorem sls_cd {G:Hp} {a:Option Addr} {n c:Nat} {l:List ByteArray} (h:SlR cdStr.k cdStr.R G a n c l):SlR strE.k strE.R G a n c l:=by
 have hi:∀ (cs:List Value) x,cdStr.R G cs x→strE.R G cs (id x):=fun _ _ h=>h.1
 have:=SlR.map id hi h
 rwa [List.map_id] at this
theorem wo_cd {G:Hp} {cs:List Value} {x} (h:cdWo.R G cs x):woE.R G cs ⟨x.1,x.2.1,x.2.2.1⟩:=by
 obtain ⟨_,_,rfl,⟨rfl,_⟩,_,_,rfl,⟨rfl,_⟩,_,_,rfl,⟨rfl,_⟩,rfl⟩:=h
 rfl
theorem sp_cd {G:Hp} {cs:List Value} {x} (h:cdSp.R G cs x):SpU G cs ⟨x.1,x.2.1,x.2.2.1,x.2.2.2.1⟩:=by
 obtain ⟨_,_,rfl,⟨rfl,_⟩,_,_,rfl,⟨rfl,_⟩,_,_,rfl,⟨rfl,_⟩,_,_,rfl,⟨a,n,c,rfl,h1,h2⟩,rfl⟩:=h
 exact ⟨_,rfl,a,n,c,rfl,sls_cd h1,h2⟩
theorem dr_val {G:Hp} {v:Value} (h:∃ x,VR cdDr true G v x):∃ d,duRd.R G v d:=by
 obtain ⟨x,cs,rfl,_,_,e,⟨a,n,c,rfl,h1,h2⟩,_,_,rfl,⟨a',n',c',rfl,h3,h4⟩,rfl⟩:=h
 refine ⟨⟨x.1.map fun w=>⟨w.1,w.2.1,w.2.2.1⟩,x.2.1⟩, .slice a n c, .slice a' n' c', ?_,⟨a,n,c,rfl,SlR.map _ (fun _ _ h=>wo_cd h) h1,h2⟩,a',n',c',rfl,sli_cd h3,h4⟩
 simp at e
 exact congrArg Value.agg (Array.toList_inj.1 e)
theorem sps_val {G:Hp} {v:Value} (h:∃ x,VR (cdSl cdSp) false G v x):∃ l,suRd.R G v l:=by
 obtain ⟨x,a,n,c,e,h1,h2⟩:=h
 have e:v = .slice a n c:=(List.cons.inj e).1
 exact ⟨x.map fun y=>⟨y.1,y.2.1,y.2.2.1,y.2.2.2.1⟩,a,n,c,e,SlR.map _ (fun _ _ h=>sp_cd h) h1,h2⟩
theorem ownK:ownKnob Tryz.checked.prog.godebug = none:=by kernel_rfl
theorem laidK:laidOutB Tryz.checked.prog = true:=by kernel_rfl
theorem boolK:Tryz.checked.prog.underlying 4 = some .bool:=by kernel_rfl
abbrev dr0:Value:=.agg #[.slice none 0 0, .slice none 0 0]
abbrev sl0:Value:=.slice none 0 0
end Go.Proofs.YtefnikpoimaiiaaGreat
