/- Layer 7: the search of a question. Layer 7: the search of a question: the walk. Layer 7: the search of a question, from nothing. Layer 7: Ask, ProveAsk. Layer 7: the example that every statement asks. Layer 7: a division for the program. -/
import Derived.Test.YtgpfejgohclheaaMI
set_option linter.unusedSimpArgs false
set_option linter.unusedVariables false
namespace Go.Proofs.Ytgpfejgohclheaa
open Go.Pal
set_option maxRecDepth 100000
def chF (P:List Int→Bool) (ds:List Int):Nat→Nat→List Int→Option (List Int)
 | 0,_,now=>if P now then some now else none
 | f + 1,fr,now=>(List.range' fr (ds.length - fr)).findSome? fun j=>chF P ds f (j + 1) (now++[ds.getD j 0])
def goC (P:List Int→Bool) (ds:List Int) (f:Nat) (now:List Int) (i:Nat):Option (List Int):=(List.range' i (ds.length - i)).findSome? fun j=>chF P ds f (j + 1) (now++[ds.getD j 0])
theorem goC_end {P:List Int→Bool} {ds:List Int} {f:Nat} {now:List Int}:goC P ds f now ds.length = none:=by simp [goC]
theorem goC_cons {P:List Int→Bool} {ds:List Int} {f:Nat} {now:List Int} {i:Nat} (h:i < ds.length):goC P ds f now i = (chF P ds f (i + 1) (now++[ds.getD i 0])).or (goC P ds f now (i + 1)):=by
 rw [goC,show ds.length - i = (ds.length - (i + 1)) + 1 by omega,List.range'_succ,List.findSome?_cons]
 cases chF P ds f (i + 1) (now++[ds.getD i 0])<;>rfl
structure Cb where
 bf:Nat
 bt:Nat
 bd:Nat
 bc:Nat
abbrev Cb.caps (B:Cb):Array Value:=#[bptr B.bf,bptr B.bt,bptr B.bd,bptr B.bc]
abbrev chV (B:Cb):Value:=.func (.func 52) #[] B.caps
abbrev ledC (B:Cb) (tv dv fv:Value):List LE:=[⟨B.bf,true, .cells [fv] 22⟩,⟨B.bt,false, .cells [tv] 99⟩,⟨B.bd,false, .cells [dv] 22⟩,⟨B.bc,false, .cells [chV B] 101⟩]
abbrev rowC (br n0 n cap:Nat) (now:List Int) (rest:List Value):LE:=⟨br,true, .row n0 n cap (now.map I) rest 3 1⟩
section
variable (B:Cb) (ts:List Tl) (ds:List Int) (tv dv:Value)
structure CtxC (G:Hp):Prop where
 t:SlV toldE G tv ts
 d:SlV intE G dv ds
def chPre (f:Nat) (args:List Value) (ls:List LE) (G:Hp):Prop:=∃ (now:List Int) (fr:Nat) (fv:Value) (F:List Int) (br n0 n cap:Nat) (rest:List Value),
 args = [.slice (some ⟨br,0,none⟩) n cap,I fr,I f]∧ls = ledC B tv dv fv++[rowC br n0 n cap now rest]∧n = now.length∧1≤n∧n + f≤40∧(∀ x∈now,x∈ds)∧fr≤ds.length∧SlV intE G fv F∧CtxC ts ds tv dv G
def chPost (f:Nat) (args:List Value) (ls:List LE) (v:Value) (ns:List LB) (G:Hp):Prop:=∃ (now:List Int) (fr:Nat) (fv:Value) (br n0 n cap:Nat) (rest:List Value) (fv':Value) (F':List Int) (rest':List Value),
 args = [.slice (some ⟨br,0,none⟩) n cap,I fr,I f]∧ls = ledC B tv dv fv++[rowC br n0 n cap now rest]∧v = .bool (chF (decF ts) ds f fr now).isSome∧ns = [.cells [fv'] 22, .row n0 n cap (now.map I) rest' 3 1]∧SlV intE G fv' F'∧(∀ L,chF (decF ts) ds f fr now = some L→F' = L)∧rest'.length = (cap - n) * 1
abbrev chS (f:Nat):PSpec:=.st (chPre B ts ds tv dv f) (chPost B ts ds tv dv f)
end
theorem CtxC.grow {ts:List Tl} {ds:List Int} {tv dv:Value} {G G':Hp} (hg:Grow G G') (h:CtxC ts ds tv dv G):CtxC ts ds tv dv G':=⟨h.t.grow hg,h.d.grow hg⟩
theorem mapI_flat:∀ l:List Int,l.map I = (l.map intE.f).flatten
 | []=>rfl
 | x :: r=>by simp only [List.map_cons,List.flatten_cons];rw [mapI_flat r];rfl
theorem mapI_inj {l l':List Int} (h:l.map I = l'.map I):l = l':=by
 have:Function.Injective I:=fun a b h=>by injection h
 exact (List.map_inj_right (fun a b h=>this h)).1 h
theorem joinL_rowI {G:Hp} {b n0 n cap:Nat} {l:List Int} {rest:List Value} {w:Bool} (hl:l.length = n) (hc:n≤cap) (hb:n≤140737488355328):SlV intE (joinL G [⟨b,w, .row n0 n cap (l.map I) rest 3 1⟩]) (.slice (some ⟨b,0,none⟩) n cap) l:=by
 refine PubRow.slV (e:=intE) (vs:=l.map I) ⟨hc,fun _=>rfl,fun j v hj=>?_⟩ (mapI_flat l) hl hb
 have hj2:j < (l.map I).length:=(List.getElem?_eq_some_iff.1 hj).1
 show rd1 _ b (0 + j) = _
 simp only [rd1,joinL,Nat.beq_refl,cond_true,LB.obj,Nat.zero_add]
 simp only [List.getElem?_toArray,List.getElem?_append_left hj2,hj]
theorem fin5 {H:Nat→Option OB} {B:Cb} {tv dv fv fv':Value} {br n0 n cap:Nat} {now:List Int} {rest rest':List Value} (hn:n0≤n) (h0:H 0 = some (.cells (.named B.bf) [.val fv'] 22)) (h1:H 1 = some (.cells (.named B.bt) [.val tv] 99)) (h2:H 2 = some (.cells (.named B.bd) [.val dv] 22)) (h3:H 3 = some (.cells (.named B.bc) [.val (chV B)] 101))
  (h4:H 4 = some (.xrow br n cap (now.map I) rest' 3 1)):finL H 0 (ledC B tv dv fv++[rowC br n0 n cap now rest]) [.cells [fv'] 22, .row n0 n cap (now.map I) rest' 3 1] :=
 ⟨.cells [fv'] 22,⟨_,h0,rfl⟩,trivial,_,rfl, .cells [tv] 99,⟨_,h1,rfl⟩,trivial,rfl, .cells [dv] 22,⟨_,h2,rfl⟩,trivial,rfl, .cells [chV B] 101,⟨_,h3,rfl⟩,trivial,rfl, .row n0 n cap (now.map I) rest' 3 1,⟨h4,hn⟩,⟨rfl,rfl,rfl,rfl,rfl⟩,_,rfl,rfl⟩
theorem fin4 {H:Nat→Option OB} {B:Cb} {tv dv fv fv':Value} (h0:H 0 = some (.cells (.named B.bf) [.val fv'] 22)) (h1:H 1 = some (.cells (.named B.bt) [.val tv] 99)) (h2:H 2 = some (.cells (.named B.bd) [.val dv] 22)) (h3:H 3 = some (.cells (.named B.bc) [.val (chV B)] 101)):finL H 0 (ledC B tv dv fv) [.cells [fv'] 22] :=
 ⟨.cells [fv'] 22,⟨_,h0,rfl⟩,trivial,_,rfl, .cells [tv] 99,⟨_,h1,rfl⟩,trivial,rfl, .cells [dv] 22,⟨_,h2,rfl⟩,trivial,rfl, .cells [chV B] 101,⟨_,h3,rfl⟩,trivial,rfl,rfl⟩
theorem lend4 {H:Nat→Option OB} {B:Cb} {tv dv fv:Value} {h br n0 n cap:Nat} {now:List Int} {rest vs0 rest0:List Value} (h0:H 0 = some (.cells (.named B.bf) [.val fv] 22)) (h1:H 1 = some (.cells (.named B.bt) [.val tv] 99)) (h2:H 2 = some (.cells (.named B.bd) [.val dv] 22)) (h3:H 3 = some (.cells (.named B.bc) [.val (chV B)] 101))
  (h4:H h = some (.xrow br n0 cap vs0 rest0 3 1)) (hs:vs0++rest0 = now.map I++rest) (hone:LB.one (.row n0 n cap (now.map I) rest 3 1)) :
  lendOk H [(0,⟨B.bf,true, .cells [fv] 22⟩),(1,⟨B.bt,false, .cells [tv] 99⟩),(2,⟨B.bd,false, .cells [dv] 22⟩),(3,⟨B.bc,false, .cells [chV B] 101⟩),(h,rowC br n0 n cap now rest)] :=
 ⟨⟨_,h0,rfl⟩,⟨_,h1,rfl⟩,⟨_,h2,rfl⟩,⟨_,h3,rfl⟩,(by dsimp only [rowC];rw [h4];exact ⟨_,_,rfl,hs,hone⟩),trivial⟩
theorem ledC_inj {B:Cb} {tv dv fv fv':Value} {br n0 n cap br' n0' n' cap':Nat} {now now':List Int} {rest rest':List Value} (h:ledC B tv dv fv++[rowC br n0 n cap now rest] = ledC B tv dv fv'++[rowC br' n0' n' cap' now' rest']):fv = fv'∧br = br'∧n0 = n0'∧n = n'∧cap = cap'∧now = now'∧rest = rest':=by
 simp only [List.cons_append,List.nil_append,List.cons.injEq,LE.mk.injEq,LB.cells.injEq,LB.row.injEq,and_true,true_and] at h
 obtain ⟨h0,h1,h2,h3,h4,h5,h6⟩:=h
 exact ⟨h0,h1,h2,h3,h4,mapI_inj h5,h6⟩
end Go.Proofs.Ytgpfejgohclheaa

namespace Go.Proofs.Ytgpfejgohclheaa
open Go.Pal
set_option maxRecDepth 100000
def tabCh:Tab Try.prog:=Tab.nil _
theorem ch52 {B:Cb} {ts:List Tl} {ds:List Int} {ta da:Option Addr} {tn tc dn dc:Nat} (hts:∀ p∈ts, ∀ i,i < 40→0≤p.1.f i∧p.1.f i≤255) (hds:∀ x∈ds,0≤x∧x < 40) :
  ∀ f,Sound Try.prog 52 (fun a=>(#[]:Array Value).toList++a++B.caps.toList) (chS B ts ds (.slice ta tn tc) (.slice da dn dc) f):=by
 intro f
 induction f with
 | zero =>
  refine ⟨fun args ls v ns G G' hg ⟨now,fr,fv,br,n0,n,cap,rest,fv',F',rest',h1,h2,h3,h4,h5,h6,h7⟩=>⟨now,fr,fv,br,n0,n,cap,rest,fv',F',rest',h1,h2,h3,h4,h5.grow hg,h6,h7⟩,fun args ls G Wd hsub hls hnd hpre=>?_⟩
  obtain ⟨now,fr,fv,F,br,n0,n,cap,rest,rfl,rfl,hnl,hn1,hnf,hmem,hfr,hfv,hctx⟩:=hpre
  have hone:=(hls (rowC br n0 n cap now rest) (by simp)).2.2
  obtain ⟨z1,z2,z3,z4,z5,z6⟩:=id hone
  obtain ⟨fa,fn,fc,rfl,hfl,hfn⟩:=hfv
  refine st_sound tabCh comp52 (svs:=[.c (.row 4 n), .v (I fr), .v (I (0:Nat)), .c (.ptr 0 0), .c (.ptr 1 0), .c (.ptr 2 0), .c (.ptr 3 0)])
   (obs:=[.cells (.named B.bf) [.val (.slice fa fn fc)] 22, .cells (.named B.bt) [.val (.slice ta tn tc)] 99, .cells (.named B.bd) [.val (.slice da dn dc)] 22, .cells (.named B.bc) [.val (chV B)] 101, .xrow br n cap (now.map I) rest 3 1]) (by simp) hsub hls hnd (Nat.le_refl _) ?_ ?_ ?_
  ·exact ⟨⟨rfl,_,_,rfl⟩,(Nat.le_of_ble_eq_true rfl:4 < 5),rfl,trivial,rfl,trivial,⟨_,rfl,rfl⟩,(Nat.le_of_ble_eq_true rfl:0 < 5),⟨_,rfl,rfl⟩,(Nat.le_of_ble_eq_true rfl:1 < 5),⟨_,rfl,rfl⟩,(Nat.le_of_ble_eq_true rfl:2 < 5),⟨_,rfl,rfl⟩,(Nat.le_of_ble_eq_true rfl:3 < 5),trivial⟩
  ·refine ⟨⟨_,rfl,relL_vals _ [.slice fa fn fc], ?_⟩,⟨_,rfl,relL_vals _ [.slice ta tn tc], ?_⟩,⟨_,rfl,relL_vals _ [.slice da dn dc], ?_⟩,⟨_,rfl,relL_vals _ [chV B], ?_⟩,rfl,trivial⟩<;>(intro c hc;simp at hc;subst hc;trivial)
  ·(conv=>whnf)
   refine IteP.mk (fun _=>W.mk ?_) (fun h=>absurd rfl h)
   (conv=>whnf)
   have hcap:n≤cap:=z4
   have hS:SlV intE (joinL G [⟨br,false, .row n n cap (now.map I) rest 3 1⟩]) (.slice (some ⟨br,0,none⟩) n cap) now:=joinL_rowI hnl.symm hcap (by omega)
   have hlk:∀ H:Nat→Option OB,H 4 = some (.xrow br n cap (now.map I) rest 3 1)→lendOk H [(4,⟨br,false, .row n n cap (now.map I) rest 3 1⟩)]:=fun H h=>⟨(by dsimp only;rw [h];exact ⟨_,_,rfl,rfl,Nat.le_refl _,z2,z3,z4,z5,z6⟩),trivial⟩
   refine CallN.mk ⟨_,Sound.lendO clone53 (fun n1 vs=>Row intE now n1 vs),body53,W.mk ?_⟩
   (conv=>whnf)
   refine StP.mk ⟨[(4,⟨br,false, .row n n cap (now.map I) rest 3 1⟩)],hlk _ rfl,by simp,⟨fun x hx=>by simp at hx;subst hx;rfl,fun _=>⟨⟨now,_,rfl,hS,by show now.length≤_;omega⟩,fun n1 vs G1 hg1 ⟨y,⟨u,hy1,hy2,_⟩,hy3⟩=>?_⟩⟩,fun v ns G3 hg3 hpost=>W.mk ?_⟩
   ·cases hy1
    have:y = now:=SlV.uniq hy2 (hS.grow hg1)
    rw [← this];exact hy3
   obtain ⟨rfl,ca,cn,cc,vs,rfl,hpr,hrw⟩:=hpost
   have hfv':SlV intE G3 (.slice ca cn cc) now:=hrw.pub hpr (by have:=hrw.n;omega)
   (conv=>whnf)
   have hctx3:=hctx.grow hg3
   have hS3:SlV intE (joinL G3 [⟨br,false, .row n n cap (now.map I) rest 3 1⟩]) (.slice (some ⟨br,0,none⟩) n cap) now:=joinL_rowI hnl.symm hcap (by omega)
   have hms:∀ m∈now,0≤m∧m < 40:=fun m hm=>hds m (hmem m hm)
   refine CallN.mk ⟨_,Sound.lendS decide54 (fun v=>v = .bool (decF ts now)),body54,W.mk ?_⟩
   (conv=>whnf)
   refine StP.mk ⟨[(4,⟨br,false, .row n n cap (now.map I) rest 3 1⟩)],hlk _ rfl,by simp,⟨fun x hx=>by simp at hx;subst hx;rfl,fun hno=>?_⟩,fun v ns G4 hg4 hpost=>W.mk ?_⟩
   ·have hT4:SlV toldE (joinL G3 [⟨br,false, .row n n cap (now.map I) rest 3 1⟩]) (.slice ta tn tc) ts:=hctx3.t.grow (joinL_left hno)
    refine ⟨⟨(ts,now),_,_,rfl,hT4,hS3,hms,hts⟩,fun v ⟨y,hy,e⟩=>?_⟩
    have:y = (ts,now):=(ok2 (slRd toldE) (slRd intE) fun ts ms=>(∀ m∈ms,0≤m∧m < 40)∧∀ p∈ts, ∀ i,i < 40→0≤p.1.f i∧p.1.f i≤255).uniq _ _ _ _ hy ⟨_,_,rfl,hT4,hS3,hms,hts⟩
    subst this;exact e
   obtain ⟨rfl,rfl⟩:=hpost
   (conv=>whnf)
   have hfin:chPost B ts ds (.slice ta tn tc) (.slice da dn dc) 0 [.slice (some ⟨br,0,none⟩) n cap,I fr,I (0:Nat)] (ledC B (.slice ta tn tc) (.slice da dn dc) (.slice fa fn fc)++[rowC br n0 n cap now rest]) (.bool (decF ts now)) [.cells [.slice ca cn cc] 22, .row n0 n cap (now.map I) rest 3 1] G4 :=
    ⟨now,fr,_,br,n0,n,cap,rest,_,now,rest,rfl,rfl,by rw [chF];cases decF ts now<;>rfl,rfl,hfv'.grow hg4,(fun L hL=>by
     rw [chF] at hL
     split at hL
     ·injection hL
     ·cases hL),z3⟩
   refine ForkP.mk (fun hm=>W.mk ?_) (fun hm=>W.mk ?_)<;>(conv=>whnf)<;>refine FinS.mk ⟨_,fin5 z1 rfl rfl rfl rfl rfl, ?_⟩<;>rw [hm] at hfin<;>exact hfin
 | succ f ih =>
  refine ⟨fun args ls v ns G G' hg ⟨now,fr,fv,br,n0,n,cap,rest,fv',F',rest',h1,h2,h3,h4,h5,h6,h7⟩=>⟨now,fr,fv,br,n0,n,cap,rest,fv',F',rest',h1,h2,h3,h4,h5.grow hg,h6,h7⟩,fun args ls G Wd hsub hls hnd hpre=>?_⟩
  obtain ⟨now,fr,fv,F,br,n0,n,cap,rest,rfl,rfl,hnl,hn1,hnf,hmem,hfr,hfv,hctx⟩:=hpre
  have hone:=(hls (rowC br n0 n cap now rest) (by simp)).2.2
  obtain ⟨z1,z2,z3,z4,z5,z6⟩:=id hone
  obtain ⟨fa,fn,fc,rfl,hfl,hfn⟩:=hfv
  refine st_sound tabCh comp52 (svs:=[.c (.row 4 n), .v (I fr), .v (I (f + 1:Nat)), .c (.ptr 0 0), .c (.ptr 1 0), .c (.ptr 2 0), .c (.ptr 3 0)])
   (obs:=[.cells (.named B.bf) [.val (.slice fa fn fc)] 22, .cells (.named B.bt) [.val (.slice ta tn tc)] 99, .cells (.named B.bd) [.val (.slice da dn dc)] 22, .cells (.named B.bc) [.val (chV B)] 101, .xrow br n cap (now.map I) rest 3 1]) (by simp) hsub hls hnd (Nat.le_refl _) ?_ ?_ ?_
  ·exact ⟨⟨rfl,_,_,rfl⟩,(Nat.le_of_ble_eq_true rfl:4 < 5),rfl,trivial,rfl,trivial,⟨_,rfl,rfl⟩,(Nat.le_of_ble_eq_true rfl:0 < 5),⟨_,rfl,rfl⟩,(Nat.le_of_ble_eq_true rfl:1 < 5),⟨_,rfl,rfl⟩,(Nat.le_of_ble_eq_true rfl:2 < 5),⟨_,rfl,rfl⟩,(Nat.le_of_ble_eq_true rfl:3 < 5),trivial⟩
  ·refine ⟨⟨_,rfl,relL_vals _ [.slice fa fn fc], ?_⟩,⟨_,rfl,relL_vals _ [.slice ta tn tc], ?_⟩,⟨_,rfl,relL_vals _ [.slice da dn dc], ?_⟩,⟨_,rfl,relL_vals _ [chV B], ?_⟩,rfl,trivial⟩<;>(intro c hc;simp at hc;subst hc;trivial)
  ·(conv=>whnf)
   refine IteP.mk (fun h=>by exfalso;omega) (fun _=>W.mk ?_)
   (conv=>whnf)
   have hnl2:(now.map I).length = n:=by simp [hnl]
   refine LoopP.of { α:=Nat × Option Addr × Nat × Nat × List Value,fr:=fun x=>[(0, .c (.row 4 n)),(2, .v (I (f + 1:Nat))),(3, .c (.ptr 0 0)),(4, .c (.ptr 1 0)),(5, .c (.ptr 2 0)),(6, .c (.ptr 3 0)),(11, .v (I x.1))],H:=fun x=>[(0, .cells (.named B.bf) [.val (.slice x.2.1 x.2.2.1 x.2.2.2.1)] 22),(1, .cells (.named B.bt) [.val (.slice ta tn tc)] 99),(2, .cells (.named B.bd) [.val (.slice da dn dc)] 22),(3, .cells (.named B.bc) [.val (chV B)] 101),(4, .xrow br n cap (now.map I) x.2.2.2.2 3 1)],ok:=fun x G=>x.1≤ds.length∧(∃ F,SlV intE G (.slice x.2.1 x.2.2.1 x.2.2.2.1) F)∧x.2.2.2.2.length = (cap - n) * 1∧goC (decF ts) ds f now x.1 = chF (decF ts) ds (f + 1) fr now,m:=fun x=>ds.length - x.1 }
    (fr,fa,fn,fc,rest) (HeadP.of [] ⟨rfl,rfl,rfl,rfl,rfl,rfl,rfl,trivial⟩ ⟨rfl,rfl,rfl,rfl,rfl,trivial⟩) ⟨hfr,⟨F,_,_,_,rfl,hfl,hfn⟩,z3,rfl⟩ (fun _=>⟨rfl,rfl⟩) (fun x G1 hG1 hx=>W.mk ?_)
   obtain ⟨i,ga,gn,gc,rs⟩:=x
   obtain ⟨hi,⟨F1,hF1⟩,hrs,hgo⟩:=hx
   dsimp only at hi hF1 hrs hgo
   have hctx1:=hctx.grow hG1
   obtain ⟨_,_,_,e1,hdl,hdn⟩:=hctx1.d
   cases e1
   have hdlen:=hdl.len
   have hz1:n0≤n:=z1
   dsimp only
   (conv=>whnf)
   refine IteP.mk (fun hlt=>W.mk ?_) (fun hge=>W.mk ?_)<;>(conv=>whnf)
   ·have hlt:i < ds.length:=by omega
    have hce:=hdl.el hlt
    have hgd:ds.getD i 0 = ds[i]:=by simp [hlt]
    have hxm:ds[i]∈ds:=List.getElem_mem hlt
    rw [goC_cons hlt,hgd] at hgo
    generalize ds[i] = x at hce hgd hxm hgo
    refine DrawP.mk monoT_nil rfl (W.mk ?_)
    (conv=>whnf)
    repeat' (first | (refine ob ?_ ?_;(first | trivial | omega | (simp only [inR];omega) | exact ble (by rfl) | exact SlR.some ‹_› (by omega));(conv=>whnf)) | (first | (refine ra ‹_› (by rfl) ?_;(conv=>whnf)) | (refine rb ‹_› (by rfl) ?_;(conv=>whnf)) | (refine rc ‹_› (by rfl) ?_;(conv=>whnf)) | (refine rd ‹_› (by rfl) ?_;(conv=>whnf))))
    repeat' (first | (refine OblP.mk rfl (W.mk ?_);(conv=>whnf)) | (refine ob ?_ ?_;(first | trivial | omega | (simp only [inR];omega) | exact ble (by rfl) | exact SlR.some ‹_› (by omega));(conv=>whnf)))
    have hlx:(now++[x]).length = n + 1:=by simp [hnl]
    have hml:((now++[x]).map I).length = n + 1:=by simp [hnl]
    have hone2:∀ v∈(now++[x]).map I,v.oneCell' = true:=fun v hv=>by obtain ⟨y,_,rfl⟩:=List.mem_map.1 hv;rfl
    have hmem2:∀ y∈now++[x],y∈ds:=fun y hy=>by
     rcases List.mem_append.1 hy with h | h
     ·exact hmem y h
     ·simp at h;subst h;exact hxm
    have hf1:(((f + 1:Nat):Int) - 1) = (f:Int):=by omega
    refine IteP.mk (fun hroom=>W.mk ?_) (fun hroom=>W.mk ?_)<;>(conv=>whnf)
    ·have hroom:n + 1≤cap:=by omega
     repeat' (refine ob ?_ ?_;(first | trivial | omega | (simp only [inR];omega) | exact ble (by rfl) | exact SlR.some ‹_› (by omega));(conv=>whnf))
     refine FnvP.mk ⟨_,SoundFn.of body52 ih,W.mk ?_⟩
     (conv=>whnf)
     have hlr:(rs.drop (1 * 1)).length = (cap - (n + 1)) * 1:=by simp only [List.length_drop];omega
     refine StP.mk ⟨[(0,⟨B.bf,true, .cells [.slice ga gn gc] 22⟩),(1,⟨B.bt,false, .cells [.slice ta tn tc] 99⟩),(2,⟨B.bd,false, .cells [.slice da dn dc] 22⟩),(3,⟨B.bc,false, .cells [chV B] 101⟩),(4,rowC br n (n + 1) cap (now++[x]) (rs.drop (1 * 1)))],
      lend4 rfl rfl rfl rfl rfl (by simp) ⟨by omega,by rw [hml];omega,hlr,hroom,z5,hone2⟩,(by show ([0,1,2,3,4]:List Nat).Nodup;decide),
      ⟨now++[x],i + 1, .slice ga gn gc,F1,br,n,n + 1,cap,rs.drop (1 * 1),by rw [hf1];rfl,rfl,hlx.symm,by omega,by omega,hmem2,hlt,hF1,hctx1⟩,fun v ns G3 hg3 hpost=>W.mk ?_⟩
     obtain ⟨now',fr',fv',br',n0',n',cap',rest',fv2,F2,rest2,q1,q2,rfl,rfl,hF2,hFL,hrl⟩:=hpost
     obtain ⟨rfl,rfl,rfl,rfl,rfl,rfl,rfl⟩:=ledC_inj q2
     rw [hf1] at q1
     simp only [List.cons.injEq,and_true,true_and,Value.int.injEq] at q1
     have hfr':fr' = i + 1:=by omega
     subst hfr'
     obtain ⟨pa,pn,pc,rfl,hpl,hpn⟩:=hF2
     have et:((now++[x]).map I++rest2).take (n * 1) = now.map I:=by
      rw [Nat.mul_one,List.map_append,List.append_assoc];exact List.take_left' hnl2
     have hrl2:(((now++[x]).map I++rest2).drop (n * 1)).length = (cap - n) * 1:=by
      simp only [List.length_drop,List.length_append,hml,hrl];omega
     have hspec:chPost B ts ds (.slice ta tn tc) (.slice da dn dc) (f + 1) [.slice (some ⟨br,0,none⟩) n cap,I fr,I (f + 1:Nat)] (ledC B (.slice ta tn tc) (.slice da dn dc) (.slice fa fn fc)++[rowC br n0 n cap now rest]) (.bool true) [.cells [.slice pa pn pc] 22, .row n0 n cap (now.map I) (((now++[x]).map I++rest2).drop (n * 1)) 3 1] G3∨chF (decF ts) ds f (i + 1) (now++[x]) = none:=by
      cases hch:chF (decF ts) ds f (i + 1) (now++[x]) with
      | none=>exact .inr rfl
      | some L =>
       rw [hch] at hgo
       refine .inl ⟨now,fr,_,br,n0,n,cap,rest,_,L,_,rfl,rfl,by rw [← hgo];rfl,rfl, ?_,fun L' hL'=>?_,hrl2⟩
       ·rw [← hFL L hch];exact ⟨_,_,_,rfl,hpl,hpn⟩
       ·rw [← hgo] at hL'
        injection hL'
     (conv=>whnf)
     refine ForkP.mk (fun hm=>W.mk ?_) (fun hm=>W.mk ?_)<;>(conv=>whnf)
     ·rcases hspec with hspec | hno
      ·have e4:=(by show OB.xrow br n cap (now.map I) (((now++[x]).map I++rest2).drop (n * 1)) 3 1 = OB.xrow br n cap (((now++[x]).map I++rest2).take (n * 1)) (((now++[x]).map I++rest2).drop (n * 1)) 3 1;rw [et])
       refine FinS.mk ⟨_,fin5 z1 rfl rfl rfl rfl (congrArg some e4.symm),hspec⟩
      ·rw [hno] at hm;cases hm
     ·repeat' (refine ob ?_ ?_;(first | trivial | omega | (simp only [inR];omega) | exact ble (by rfl) | exact SlR.some ‹_› (by omega));(conv=>whnf))
      have hnone:chF (decF ts) ds f (i + 1) (now++[x]) = none:=by
       cases hch:chF (decF ts) ds f (i + 1) (now++[x]) with
       | none=>rfl
       | some L=>rw [hch] at hm;cases hm
      rw [hnone,Option.none_or] at hgo
      refine RoundP.of (i + 1,pa,pn,pc,(((now++[x]).map I++rest2).drop (n * 1))) (HeadP.of [] ⟨rfl,rfl,rfl,rfl,rfl,rfl,rfl,trivial⟩ ⟨rfl,rfl,rfl,rfl,(by show OB.xrow br n cap (now.map I) (((now++[x]).map I++rest2).drop (n * 1)) 3 1 = OB.xrow br n cap (((now++[x]).map I++rest2).take (n * 1)) (((now++[x]).map I++rest2).drop (n * 1)) 3 1;rw [et]),trivial⟩) ⟨hlt,⟨_,_,_,_,rfl,hpl,hpn⟩,hrl2,hgo⟩ (by simp only;omega)
    ·repeat' (refine ob ?_ ?_;(first | trivial | omega | (simp only [inR];omega) | exact ble (by rfl) | exact SlR.some ‹_› (by omega));(conv=>whnf))
     refine PubP.opn (Nat.succ_ne_zero n) (fun bb cap2 rest2 g1 g2 g3=>W.mk ?_)
     (conv=>whnf)
     refine FnvP.mk ⟨_,SoundFn.of body52 ih,W.mk ?_⟩
     (conv=>whnf)
     refine StP.mk ⟨[(0,⟨B.bf,true, .cells [.slice ga gn gc] 22⟩),(1,⟨B.bt,false, .cells [.slice ta tn tc] 99⟩),(2,⟨B.bd,false, .cells [.slice da dn dc] 22⟩),(3,⟨B.bc,false, .cells [chV B] 101⟩),(28,rowC bb (n + 1) (n + 1) cap2 (now++[x]) rest2)],
      lend4 rfl rfl rfl rfl rfl (by simp) ⟨Nat.le_refl _,by rw [hml];omega,g3,g1,g2,hone2⟩,(by show ([0,1,2,3,28]:List Nat).Nodup;decide),
      ⟨now++[x],i + 1, .slice ga gn gc,F1,bb,n + 1,n + 1,cap2,rest2,by rw [hf1];rfl,rfl,hlx.symm,by omega,by omega,hmem2,hlt,hF1,hctx1⟩,fun v ns G3 hg3 hpost=>W.mk ?_⟩
     obtain ⟨now',fr',fv',br',n0',n',cap',rest',fv2,F2,rest3,q1,q2,rfl,rfl,hF2,hFL,hrl⟩:=hpost
     obtain ⟨rfl,rfl,rfl,rfl,rfl,rfl,rfl⟩:=ledC_inj q2
     rw [hf1] at q1
     simp only [List.cons.injEq,and_true,true_and,Value.int.injEq] at q1
     have hfr':fr' = i + 1:=by omega
     subst hfr'
     obtain ⟨pa,pn,pc,rfl,hpl,hpn⟩:=hF2
     have hspec:chPost B ts ds (.slice ta tn tc) (.slice da dn dc) (f + 1) [.slice (some ⟨br,0,none⟩) n cap,I fr,I (f + 1:Nat)] (ledC B (.slice ta tn tc) (.slice da dn dc) (.slice fa fn fc)++[rowC br n0 n cap now rest]) (.bool true) [.cells [.slice pa pn pc] 22, .row n0 n cap (now.map I) rs 3 1] G3∨chF (decF ts) ds f (i + 1) (now++[x]) = none:=by
      cases hch:chF (decF ts) ds f (i + 1) (now++[x]) with
      | none=>exact .inr rfl
      | some L =>
       rw [hch] at hgo
       refine .inl ⟨now,fr,_,br,n0,n,cap,rest,_,L,_,rfl,rfl,by rw [← hgo];rfl,rfl, ?_,fun L' hL'=>?_,hrs⟩
       ·rw [← hFL L hch];exact ⟨_,_,_,rfl,hpl,hpn⟩
       ·rw [← hgo] at hL'
        injection hL'
     (conv=>whnf)
     refine ForkP.mk (fun hm=>W.mk ?_) (fun hm=>W.mk ?_)<;>(conv=>whnf)
     ·rcases hspec with hspec | hno
      ·have e4:=(rfl:OB.xrow br n cap (now.map I) rs 3 1 = _)
       refine FinS.mk ⟨_,fin5 z1 rfl rfl rfl rfl (congrArg some e4.symm),hspec⟩
      ·rw [hno] at hm;cases hm
     ·repeat' (refine ob ?_ ?_;(first | trivial | omega | (simp only [inR];omega) | exact ble (by rfl) | exact SlR.some ‹_› (by omega));(conv=>whnf))
      have hnone:chF (decF ts) ds f (i + 1) (now++[x]) = none:=by
       cases hch:chF (decF ts) ds f (i + 1) (now++[x]) with
       | none=>rfl
       | some L=>rw [hch] at hm;cases hm
      rw [hnone,Option.none_or] at hgo
      refine RoundP.of (i + 1,pa,pn,pc,rs) (HeadP.of [] ⟨rfl,rfl,rfl,rfl,rfl,rfl,rfl,trivial⟩ ⟨rfl,rfl,rfl,rfl,(rfl:OB.xrow br n cap (now.map I) rs 3 1 = _),trivial⟩) ⟨hlt,⟨_,_,_,_,rfl,hpl,hpn⟩,hrs,hgo⟩ (by simp only;omega)
   ·have hie:i = ds.length:=by omega
    subst hie
    rw [goC_end] at hgo
    have hfin:chPost B ts ds (.slice ta tn tc) (.slice da dn dc) (f + 1) [.slice (some ⟨br,0,none⟩) n cap,I fr,I (f + 1:Nat)] (ledC B (.slice ta tn tc) (.slice da dn dc) (.slice fa fn fc)++[rowC br n0 n cap now rest]) (.bool false) [.cells [.slice ga gn gc] 22, .row n0 n cap (now.map I) rs 3 1] G1 :=
     ⟨now,fr,_,br,n0,n,cap,rest,_,F1,rs,rfl,rfl,by rw [← hgo];rfl,rfl,hF1,(fun L hL=>by rw [← hgo] at hL;cases hL),hrs⟩
    exact FinS.mk ⟨_,fin5 z1 rfl rfl rfl rfl rfl,hfin⟩
end Go.Proofs.Ytgpfejgohclheaa

namespace Go.Proofs.Ytgpfejgohclheaa
open Go.Pal
set_option maxRecDepth 100000
abbrev nilV:Value:=.slice none 0 0
section
variable (B:Cb) (ts:List Tl) (ds:List Int) (tv dv:Value)
def cnPre (f:Nat) (args:List Value) (ls:List LE) (G:Hp):Prop:=∃ (fv:Value) (F:List Int),args = [nilV,I 0,I f]∧ls = ledC B tv dv fv∧f≤40∧SlV intE G fv F∧CtxC ts ds tv dv G
def cnPost (f:Nat) (args:List Value) (ls:List LE) (v:Value) (ns:List LB) (G:Hp):Prop:=∃ (fv fv':Value) (F':List Int),args = [nilV,I 0,I f]∧ls = ledC B tv dv fv∧v = .bool (chF (decF ts) ds f 0 []).isSome∧ns = [.cells [fv'] 22]∧SlV intE G fv' F'∧∀ L,chF (decF ts) ds f 0 [] = some L→F' = L
abbrev cnS (f:Nat):PSpec:=.st (cnPre B ts ds tv dv f) (cnPost B ts ds tv dv f)
end
theorem cn52 {B:Cb} {ts:List Tl} {ds:List Int} {ta da:Option Addr} {tn tc dn dc:Nat} (hts:∀ p∈ts, ∀ i,i < 40→0≤p.1.f i∧p.1.f i≤255) (hds:∀ x∈ds,0≤x∧x < 40) :
  ∀ f,Sound Try.prog 52 (fun a=>(#[]:Array Value).toList++a++B.caps.toList) (cnS B ts ds (.slice ta tn tc) (.slice da dn dc) f):=by
 intro f
 cases f with
 | zero =>
  refine ⟨fun args ls v ns G G' hg ⟨fv,fv',F',h1,h2,h3,h4,h5,h6⟩=>⟨fv,fv',F',h1,h2,h3,h4,h5.grow hg,h6⟩,fun args ls G Wd hsub hls hnd hpre=>?_⟩
  obtain ⟨fv,F,rfl,rfl,hf40,hfv,hctx⟩:=hpre
  obtain ⟨fa,fn,fc,rfl,hfl,hfn⟩:=hfv
  refine st_sound tabCh comp52 (svs:=[.v nilV, .v (I 0), .v (I (0:Nat)), .c (.ptr 0 0), .c (.ptr 1 0), .c (.ptr 2 0), .c (.ptr 3 0)])
   (obs:=[.cells (.named B.bf) [.val (.slice fa fn fc)] 22, .cells (.named B.bt) [.val (.slice ta tn tc)] 99, .cells (.named B.bd) [.val (.slice da dn dc)] 22, .cells (.named B.bc) [.val (chV B)] 101]) (by simp) hsub hls hnd (Nat.le_of_ble_eq_true rfl) ?_ ?_ ?_
  ·exact ⟨rfl,trivial,rfl,trivial,rfl,trivial,⟨_,rfl,rfl⟩,(Nat.le_of_ble_eq_true rfl:0 < 5),⟨_,rfl,rfl⟩,(Nat.le_of_ble_eq_true rfl:1 < 5),⟨_,rfl,rfl⟩,(Nat.le_of_ble_eq_true rfl:2 < 5),⟨_,rfl,rfl⟩,(Nat.le_of_ble_eq_true rfl:3 < 5),trivial⟩
  ·refine ⟨⟨_,rfl,relL_vals _ [.slice fa fn fc], ?_⟩,⟨_,rfl,relL_vals _ [.slice ta tn tc], ?_⟩,⟨_,rfl,relL_vals _ [.slice da dn dc], ?_⟩,⟨_,rfl,relL_vals _ [chV B], ?_⟩,trivial⟩<;>(intro c hc;simp at hc;subst hc;trivial)
  ·(conv=>whnf)
   refine IteP.mk (fun _=>W.mk ?_) (fun h=>absurd rfl h)
   (conv=>whnf)
   refine CallN.mk ⟨_,Sound.lendO clone53 (fun n1 vs=>Row intE [] n1 vs),body53,W.mk ?_⟩
   (conv=>whnf)
   refine StP.mk ⟨[],trivial,List.nodup_nil,⟨(fun x hx=>by cases hx),fun _=>⟨⟨[],_,rfl,SlV.nil,Nat.zero_le _⟩,fun n1 vs G1 hg1 ⟨y,⟨u,hy1,hy2,_⟩,hy3⟩=>?_⟩⟩,fun v ns G3 hg3 hpost=>W.mk ?_⟩
   ·cases hy1
    have:y = []:=SlV.uniq hy2 SlV.nil
    rw [← this];exact hy3
   obtain ⟨rfl,ca,cn,cc,vs,rfl,hpr,hrw⟩:=hpost
   have hfv':SlV intE G3 (.slice ca cn cc) []:=hrw.pub hpr (by have:=hrw.n;simp at this;omega)
   have hctx3:=hctx.grow hg3
   have hms:∀ m∈([]:List Int),0≤m∧m < 40:=fun m hm=>by cases hm
   (conv=>whnf)
   refine CallN.mk ⟨_,decide54,body54,W.mk ?_⟩
   (conv=>whnf)
   refine ScaP.g (ok2 (slRd toldE) (slRd intE) fun ts ms=>(∀ m∈ms,0≤m∧m < 40)∧∀ p∈ts, ∀ i,i < 40→0≤p.1.f i∧p.1.f i≤255) (x:=(ts,[])) ⟨_,_,rfl,hctx3.t,SlV.nil,hms,hts⟩ (fun v hv=>W.mk ?_)
   subst hv
   dsimp only
   (conv=>whnf)
   have hfin:cnPost B ts ds (.slice ta tn tc) (.slice da dn dc) 0 [nilV,I 0,I (0:Nat)] (ledC B (.slice ta tn tc) (.slice da dn dc) (.slice fa fn fc)) (.bool (decF ts [])) [.cells [.slice ca cn cc] 22] G3 :=
    ⟨_,_,[],rfl,rfl,by rw [chF];cases decF ts []<;>rfl,rfl,hfv',(fun L hL=>by
     rw [chF] at hL
     split at hL
     ·injection hL
     ·cases hL)⟩
   refine ForkP.mk (fun hm=>W.mk ?_) (fun hm=>W.mk ?_)<;>(conv=>whnf)<;>refine FinS.mk ⟨_,fin4 rfl rfl rfl rfl, ?_⟩<;>rw [hm] at hfin<;>exact hfin
 | succ f =>
  have ih:=ch52 (B:=B) (ta:=ta) (da:=da) (tn:=tn) (tc:=tc) (dn:=dn) (dc:=dc) hts hds f
  refine ⟨fun args ls v ns G G' hg ⟨fv,fv',F',h1,h2,h3,h4,h5,h6⟩=>⟨fv,fv',F',h1,h2,h3,h4,h5.grow hg,h6⟩,fun args ls G Wd hsub hls hnd hpre=>?_⟩
  obtain ⟨fv,F,rfl,rfl,hf40,hfv,hctx⟩:=hpre
  obtain ⟨fa,fn,fc,rfl,hfl,hfn⟩:=hfv
  refine st_sound tabCh comp52 (svs:=[.v nilV, .v (I 0), .v (I (f + 1:Nat)), .c (.ptr 0 0), .c (.ptr 1 0), .c (.ptr 2 0), .c (.ptr 3 0)])
   (obs:=[.cells (.named B.bf) [.val (.slice fa fn fc)] 22, .cells (.named B.bt) [.val (.slice ta tn tc)] 99, .cells (.named B.bd) [.val (.slice da dn dc)] 22, .cells (.named B.bc) [.val (chV B)] 101]) (by simp) hsub hls hnd (Nat.le_of_ble_eq_true rfl) ?_ ?_ ?_
  ·exact ⟨rfl,trivial,rfl,trivial,rfl,trivial,⟨_,rfl,rfl⟩,(Nat.le_of_ble_eq_true rfl:0 < 5),⟨_,rfl,rfl⟩,(Nat.le_of_ble_eq_true rfl:1 < 5),⟨_,rfl,rfl⟩,(Nat.le_of_ble_eq_true rfl:2 < 5),⟨_,rfl,rfl⟩,(Nat.le_of_ble_eq_true rfl:3 < 5),trivial⟩
  ·refine ⟨⟨_,rfl,relL_vals _ [.slice fa fn fc], ?_⟩,⟨_,rfl,relL_vals _ [.slice ta tn tc], ?_⟩,⟨_,rfl,relL_vals _ [.slice da dn dc], ?_⟩,⟨_,rfl,relL_vals _ [chV B], ?_⟩,trivial⟩<;>(intro c hc;simp at hc;subst hc;trivial)
  ·(conv=>whnf)
   refine IteP.mk (fun h=>by exfalso;omega) (fun _=>W.mk ?_)
   (conv=>whnf)
   refine LoopP.of { α:=Nat × Option Addr × Nat × Nat,fr:=fun x=>[(0, .v nilV),(2, .v (I (f + 1:Nat))),(3, .c (.ptr 0 0)),(4, .c (.ptr 1 0)),(5, .c (.ptr 2 0)),(6, .c (.ptr 3 0)),(11, .v (I x.1))],H:=fun x=>[(0, .cells (.named B.bf) [.val (.slice x.2.1 x.2.2.1 x.2.2.2)] 22),(1, .cells (.named B.bt) [.val (.slice ta tn tc)] 99),(2, .cells (.named B.bd) [.val (.slice da dn dc)] 22),(3, .cells (.named B.bc) [.val (chV B)] 101)],ok:=fun x G=>x.1≤ds.length∧(∃ F,SlV intE G (.slice x.2.1 x.2.2.1 x.2.2.2) F)∧goC (decF ts) ds f [] x.1 = chF (decF ts) ds (f + 1) 0 [],m:=fun x=>ds.length - x.1 }
    (0,fa,fn,fc) (HeadP.of [] ⟨rfl,rfl,rfl,rfl,rfl,rfl,rfl,trivial⟩ ⟨rfl,rfl,rfl,rfl,trivial⟩) ⟨Nat.zero_le _,⟨F,_,_,_,rfl,hfl,hfn⟩,rfl⟩ (fun _=>⟨rfl,rfl⟩) (fun x G1 hG1 hx=>W.mk ?_)
   obtain ⟨i,ga,gn,gc⟩:=x
   obtain ⟨hi,⟨F1,hF1⟩,hgo⟩:=hx
   dsimp only at hi hF1 hgo
   have hctx1:=hctx.grow hG1
   obtain ⟨_,_,_,e1,hdl,hdn⟩:=hctx1.d
   cases e1
   have hdlen:=hdl.len
   dsimp only
   (conv=>whnf)
   refine IteP.mk (fun hlt=>W.mk ?_) (fun hge=>W.mk ?_)<;>(conv=>whnf)
   ·have hlt:i < ds.length:=by omega
    have hce:=hdl.el hlt
    have hgd:ds.getD i 0 = ds[i]:=by simp [hlt]
    have hxm:ds[i]∈ds:=List.getElem_mem hlt
    rw [goC_cons hlt,hgd,List.nil_append] at hgo
    generalize ds[i] = x at hce hgd hxm hgo
    refine DrawP.mk monoT_nil rfl (W.mk ?_)
    (conv=>whnf)
    repeat' (first | (refine ob ?_ ?_;(first | trivial | omega | (simp only [inR];omega) | exact ble (by rfl) | exact SlR.some ‹_› (by omega));(conv=>whnf)) | (first | (refine ra ‹_› (by rfl) ?_;(conv=>whnf)) | (refine rb ‹_› (by rfl) ?_;(conv=>whnf)) | (refine rc ‹_› (by rfl) ?_;(conv=>whnf)) | (refine rd ‹_› (by rfl) ?_;(conv=>whnf))))
    repeat' (first | (refine OblP.mk rfl (W.mk ?_);(conv=>whnf)) | (refine ob ?_ ?_;(first | trivial | omega | (simp only [inR];omega) | exact ble (by rfl) | exact SlR.some ‹_› (by omega));(conv=>whnf)))
    have hf1:(((f + 1:Nat):Int) - 1) = (f:Int):=by omega
    refine PubP.opn (Nat.succ_ne_zero 0) (fun bb cap2 rest2 g1 g2 g3=>W.mk ?_)
    (conv=>whnf)
    refine FnvP.mk ⟨_,SoundFn.of body52 ih,W.mk ?_⟩
    (conv=>whnf)
    have hone2:∀ v∈[x].map I,v.oneCell' = true:=fun v hv=>by obtain ⟨y,_,rfl⟩:=List.mem_map.1 hv;rfl
    refine StP.mk ⟨[(0,⟨B.bf,true, .cells [.slice ga gn gc] 22⟩),(1,⟨B.bt,false, .cells [.slice ta tn tc] 99⟩),(2,⟨B.bd,false, .cells [.slice da dn dc] 22⟩),(3,⟨B.bc,false, .cells [chV B] 101⟩),(28,rowC bb 1 1 cap2 [x] rest2)],
     lend4 rfl rfl rfl rfl rfl rfl ⟨Nat.le_refl _,rfl,g3,g1,g2,hone2⟩,(by show ([0,1,2,3,28]:List Nat).Nodup;decide),
     ⟨[x],i + 1, .slice ga gn gc,F1,bb,1,1,cap2,rest2,by rw [hf1];rfl,rfl,rfl,Nat.le_refl _,by omega,(fun y hy=>by simp at hy;subst hy;exact hxm),hlt,hF1,hctx1⟩,fun v ns G3 hg3 hpost=>W.mk ?_⟩
    obtain ⟨now',fr',fv',br',n0',n',cap',rest',fv2,F2,rest3,q1,q2,rfl,rfl,hF2,hFL,hrl⟩:=hpost
    obtain ⟨rfl,rfl,rfl,rfl,rfl,rfl,rfl⟩:=ledC_inj q2
    rw [hf1] at q1
    simp only [List.cons.injEq,and_true,true_and,Value.int.injEq] at q1
    have hfr':fr' = i + 1:=by omega
    subst hfr'
    obtain ⟨pa,pn,pc,rfl,hpl,hpn⟩:=hF2
    have hspec:cnPost B ts ds (.slice ta tn tc) (.slice da dn dc) (f + 1) [nilV,I 0,I (f + 1:Nat)] (ledC B (.slice ta tn tc) (.slice da dn dc) (.slice fa fn fc)) (.bool true) [.cells [.slice pa pn pc] 22] G3∨chF (decF ts) ds f (i + 1) [x] = none:=by
     cases hch:chF (decF ts) ds f (i + 1) [x] with
     | none=>exact .inr rfl
     | some L =>
      rw [hch] at hgo
      refine .inl ⟨_,_,L,rfl,rfl,by rw [← hgo];rfl,rfl, ?_,fun L' hL'=>?_⟩
      ·rw [← hFL L hch];exact ⟨_,_,_,rfl,hpl,hpn⟩
      ·rw [← hgo] at hL'
       injection hL'
    (conv=>whnf)
    refine ForkP.mk (fun hm=>W.mk ?_) (fun hm=>W.mk ?_)<;>(conv=>whnf)
    ·rcases hspec with hspec | hno
     ·exact FinS.mk ⟨_,fin4 rfl rfl rfl rfl,hspec⟩
     ·rw [hno] at hm;cases hm
    ·repeat' (refine ob ?_ ?_;(first | trivial | omega | (simp only [inR];omega) | exact ble (by rfl) | exact SlR.some ‹_› (by omega));(conv=>whnf))
     have hnone:chF (decF ts) ds f (i + 1) [x] = none:=by
      cases hch:chF (decF ts) ds f (i + 1) [x] with
      | none=>rfl
      | some L=>rw [hch] at hm;cases hm
     rw [hnone,Option.none_or] at hgo
     refine RoundP.of (i + 1,pa,pn,pc) (HeadP.of [] ⟨rfl,rfl,rfl,rfl,rfl,rfl,rfl,trivial⟩ ⟨rfl,rfl,rfl,rfl,trivial⟩) ⟨hlt,⟨_,_,_,_,rfl,hpl,hpn⟩,hgo⟩ (by simp only;omega)
   ·have hie:i = ds.length:=by omega
    subst hie
    rw [goC_end] at hgo
    have hfin:cnPost B ts ds (.slice ta tn tc) (.slice da dn dc) (f + 1) [nilV,I 0,I (f + 1:Nat)] (ledC B (.slice ta tn tc) (.slice da dn dc) (.slice fa fn fc)) (.bool false) [.cells [.slice ga gn gc] 22] G1 :=
     ⟨_,_,F1,rfl,rfl,by rw [← hgo];rfl,rfl,hF1,(fun L hL=>by rw [← hgo] at hL;cases hL)⟩
    exact FinS.mk ⟨_,fin4 rfl rfl rfl rfl,hfin⟩
end Go.Proofs.Ytgpfejgohclheaa

namespace Go.Proofs.Ytgpfejgohclheaa
open Go.Pal
set_option maxRecDepth 100000
theorem doubts_mem {d:Dv} (hm:d.m≤40):∀ x∈doubtsF d,0≤x∧x < 40:=fun x hx=>by
 simp only [doubtsF,dK,List.mem_map,List.mem_filter,List.mem_range] at hx
 obtain ⟨k,⟨hk,_⟩,rfl⟩:=hx
 constructor
 ·exact Int.natCast_nonneg k
 ·show (k:Int) < 40;omega
noncomputable def askN (d:Dv) (n:Nat):Option (List Int):=chF (decF (tolF d)) (doubtsF d) n 0 []
noncomputable def askF (d:Dv):List Int:=((List.range (doubtsF d).length).findSome? (askN d)).getD (doubtsF d)
theorem findSome_hit {α:Type} {g:Nat→Option α} {n i:Nat} {x:α} (hi:i < n) (hx:g i = some x) (h:∀ k,k < i→g k = none):(List.range n).findSome? g = some x:=by
 have:∀ m,m≤i→(List.range m).findSome? g = none:=fun m hm=>by
  rw [List.findSome?_eq_none_iff]
  exact fun k hk=>h k (by have:=List.mem_range.1 hk;omega)
 have hs:List.range n = List.range i++List.range' i (n - i):=by
  have e:=@List.range'_append_1 0 i (n - i)
  rw [Nat.zero_add] at e
  rw [List.range_eq_range',List.range_eq_range',e]
  congr 1;omega
 rw [hs,List.findSome?_append,this i (Nat.le_refl _),Option.none_or,show n - i = (n - i - 1) + 1 by omega,List.range'_succ,List.findSome?_cons,hx]
def AskV (d:Dv) (v:Value) (G:Hp):Prop:=∃ w,v = .tuple #[w,I (openF d)]∧SlV intE G w (if openF d = 0 then askF d else [])
def tabAs:Tab Try.prog:=Tab.cons 39 _ open39 body39 (Tab.cons 38 _ dbt38 body38 (Tab.cons 51 _ all51 body51 (Tab.cons 62 _ ris62 body62 (Tab.nil _))))
theorem ask24:Sound Try.prog 24 id (grel (args1 dvRd rul) fun d v G=>AskV d v G):=by
 refine comp24.grel tabAs (ok1 _ _) (fun args G s h=>?_) (fun x v G G' hg ⟨w,h1,h2⟩=>⟨w,h1,h2.grow hg⟩) (fun args G d h=>?_)
 ·obtain ⟨v,rfl,_⟩:=h;simp
 ·obtain ⟨u,rfl,⟨w0,w1,w2,w3,w4,w5,rfl,hd⟩,hr⟩:=h
  have hd0:=hd
  obtain ⟨x0,y0,z0,rfl,la0,ya0⟩:=id hd.a0
  obtain ⟨x1,y1,z1,rfl,la1,ya1⟩:=id hd.a1
  obtain ⟨x2,y2,z2,rfl,ln0,yn0⟩:=id hd.n0
  obtain ⟨x3,y3,z3,rfl,ln1,yn1⟩:=id hd.n1
  obtain ⟨x4,y4,z4,rfl,lps,yps⟩:=id hd.ps
  obtain ⟨x5,y5,z5,rfl,lqs,yqs⟩:=id hd.qs
  (conv=>whnf)
  refine RelP.g (ok1 dvRd rul) (x:=d) ⟨_,rfl,⟨_,_,_,_,_,_,rfl,hd0⟩,hr⟩ (Grow.refl _) (fun v G1 hg1 hq=>W.mk ?_)
  obtain ⟨w,rfl,hw⟩:=hq
  by_cases he:openF d = 0
  rotate_left
  ·rw [if_neg he] at hw
   obtain ⟨w0,w1,w2,w3,w4,w5,p,a,n,c,rfl,hk⟩:=hw
   have hkd:=hk.dv
   obtain ⟨xx0,yy0,zz0,rfl,_,_⟩:=id hkd.a0
   obtain ⟨xx1,yy1,zz1,rfl,_,_⟩:=id hkd.a1
   obtain ⟨xx2,yy2,zz2,rfl,_,_⟩:=id hkd.n0
   obtain ⟨xx3,yy3,zz3,rfl,_,_⟩:=id hkd.n1
   obtain ⟨xx4,yy4,zz4,rfl,_,_⟩:=id hkd.ps
   obtain ⟨xx5,yy5,zz5,rfl,_,_⟩:=id hkd.qs
   (conv=>whnf)
   refine IteP.mk (fun h1=>absurd h1 he) (fun h1=>W.mk ?_)
   (conv=>whnf)
   refine FinP.mk ?_
   unfold AskV
   rw [if_neg he]
   exact ⟨_,rfl,SlV.nil⟩
  rw [if_pos he] at hw
  obtain ⟨hf,h8⟩:=open_fault he
  have h1:=fault_right hf
  obtain ⟨hm0,hm1⟩:=right_m h1
  have hw0:=hw
  obtain ⟨w0,w1,w2,w3,w4,w5,p,a,n,c,rfl,hk⟩:=hw
  have hkd:=hk.dv
  have hl2:(lookF d).d = d:=rfl
  rw [hl2] at hkd
  obtain ⟨xx0,yy0,zz0,rfl,_,_⟩:=id hkd.a0
  obtain ⟨xx1,yy1,zz1,rfl,_,_⟩:=id hkd.a1
  obtain ⟨xx2,yy2,zz2,rfl,_,_⟩:=id hkd.n0
  obtain ⟨xx3,yy3,zz3,rfl,_,_⟩:=id hkd.n1
  obtain ⟨xx4,yy4,zz4,rfl,_,_⟩:=id hkd.ps
  obtain ⟨xx5,yy5,zz5,rfl,_,_⟩:=id hkd.qs
  (conv=>whnf)
  refine IteP.mk (fun _=>W.mk ?_) (fun h=>absurd he h)
  (conv=>whnf)
  refine RelP.g (ok1 lkRd fun x=>0≤x.d.m∧x.d.m≤40) (x:=lookF d) ⟨_,rfl,hw0,by show 0≤d.m;omega,hm1⟩ (Grow.refl _) (fun v G2 hg2 hq=>W.mk ?_)
  have hq:SlV intE G2 v (doubtsF d):=dbK_look hm1 ▸ hq
  obtain ⟨da,dn,dc,rfl,hdl,hdn⟩:=hq
  have hdlen:=hdl.len
  (conv=>whnf)
  refine RelP.g (ok1 lkRd fun x=>∃ d,x = lookF d∧openF d = 0∧0≤d.rule) (x:=lookF d) ⟨_,rfl,hw0.grow hg2,d,rfl,he,hr.1⟩ (Grow.refl _) (fun v G3 hg3 hq=>W.mk ?_)
  obtain ⟨ta,tn,tc,rfl,htl,htn⟩:=hq
  rw [hl2] at htl
  (conv=>whnf)
  refine NameP.mk (fun bf=>W.mk ?_)
  (conv=>whnf)
  refine NameP.mk (fun bt=>W.mk ?_)
  (conv=>whnf)
  refine NameP.mk (fun bd=>W.mk ?_)
  (conv=>whnf)
  refine NameP.mk (fun bc=>W.mk ?_)
  (conv=>whnf)
  refine LoopP.of { α:=Nat × Option Addr × Nat × Nat,fr:=fun x=>[(6, .c (.ptr 20 0)),(8, .c (.ptr 24 0)),(9, .c (.ptr 25 0)),(25, .v (I dn)),(26, .v (I x.1))],H:=fun x=>[(20, .cells (.named bd) [.val (.slice da dn dc)] 22),(21, .cells (.named bt) [.val (.slice ta tn tc)] 99),(24, .cells (.named bf) [.val (.slice x.2.1 x.2.2.1 x.2.2.2)] 22),(25, .cells (.named bc) [.val (chV ⟨bf,bt,bd,bc⟩)] 101)],ok:=fun x G=>x.1≤(doubtsF d).length∧(∃ F,SlV intE G (.slice x.2.1 x.2.2.1 x.2.2.2) F)∧∀ k,k < x.1→askN d k = none,m:=fun x=>(doubtsF d).length - x.1 }
   (0,none,0,0) (HeadP.of [] ⟨rfl,rfl,rfl,rfl,rfl,trivial⟩ ⟨rfl,rfl,rfl,rfl,trivial⟩) ⟨Nat.zero_le _,⟨[],SlV.nil⟩,fun k hk=>absurd hk (Nat.not_lt_zero _)⟩ (fun _=>⟨rfl,rfl⟩) (fun x G4 hG4 hx=>W.mk ?_)
  obtain ⟨i,ga,gn,gc⟩:=x
  obtain ⟨hi,⟨F1,hF1⟩,hno⟩:=hx
  dsimp only at hi hF1 hno
  have hctx:CtxC (tolF d) (doubtsF d) (.slice ta tn tc) (.slice da dn dc) G4:=⟨SlV.grow hG4 ⟨_,_,_,rfl,htl,htn⟩,SlV.grow (hg3.trans hG4) ⟨_,_,_,rfl,hdl,hdn⟩⟩
  dsimp only
  (conv=>whnf)
  refine IteP.mk (fun hlt=>W.mk ?_) (fun hge=>W.mk ?_)<;>(conv=>whnf)
  ·have hlt:i < (doubtsF d).length:=by omega
   refine CallvP.fn _ (SoundFn.of body52 (cn52 (B:=⟨bf,bt,bd,bc⟩) (ts:=tolF d) (ds:=doubtsF d) (ta:=ta) (da:=da) (tn:=tn) (tc:=tc) (dn:=dn) (dc:=dc) (tol_012 he) (doubts_mem hm1) i)) (W.mk ?_)
   (conv=>whnf)
   refine StP.mk ⟨[(24,⟨bf,true, .cells [.slice ga gn gc] 22⟩),(21,⟨bt,false, .cells [.slice ta tn tc] 99⟩),(20,⟨bd,false, .cells [.slice da dn dc] 22⟩),(25,⟨bc,false, .cells [chV ⟨bf,bt,bd,bc⟩] 101⟩)],
    ⟨⟨_,rfl,rfl⟩,⟨_,rfl,rfl⟩,⟨_,rfl,rfl⟩,⟨_,rfl,rfl⟩,trivial⟩,(by show ([24,21,20,25]:List Nat).Nodup;decide),⟨.slice ga gn gc,F1,rfl,rfl,by omega,hF1,hctx⟩,fun v ns G5 hg5 hpost=>W.mk ?_⟩
   obtain ⟨fv1,fv2,F2,q1,q2,rfl,rfl,hF2,hFL⟩:=hpost
   obtain ⟨pa,pn,pc,rfl,hpl,hpn⟩:=hF2
   have hch:chF (decF (tolF d)) (doubtsF d) i 0 [] = askN d i:=rfl
   rw [hch] at hFL ⊢
   (conv=>whnf)
   refine ForkP.mk (fun hm=>W.mk ?_) (fun hm=>W.mk ?_)<;>(conv=>whnf)
   ·cases hL:askN d i with
    | none=>rw [hL] at hm;cases hm
    | some L =>
     have hFe:=hFL L hL
     have hask:askF d = L:=by rw [askF,findSome_hit hlt hL hno];rfl
     refine FinP.mk ?_
     unfold AskV
     rw [if_pos he,he,hask, ← hFe]
     exact ⟨_,rfl,_,_,_,rfl,hpl,hpn⟩
   ·repeat' (refine ob ?_ ?_;(first | trivial | omega | (simp only [inR];omega) | exact ble (by rfl) | exact SlR.some ‹_› (by omega));(conv=>whnf))
    have hnone:askN d i = none:=by
     cases hL:askN d i with
     | none=>rfl
     | some L=>rw [hL] at hm;cases hm
    refine RoundP.of (i + 1,pa,pn,pc) (HeadP.of [] ⟨rfl,rfl,rfl,rfl,rfl,trivial⟩ ⟨rfl,rfl,rfl,rfl,trivial⟩) ⟨hlt,⟨_,_,_,_,rfl,hpl,hpn⟩,fun k hk=>?_⟩ (by simp only;omega)
    rcases Nat.lt_succ_iff_lt_or_eq.1 hk with h | rfl
    ·exact hno k h
    ·exact hnone
  ·have hie:i = (doubtsF d).length:=by omega
   subst hie
   refine FinP.mk ?_
   have hask:askF d = doubtsF d:=by
    rw [askF,List.findSome?_eq_none_iff.2 (fun k hk=>hno k (List.mem_range.1 hk))];rfl
   unfold AskV
   rw [if_pos he,he,hask]
   exact ⟨_,rfl,hctx.d⟩
def amongF (d:Dv) (ms:List Int):Bool:=ms.all fun m=>(doubtsF d).contains m
noncomputable def proveF (d:Dv) (ms:List Int):Bool:=decide (openF d = 0) && risF ms && amongF d ms && decF (tolF d) ms
theorem dbt64 {ds:List Int} {b:Nat} {da:Option Addr} {dn dc:Nat}:Sound Try.prog 64 (fun a=>(#[]:Array Value).toList++a++(#[bptr b]:Array Value).toList) (TestS I (fun m=>ds.contains m) (fun _=>True) (fun G=>SlV intE G (.slice da dn dc) ds) [⟨b,false, .cells [.slice da dn dc] 22⟩]):=by
 refine ⟨fun args ls v ns G G' hg h=>h,fun args ls G Wd hsub hls hnd hpre=>?_⟩
 obtain ⟨rfl,hj,x,rfl,_⟩:=hpre
 refine st_sound (Tab.cons 65 _ con65 body65 (Tab.nil _)) comp64 (svs:=[.v (I x), .c (.ptr 0 0)]) (obs:=[.cells (.named b) [.val (.slice da dn dc)] 22]) (by simp) hsub hls hnd (Nat.le_of_ble_eq_true rfl) ?_ ?_ ?_
 ·exact ⟨rfl,trivial,⟨_,rfl,rfl⟩,(Nat.le_of_ble_eq_true rfl:0 < 1),trivial⟩
 ·exact ⟨⟨_,rfl,relL_vals _ [.slice da dn dc],(by intro c hc;simp at hc;subst hc;trivial)⟩,trivial⟩
 ·(conv=>whnf)
  refine ScaP.g (ok2 (slRd intE) intRd fun _ _=>True) (x:=(ds,x)) ⟨_,_,rfl,hj,rfl,trivial⟩ (fun v hv=>W.mk ?_)
  subst hv
  dsimp only
  (conv=>whnf)
  refine ForkP.mk (fun hm=>W.mk ?_) (fun hm=>W.mk ?_)<;>(conv=>whnf)<;>refine FinS.mk ⟨[],⟨.cells [.slice da dn dc] 22,⟨_,rfl,rfl⟩,trivial,rfl,rfl⟩,rfl,x,rfl, ?_⟩<;>(show Value.bool _ = Value.bool (ds.contains x);rw [hm])
theorem prove36:Sound Try.prog 36 id (gsca (args2 dvRd (slRd intE) fun d _=>rul d) fun x v=>v = .bool (proveF x.1 x.2)):=by
 refine comp36.gsca tabAs (fun args G s h=>?_) (fun args G x h=>?_)
 ·obtain ⟨v,w,rfl,_⟩:=h;simp
 ·obtain ⟨d,ms⟩:=x
  obtain ⟨u,v,rfl,⟨w0,w1,w2,w3,w4,w5,rfl,hd⟩,⟨ma,mn,mc,rfl,hM,hmn⟩,hr⟩:=h
  dsimp only at hd hM hr
  have hd0:=hd
  obtain ⟨x0,y0,z0,rfl,la0,ya0⟩:=id hd.a0
  obtain ⟨x1,y1,z1,rfl,la1,ya1⟩:=id hd.a1
  obtain ⟨x2,y2,z2,rfl,ln0,yn0⟩:=id hd.n0
  obtain ⟨x3,y3,z3,rfl,ln1,yn1⟩:=id hd.n1
  obtain ⟨x4,y4,z4,rfl,lps,yps⟩:=id hd.ps
  obtain ⟨x5,y5,z5,rfl,lqs,yqs⟩:=id hd.qs
  dsimp only
  (conv=>whnf)
  refine RelP.g (ok1 dvRd rul) (x:=d) ⟨_,rfl,⟨_,_,_,_,_,_,rfl,hd0⟩,hr⟩ (Grow.refl _) (fun v G1 hg1 hq=>W.mk ?_)
  obtain ⟨w,rfl,hw⟩:=hq
  by_cases he:openF d = 0
  rotate_left
  ·rw [if_neg he] at hw
   obtain ⟨w0,w1,w2,w3,w4,w5,p,a,n,c,rfl,hk⟩:=hw
   have hkd:=hk.dv
   obtain ⟨xx0,yy0,zz0,rfl,_,_⟩:=id hkd.a0
   obtain ⟨xx1,yy1,zz1,rfl,_,_⟩:=id hkd.a1
   obtain ⟨xx2,yy2,zz2,rfl,_,_⟩:=id hkd.n0
   obtain ⟨xx3,yy3,zz3,rfl,_,_⟩:=id hkd.n1
   obtain ⟨xx4,yy4,zz4,rfl,_,_⟩:=id hkd.ps
   obtain ⟨xx5,yy5,zz5,rfl,_,_⟩:=id hkd.qs
   (conv=>whnf)
   refine IteP.mk (fun h1=>absurd h1 he) (fun h1=>W.mk ?_)
   (conv=>whnf)
   refine FinP.mk ?_
   refine congrArg Value.bool ?_
   rw [proveF,decide_eq_false he];rfl
  rw [if_pos he] at hw
  obtain ⟨hf,h8⟩:=open_fault he
  have h1:=fault_right hf
  obtain ⟨hm0,hm1⟩:=right_m h1
  have hw0:=hw
  obtain ⟨w0,w1,w2,w3,w4,w5,p,a,n,c,rfl,hk⟩:=hw
  have hkd:=hk.dv
  have hl2:(lookF d).d = d:=rfl
  rw [hl2] at hkd
  have hM1:SlV intE G1 (.slice ma mn mc) ms:=SlV.grow hg1 ⟨_,_,_,rfl,hM,hmn⟩
  have hp0:proveF d ms = (risF ms && amongF d ms && decF (tolF d) ms):=by rw [proveF,decide_eq_true he,Bool.true_and]
  rw [hp0]
  obtain ⟨xx0,yy0,zz0,rfl,_,_⟩:=id hkd.a0
  obtain ⟨xx1,yy1,zz1,rfl,_,_⟩:=id hkd.a1
  obtain ⟨xx2,yy2,zz2,rfl,_,_⟩:=id hkd.n0
  obtain ⟨xx3,yy3,zz3,rfl,_,_⟩:=id hkd.n1
  obtain ⟨xx4,yy4,zz4,rfl,_,_⟩:=id hkd.ps
  obtain ⟨xx5,yy5,zz5,rfl,_,_⟩:=id hkd.qs
  (conv=>whnf)
  refine IteP.mk (fun _=>W.mk ?_) (fun h=>absurd he h)
  (conv=>whnf)
  refine ScaP.g (ok1 (slRd intE) fun _=>True) (x:=ms) ⟨_,rfl,hM1,trivial⟩ (fun v hv=>W.mk ?_)
  subst hv
  (conv=>whnf)
  refine ForkP.mk (fun h2=>W.mk ?_) (fun h2=>W.mk ?_)<;>(conv=>whnf)
  rotate_left
  ·refine FinP.mk ?_
   refine congrArg Value.bool ?_
   rw [h2];rfl
  refine RelP.g (ok1 lkRd fun x=>0≤x.d.m∧x.d.m≤40) (x:=lookF d) ⟨_,rfl,hw0,by show 0≤d.m;omega,hm1⟩ (Grow.refl _) (fun v G2 hg2 hq=>W.mk ?_)
  have hq:SlV intE G2 v (doubtsF d):=dbK_look hm1 ▸ hq
  obtain ⟨da,dn,dc,rfl,hdl,hdn⟩:=hq
  (conv=>whnf)
  refine NameP.mk (fun b=>W.mk ?_)
  (conv=>whnf)
  refine CallN.mk ⟨_,all63L 64 #[] #[bptr b] _ _ _ b da dn dc (fun G G' hg h=>SlV.grow hg h) (SoundFn.of body64 (dbt64 (ds:=doubtsF d))),body63,W.mk ?_⟩
  (conv=>whnf)
  have hM2:=hM1.grow hg2
  have hD2:SlV intE G2 (.slice da dn dc) (doubtsF d):=⟨_,_,_,rfl,hdl,hdn⟩
  refine StP.mk ⟨[(20,⟨b,false, .cells [.slice da dn dc] 22⟩)],⟨⟨_,rfl,rfl⟩,trivial⟩,by simp,⟨rfl,hD2,_,ms,rfl,hM2,fun _ _=>trivial⟩,fun v ns G3 hg3 hpost=>W.mk ?_⟩
  obtain ⟨rfl,w',l',q1,q2,rfl⟩:=hpost
  simp only [List.cons.injEq,and_true] at q1
  subst q1
  have hle:l' = ms:=q2.uniq (hM2.grow hg3)
  subst hle
  have ham:amongF d l' = l'.all (fun m=>(doubtsF d).contains m):=rfl
  dsimp only
  rw [← ham]
  (conv=>whnf)
  refine ForkP.mk (fun h3=>W.mk ?_) (fun h3=>W.mk ?_)<;>(conv=>whnf)
  rotate_left
  ·refine FinP.mk ?_
   refine congrArg Value.bool ?_
   rw [h3,Bool.and_false];rfl
  have hw3:=(hw0.grow hg2).grow hg3
  refine RelP.g (ok1 lkRd fun x=>∃ d,x = lookF d∧openF d = 0∧0≤d.rule) (x:=lookF d) ⟨_,rfl,hw3,d,rfl,he,hr.1⟩ (Grow.refl _) (fun v G4 hg4 hq=>W.mk ?_)
  rw [hl2] at hq
  have hms:∀ m∈l',0≤m∧m < 40:=fun m hm=>by
   rw [ham,List.all_eq_true] at h3
   have:=h3 m hm
   exact doubts_mem hm1 m (by simpa using this)
  obtain ⟨ta,tn,tc,rfl,htl,htn⟩:=hq
  (conv=>whnf)
  refine CallN.mk ⟨_,decide54,body54,W.mk ?_⟩
  (conv=>whnf)
  refine ScaP.g (ok2 (slRd toldE) (slRd intE) fun ts ms=>(∀ m∈ms,0≤m∧m < 40)∧∀ p∈ts, ∀ i,i < 40→0≤p.1.f i∧p.1.f i≤255) (x:=(tolF d,l')) ⟨_,_,rfl,⟨_,_,_,rfl,htl,htn⟩,q2.grow hg4,hms,tol_012 he⟩ (fun v hv=>W.mk ?_)
  subst hv
  dsimp only
  (conv=>whnf)
  refine ForkP.mk (fun h4=>W.mk ?_) (fun h4=>W.mk ?_)<;>(conv=>whnf)<;>refine FinP.mk ?_<;>refine congrArg Value.bool ?_<;>rw [h2,h3,h4]<;>rfl
end Go.Proofs.Ytgpfejgohclheaa

namespace Go.Proofs.Ytgpfejgohclheaa
open Go.Pal
set_option maxRecDepth 100000
def lobD:Dv:=⟨6,[0,1,2],[0,1,3],[4,5],[4,5],[],[(4,3)],0,0,3,2⟩
theorem lob35:Sound Try.prog 35 id (grel unitRd fun _ v G=>DvV G v lobD):=by
 refine comp35.grel (Tab.nil _) okU (fun args G s h=>by rw [h];exact Nat.zero_le _) (fun x v G G' hg h=>dvRd.grow hg h) (fun args G s h=>?_)
 subst h
 (conv=>whnf)
 refine PubP.mk (fun a1 c1 G1 hg1 h1=>W.mk ?_)
 (conv=>whnf)
 refine PubP.mk (fun a2 c2 G2 hg2 h2=>W.mk ?_)
 (conv=>whnf)
 refine PubP.mk (fun a3 c3 G3 hg3 h3=>W.mk ?_)
 (conv=>whnf)
 refine PubP.mk (fun a4 c4 G4 hg4 h4=>W.mk ?_)
 (conv=>whnf)
 refine PubP.mk (fun a5 c5 G5 hg5 h5=>W.mk ?_)
 (conv=>whnf)
 have k1:SlV intE G1 (.slice a1 3 c1) [0,1,2]:=h1.slV rfl rfl (by decide)
 have k2:SlV intE G2 (.slice a2 3 c2) [0,1,3]:=h2.slV rfl rfl (by decide)
 have k3:SlV intE G3 (.slice a3 2 c3) [4,5]:=h3.slV rfl rfl (by decide)
 have k4:SlV intE G4 (.slice a4 2 c4) [4,5]:=h4.slV rfl rfl (by decide)
 have k5:SlV prE G5 (.slice a5 1 c5) [(4,3)]:=h5.slV rfl rfl (by decide)
 exact FinP.mk ⟨_,_,_,_,_,_,rfl,((((k1.grow hg2).grow hg3).grow hg4).grow hg5),((k2.grow hg3).grow hg4).grow hg5,(k3.grow hg4).grow hg5,k4.grow hg5,SlV.nil,k5⟩
/-! ### Closed evaluation -/
def decB (ts:List Tl) (ms:List Int):Bool:=(List.range ts.length).all fun i=>(List.range i).all fun k=>match ts[i]?,ts[k]? with
 | some x,some y=>!(decide (ansT x ms = ansT y ms)) || decide (x.2 = y.2)
 | _,_=>true
theorem decF_eq (ts:List Tl) (ms:List Int):decF ts ms = decB ts ms:=by
 rw [Bool.eq_iff_iff,decF_true]
 simp only [decB,List.all_eq_true,List.mem_range]
 constructor
 ·intro h i hi k hk
  have hk':k < ts.length:=by omega
  rw [List.getElem?_eq_getElem hi,List.getElem?_eq_getElem hk']
  simp only [Bool.or_eq_true,Bool.not_eq_true',decide_eq_false_iff_not,decide_eq_true_eq]
  by_cases he:ansT ts[i] ms = ansT ts[k] ms
  ·exact .inr (h i k hk _ _ (List.getElem?_eq_getElem hi) (List.getElem?_eq_getElem hk') he)
  ·exact .inl he
 ·intro h i k hk x y hx hy he
  have hi:=(List.getElem?_eq_some_iff.1 hx).1
  have:=h i hi k hk
  rw [hx,hy] at this
  simp only [Bool.or_eq_true,Bool.not_eq_true',decide_eq_false_iff_not,decide_eq_true_eq] at this
  exact this.resolve_left (fun hn=>hn he)
theorem decF_fun (ts:List Tl):decF ts = decB ts:=funext (decF_eq ts)
def askB (d:Dv):List Int:=((List.range (doubtsF d).length).findSome? fun n=>chF (decB (tolF d)) (doubtsF d) n 0 []).getD (doubtsF d)
theorem askF_eq (d:Dv):askF d = askB d:=by
 unfold askF askB
 congr 2
 funext n
 rw [askN,decF_fun]
theorem lob_open:openF lobD = 0:=by decide +kernel
theorem lob_fault:faultF lobD = 0:=by decide +kernel
theorem lob_doubts:doubtsF lobD = [2,3]:=by decide +kernel
theorem lob_bnd:bdF Nm2.a (numsF lobD) = (2,4)∧bdF Nm2.n (numsF lobD) = (2,3):=by decide +kernel
theorem lob_allowed:allowedF lobD = [0,1]:=by decide +kernel
theorem lob_ask:askF lobD = [3]:=by rw [askF_eq];decide +kernel
theorem eq39 (a b c d:Int):∀ w,((POp.bin .eql 39).sem [.agg #[I a,I b], .agg #[I c,I d]]).run Try.prog w = .ok (.bool (decide (a = c∧b = d))) w :=
 pur_eq2 (e:=3) (by kernel_rfl) (by kernel_rfl) (by kernel_rfl) und3 (by kernel_rfl) (by kernel_rfl) (by kernel_rfl) a b c d
def tabWk:Tab Try.prog:=Tab.cons 35 _ lob35 body35 (Tab.cons 11 _ doubts11 body11 (Tab.cons 13 _ bounds13 body13 (Tab.cons 23 _ allowed23 body23 (Tab.cons 24 _ ask24 body24 (Tab.cons 15 _ ints15 body15 (Tab.cons 33 _ votes33 body33 (Tab.nil _)))))))
theorem lrul:rul lobD:=⟨by decide,by decide⟩
theorem wakes10:Sound Try.prog 10 id (gsca unitRd fun _ v=>v = .bool true):=by
 refine comp10.gsca tabWk (fun args G s h=>by rw [h];exact Nat.zero_le _) (fun args G s h=>?_)
 subst h
 (conv=>whnf)
 refine RelP.g okU (x:=()) rfl (Grow.refl _) (fun v G1 h1 hq=>W.mk ?_)
 have hdv:=hq
 obtain ⟨w0,w1,w2,w3,w4,w5,rfl,hq⟩:=hq
 obtain ⟨xx0,yy0,zz0,rfl,_,_⟩:=id hq.a0
 obtain ⟨xx1,yy1,zz1,rfl,_,_⟩:=id hq.a1
 obtain ⟨xx2,yy2,zz2,rfl,_,_⟩:=id hq.n0
 obtain ⟨xx3,yy3,zz3,rfl,_,_⟩:=id hq.n1
 obtain ⟨xx4,yy4,zz4,rfl,_,_⟩:=id hq.ps
 obtain ⟨xx5,yy5,zz5,rfl,_,_⟩:=id hq.qs
 (conv=>whnf)
 refine RelP.g (ok1 dvRd rul) (x:=lobD) ⟨_,rfl,hdv,lrul⟩ (Grow.refl _) (fun v G2 h2 hq=>W.mk ?_)
 obtain ⟨w,rfl,hq⟩:=hq
 rw [if_pos lob_fault,lob_doubts] at hq
 rw [lob_fault]
 have hL:=hq
 obtain ⟨la,ln,lc,rfl,_,_⟩:=hq
 (conv=>whnf)
 refine RelP.g okU (x:=()) rfl (Grow.refl _) (fun v G3 h3 hq=>W.mk ?_)
 have hdv:=hq
 obtain ⟨w0,w1,w2,w3,w4,w5,rfl,hq⟩:=hq
 obtain ⟨xx0,yy0,zz0,rfl,_,_⟩:=id hq.a0
 obtain ⟨xx1,yy1,zz1,rfl,_,_⟩:=id hq.a1
 obtain ⟨xx2,yy2,zz2,rfl,_,_⟩:=id hq.n0
 obtain ⟨xx3,yy3,zz3,rfl,_,_⟩:=id hq.n1
 obtain ⟨xx4,yy4,zz4,rfl,_,_⟩:=id hq.ps
 obtain ⟨xx5,yy5,zz5,rfl,_,_⟩:=id hq.qs
 (conv=>whnf)
 refine ScaP.g (ok1 dvRd rul) (x:=lobD) ⟨_,rfl,hdv,lrul⟩ (fun v hv=>W.mk ?_)
 rw [bndV,if_pos lob_open,lob_bnd.1,lob_bnd.2] at hv
 subst hv
 (conv=>whnf)
 refine RelP.g okU (x:=()) rfl (Grow.refl _) (fun v G4 h4 hq=>W.mk ?_)
 have hdv:=hq
 obtain ⟨w0,w1,w2,w3,w4,w5,rfl,hq⟩:=hq
 obtain ⟨xx0,yy0,zz0,rfl,_,_⟩:=id hq.a0
 obtain ⟨xx1,yy1,zz1,rfl,_,_⟩:=id hq.a1
 obtain ⟨xx2,yy2,zz2,rfl,_,_⟩:=id hq.n0
 obtain ⟨xx3,yy3,zz3,rfl,_,_⟩:=id hq.n1
 obtain ⟨xx4,yy4,zz4,rfl,_,_⟩:=id hq.ps
 obtain ⟨xx5,yy5,zz5,rfl,_,_⟩:=id hq.qs
 (conv=>whnf)
 refine RelP.g (ok1 dvRd rul) (x:=lobD) ⟨_,rfl,hdv,lrul⟩ (Grow.refl _) (fun v G5 h5 hq=>W.mk ?_)
 obtain ⟨w,rfl,hq⟩:=hq
 rw [if_pos lob_open,lob_allowed] at hq
 rw [lob_open]
 have hO:=hq
 obtain ⟨oa,on,oc,rfl,_,_⟩:=hq
 (conv=>whnf)
 refine RelP.g okU (x:=()) rfl (Grow.refl _) (fun v G6 h6 hq=>W.mk ?_)
 have hdv:=hq
 obtain ⟨w0,w1,w2,w3,w4,w5,rfl,hq⟩:=hq
 obtain ⟨xx0,yy0,zz0,rfl,_,_⟩:=id hq.a0
 obtain ⟨xx1,yy1,zz1,rfl,_,_⟩:=id hq.a1
 obtain ⟨xx2,yy2,zz2,rfl,_,_⟩:=id hq.n0
 obtain ⟨xx3,yy3,zz3,rfl,_,_⟩:=id hq.n1
 obtain ⟨xx4,yy4,zz4,rfl,_,_⟩:=id hq.ps
 obtain ⟨xx5,yy5,zz5,rfl,_,_⟩:=id hq.qs
 (conv=>whnf)
 refine RelP.g (ok1 dvRd rul) (x:=lobD) ⟨_,rfl,hdv,lrul⟩ (Grow.refl _) (fun v G7 h7 hq=>W.mk ?_)
 obtain ⟨w,rfl,hq⟩:=hq
 rw [if_pos lob_open,lob_ask] at hq
 rw [lob_open]
 have hQ:=hq
 obtain ⟨qa,qn,qc,rfl,_,_⟩:=hq
 (conv=>whnf)
 refine IteP.mk (fun _=>W.mk ?_) (fun h=>absurd rfl h)
 (conv=>whnf)
 refine IteP.mk (fun _=>W.mk ?_) (fun h=>absurd rfl h)
 (conv=>whnf)
 refine IteP.mk (fun _=>W.mk ?_) (fun h=>absurd rfl h)
 (conv=>whnf)
 refine IteP.mk (fun _=>W.mk ?_) (fun h=>absurd rfl h)
 (conv=>whnf)
 refine PubP.mk (fun pa pc G8 h8 hp8=>W.mk ?_)
 (conv=>whnf)
 have hL8:=((((((hL.grow h3).grow h4).grow h5).grow h6).grow h7).grow h8)
 refine ScaP.g (ok2 (slRd intE) (slRd intE) fun _ _=>True) (x:=([2,3],[2,3])) ⟨_,_,rfl,hL8,hp8.slV rfl rfl (by decide),trivial⟩ (fun v hv=>W.mk ?_)
 have hv:v = .bool true:=hv
 subst hv
 (conv=>whnf)
 refine ForkP.mk (fun _=>W.mk ?_) (fun h=>by cases h)
 (conv=>whnf)
 refine PurP.of (.bool true) (eq39 2 4 2 4) (W.mk ?_)
 (conv=>whnf)
 refine ForkP.mk (fun _=>W.mk ?_) (fun h=>by cases h)
 (conv=>whnf)
 refine PurP.of (.bool true) (eq39 2 3 2 3) (W.mk ?_)
 (conv=>whnf)
 refine ForkP.mk (fun _=>W.mk ?_) (fun h=>by cases h)
 (conv=>whnf)
 refine PubP.mk (fun pa pc G9 h9 hp9=>W.mk ?_)
 (conv=>whnf)
 have hO9:=((((hO.grow h6).grow h7).grow h8).grow h9)
 refine ScaP.g (ok2 (slRd u8E) (slRd u8E) fun _ _=>True) (x:=([0,1],[0,1])) ⟨_,_,rfl,hO9,hp9.slV rfl rfl (by decide),trivial⟩ (fun v hv=>W.mk ?_)
 have hv:v = .bool true:=hv
 subst hv
 (conv=>whnf)
 refine ForkP.mk (fun _=>W.mk ?_) (fun h=>by cases h)
 (conv=>whnf)
 refine PubP.mk (fun pa pc G10 h10 hp10=>W.mk ?_)
 (conv=>whnf)
 have hQ10:=((hQ.grow h8).grow h9).grow h10
 refine ScaP.g (ok2 (slRd intE) (slRd intE) fun _ _=>True) (x:=([3],[3])) ⟨_,_,rfl,hQ10,hp10.slV rfl rfl (by decide),trivial⟩ (fun v hv=>W.mk ?_)
 have hv:v = .bool true:=hv
 subst hv
 (conv=>whnf)
 refine ForkP.mk (fun _=>W.mk ?_) (fun h=>by cases h)
 (conv=>whnf)
 exact FinP.mk rfl
end Go.Proofs.Ytgpfejgohclheaa

namespace Go.Proofs.Ytgpfejgohclheaa
open Go.Pal
set_option maxRecDepth 100000
abbrev Hdr:Type:=Option Addr × Nat × Nat
abbrev hv (x:Hdr):Value:=.slice x.1 x.2.1 x.2.2
end Go.Proofs.Ytgpfejgohclheaa
