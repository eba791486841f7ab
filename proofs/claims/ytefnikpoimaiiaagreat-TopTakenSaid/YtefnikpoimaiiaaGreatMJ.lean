/- Layer 3: the sources of an item: the function value with its memory. Layer 3: the function value of the sources, made. Layer 3: Traces: what is known of a sheet after its steps (plain); the traces, the lost words. Layer 3: Traces. -/
import Derived.Test.YtefnikpoimaiiaaGreatMI
import Derived.Test.YtefnikpoimaiiaaGreatMD
import Derived.Tactics
import Derived.Tactics2
import Derived.Laws.Pointers
import Derived.Carry
import Derived.Laws.EntriesVeiled
set_option linter.unusedSimpArgs false
set_option linter.unusedVariables false
namespace Go.Proofs.YtefnikpoimaiiaaGreat
open Go.Pal Go.RowKit
set_option maxRecDepth 100000
structure Bk where
 b0:Nat
 b1:Nat
 b2:Nat
 b3:Nat
abbrev Bk.caps (B:Bk):Array Value:=#[ptr B.b0,ptr B.b1,ptr B.b2]
abbrev selfV (B:Bk):Value:=.func (.func 89) #[] B.caps
abbrev ledL (B:Bk) (sb:Nat) (es:Array MapEntry) (c:Nat):List LE :=
 [⟨B.b0,false, .cells [.map (some B.b3)] 207⟩,⟨B.b1,false, .cells [ptr sb] 152⟩,⟨B.b2,false, .cells [selfV B] 155⟩,⟨B.b3,true, .map es c⟩]
theorem und3c:Tryz.prog.underlying 3 = some (.int .i64):=by kernel_rfl
def Knows (L:List It) (G:Hp) (es:Array MapEntry):Prop:=∃ m:Int→Option Value,MapIs Tryz.prog 3 I es m∧∀ x v,m x = some v→SlV intE G v (grpF L x)
theorem Knows.grow {L:List It} {G G':Hp} {es:Array MapEntry} (hg:Grow G G') (h:Knows L G es):Knows L G' es:=by
 obtain ⟨m,h1,h2⟩:=h
 exact ⟨m,h1,fun x v e=>(h2 x v e).grow hg⟩
theorem Knows.nil {L:List It} {G:Hp}:Knows L G #[]:=⟨fun _=>none,MapIs.nil,fun _ _ h=>by cases h⟩
theorem Knows.find {L:List It} {G:Hp} {es:Array MapEntry} (h:Knows L G es) {x:Int} (hx:inR .i64 x) :
  ∃ r,KeyFind Tryz.prog 3 (I x) es r∧(lookV (.slice none 0 0) true es r = .tuple #[.slice none 0 0, .bool false]∨∃ v,lookV (.slice none 0 0) true es r = .tuple #[v, .bool true]∧SlV intE G v (grpF L x)) ∧
   ∀ G' c v,Grow G G'→SlV intE G' v (grpF L x)→Knows L G' (putE es c (I x) v r).1∧∃ r',KeyFind Tryz.prog 3 (I x) (putE es c (I x) v r).1 r'∧lookV (.slice none 0 0) false (putE es c (I x) v r).1 r' = v:=by
 obtain ⟨m,h1,h2⟩:=h
 obtain ⟨r,k1,k2,k3⟩:=MapIs.find (Maps.int_keyed und3c) (fun x y e=>by cases e;rfl) h1 (Maps.keyOf_int_mk und3c (wf_i64' hx)) (by simp [Instr.sameBits])
 refine ⟨r,k1, ?_,fun G' c v hg hv=>⟨⟨_,k3 c v,fun y u e=>?_⟩, ?_⟩⟩
 ·rw [k2]
  cases hm:m x with
  | none=>exact .inl rfl
  | some v=>exact .inr ⟨v,rfl,h2 x v hm⟩
 ·split at e
  ·rename_i hy;cases e;rw [hy];exact hv
  ·exact (h2 y u e).grow hg
 ·obtain ⟨r',l1,l2,_⟩:=MapIs.find (Maps.int_keyed und3c) (fun x y e=>by cases e;rfl) (k3 c v) (Maps.keyOf_int_mk und3c (wf_i64' hx)) (by simp [Instr.sameBits])
  refine ⟨r',l1, ?_⟩
  rw [l2,if_pos rfl];rfl
def outN (L:List It) (mk:Int) (i:Nat):List Int:=((L.take i).filter fun y=>decide (y.g = mk)).flatMap (ofF L)
theorem outN_succ {L:List It} {mk:Int} {i:Nat} (h:i < L.length):outN L mk (i + 1) = if L[i].g = mk then outN L mk i++ofF L L[i] else outN L mk i:=by
 unfold outN
 rw [List.take_add_one,List.getElem?_eq_getElem h,List.filter_append,List.flatMap_append]
 split
 ·rename_i hg
  simp [hg]
 ·rename_i hg
  simp [hg]
theorem outN_len {N:Nat} {L:List It} (hw:WfL N L) {mk:Int}:∀ i,i≤L.length→(outN L mk i).length≤i * (N + 1)
 | 0,_=>by simp [outN]
 | i + 1,h=>by
  have h1:i < L.length:=h
  have:=outN_len hw (mk:=mk) i (by omega)
  rw [outN_succ h1,Nat.add_mul]
  split
  ·have:=ofF_len hw (hw _ (List.getElem_mem h1))
   rw [List.length_append];omega
  ·omega
theorem Row.app {α:Type} {e:El α} {l us:List α} {n m:Nat} {vs ws:List Value} (h:Row e l n vs) (hm:m = us.length) (hw:ws = (us.map e.f).flatten):Row e (l++us) (n + m) (vs++ws) :=
 ⟨by rw [h.n,hm,List.length_append],by rw [h.vs,hw,List.map_append,List.flatten_append]⟩
section
variable (N:Nat) (d:Dr) (S:Sh) (sb:Nat) (B:Bk)
def srcPre (f:Nat) (args:List Value) (ls:List LE) (G:Hp):Prop:=∃ (x:It) (es:Array MapEntry) (c:Nat),args = [.agg (itE.f x).toArray]∧WfI N x∧(x.o < 0→x.m.toNat≤f)∧inR .i64 x.m∧ShC G sb d S∧ls = ledL B sb es c∧Knows S.its G es
def srcPost (args:List Value) (ls:List LE) (v:Value) (ns:List LB) (G:Hp):Prop:=∃ (x:It) (es:Array MapEntry) (c:Nat) (es':Array MapEntry) (c':Nat),args = [.agg (itE.f x).toArray]∧ls = ledL B sb es c∧ns = [.map es' c']∧Knows S.its G es'∧SlV intE G v (ofF S.its x)
abbrev srcS (f:Nat):PSpec:=.st (srcPre N d S sb B f) (srcPost S sb B)
end
theorem fin4 {H:Nat→Option OB} {B:Bk} {sb:Nat} {es es':Array MapEntry} {c c':Nat} (h0:H 0 = some (.cells (.named B.b0) [.mref 3] 207)) (h1:H 1 = some (.cells (.named B.b1) [.val (ptr sb)] 152)) (h2:H 2 = some (.cells (.named B.b2) [.val (selfV B)] 155)) (h3:H 3 = some (.map (.named B.b3) es' c')) :
  finL H 0 (ledL B sb es c) [.map es' c']:=by
 refine ⟨.cells [.map (some B.b3)] 207,⟨_,h0, ?_⟩,trivial,rfl, .cells [ptr sb] 152,⟨_,h1,rfl⟩,trivial,rfl, .cells [selfV B] 155,⟨_,h2,rfl⟩,trivial,rfl, .map es' c',h3,trivial,_,rfl,rfl⟩
 simp only [toValsH,S1.toValH,h3]
abbrev hsL (B:Bk) (sb:Nat) (es:Array MapEntry) (c:Nat):List (Nat × LE) :=
 [(0,⟨B.b0,false, .cells [.map (some B.b3)] 207⟩),(1,⟨B.b1,false, .cells [ptr sb] 152⟩),(2,⟨B.b2,false, .cells [selfV B] 155⟩),(3,⟨B.b3,true, .map es c⟩)]
theorem lend4 {H:Nat→Option OB} {B:Bk} {sb:Nat} {es:Array MapEntry} {c:Nat} (h0:H 0 = some (.cells (.named B.b0) [.mref 3] 207)) (h1:H 1 = some (.cells (.named B.b1) [.val (ptr sb)] 152)) (h2:H 2 = some (.cells (.named B.b2) [.val (selfV B)] 155)) (h3:H 3 = some (.map (.named B.b3) es c)) :
  lendOk H (hsL B sb es c):=by
 refine ⟨⟨_,h0, ?_⟩,⟨_,h1,rfl⟩,⟨_,h2,rfl⟩,h3,trivial⟩
 simp only [toValsH,S1.toValH,h3]
theorem src70 (N:Nat) (d:Dr) (S:Sh) (hN:N≤1000) (hs:S.small) (hw:WfL N S.its) (hmr:∀ y∈S.its,inR .i64 y.m) (sb:Nat) (B:Bk):∀ f,Sound Tryz.prog 89 (fun a=>(#[]:Array Value).toList++a++B.caps.toList) (srcS N d S sb B f):=by
 intro f
 induction f using Nat.strongRecOn with | ind f ih =>
 refine ⟨fun args ls v ns G G' hg h=>?_,fun args ls G Wd hsub hls hnd hpre=>?_⟩
 ·obtain ⟨x,es,c,es',c',h1,h2,h3,h4,h5⟩:=h
  exact ⟨x,es,c,es',c',h1,h2,h3,h4.grow hg,h5.grow hg⟩
 ·obtain ⟨x,es,c,rfl,hx,hxf,hxm,hsh,rfl,hkn⟩:=hpre
  refine st_sound (Tab.cons 90 _ sorted71 body71 (Tab.nil _)) comp70b (svs:=[.agg [.val (.string x.t), .val (I x.o), .val (I x.m), .val (I x.g)], .c (.ptr 0 0), .c (.ptr 1 0), .c (.ptr 2 0)])
   (obs:=[.cells (.named B.b0) [.mref 3] 207, .cells (.named B.b1) [.val (ptr sb)] 152, .cells (.named B.b2) [.val (selfV B)] 155, .map (.named B.b3) es c])
   (by simp) hsub hls hnd (Nat.le_refl _) ?_ ?_ ?_
  ·refine ⟨⟨[.string x.t,I x.o,I x.m,I x.g],rfl,relL_vals _ [.string x.t,I x.o,I x.m,I x.g]⟩,fun c hc=>?_,⟨_,rfl,rfl⟩,(Nat.le_of_ble_eq_true rfl:0 < 4),⟨_,rfl,rfl⟩,(Nat.le_of_ble_eq_true rfl:1 < 4),⟨_,rfl,rfl⟩,(Nat.le_of_ble_eq_true rfl:2 < 4),trivial⟩
   simp at hc;rcases hc with rfl | rfl | rfl | rfl<;>trivial
  ·refine ⟨⟨_,rfl, ?_, ?_⟩,⟨_,rfl,relL_vals _ [ptr sb], ?_⟩,⟨_,rfl,relL_vals _ [selfV B], ?_⟩,rfl,trivial⟩
   ·exact ⟨⟨rfl,_,rfl⟩,trivial⟩
   ·intro c hc;simp at hc;subst hc;exact (Nat.le_of_ble_eq_true rfl:3 < 4)
   ·intro c hc;simp at hc;subst hc;trivial
   ·intro c hc;simp at hc;subst hc;trivial
  ·(conv=>whnf)
   refine IteP.mk (fun ho=>W.mk ?_) (fun ho=>W.mk ?_)<;>(conv=>whnf)
   ·repeat' (first | (refine ob ?_ ?_;(first | trivial | omega | (simp only [inR];omega) | exact ble (by rfl) | exact SlR.some ‹_› (by omega));(conv=>whnf)) | (first | (refine ra ‹_› (by rfl) ?_;(conv=>whnf)) | (refine rb ‹_› (by rfl) ?_;(conv=>whnf)) | (refine rc ‹_› (by rfl) ?_;(conv=>whnf)) | (refine rd ‹_› (by rfl) ?_;(conv=>whnf))))
    refine PubP.mk (fun ga gc G1 hg1 hp=>W.mk ?_)
    (conv=>whnf)
    have hof:ofF S.its x = [x.o]:=if_pos ho
    have hrow:Row intE [x.o] 1 [I x.o]:=⟨rfl,rfl⟩
    exact FinS.mk ⟨_,fin4 rfl rfl rfl rfl,x,es,c,es,c,rfl,rfl,rfl,hkn.grow hg1,by rw [hof];exact hrow.pub hp (by omega)⟩
   ·have ho:x.o < 0:=by omega
    have hof:ofF S.its x = grpF S.its x.m:=if_neg (by omega)
    obtain ⟨f',rfl⟩:∃ f',f = f' + 1:=⟨f - 1,by
     rcases hx with h | h
     ·omega
     ·have:=hxf ho;omega⟩
    repeat' (first | (refine ob ?_ ?_;(first | trivial | omega | (simp only [inR];omega) | exact ble (by rfl) | exact SlR.some ‹_› (by omega));(conv=>whnf)) | (first | (refine ra ‹_› (by rfl) ?_;(conv=>whnf)) | (refine rb ‹_› (by rfl) ?_;(conv=>whnf)) | (refine rc ‹_› (by rfl) ?_;(conv=>whnf)) | (refine rd ‹_› (by rfl) ?_;(conv=>whnf))))
    obtain ⟨r,k1,k2,_⟩:=hkn.find hxm
    obtain ⟨w,k,iv,lv,c1,c2,c3,⟨ia,im,ic,rfl,hil,him⟩,c5⟩:=id hsh
    have hime:=hil.len
    refine KeyP.mk ⟨r,k1,W.mk ?_⟩
    dsimp only
    rcases k2 with k2 | ⟨v,k2,hv⟩<;>rw [k2]
    rotate_left
    ·obtain ⟨va,vn,vc,rfl,_,_⟩:=id hv
     (conv=>whnf)
     refine ForkP.mk (fun _=>W.mk ?_) (fun h=>by cases h)
     (conv=>whnf)
     exact FinS.mk ⟨_,fin4 rfl rfl rfl rfl,x,es,c,es,c,rfl,rfl,rfl,hkn,by rw [hof];exact hv⟩
    ·(conv=>whnf)
     refine ForkP.mk (fun h=>by cases h) (fun _=>W.mk ?_)
     (conv=>whnf)
     repeat' (first | (refine ob ?_ ?_;(first | trivial | omega | (simp only [inR];omega) | exact ble (by rfl) | exact SlR.some ‹_› (by omega));(conv=>whnf)) | (first | (refine ra ‹_› (by rfl) ?_;(conv=>whnf)) | (refine rb ‹_› (by rfl) ?_;(conv=>whnf)) | (refine rc ‹_› (by rfl) ?_;(conv=>whnf)) | (refine rd ‹_› (by rfl) ?_;(conv=>whnf))))
     refine LoopP.of { α:=Nat × Array MapEntry × Nat × Nat × List Value,fr:=fun z=>[(1, .c (.ptr 0 0)),(2, .c (.ptr 1 0)),(3, .c (.ptr 2 0)),(4, .c (.ptr 4 0)),(8, .c (.row 5 z.2.2.2.1)),(32, .v (.slice ia im ic)),(33, .v (I im)),(34, .v (I z.1))],H:=fun z=>[(0, .cells (.named B.b0) [.mref 3] 207),(1, .cells (.named B.b1) [.val (ptr sb)] 152),(2, .cells (.named B.b2) [.val (selfV B)] 155),(3, .map (.named B.b3) z.2.1 z.2.2.1),(4, .cells .anon [.val (.string x.t), .val (I x.o), .val (I x.m), .val (I x.g)] 164),(5, .row none z.2.2.2.1 z.2.2.2.2 3 1)],ok:=fun z G=>z.1≤S.its.length∧Knows S.its G z.2.1∧Row intE (outN S.its x.m z.1) z.2.2.2.1 z.2.2.2.2,m:=fun z=>S.its.length - z.1 }
      (0,es,c,0,[]) (HeadP.of [(5,none)] ⟨rfl,rfl,rfl,rfl,rfl,rfl,rfl,rfl,trivial⟩ ⟨rfl,rfl,rfl,rfl,rfl,rfl,trivial⟩) ⟨Nat.zero_le _,hkn,Row.nil⟩ (fun _=>⟨rfl,rfl⟩) (fun z G1 hg1 hz=>W.mk ?_)
     obtain ⟨i,es1,c4,m,vs⟩:=z
     obtain ⟨hi,hkn1,hr⟩:=hz
     dsimp only at hi hkn1 hr
     dsimp only
     have hol:=outN_len hw (mk:=x.m) i hi
     have hrn:=hr.n
     have hmb:m≤20000000:=by
      have h1:i * (N + 1)≤10000 * 1001:=Nat.mul_le_mul (Nat.le_trans hi hs.1) (by omega)
      omega
     (conv=>whnf)
     refine IteP.mk (fun hlt=>W.mk ?_) (fun hge=>W.mk ?_)<;>(conv=>whnf)
     ·have h1:i < S.its.length:=by omega
      have hce:=(SlR.grow (G:=G) (G':=G1) (fun _ _ h=>h) hil hg1).el h1
      have hwy:=hw _ (List.getElem_mem h1)
      have hmy:=hmr _ (List.getElem_mem h1)
      have hsu:=outN_succ (mk:=x.m) h1
      have hlen:=ofF_len hw hwy
      generalize S.its[i] = y at hce hwy hmy hsu hlen
      repeat' (first | (refine ob ?_ ?_;(first | trivial | omega | (simp only [inR];omega) | exact ble (by rfl) | exact SlR.some ‹_› (by omega));(conv=>whnf)) | (first | (refine ra ‹_› (by rfl) ?_;(conv=>whnf)) | (refine rb ‹_› (by rfl) ?_;(conv=>whnf)) | (refine rc ‹_› (by rfl) ?_;(conv=>whnf)) | (refine rd ‹_› (by rfl) ?_;(conv=>whnf))))
      refine IteP.mk (fun hg=>W.mk ?_) (fun hg=>W.mk ?_)<;>(conv=>whnf)
      ·rw [if_pos hg] at hsu
       refine CallvP.fn _ (SoundFn.of body70 (ih f' (by omega))) (W.mk ?_)
       (conv=>whnf)
       refine StP.mk ⟨hsL B sb es1 c4,lend4 rfl rfl rfl rfl,(by show ([0,1,2,3]:List Nat).Nodup;decide),⟨y,es1,c4,rfl,hwy,fun hyo=>?_,hmy,hsh.grow hg1,rfl,hkn1⟩,fun v ns G2 hg2 hpost=>W.mk ?_⟩
       ·have h2:=hxf ho
        rcases hx with h | ⟨_,h4,_⟩
        ·omega
        ·rcases hwy with h | ⟨_,h5,h6⟩
         ·omega
         ·omega
       obtain ⟨y',es0,c0,es',c',q1,q2,rfl,hkn2,hv⟩:=hpost
       have hyy:y' = y:=by
        simp only [List.cons.injEq,Value.agg.injEq,and_true] at q1
        exact itE.inj (List.toArray_inj q1).symm
       subst hyy
       obtain ⟨ra,rn,rc,rfl,rl,hrn2⟩:=id hv
       have hrl:=rl.len
       obtain ⟨t1,t2,t3⟩:=rl.all
       (conv=>whnf)
       refine OblP.mk (fun h=>rl.some h) (W.mk ?_)
       (conv=>whnf)
       refine RdP.at t1 t2 (W.mk ?_)
       (conv=>whnf)
       refine OblP.mk t3 (W.mk ?_)
       (conv=>whnf)
       refine OblP.mk rfl (W.mk ?_)
       (conv=>whnf)
       refine OblP.mk (by omega) (W.mk ?_)
       (conv=>whnf)
       (refine ob ?_ ?_;(first | trivial | omega | (simp only [inR];omega) | exact ble (by rfl) | exact SlR.some ‹_› (by omega));(conv=>whnf))
       have hr2:Row intE (outN S.its x.m (i + 1)) (m + rn) (vs++((ofF S.its y').map intE.f).flatten):=by rw [hsu];exact Row.app hr hrl.symm rfl
       exact RoundP.of (i + 1,es',c',m + rn,_) (HeadP.of [(5,some 50)] ⟨rfl,rfl,rfl,rfl,rfl,rfl,rfl,rfl,trivial⟩ ⟨rfl,rfl,rfl,rfl,rfl,rfl,trivial⟩) ⟨h1,hkn2,hr2⟩ (by show S.its.length - (i + 1) < S.its.length - i;omega)
      ·rw [if_neg hg] at hsu
       repeat' (first | (refine ob ?_ ?_;(first | trivial | omega | (simp only [inR];omega) | exact ble (by rfl) | exact SlR.some ‹_› (by omega));(conv=>whnf)) | (first | (refine ra ‹_› (by rfl) ?_;(conv=>whnf)) | (refine rb ‹_› (by rfl) ?_;(conv=>whnf)) | (refine rc ‹_› (by rfl) ?_;(conv=>whnf)) | (refine rd ‹_› (by rfl) ?_;(conv=>whnf))))
       exact RoundP.of (i + 1,es1,c4,m,vs) (HeadP.of [] ⟨rfl,rfl,rfl,rfl,rfl,rfl,rfl,rfl,trivial⟩ ⟨rfl,rfl,rfl,rfl,rfl,rfl,trivial⟩) ⟨h1,hkn1,by show Row intE (outN S.its x.m (i + 1)) m vs;rw [hsu];exact hr⟩ (by show S.its.length - (i + 1) < S.its.length - i;omega)
     ·have hin:i = S.its.length:=by omega
      subst hin
      have hx1:1≤x.m:=by
       rcases hx with h | h
       ·omega
       ·exact h.2.1
      have hgrp:grpF S.its x.m = sortF (outN S.its x.m S.its.length):=by rw [grpF_eq hw hx1,outN,List.take_length]
      obtain ⟨r2,l1,_,l3⟩:=hkn1.find hxm
      have hvs:vs = (outN S.its x.m S.its.length).map I:=by
       rw [hr.vs];exact flatI _
      have hres:srtRes m vs [] = ((sortF (outN S.its x.m S.its.length)).length,(sortF (outN S.its x.m S.its.length)).map I):=by rw [srtRes,hvs,intOf_I]
      refine DrawP.mk monoT_nil rfl (W.mk ?_)
      (conv=>whnf)
      repeat' (first | (refine ob ?_ ?_;(first | trivial | omega | (simp only [inR];omega) | exact ble (by rfl) | exact SlR.some ‹_› (by omega));(conv=>whnf)) | (first | (refine ra ‹_› (by rfl) ?_;(conv=>whnf)) | (refine rb ‹_› (by rfl) ?_;(conv=>whnf)) | (refine rc ‹_› (by rfl) ?_;(conv=>whnf)) | (refine rd ‹_› (by rfl) ?_;(conv=>whnf))))
      refine OblP.mk ⟨rfl,outN S.its x.m S.its.length,hvs,rfl,by omega⟩ (W.mk ?_)
      (conv=>whnf)
      rw [hres]
      refine GiveP.mk (fun ga gc G2 hg2 hp=>W.mk ?_)
      have hsl:SlV intE G2 (.slice ga (sortF (outN S.its x.m S.its.length)).length gc) (grpF S.its x.m):=by
       rw [hgrp]
       refine hp.slV (flatI _).symm rfl ?_
       have:=sortF_len (N:=N) (l:=outN S.its x.m S.its.length) (fun z hz=>by
        obtain ⟨y,hy,hz2⟩:=List.mem_flatMap.1 hz
        have hy2:=(List.mem_filter.1 hy).1
        rw [List.take_length] at hy2
        exact ofF_mem hw (hw y hy2) z hz2)
       omega
      (conv=>whnf)
      obtain ⟨hkn3,r3,l4,l5⟩:=l3 G2 c4 _ hg2 hsl
      refine KeyP.mk ⟨r2,l1,W.mk ?_⟩
      dsimp only
      (conv=>whnf)
      repeat' (first | (refine ob ?_ ?_;(first | trivial | omega | (simp only [inR];omega) | exact ble (by rfl) | exact SlR.some ‹_› (by omega));(conv=>whnf)) | (first | (refine ra ‹_› (by rfl) ?_;(conv=>whnf)) | (refine rb ‹_› (by rfl) ?_;(conv=>whnf)) | (refine rc ‹_› (by rfl) ?_;(conv=>whnf)) | (refine rd ‹_› (by rfl) ?_;(conv=>whnf))))
      refine KeyP.mk ⟨r3,l4,W.mk ?_⟩
      dsimp only
      rw [l5]
      (conv=>whnf)
      exact FinS.mk ⟨_,fin4 rfl rfl rfl rfl,x,es,c,_,_,rfl,rfl,rfl,hkn3,by rw [hof];exact hsl⟩
end Go.Proofs.YtefnikpoimaiiaaGreat

namespace Go.Proofs.YtefnikpoimaiiaaGreat
open Go.Pal Go.RowKit
set_option maxRecDepth 100000
theorem make43 (sb:Nat) (W:World):Calls Tryz.prog 58 #[ptr sb] W fun e W'=>∃ c,e = .returned (selfV ⟨W.heap.size + 2,W.heap.size,W.heap.size + 3,W.heap.size + 1⟩)∧W'.os = W.os∧W'.tape = W.tape∧W'.output = W.output ∧
  W'.heap = W.heap++#[.cells #[ptr sb] 152 (0,0), .map #[] c, .cells #[.map (some (W.heap.size + 1))] 207 (0,0), .cells #[selfV ⟨W.heap.size + 2,W.heap.size,W.heap.size + 3,W.heap.size + 1⟩] 155 (0,0)]:=by
 go_enter Tryz.func58,Tryz.ntmps58
 go_wp2
 rw [run_makeMap]
 simp only [Result.andThen,Oper.upon]
 rename_i a1 a2
 refine a2 _ _ ?_
 go_wp2
 go_ret
 refine ⟨0,rfl,rfl,rfl,rfl, ?_⟩
 show (((W.heap.push _).push _).push _).push _ = _
 apply Array.ext'
 rw [Array.toList_append,Array.toList_push,Array.toList_push,Array.toList_push,Array.toList_push]
 simp only [List.append_assoc,List.cons_append,List.nil_append]
def heap4 (p:Hp) (B:Bk) (sb:Nat) (es:Array MapEntry) (c:Nat):Prop:=p B.b0 = some (.cells #[.map (some B.b3)] 207 (0,0))∧p B.b1 = some (.cells #[ptr sb] 152 (0,0))∧p B.b2 = some (.cells #[selfV B] 155 (0,0))∧p B.b3 = some (.map es c)
theorem sources43 (sb:Nat):Sound Tryz.prog 58 id (.hp (fun args _ _=>args = [ptr sb]) fun _ p v p' _=>∃ B c,v = selfV B∧heap4 p' B sb #[] c∧∀ b o,p b = some o→p' b = some o):=by
 refine ⟨fun args p v p' G G' hg h=>h,fun args p G W hsub hp hpre=>?_⟩
 subst hpre
 refine (make43 sb W).mono ?_
 rintro e W' ⟨c,rfl,h1,h2,h3,h4⟩
 have low:∀ b,b < W.heap.size→W'.heap[b]? = W.heap[b]?:=fun b hb=>by rw [h4,Array.getElem?_append,if_pos hb]
 have high:∀ k,W'.heap[W.heap.size + k]? = (#[Obj.cells #[ptr sb] 152 (0,0), .map #[] c, .cells #[.map (some (W.heap.size + 1))] 207 (0,0), .cells #[selfV ⟨W.heap.size + 2,W.heap.size,W.heap.size + 3,W.heap.size + 1⟩] 155 (0,0)])[k]?:=fun k=>by
  rw [h4,Array.getElem?_append,if_neg (by omega),Nat.add_sub_cancel_left]
 have hlow:∀ b o,p b = some o→b < W.heap.size:=fun b o e=>(Array.getElem?_eq_some_iff.1 (hp b o e).1).1
 obtain ⟨p',hp'⟩:∃ p':Hp,p' = fun b=>if b < W.heap.size then p b else W'.heap[b]?:=⟨_,rfl⟩
 have hnew:∀ k,p' (W.heap.size + k) = W'.heap[W.heap.size + k]?:=fun k=>by rw [hp'];simp only;rw [if_neg (by omega)]
 refine ⟨_,p',G,rfl,⟨_,c,rfl,⟨?_, ?_, ?_, ?_⟩,fun b o e=>?_⟩,fun b o e=>?_,Grow.refl _,fun b o e=>?_,fun b o e=>.inl e,⟨h1,h2,h3, ?_,fun k hk _=>low k hk⟩⟩
 ·rw [hnew,high];rfl
 ·have:=hnew 0
  rw [Nat.add_zero] at this
  rw [this]
  have:=high 0
  rw [Nat.add_zero] at this
  rw [this];rfl
 ·rw [hnew,high];rfl
 ·rw [hnew,high];rfl
 ·rw [hp'];simp only;rw [if_pos (hlow b o e)];exact e
 ·rw [hp'] at e
  simp only at e
  split at e
  ·rename_i hb
   exact ⟨(low b hb).trans (hp b o e).1,(hp b o e).2, .inl ⟨o,e⟩⟩
  ·rename_i hb
   refine ⟨e, ?_, .inr (by omega)⟩
   cases hg:G b with
   | none=>rfl
   | some o'=>exact absurd (Array.getElem?_eq_some_iff.1 (hsub b o' hg)).1 hb
 ·exact (low b (Array.getElem?_eq_some_iff.1 (hsub b o e)).1).trans (hsub b o e)
 ·show W.heap.size≤W'.heap.size
  rw [h4,Array.size_append];omega
theorem src70h (N:Nat) (d:Dr) (S:Sh) (hN:N≤1000) (hs:S.small) (hw:WfL N S.its) (hmr:∀ y∈S.its,inR .i64 y.m) (sb:Nat) (B:Bk) (x:It) (hx:WfI N x) (hxm:inR .i64 x.m) :
  Sound Tryz.prog 89 (fun a=>(#[]:Array Value).toList++a++B.caps.toList) (.hp (fun args p G=>args = [.agg (itE.f x).toArray]∧ShC G sb d S∧∃ es c,heap4 p B sb es c∧Knows S.its G es) fun _ p v p' G=>∃ es c,p' = upd p B.b3 (some (.map es c))∧heap4 p' B sb es c∧Knows S.its G es∧SlV intE G v (ofF S.its x)):=by
 refine ⟨fun args p v p' G G' hg ⟨es,c,h1,h2,h3,h4⟩=>⟨es,c,h1,h2,h3.grow hg,h4.grow hg⟩,fun args p G W hsub hp hpre=>?_⟩
 obtain ⟨rfl,hsh,es,c,⟨k0,k1,k2,k3⟩,hkn⟩:=hpre
 have tne:∀ {a b:Nat} {o o':Obj},p a = some o→p b = some o'→o≠o'→a≠b:=fun h h' hne e=>by subst e;rw [h] at h';exact hne (Option.some.inj h')
 have n01:B.b0≠B.b1:=tne k0 k1 (fun h=>absurd (congrArg (fun o:Obj=>match o with | .cells _ t _=>t | _=>0) h) (show ¬ (207:Nat) = 152 by decide))
 have n02:B.b0≠B.b2:=tne k0 k2 (fun h=>absurd (congrArg (fun o:Obj=>match o with | .cells _ t _=>t | _=>0) h) (show ¬ (207:Nat) = 155 by decide))
 have n12:B.b1≠B.b2:=tne k1 k2 (fun h=>absurd (congrArg (fun o:Obj=>match o with | .cells _ t _=>t | _=>0) h) (show ¬ (152:Nat) = 155 by decide))
 have n03:B.b0≠B.b3:=tne k0 k3 (fun h=>by cases h)
 have n13:B.b1≠B.b3:=tne k1 k3 (fun h=>by cases h)
 have n23:B.b2≠B.b3:=tne k2 k3 (fun h=>by cases h)
 have hS:=src70 N d S hN hs hw hmr sb B x.m.toNat
 refine (hS.2 [.agg (itE.f x).toArray] (ledL B sb es c) G W hsub (fun y hy=>?_) ?_ ⟨x,es,c,rfl,hx,fun _=>Nat.le_refl _,hxm,hsh,rfl,hkn⟩).mono ?_
 ·simp only [ledL,List.mem_cons,List.not_mem_nil,or_false] at hy
  rcases hy with rfl | rfl | rfl | rfl
  ·exact ⟨(hp _ _ k0).1,(hp _ _ k0).2,by intro u hu;simp at hu;subst hu;rfl⟩
  ·exact ⟨(hp _ _ k1).1,(hp _ _ k1).2,by intro u hu;simp at hu;subst hu;rfl⟩
  ·exact ⟨(hp _ _ k2).1,(hp _ _ k2).2,by intro u hu;simp at hu;subst hu;rfl⟩
  ·exact ⟨(hp _ _ k3).1,(hp _ _ k3).2,trivial⟩
 ·simp [ledL,n01,n02,n03,n12,n13,n23]
 ·rintro e W' ⟨v,ns,G',rfl,⟨y,es0,c0,es',c',q1,q2,rfl,q3,q4⟩,hL,hg,hs',hn,hB⟩
  have hy:y = x:=by
   simp only [List.cons.injEq,Value.agg.injEq,and_true] at q1
   exact itE.inj (List.toArray_inj q1).symm
  subst hy
  have hL3:W'.heap[B.b3]? = some (.map es' c'):=by
   exact (show W'.heap[B.b3]? = some (LB.map es' c').obj∧_ from hL).1
  have same:∀ b o,p b = some o→b≠B.b3→W'.heap[b]? = some o:=fun b o e hb=>by
   rw [hB.block b (Array.getElem?_eq_some_iff.1 (hp b o e).1).1 (fun ⟨z,hz,hzw,hzb⟩=>?_)]
   ·exact (hp b o e).1
   ·simp only [ledL,List.mem_cons,List.not_mem_nil,or_false] at hz
    rcases hz with rfl | rfl | rfl | rfl
    ·cases hzw
    ·cases hzw
    ·cases hzw
    ·exact hb hzb.symm
  have gnone:∀ b,(∃ o,p b = some o)→G' b = none:=fun b ⟨o,e⟩=>by
   cases hgb:G' b with
   | none=>rfl
   | some o' =>
    rcases hn b o' hgb with h | h
    ·rw [(hp b o e).2] at h;cases h
    ·have:=(Array.getElem?_eq_some_iff.1 (hp b o e).1).1;omega
  refine ⟨v,upd p B.b3 (some (.map es' c')),G',rfl,⟨es',c',rfl,⟨by rw [upd_other _ _ n03];exact k0,by rw [upd_other _ _ n13];exact k1,by rw [upd_other _ _ n23];exact k2,upd_same _ _ _⟩,q3,q4⟩,fun b o e=>?_,hg,hs',fun b o e=>(hn b o e).imp id .inr,⟨hB.os,hB.tape,hB.output,hB.size,fun k hk hnk=>hB.block k hk (fun ⟨z,hz,hzw,hzb⟩=>?_)⟩⟩
  ·by_cases hb:b = B.b3
   ·subst hb
    rw [upd_same] at e;cases e
    exact ⟨hL3,gnone _ ⟨_,k3⟩, .inl ⟨_,k3⟩⟩
   ·rw [upd_other _ _ hb] at e
    exact ⟨same b o e hb,gnone _ ⟨_,e⟩, .inl ⟨_,e⟩⟩
  ·simp only [ledL,List.mem_cons,List.not_mem_nil,or_false] at hz
   rcases hz with rfl | rfl | rfl | rfl
   ·cases hzw
   ·cases hzw
   ·cases hzw
   ·exact hnk (by rw [← hzb];exact ⟨_,k3⟩)
end Go.Proofs.YtefnikpoimaiiaaGreat

namespace Go.Proofs.YtefnikpoimaiiaaGreat
open Go.Pal Go.RowKit
set_option maxRecDepth 100000
def Inv (N:Nat) (S:Sh):Prop:=∀ y∈S.its,((0≤y.o∧y.o < N∧y.m = 0)∨(y.o < 0∧1≤y.m))∧(y.g = 0∨y.m < y.g)∧y.m≤S.ch∧y.g≤S.ch
theorem Inv.wf {N:Nat} {S:Sh} (h:Inv N S):WfL N S.its:=fun y hy=>by
 obtain ⟨h1,h2,_⟩:=h y hy
 rcases h1 with h1 | h1
 ·exact .inl ⟨h1.1,h1.2.1⟩
 ·exact .inr ⟨h1.1,h1.2,h2⟩
theorem Inv.rng {N:Nat} {S:Sh} (h:Inv N S) (hc:S.ch≤10000):∀ y∈S.its,inR .i64 y.m:=fun y hy=>by
 obtain ⟨h1,_,h3,_⟩:=h y hy
 simp only [inR]
 rcases h1 with h1 | h1<;>omega
theorem goneF_inv {N:Nat} {c:Int} (hc:0≤c):∀ (ps:List Nat) (l:List It),(∀ y∈l,((0≤y.o∧y.o < N∧y.m = 0)∨(y.o < 0∧1≤y.m))∧(y.g = 0∨y.m < y.g)∧y.m≤c∧y.g≤c + 1)→∀ y∈goneF l (c + 1) ps,((0≤y.o∧y.o < N∧y.m = 0)∨(y.o < 0∧1≤y.m))∧(y.g = 0∨y.m < y.g)∧y.m≤c∧y.g≤c + 1
 | [],l,h=>h
 | i :: ps,l,h=>by
  refine goneF_inv hc ps (l.set i { l.getD i default with g:=c + 1 }) fun y hy=>?_
  rcases List.mem_or_eq_of_mem_set hy with hy | rfl
  ·exact h y hy
  ·by_cases hi:i < l.length
   ·have hm:l.getD i default∈l:=by rw [List.getD_eq_getElem?_getD,List.getElem?_eq_getElem hi];exact List.getElem_mem hi
    obtain ⟨h1,h2,h3,h4⟩:=h _ hm
    exact ⟨h1, .inr (by show (l.getD i default).m < c + 1;omega),h3,by show c + 1≤c + 1;omega⟩
   ·rw [List.set_eq_of_length_le (by omega)] at hy
    exact h _ hy
theorem inv_step {N:Nat} {d:Dr} {S S':Sh} {x:Sp} (hc:0≤S.ch) (h:Inv N S) (hs:stepF d S x = some S'):Inv N S':=by
 unfold stepF at hs
 split at hs
 ·unfold changeF at hs
  split at hs
  ·cases hs
   have hg:=goneF_inv (N:=N) hc (cutF S.its x) S.its (fun y hy=>by
    obtain ⟨h1,h2,h3,h4⟩:=h y hy
    exact ⟨h1,h2,h3,by omega⟩)
   intro y hy
   have hy:y∈insF (goneF S.its (S.ch + 1) (cutF S.its x)) (placeF S.its x) (putF (S.ch + 1) x.put):=hy
   show _∧_∧y.m≤S.ch + 1∧y.g≤S.ch + 1
   have old:∀ z∈goneF S.its (S.ch + 1) (cutF S.its x),((0≤z.o∧z.o < N∧z.m = 0)∨(z.o < 0∧1≤z.m))∧(z.g = 0∨z.m < z.g)∧z.m≤S.ch + 1∧z.g≤S.ch + 1:=fun z hz=>by
    obtain ⟨h1,h2,h3,h4⟩:=hg z hz
    exact ⟨h1,h2,by omega,h4⟩
   rcases List.mem_append.1 hy with hy | hy
   ·rcases List.mem_append.1 hy with hy | hy
    ·exact old y (List.mem_of_mem_take hy)
    ·obtain ⟨t,_,rfl⟩:=List.mem_map.1 hy
     exact ⟨.inr ⟨(by show (-1:Int) < 0;decide),by show 1≤S.ch + 1;omega⟩, .inl rfl,Int.le_refl _,by show 0≤S.ch + 1;omega⟩
   ·exact old y (List.mem_of_mem_drop hy)
  ·cases hs
 ·unfold undoF at hs
  split at hs
  ·cases hs
   intro y hy
   obtain ⟨z,hz,rfl⟩:=List.mem_map.1 hy
   obtain ⟨h1,h2,h3,h4⟩:=h z (List.mem_filter.1 hz).1
   unfold backF
   split
   ·exact ⟨h1, .inl rfl,h3,by show 0≤S.ch;exact hc⟩
   ·exact ⟨h1,h2,h3,h4⟩
  ·cases hs
theorem inv_play {N:Nat} {d:Dr}:∀ {steps:List Sp} {S S':Sh} {i:Nat},S.cnt i→Inv N S→playF d S steps i = .inr S'→Inv N S'
 | [],S,S',i,_,h,e=>by cases e;exact h
 | x :: r,S,S',i,hc,h,e=>by
  simp only [playF] at e
  split at e
  ·rename_i S1 hs
   exact inv_play (cnt_step hc hs) (inv_step hc.2.2.1 h hs) e
  ·cases e
theorem inv_begin (d:Dr):Inv d.ws.length (beginS d):=fun y hy=>by
 obtain ⟨i,hi,rfl⟩:=List.mem_map.1 hy
 have hi:=List.mem_range.1 hi
 exact ⟨.inl ⟨by show (0:Int)≤(i:Int);omega,by show (i:Int) < _;omega,rfl⟩, .inl rfl,Int.le_refl _,Int.le_refl _⟩
theorem endF_inv {d:Dr} {steps:List Sp} {S:Sh} (h:endF d steps = .ok S):Inv d.ws.length S∧d.ws.length≤60:=by
 unfold endF at h
 split at h
 ·cases h
 ·rename_i hv
  have hv:=valid_ws (d:=d) (by simpa using hv)
  split at h
  ·cases h
  ·split at h
   ·cases h
   ·rename_i e
    cases h
    exact ⟨inv_play (cnt_begin hv) (inv_begin d) e,hv⟩
def tracesF (d:Dr) (S:Sh):List Tr:=(placesF S.its).map fun i=>traceF d (ofF S.its (S.its.getD i default))
def srcsN (S:Sh) (n:Nat):List Int:=((placesF S.its).take n).flatMap fun i=>ofF S.its (S.its.getD i default)
def lostN (S:Sh) (n:Nat):List Int:=((List.range n).filter fun (k:Nat)=>!decide ((k:Int)∈srcsN S (placesF S.its).length)).map fun (k:Nat)=>(k:Int)
def lostF (d:Dr) (S:Sh):List Int:=lostN S d.ws.length
structure Ra where
 a:Option Addr
 n:Nat
 c:Nat
 f:Int
 l:Int
 b:Option Addr
 m:Nat
 e:Nat
def raE:El Ra:=⟨4,fun x=>[.slice x.a x.n x.c,I x.f,I x.l, .slice x.b x.m x.e],fun {x y} h=>by cases x;cases y;simp at h;obtain ⟨⟨rfl,rfl,rfl⟩,rfl,rfl,rfl,rfl,rfl⟩:=h;rfl,fun _=>rfl,fun _ v hv=>by simp at hv;rcases hv with rfl | rfl | rfl | rfl<;>rfl⟩
def RaOk (G:Hp) (x:Ra) (t:Tr):Prop:=x.f = t.f∧x.l = t.l∧SlV intE G (.slice x.a x.n x.c) t.src∧SlV intE G (.slice x.b x.m x.e) t.rep
theorem RaOk.grow {G G':Hp} {x:Ra} {t:Tr} (hg:Grow G G') (h:RaOk G x t):RaOk G' x t:=⟨h.1,h.2.1,h.2.2.1.grow hg,h.2.2.2.grow hg⟩
def TrC (G:Hp) (cs:List Value) (t:Tr):Prop:=∃ a b,cs = [a,I t.f,I t.l,b]∧SlV intE G a t.src∧SlV intE G b t.rep
def RasOk (G:Hp) (l:List Ra) (ts:List Tr):Prop:=l.length = ts.length∧∀ i (h:i < l.length) (h':i < ts.length),RaOk G l[i] ts[i]
theorem RasOk.grow {G G':Hp} {l:List Ra} {ts:List Tr} (hg:Grow G G') (h:RasOk G l ts):RasOk G' l ts:=⟨h.1,fun i h1 h2=>(h.2 i h1 h2).grow hg⟩
theorem RasOk.snoc {G:Hp} {l:List Ra} {ts:List Tr} {x:Ra} {t:Tr} (h:RasOk G l ts) (hx:RaOk G x t):RasOk G (l++[x]) (ts++[t]):=by
 refine ⟨by simp [h.1],fun i h1 h2=>?_⟩
 have hl:=h.1
 by_cases hi:i < l.length
 ·rw [List.getElem_append_left hi,List.getElem_append_left (by omega)]
  exact h.2 i hi (by omega)
 ·have:i = l.length:=by simp at h1;omega
  subst this
  have e1:(l++[x])[l.length] = x:=by simp
  have e2:(ts++[t])[l.length]'h2 = t:=by
   have:ts.length = l.length:=hl.symm
   simp [List.getElem_append,this]
  rw [e1,e2];exact hx
theorem RasOk.slR {G:Hp} {l:List Ra} {ts:List Tr} {a:Option Addr} {n c:Nat} (h:RasOk G l ts) (hl:SlR raE.k raE.R G a n c l):SlR 4 TrC G a n c ts:=by
 refine ⟨by rw [← h.1];exact hl.len,hl.cap,hl.some,fun i hi=>?_⟩
 have hi':i < l.length:=by rw [h.1];exact hi
 have h2:=h.2 i hi' hi
 refine ⟨raE.f l[i],rfl,hl.el hi',_,_, ?_,h2.2.2.1,h2.2.2.2⟩
 show [_,I l[i].f,I l[i].l,_] = _
 rw [h2.1,h2.2.1]
end Go.Proofs.YtefnikpoimaiiaaGreat

namespace Go.Proofs.YtefnikpoimaiiaaGreat
open Go.Pal Go.RowKit
set_option maxRecDepth 100000
def tracesQ (d:Dr) (steps:List Sp) (v:Value) (q G:Hp):Prop:=match endF d steps with
 | .arg=>v = .tuple #[.slice none 0 0, .slice none 0 0,I 1]
 | .limit=>v = .tuple #[.slice none 0 0, .slice none 0 0,I 3]
 | .fail _=>v = .tuple #[.slice none 0 0, .slice none 0 0,I 9]
 | .ok S=>∃ u b ras,v = .tuple #[u,b,I 0]∧RowH raE 89 q u ras∧RasOk G ras (tracesF d S)∧SlV intE G b (lostF d S)
theorem tracesQ.grow {d:Dr} {steps:List Sp} {v:Value} {q G G':Hp} (hg:Grow G G') (h:tracesQ d steps v q G):tracesQ d steps v q G':=by
 unfold tracesQ at *
 split<;>rename_i e<;>rw [e] at h<;>first | exact h | (obtain ⟨u,b,ras,h1,h2,h3,h4⟩:=h;exact ⟨u,b,ras,h1,h2,h3.grow hg,h4.grow hg⟩)
theorem heap4.keep {p q:Hp} {B:Bk} {sb:Nat} {es:Array MapEntry} {c:Nat} (h:heap4 p B sb es c) (hk:∀ k o,p k = some o→q k = some o):heap4 q B sb es c:=⟨hk _ _ h.1,hk _ _ h.2.1,hk _ _ h.2.2.1,hk _ _ h.2.2.2⟩
theorem heap4.set {p:Hp} {B:Bk} {sb:Nat} {es:Array MapEntry} {c:Nat} (h:heap4 p B sb es c) {tb:Nat} {cs:Array Value} {o:Option Obj} (ht:p tb = some (.cells cs 89 (0,0))):heap4 (upd p tb o) B sb es c:=by
 have ty:∀ {k:Nat} {t:TypeId} {cs':Array Value},p k = some (.cells cs' t (0,0))→t≠89→k≠tb:=fun h1 h2 e=>by
  subst e
  rw [ht] at h1
  simp only [Option.some.injEq,Obj.cells.injEq] at h1
  exact h2 h1.2.1.symm
 refine ⟨by rw [upd_other _ _ (ty h.1 (by decide))];exact h.1,by rw [upd_other _ _ (ty h.2.1 (by decide))];exact h.2.1,by rw [upd_other _ _ (ty h.2.2.1 (by decide))];exact h.2.2.1, ?_⟩
 rw [upd_other _ _ (fun e=>by subst e;rw [h.2.2.2] at ht;cases ht)];exact h.2.2.2
theorem traces16h (d:Dr) (steps:List Sp):Sound Tryz.prog 25 id (.hp (fun args _ G=>dsR args G (d,steps)) fun _ _ v q G=>tracesQ d steps v q G):=by
 refine comp16b.hp (Tab.cons 60 _ trace45 body45 (Tab.nil _)) (fun args p G h=>?_) (fun args p v p' G G' hg h=>h.grow hg) (fun args p G h=>?_)
 ·obtain ⟨v,w,rfl,_⟩:=h;simp
 ·obtain ⟨_,_,rfl,hdr,⟨a,n,c,rfl,hst,hn⟩,_⟩:=h
  obtain ⟨w,k,rfl,hw,hk⟩:=id hdr
  dsimp only at hw hk hst
  obtain ⟨wa,wn,wc,rfl,hwl,hwn⟩:=id hw
  obtain ⟨ka,kn,kc,rfl,_,_⟩:=id hk
  have hwlen:=hwl.len
  (conv=>whnf)
  refine CallH.mk _ play42r body42 (W.mk ?_)
  (conv=>whnf)
  refine RelP.g (ok2 drRd spsRd fun _ _=>True) (x:=(d,steps)) ⟨_,_,rfl,⟨_,_,rfl,hw,hk⟩,⟨_,_,_,rfl,hst,hn⟩,trivial⟩ (Grow.refl _) (fun v G1 hg1 hq=>W.mk ?_)
  have hsm:=fun S=>endF_small (d:=d) (steps:=steps) (S:=S)
  have hiv:=fun S=>endF_inv (d:=d) (steps:=steps) (S:=S)
  unfold playR at hq
  unfold tracesQ
  dsimp only at hq ⊢
  generalize endF d steps = e at hq hsm hiv
  cases e with
  | arg =>
   subst hq
   (conv=>whnf)
   (refine IteP.mk (fun _=>W.mk ?_) (fun _=>W.mk ?_)<;>first | (exfalso;omega) | (conv=>whnf))
   refine NmP.mk ⟨[],W.mk ?_⟩
   (conv=>whnf)
   exact FinHp.of rfl rfl
  | limit =>
   subst hq
   (conv=>whnf)
   (refine IteP.mk (fun _=>W.mk ?_) (fun _=>W.mk ?_)<;>first | (exfalso;omega) | (conv=>whnf))
   refine NmP.mk ⟨[],W.mk ?_⟩
   (conv=>whnf)
   exact FinHp.of rfl rfl
  | fail k =>
   subst hq
   (conv=>whnf)
   (refine IteP.mk (fun _=>W.mk ?_) (fun _=>W.mk ?_)<;>first | (exfalso;omega) | (conv=>whnf))
   refine NmP.mk ⟨[],W.mk ?_⟩
   (conv=>whnf)
   exact FinHp.of rfl rfl
  | ok S =>
   obtain ⟨b,rfl,hs⟩:=hq
   have hsml:=(hsm S rfl).small (Nat.le_refl _)
   obtain ⟨hinv,hw60⟩:=hiv S rfl
   have hwf:=hinv.wf
   have hrng:=hinv.rng hsml.2.2.2
   (conv=>whnf)
   (refine IteP.mk (fun _=>W.mk ?_) (fun _=>W.mk ?_)<;>first | (exfalso;omega) | (conv=>whnf))
   refine CallH.mk _ (sources43 b) body43 (W.mk ?_)
   (conv=>whnf)
   refine HpcP.mk rfl (fun v p1 G2 hg2 hq=>W.mk ?_)
   obtain ⟨B,c0,rfl,h4,_⟩:=hq
   (conv=>whnf)
   refine MapP.keep (W.mk ?_)
   (conv=>whnf)
   refine CallH.mk _ vis44 body44 (W.mk ?_)
   (conv=>whnf)
   refine RelP.g (ok1 shRd fun _=>True) (x:=(d,S)) ⟨_,rfl,⟨b,rfl,hs.grow hg2⟩,trivial⟩ (Grow.refl _) (fun v G3 hg3 hq=>W.mk ?_)
   obtain ⟨bx,rfl,b',hb',hs'⟩:=hq
   dsimp only at hs'
   (conv=>whnf)
   have hple:(placesF S.its).length≤S.its.length:=placesN_le _ _
   refine RangeP.of (visY S.its) { α:=Nat × Hp × (Array MapEntry × Nat) × (Option Addr × Nat × Nat) × List Ra × (Array MapEntry × Nat),fr:=[(2, .c (.ptr 1000 0)),(4, .c (.ptr 1001 0)),(5, .v (.slice none 0 0)),(7, .c (.ptr 1011 0)),(9, .c (.ptr 1023 0)),(10, .c (.ptr 1026 0))],k:=fun x=>x.1,H:=fun x=>[(0, .heap x.2.1),(1000, .cells .anon [.val (.slice wa wn wc), .val (.slice ka kn kc)] 84),(1001, .cells .anon [.val (.slice x.2.2.2.1.1 x.2.2.2.1.2.1 x.2.2.2.1.2.2)] 79),(1011, .cells .anon [.val (ptr b)] 152),(1023, .cells .anon [.val (selfV B)] 155),(1025, .map .anon x.2.2.2.2.2.1 x.2.2.2.2.2.2),(1026, .cells .anon [.mref 1025] 157)],ok:=fun x G=>x.1≤(placesF S.its).length∧heap4 x.2.1 B b x.2.2.1.1 x.2.2.1.2∧Knows S.its G x.2.2.1.1∧RowH raE 89 x.2.1 (.slice x.2.2.2.1.1 x.2.2.2.1.2.1 x.2.2.2.1.2.2) x.2.2.2.2.1∧RasOk G x.2.2.2.2.1 ((tracesF d S).take x.1)∧ISet Tryz.prog 3 x.2.2.2.2.2.1 (fun n=>decide (n∈srcsN S x.1)) }
    (0,p1,(#[],c0),(none,0,0),[],(#[],0)) (SoundFn.of body72 (vis72 bx d S)) (fun l=>⟨rfl,⟨b',hb',hs'⟩,rfl⟩) (fun y hy=>by obtain ⟨p,_,rfl⟩:=List.mem_map.1 hy;rfl) rfl (HeadP.of [] ⟨rfl,rfl,rfl,rfl,rfl,rfl,trivial⟩ ⟨rfl,rfl,rfl,rfl,rfl,rfl,rfl,trivial⟩) ⟨Nat.zero_le _,h4,Knows.nil,RowH.nil,⟨rfl,fun i h=>by cases h⟩,ISet.nil⟩ ⟨rfl,fun _=>rfl⟩ (fun x G G' hg h=>⟨h.1,h.2.1,h.2.2.1.grow hg,h.2.2.2.1,h.2.2.2.2.1.grow hg,h.2.2.2.2.2⟩)
    (fun x y G4 hg4 hx hy=>W.mk ?_) (fun x G4 hg4 hx hk=>W.mk ?_)
   ·obtain ⟨i,q,⟨es,cc⟩,⟨ta,tn,tc⟩,ras,⟨es2,c2⟩⟩:=x
    obtain ⟨hi,hh4,hkn,hrow,hras,hset⟩:=hx
    simp only at hi hh4 hkn hrow hras hset hy
    have hlt:i < (placesF S.its).length:=by
     have:=(List.getElem?_eq_some_iff.1 hy).1
     rwa [visY_len] at this
    rw [visY_get hlt] at hy
    cases hy
    have hgd:(placesF S.its).getD i 0 = (placesF S.its)[i]:=by simp [hlt]
    have hpl:(placesF S.its).getD i 0 < S.its.length:=by rw [hgd];exact placesN_lt (List.getElem_mem hlt)
    have htk:(tracesF d S).take i++[traceF d (ofF S.its (S.its.getD ((placesF S.its).getD i 0) default))] = (tracesF d S).take (i + 1):=by
     rw [List.take_add_one,tracesF,List.getElem?_map,List.getElem?_eq_getElem hlt,hgd];rfl
    have hsrc:srcsN S (i + 1) = srcsN S i++ofF S.its (S.its.getD ((placesF S.its).getD i 0) default):=by
     rw [srcsN,srcsN,List.take_add_one,List.getElem?_eq_getElem hlt,hgd,List.flatMap_append];simp
    generalize (placesF S.its).getD i 0 = j at hpl htk hsrc
    have hgj:S.its.getD j default = S.its[j]:=by simp [hpl]
    rw [hgj] at htk hsrc
    have hxw:=hwf _ (List.getElem_mem hpl)
    have hxr:=hrng _ (List.getElem_mem hpl)
    have hs4:=hs.grow (hg2.trans (hg3.trans hg4))
    obtain ⟨w3,k3,iv,lv,e1,e2,e3,⟨ia,im,ic,rfl,hil,him⟩,e5⟩:=id hs4
    have hime:=hil.len
    have hce:=hil.el hpl
    generalize S.its[j] = x at hce htk hsrc hxw hxr
    dsimp only
    (conv=>whnf)
    refine RdhP.g (e1.drop (d:=2) (n:=1)) rfl (W.mk ?_)
    (conv=>whnf)
    refine OblP.mk (by omega) (W.mk ?_)
    (conv=>whnf)
    refine OblP.mk (hil.some (by omega)) (W.mk ?_)
    (conv=>whnf)
    refine RdhP.g hce rfl (W.mk ?_)
    (conv=>whnf)
    refine FnvP.mk ⟨_,SoundFn.of body70 (src70h d.ws.length d S (by omega) hsml hwf hrng b B x hxw hxr),W.mk ?_⟩
    (conv=>whnf)
    refine HpcP.mk ⟨rfl,hs4,es,cc,hh4,hkn⟩ (fun v q2 G5 hg5 hq=>W.mk ?_)
    obtain ⟨es',c',hqq,hh5,hkn5,hsl⟩:=hq
    obtain ⟨ra,rn,rc,rfl,rl,hrn2⟩:=id hsl
    have hrl:=rl.len
    have hgG:Grow G G5:=hg1.trans (hg2.trans (hg3.trans (hg4.trans hg5)))
    have hol:=ofF_len hwf hxw
    have hrow2:RowH raE 89 q2 (.slice ta tn tc) ras:=by
     rw [hqq]
     refine hrow.off fun h=>?_
     rcases hrow with ⟨e,_⟩ | ⟨tb,c',rest,e,hb,_⟩
     ·rw [e] at h;cases h
     ·rw [e] at h
      have h:some tb = some B.b3:=h
      cases h
      rw [hh4.2.2.2] at hb;cases hb
    (conv=>whnf)
    refine RelP.g (ok2 drRd (slRd intE) fun d l=>l.length≤100000∧∀ n∈l,0≤n∧n < d.ws.length) (x:=(d,ofF S.its x)) ⟨_,_,rfl,drRd.grow hgG hdr,hsl,by show (ofF S.its x).length≤_;omega,ofF_mem hwf hxw⟩ (Grow.refl _) (fun v G6 hg6 hq=>W.mk ?_)
    obtain ⟨_,_,rfl,⟨xa,xn,xc,rfl,x1,x2⟩,⟨ya,yn,yc,rfl,y1,y2⟩⟩:=hq
    dsimp only at x1 y1
    (conv=>whnf)
    have hlen2:=hrow2
    obtain ⟨xr,hxr2⟩:∃ xr:Ra,xr = ⟨xa,xn,xc,(traceF d (ofF S.its x)).f,(traceF d (ofF S.its x)).l,ya,yn,yc⟩:=⟨_,rfl⟩
    have hxok:RaOk G6 xr (traceF d (ofF S.its x)):=by rw [hxr2];exact ⟨rfl,rfl,⟨_,_,_,rfl,x1,x2⟩,⟨_,_,_,rfl,y1,y2⟩⟩
    have hras3:=(hras.grow (hg5.trans hg6)).snoc hxok
    rw [htk] at hras3
    rcases hlen2 with ⟨e,hl0⟩ | ⟨tb,c0',rest,e,hb,hr,hc,hm⟩
    ·simp only [Value.slice.injEq] at e
     obtain ⟨rfl,rfl,rfl⟩:=e
     subst hl0
     repeat' (refine ob ?_ ?_;(first | trivial | omega | (simp only [inR];omega) | exact ble (by rfl) | exact SlR.some ‹_› (by omega));(conv=>whnf))
     refine AppnP.mk (fun b' cap rest' hb1 hb2 hb3 hb4=>W.mk ?_)
     have hrow3:RowH raE 89 (upd q2 b' (some (.cells ([.slice xa xn xc,I (traceF d (ofF S.its x)).f,I (traceF d (ofF S.its x)).l, .slice ya yn yc]++rest').toArray 89 (0,0)))) (.slice (some ⟨b',0,none⟩) 1 cap) ([]++[xr]):=by rw [hxr2];exact RowH.appNew (E:=raE) (l:=[]) (us:=[_]) (vs:=[]) rfl hb4 hb2 hb3
     have hkq:heap4 (upd q2 b' (some (.cells ([.slice xa xn xc,I (traceF d (ofF S.its x)).f,I (traceF d (ofF S.its x)).l, .slice ya yn yc]++rest').toArray 89 (0,0)))) B b es' c':=hh5.keep fun k o e=>by rw [upd_other _ _ (fun h=>by rw [h,hb1] at e;cases e)];exact e
     (conv=>whnf)
     refine LoopP.of { α:=Nat × Array MapEntry × Nat,fr:=fun z=>[(2, .c (.ptr 1000 0)),(4, .c (.ptr 1001 0)),(5, .v (.slice none 0 0)),(7, .c (.ptr 1011 0)),(9, .c (.ptr 1023 0)),(10, .c (.ptr 1026 0)),(49, .v (.slice ra rn rc)),(50, .v (I rn)),(51, .v (I z.1))],H:=fun z=>[(0, .heap (upd q2 b' (some (.cells ([.slice xa xn xc,I (traceF d (ofF S.its x)).f,I (traceF d (ofF S.its x)).l, .slice ya yn yc]++rest').toArray 89 (0,0))))),(1000, .cells .anon [.val (.slice wa wn wc), .val (.slice ka kn kc)] 84),(1001, .cells .anon [.val (.slice (some ⟨b',0,none⟩) 1 cap)] 79),(1011, .cells .anon [.val (ptr b)] 152),(1023, .cells .anon [.val (selfV B)] 155),(1025, .map .anon z.2.1 z.2.2),(1026, .cells .anon [.mref 1025] 157)],ok:=fun z _=>z.1≤(ofF S.its x).length∧ISet Tryz.prog 3 z.2.1 (fun n=>decide (n∈srcsN S i++(ofF S.its x).take z.1)),m:=fun z=>(ofF S.its x).length - z.1 }
      (0,es2,c2) (HeadP.of [] ⟨rfl,rfl,rfl,rfl,rfl,rfl,rfl,rfl,rfl,trivial⟩ ⟨rfl,rfl,rfl,rfl,rfl,rfl,rfl,trivial⟩) ⟨Nat.zero_le _,by simpa using hset⟩ (fun _=>⟨rfl,rfl⟩) (fun z G7 hg7 hz=>W.mk ?_)
     obtain ⟨u,es3,c3⟩:=z
     obtain ⟨hu,hset3⟩:=hz
     dsimp only at hu hset3
     dsimp only
     (conv=>whnf)
     refine IteP.mk (fun hlt2=>W.mk ?_) (fun hge2=>W.mk ?_)<;>(conv=>whnf)
     ·have h1:u < (ofF S.its x).length:=by omega
      have hcu:=(SlR.grow (G:=G5) (G':=G7) (fun _ _ h=>h) rl (hg6.trans hg7)).el h1
      have hmu:=ofF_mem hwf hxw _ (List.getElem_mem h1)
      have htk2:(ofF S.its x).take (u + 1) = (ofF S.its x).take u++[(ofF S.its x)[u]]:=by rw [List.take_add_one,List.getElem?_eq_getElem h1];rfl
      generalize (ofF S.its x)[u] = nn at hcu hmu htk2
      (refine ob ?_ ?_;(first | trivial | omega | (simp only [inR];omega) | exact ble (by rfl) | exact SlR.some ‹_› (by omega));(conv=>whnf))
      refine OblP.mk (rl.some (by omega)) (W.mk ?_)
      (conv=>whnf)
      refine RdhP.g hcu rfl (W.mk ?_)
      (conv=>whnf)
      obtain ⟨r,f1,f2,f3⟩:=hset3.find und3c (x:=nn) (by simp only [inR];omega)
      refine KeyP.mk ⟨r,f1,W.mk ?_⟩
      (conv=>whnf)
      (refine ob ?_ ?_;(first | trivial | omega | (simp only [inR];omega) | exact ble (by rfl) | exact SlR.some ‹_› (by omega));(conv=>whnf))
      refine RoundP.of (u + 1,_,_) (HeadP.of [] ⟨rfl,rfl,rfl,rfl,rfl,rfl,rfl,rfl,rfl,trivial⟩ ⟨rfl,rfl,rfl,rfl,rfl,rfl,rfl,trivial⟩) ⟨h1, ?_⟩ (by show (ofF S.its x).length - (u + 1) < (ofF S.its x).length - u;omega)
      have hse:(fun y:Int=>decide (y∈srcsN S i++(ofF S.its x).take (u + 1))) = fun y=>decide (y∈srcsN S i++(ofF S.its x).take u) || decide (y = nn):=by
       funext y
       rw [htk2, ← Bool.decide_or]
       simp only [List.mem_append,List.mem_singleton,or_assoc]
      show ISet Tryz.prog 3 _ (fun y:Int=>decide (y∈srcsN S i++(ofF S.its x).take (u + 1)))
      rw [hse]
      exact f3 c3
     ·have huu:u = (ofF S.its x).length:=by omega
      subst huu
      rw [List.take_length, ← hsrc] at hset3
      exact RoundR.mk ⟨(i + 1,(upd q2 b' (some (.cells ([.slice xa xn xc,I (traceF d (ofF S.its x)).f,I (traceF d (ofF S.its x)).l, .slice ya yn yc]++rest').toArray 89 (0,0)))),(es',c'),((some ⟨b',0,none⟩),1,cap),([]++[xr]),(es3,c3)),⟨[],⟨rfl,rfl,rfl,rfl,rfl,rfl,rfl,trivial⟩,rfl,rfl⟩,⟨hlt,hkq,hkn5.grow (hg6.trans hg7),hrow3,hras3.grow hg7,hset3⟩,rfl⟩
    ·simp only [Value.slice.injEq] at e
     obtain ⟨rfl,rfl,rfl⟩:=e
     subst hxr2
     have hrl9:ras.length≤10000:=by
      have h1:=hras.1
      have h2:=hsml.1
      rw [List.length_take] at h1
      omega
     have hin:=fun hc2=>RowH.appIn (t:=89) (p:=q2) (b:=tb) (us:=[⟨xa,xn,xc,(traceF d (ofF S.its x)).f,(traceF d (ofF S.its x)).l,ya,yn,yc⟩]) hr hc2 hm
     have hnw:=fun (b' cap:Nat) (rest':List Value)=>RowH.appNew (t:=89) (p:=q2) (b:=b') (c:=cap) (l:=ras) (us:=[⟨xa,xn,xc,(traceF d (ofF S.its x)).f,(traceF d (ofF S.its x)).l,ya,yn,yc⟩]) (vs:=(flat raE ras++rest).take (ras.length * raE.k)) (rest':=rest') take_flat
     have hone:∀ u∈(flat raE ras++rest).take (ras.length * raE.k),u.oneCell' = true:=by rw [take_flat];exact flat_one _ _
     have hlen3:(flat raE ras++rest).length = tc * 4:=by rw [List.length_append,flat_len,hr,show raE.k = 4 from rfl];omega
     (conv=>whnf)
     refine HpkP.mk ⟨_,89,hb,W.mk ?_⟩
     (conv=>whnf)
     refine OblP.mk ⟨rfl,rfl,hlen3,hc,hm,hone⟩ (W.mk ?_)
     (conv=>whnf)
     refine OblP.mk rfl (W.mk ?_)
     (conv=>whnf)
     refine OblP.mk ⟨by omega,by omega⟩ (W.mk ?_)
     (conv=>whnf)
     refine IteP.mk (fun hcap=>W.mk ?_) (fun hcap=>W.mk ?_)<;>(conv=>whnf)
     ·have hrow3:=hin (by simp only [List.length_singleton];omega)
      have hkq:heap4 (upd q2 tb (some (.cells ((flat raE ras++rest).take (ras.length * raE.k)++flat raE [⟨xa,xn,xc,(traceF d (ofF S.its x)).f,(traceF d (ofF S.its x)).l,ya,yn,yc⟩]++(flat raE ras++rest).drop ((ras.length + 1) * raE.k)).toArray 89 (0,0)))) B b es' c':=hh5.set hb
      repeat' (refine ob ?_ ?_;(first | trivial | omega | (simp only [inR];omega) | exact ble (by rfl) | exact SlR.some ‹_› (by omega));(conv=>whnf))
      refine LoopP.of { α:=Nat × Array MapEntry × Nat,fr:=fun z=>[(2, .c (.ptr 1000 0)),(4, .c (.ptr 1001 0)),(5, .v (.slice none 0 0)),(7, .c (.ptr 1011 0)),(9, .c (.ptr 1023 0)),(10, .c (.ptr 1026 0)),(49, .v (.slice ra rn rc)),(50, .v (I rn)),(51, .v (I z.1))],H:=fun z=>[(0, .heap (upd q2 tb (some (.cells ((flat raE ras++rest).take (ras.length * raE.k)++flat raE [⟨xa,xn,xc,(traceF d (ofF S.its x)).f,(traceF d (ofF S.its x)).l,ya,yn,yc⟩]++(flat raE ras++rest).drop ((ras.length + 1) * raE.k)).toArray 89 (0,0))))),(1000, .cells .anon [.val (.slice wa wn wc), .val (.slice ka kn kc)] 84),(1001, .cells .anon [.val (.slice (some ⟨tb,0,none⟩) (ras.length + 1) tc)] 79),(1011, .cells .anon [.val (ptr b)] 152),(1023, .cells .anon [.val (selfV B)] 155),(1025, .map .anon z.2.1 z.2.2),(1026, .cells .anon [.mref 1025] 157)],ok:=fun z _=>z.1≤(ofF S.its x).length∧ISet Tryz.prog 3 z.2.1 (fun n=>decide (n∈srcsN S i++(ofF S.its x).take z.1)),m:=fun z=>(ofF S.its x).length - z.1 }
       (0,es2,c2) (HeadP.of [] ⟨rfl,rfl,rfl,rfl,rfl,rfl,rfl,rfl,rfl,trivial⟩ ⟨rfl,rfl,rfl,rfl,rfl,rfl,rfl,trivial⟩) ⟨Nat.zero_le _,by simpa using hset⟩ (fun _=>⟨rfl,rfl⟩) (fun z G7 hg7 hz=>W.mk ?_)
      obtain ⟨u,es3,c3⟩:=z
      obtain ⟨hu,hset3⟩:=hz
      dsimp only at hu hset3
      dsimp only
      (conv=>whnf)
      refine IteP.mk (fun hlt2=>W.mk ?_) (fun hge2=>W.mk ?_)<;>(conv=>whnf)
      ·have h1:u < (ofF S.its x).length:=by omega
       have hcu:=(SlR.grow (G:=G5) (G':=G7) (fun _ _ h=>h) rl (hg6.trans hg7)).el h1
       have hmu:=ofF_mem hwf hxw _ (List.getElem_mem h1)
       have htk2:(ofF S.its x).take (u + 1) = (ofF S.its x).take u++[(ofF S.its x)[u]]:=by rw [List.take_add_one,List.getElem?_eq_getElem h1];rfl
       generalize (ofF S.its x)[u] = nn at hcu hmu htk2
       (refine ob ?_ ?_;(first | trivial | omega | (simp only [inR];omega) | exact ble (by rfl) | exact SlR.some ‹_› (by omega));(conv=>whnf))
       refine OblP.mk (rl.some (by omega)) (W.mk ?_)
       (conv=>whnf)
       refine RdhP.g hcu rfl (W.mk ?_)
       (conv=>whnf)
       obtain ⟨r,f1,f2,f3⟩:=hset3.find und3c (x:=nn) (by simp only [inR];omega)
       refine KeyP.mk ⟨r,f1,W.mk ?_⟩
       (conv=>whnf)
       (refine ob ?_ ?_;(first | trivial | omega | (simp only [inR];omega) | exact ble (by rfl) | exact SlR.some ‹_› (by omega));(conv=>whnf))
       refine RoundP.of (u + 1,_,_) (HeadP.of [] ⟨rfl,rfl,rfl,rfl,rfl,rfl,rfl,rfl,rfl,trivial⟩ ⟨rfl,rfl,rfl,rfl,rfl,rfl,rfl,trivial⟩) ⟨h1, ?_⟩ (by show (ofF S.its x).length - (u + 1) < (ofF S.its x).length - u;omega)
       have hse:(fun y:Int=>decide (y∈srcsN S i++(ofF S.its x).take (u + 1))) = fun y=>decide (y∈srcsN S i++(ofF S.its x).take u) || decide (y = nn):=by
        funext y
        rw [htk2, ← Bool.decide_or]
        simp only [List.mem_append,List.mem_singleton,or_assoc]
       show ISet Tryz.prog 3 _ (fun y:Int=>decide (y∈srcsN S i++(ofF S.its x).take (u + 1)))
       rw [hse]
       exact f3 c3
      ·have huu:u = (ofF S.its x).length:=by omega
       subst huu
       rw [List.take_length, ← hsrc] at hset3
       exact RoundR.mk ⟨(i + 1,(upd q2 tb (some (.cells ((flat raE ras++rest).take (ras.length * raE.k)++flat raE [⟨xa,xn,xc,(traceF d (ofF S.its x)).f,(traceF d (ofF S.its x)).l,ya,yn,yc⟩]++(flat raE ras++rest).drop ((ras.length + 1) * raE.k)).toArray 89 (0,0)))),(es',c'),((some ⟨tb,0,none⟩),(ras.length + 1),tc),(ras++[⟨xa,xn,xc,(traceF d (ofF S.its x)).f,(traceF d (ofF S.its x)).l,ya,yn,yc⟩]),(es3,c3)),⟨[],⟨rfl,rfl,rfl,rfl,rfl,rfl,rfl,trivial⟩,rfl,rfl⟩,⟨hlt,hkq,hkn5.grow (hg6.trans hg7),hrow3,hras3.grow hg7,hset3⟩,rfl⟩
     ·refine AppnP.mk (fun b' cap rest' hb1 hb2 hb3 hb4=>W.mk ?_)
      have hrow3:=hnw b' cap rest' hb4 hb2 hb3
      have hkq:heap4 (upd q2 b' (some (.cells ((flat raE ras++rest).take (ras.length * raE.k)++flat raE [⟨xa,xn,xc,(traceF d (ofF S.its x)).f,(traceF d (ofF S.its x)).l,ya,yn,yc⟩]++rest').toArray 89 (0,0)))) B b es' c':=hh5.keep fun k o e=>by rw [upd_other _ _ (fun h=>by rw [h,hb1] at e;cases e)];exact e
      (conv=>whnf)
      repeat' (refine ob ?_ ?_;(first | trivial | omega | (simp only [inR];omega) | exact ble (by rfl) | exact SlR.some ‹_› (by omega));(conv=>whnf))
      refine LoopP.of { α:=Nat × Array MapEntry × Nat,fr:=fun z=>[(2, .c (.ptr 1000 0)),(4, .c (.ptr 1001 0)),(5, .v (.slice none 0 0)),(7, .c (.ptr 1011 0)),(9, .c (.ptr 1023 0)),(10, .c (.ptr 1026 0)),(49, .v (.slice ra rn rc)),(50, .v (I rn)),(51, .v (I z.1))],H:=fun z=>[(0, .heap (upd q2 b' (some (.cells ((flat raE ras++rest).take (ras.length * raE.k)++flat raE [⟨xa,xn,xc,(traceF d (ofF S.its x)).f,(traceF d (ofF S.its x)).l,ya,yn,yc⟩]++rest').toArray 89 (0,0))))),(1000, .cells .anon [.val (.slice wa wn wc), .val (.slice ka kn kc)] 84),(1001, .cells .anon [.val (.slice (some ⟨b',0,none⟩) (ras.length + 1) cap)] 79),(1011, .cells .anon [.val (ptr b)] 152),(1023, .cells .anon [.val (selfV B)] 155),(1025, .map .anon z.2.1 z.2.2),(1026, .cells .anon [.mref 1025] 157)],ok:=fun z _=>z.1≤(ofF S.its x).length∧ISet Tryz.prog 3 z.2.1 (fun n=>decide (n∈srcsN S i++(ofF S.its x).take z.1)),m:=fun z=>(ofF S.its x).length - z.1 }
       (0,es2,c2) (HeadP.of [] ⟨rfl,rfl,rfl,rfl,rfl,rfl,rfl,rfl,rfl,trivial⟩ ⟨rfl,rfl,rfl,rfl,rfl,rfl,rfl,trivial⟩) ⟨Nat.zero_le _,by simpa using hset⟩ (fun _=>⟨rfl,rfl⟩) (fun z G7 hg7 hz=>W.mk ?_)
      obtain ⟨u,es3,c3⟩:=z
      obtain ⟨hu,hset3⟩:=hz
      dsimp only at hu hset3
      dsimp only
      (conv=>whnf)
      refine IteP.mk (fun hlt2=>W.mk ?_) (fun hge2=>W.mk ?_)<;>(conv=>whnf)
      ·have h1:u < (ofF S.its x).length:=by omega
       have hcu:=(SlR.grow (G:=G5) (G':=G7) (fun _ _ h=>h) rl (hg6.trans hg7)).el h1
       have hmu:=ofF_mem hwf hxw _ (List.getElem_mem h1)
       have htk2:(ofF S.its x).take (u + 1) = (ofF S.its x).take u++[(ofF S.its x)[u]]:=by rw [List.take_add_one,List.getElem?_eq_getElem h1];rfl
       generalize (ofF S.its x)[u] = nn at hcu hmu htk2
       (refine ob ?_ ?_;(first | trivial | omega | (simp only [inR];omega) | exact ble (by rfl) | exact SlR.some ‹_› (by omega));(conv=>whnf))
       refine OblP.mk (rl.some (by omega)) (W.mk ?_)
       (conv=>whnf)
       refine RdhP.g hcu rfl (W.mk ?_)
       (conv=>whnf)
       obtain ⟨r,f1,f2,f3⟩:=hset3.find und3c (x:=nn) (by simp only [inR];omega)
       refine KeyP.mk ⟨r,f1,W.mk ?_⟩
       (conv=>whnf)
       (refine ob ?_ ?_;(first | trivial | omega | (simp only [inR];omega) | exact ble (by rfl) | exact SlR.some ‹_› (by omega));(conv=>whnf))
       refine RoundP.of (u + 1,_,_) (HeadP.of [] ⟨rfl,rfl,rfl,rfl,rfl,rfl,rfl,rfl,rfl,trivial⟩ ⟨rfl,rfl,rfl,rfl,rfl,rfl,rfl,trivial⟩) ⟨h1, ?_⟩ (by show (ofF S.its x).length - (u + 1) < (ofF S.its x).length - u;omega)
       have hse:(fun y:Int=>decide (y∈srcsN S i++(ofF S.its x).take (u + 1))) = fun y=>decide (y∈srcsN S i++(ofF S.its x).take u) || decide (y = nn):=by
        funext y
        rw [htk2, ← Bool.decide_or]
        simp only [List.mem_append,List.mem_singleton,or_assoc]
       show ISet Tryz.prog 3 _ (fun y:Int=>decide (y∈srcsN S i++(ofF S.its x).take (u + 1)))
       rw [hse]
       exact f3 c3
      ·have huu:u = (ofF S.its x).length:=by omega
       subst huu
       rw [List.take_length, ← hsrc] at hset3
       exact RoundR.mk ⟨(i + 1,(upd q2 b' (some (.cells ((flat raE ras++rest).take (ras.length * raE.k)++flat raE [⟨xa,xn,xc,(traceF d (ofF S.its x)).f,(traceF d (ofF S.its x)).l,ya,yn,yc⟩]++rest').toArray 89 (0,0)))),(es',c'),((some ⟨b',0,none⟩),(ras.length + 1),cap),(ras++[⟨xa,xn,xc,(traceF d (ofF S.its x)).f,(traceF d (ofF S.its x)).l,ya,yn,yc⟩]),(es3,c3)),⟨[],⟨rfl,rfl,rfl,rfl,rfl,rfl,rfl,trivial⟩,rfl,rfl⟩,⟨hlt,hkq,hkn5.grow (hg6.trans hg7),hrow3,hras3.grow hg7,hset3⟩,rfl⟩
   ·obtain ⟨i,q,⟨es,cc⟩,⟨ta,tn,tc⟩,ras,⟨es2,c2⟩⟩:=x
    obtain ⟨hi,hh4,hkn,hrow,hras,hset⟩:=hx
    simp only at hi hh4 hkn hrow hras hset hk
    rw [visY_len] at hk
    subst hk
    have htl:(tracesF d S).take (placesF S.its).length = tracesF d S:=List.take_of_length_le (by rw [tracesF,List.length_map];exact Nat.le_refl _)
    rw [htl] at hras
    (conv=>whnf)
    repeat' (refine ob ?_ ?_;(first | trivial | omega | (simp only [inR];omega) | exact ble (by rfl) | exact SlR.some ‹_› (by omega));(conv=>whnf))
    refine LoopP.of { α:=Nat × Nat × List Value,fr:=fun z=>[(2, .c (.ptr 1000 0)),(4, .c (.ptr 1001 0)),(5, .c (.row 1005 z.2.1)),(10, .c (.ptr 1026 0)),(60, .v (I wn)),(61, .v (I z.1))],H:=fun z=>[(0, .heap q),(1000, .cells .anon [.val (.slice wa wn wc), .val (.slice ka kn kc)] 84),(1001, .cells .anon [.val (.slice ta tn tc)] 79),(1025, .map .anon es2 c2),(1026, .cells .anon [.mref 1025] 157),(1005, .row none z.2.1 z.2.2 3 1)],ok:=fun z _=>z.1≤wn∧Row intE (lostN S z.1) z.2.1 z.2.2,m:=fun z=>wn - z.1 }
     (0,0,[]) (HeadP.of [(1005,none)] ⟨rfl,rfl,rfl,rfl,rfl,rfl,trivial⟩ ⟨rfl,rfl,rfl,rfl,rfl,rfl,trivial⟩) ⟨Nat.zero_le _,Row.nil⟩ (fun _=>⟨rfl,rfl⟩) (fun z G5 hg5 hz=>W.mk ?_)
    obtain ⟨u,m,vs⟩:=z
    obtain ⟨hu,hr⟩:=hz
    dsimp only at hu hr
    dsimp only
    have hml:m≤u:=by
     rw [hr.n,lostN,List.length_map]
     exact Nat.le_trans (List.length_filter_le _ _) (by simp)
    (conv=>whnf)
    refine IteP.mk (fun hlt2=>W.mk ?_) (fun hge2=>W.mk ?_)<;>(conv=>whnf)
    ·have h1:u < wn:=by omega
     have hls:lostN S (u + 1) = if (u:Int)∈srcsN S (placesF S.its).length then lostN S u else lostN S u++[(u:Int)]:=by
      unfold lostN
      rw [List.range_succ,List.filter_append,List.map_append]
      split<;>rename_i hmem<;>simp [hmem]
     obtain ⟨r,f1,f2,_⟩:=hset.find und3c (x:=(u:Int)) (by simp only [inR];omega)
     repeat' (refine ob ?_ ?_;(first | trivial | omega | (simp only [inR];omega) | exact ble (by rfl) | exact SlR.some ‹_› (by omega));(conv=>whnf))
     refine KeyP.mk ⟨r,f1,W.mk ?_⟩
     dsimp only
     rw [f2]
     (conv=>whnf)
     refine ForkP.mk (fun hmem=>W.mk ?_) (fun hmem=>W.mk ?_)<;>(conv=>whnf)
     ·rw [if_pos (of_decide_eq_true hmem)] at hls
      repeat' (refine ob ?_ ?_;(first | trivial | omega | (simp only [inR];omega) | exact ble (by rfl) | exact SlR.some ‹_› (by omega));(conv=>whnf))
      exact RoundP.of (u + 1,m,vs) (HeadP.of [] ⟨rfl,rfl,rfl,rfl,rfl,rfl,trivial⟩ ⟨rfl,rfl,rfl,rfl,rfl,rfl,trivial⟩) ⟨h1,by show Row intE (lostN S (u + 1)) m vs;rw [hls];exact hr⟩ (by show wn - (u + 1) < wn - u;omega)
     ·rw [if_neg (of_decide_eq_false hmem)] at hls
      have hr2:=hr.snoc (u:Int)
      rw [← hls] at hr2
      repeat' (refine ob ?_ ?_;(first | trivial | omega | (simp only [inR];omega) | exact ble (by rfl) | exact SlR.some ‹_› (by omega));(conv=>whnf))
      exact RoundP.of (u + 1,m + 1,_) (HeadP.of [(1005,some 1074)] ⟨rfl,rfl,rfl,rfl,rfl,rfl,trivial⟩ ⟨rfl,rfl,rfl,rfl,rfl,rfl,trivial⟩) ⟨h1,hr2⟩ (by show wn - (u + 1) < wn - u;omega)
    ·have huu:u = d.ws.length:=by omega
     subst huu
     repeat' (refine ob ?_ ?_;(first | trivial | omega | (simp only [inR];omega) | exact ble (by rfl) | exact SlR.some ‹_› (by omega));(conv=>whnf))
     refine NmP.mk ⟨[1005], ?_⟩
     (conv=>whnf)
     refine PubP.mk (fun ga gc G6 hg6 hp=>W.mk ?_)
     (conv=>whnf)
     refine W.mk ?_
     (conv=>whnf)
     exact FinHp.of rfl ⟨_,_,ras,rfl,hrow,hras.grow (hg5.trans hg6),hr.pub hp (by omega)⟩
end Go.Proofs.YtefnikpoimaiiaaGreat
