/- TopTaken (plain): the words of a draft by the takes of their seconds. TopTaken: the closed example. TopTaken: the law. -/
import Derived.Test.YtefnikpoimaiiaaGreatMR
import Derived.Test.YtefnikpoimaiiaaGreatMN
import Derived.Test.YtefnikpoimaiiaaGreatMD
import Derived.Test.YtefnikpoimaiiaaGreatMK
import Derived.Test.YtefnikpoimaiiaaGreatML
set_option linter.unusedSimpArgs false
set_option linter.unusedVariables false
namespace Go.Proofs.YtefnikpoimaiiaaGreat
open Go.Pal Go.RowKit
set_option maxRecDepth 100000
def lastS (xs:List Wo) (m:Int):Int:=match xs.getLast? with
 | none=>m
 | some y=>max m y.s
def stepT (s:L.Sit) (rota:List Int) (xs:List Wo) (w:Wo):List Wo :=
 if L.atE s (lastS xs (w.s % s.len)) = 0 then xs++[⟨w.t,lastS xs (w.s % s.len),rota.getD (L.atV s (lastS xs (w.s % s.len))).toNat 0⟩] else xs
def takT (s:L.Sit) (rota:List Int) (ws:List Wo) (n:Nat):List Wo:=(ws.take n).foldl (stepT s rota) []
theorem takT_succ {s:L.Sit} {rota:List Int} {ws:List Wo} {n:Nat} (h:n < ws.length):takT s rota ws (n + 1) = stepT s rota (takT s rota ws n) ws[n]:=by
 have e:ws.take (n + 1) = ws.take n++[ws[n]]:=by rw [List.take_add_one,List.getElem?_eq_getElem h];rfl
 rw [takT,e,List.foldl_append];rfl
theorem atV_rng {s:L.Sit} {m:Int} (h:L.atE s m = 0):0≤L.atV s m∧L.atV s m < (L.takesF s).length∧0≤m∧m < s.len:=by
 have h0:=h
 unfold L.atE at h
 split at h
 ·split at h
  ·rename_i hin
   split at h
   ·cases h
   ·rename_i hlt
    have hv:L.atV s m = L.atF m (L.takesF s) 0:=by rw [L.atV,if_pos h0]
    simp only [L.inF,decide_eq_true_eq] at hin
    refine ⟨by rw [hv];omega, ?_,by omega,by omega⟩
    rw [hv]
    by_cases hex:∃ q∈L.takesF s,L.Holds m q
    ·obtain ⟨i,hi,_,he⟩:=L.atF_some (k:=0) hex
     rw [he];omega
    ·rw [L.atF_none (fun q hq hh=>hex ⟨q,hq,hh⟩)];omega
  ·cases h
 ·rename_i hf;exact absurd h hf
structure TkOk (s:L.Sit) (rota:List Int) (n:Nat) (xs:List Wo):Prop where
 len:xs.length≤n
 wd:∀ x∈xs,textF x.t = true∧0≤x.s∧x.s≤36000∧L.atE s x.s = 0∧x.r = rota.getD (L.atV s x.s).toNat 0
 up:xs.Pairwise fun a b=>a.s≤b.s
theorem TkOk.nil {s:L.Sit} {rota:List Int}:TkOk s rota 0 []:=⟨Nat.le_refl _,fun _ h=>(by cases h),List.Pairwise.nil⟩
theorem lastS_ge {xs:List Wo} {m:Int} (hu:xs.Pairwise fun a b=>a.s≤b.s):m≤lastS xs m∧(∀ x∈xs,x.s≤lastS xs m)∧(lastS xs m = m∨∃ x∈xs,lastS xs m = x.s):=by
 unfold lastS
 cases h:xs.getLast? with
 | none =>
  rw [List.getLast?_eq_none_iff] at h
  subst h
  exact ⟨Int.le_refl _,fun x hx=>(by cases hx), .inl rfl⟩
 | some y =>
  obtain ⟨ys,rfl⟩:=List.getLast?_eq_some_iff.1 h
  dsimp only
  refine ⟨by omega,fun x hx=>?_, ?_⟩
  ·rw [List.pairwise_append] at hu
   rcases List.mem_append.1 hx with hx | hx
   ·have:=hu.2.2 x hx y (List.mem_singleton.2 rfl);omega
   ·rw [List.mem_singleton.1 hx];omega
  ·by_cases hm:y.s≤m
   ·exact .inl (by omega)
   ·exact .inr ⟨y,List.mem_append_right _ (List.mem_singleton.2 rfl),by omega⟩
theorem TkOk.step {s:L.Sit} {rota:List Int} {n:Nat} {xs:List Wo} {w:Wo} (h:TkOk s rota n xs) (hl:1≤s.len) (ht:textF w.t = true) (h0:0≤w.s) (h1:w.s≤36000):TkOk s rota (n + 1) (stepT s rota xs w):=by
 unfold stepT
 have hm0:0≤w.s % s.len:=Int.emod_nonneg _ (by omega)
 have hm1:w.s % s.len≤36000:=by
  have h3:=Int.mul_ediv_add_emod w.s s.len
  have h4:=Int.mul_nonneg (show 0≤s.len by omega) (Int.ediv_nonneg h0 (show 0≤s.len by omega))
  omega
 obtain ⟨k1,k2,k3⟩:=lastS_ge (m:=w.s % s.len) h.up
 have hr:0≤lastS xs (w.s % s.len)∧lastS xs (w.s % s.len)≤36000:=by
  rcases k3 with k3 | ⟨x,hx,k3⟩
  ·omega
  ·have:=h.wd x hx;omega
 split
 ·rename_i he
  refine ⟨by rw [List.length_append];exact Nat.add_le_add_right h.len 1,fun x hx=>?_, ?_⟩
  ·rcases List.mem_append.1 hx with hx | hx
   ·exact h.wd x hx
   ·rw [List.mem_singleton.1 hx]
    exact ⟨ht,hr.1,hr.2,he,rfl⟩
  ·rw [List.pairwise_append]
   exact ⟨h.up,List.pairwise_singleton _ _,fun a ha b hb=>by rw [List.mem_singleton.1 hb];exact k2 a ha⟩
 ·exact ⟨Nat.le_succ_of_le h.len,h.wd,h.up⟩
theorem TkOk.valid {s:L.Sit} {rota:List Int} {n:Nat} {xs:List Wo} (h:TkOk s rota n xs) (hn:n≤60) (hb:∀ r∈rota,0≤r∧r≤4):validF ⟨xs,[]⟩ = true:=by
 rw [valid_iff]
 refine ⟨Nat.le_trans h.len hn,fun i hi=>?_,fun i hi=>absurd hi (Nat.not_lt_zero _)⟩
 have hi:i < xs.length:=hi
 have e:∀ {j:Nat} (hj:j < xs.length),xs.getD j default = xs[j]:=fun {j} hj=>by simp [hj]
 have w:=h.wd _ (List.getElem_mem hi)
 have r:0≤xs[i].r∧xs[i].r≤99:=by
  rw [w.2.2.2.2]
  by_cases hk:(L.atV s xs[i].s).toNat < rota.length
  ·have:=hb _ (List.getElem_mem hk)
   rw [List.getD_eq_getElem?_getD,List.getElem?_eq_getElem hk]
   simp only [Option.getD_some];omega
  ·rw [List.getD_eq_getElem?_getD,List.getElem?_eq_none (by omega)];decide
 show rWo xs i = true
 simp only [rWo,e hi,w.1,Bool.true_and,Bool.and_eq_true,inF,decide_eq_true_eq,Bool.not_eq_true',Bool.and_eq_false_iff,decide_eq_false_iff_not]
 refine ⟨⟨⟨w.2.1,w.2.2.1⟩,r⟩, ?_⟩
 by_cases h0:0 < i
 ·right
  rw [e (show i - 1 < xs.length by omega)]
  have:=List.pairwise_iff_getElem.1 h.up (i - 1) i (by omega) hi (by omega)
  omega
 ·exact .inl h0
theorem trace_rep {d:Dr} {S:Sh} {i:Nat} (h:i < (tracesF d S).length):(tracesF d S)[i].rep = sortF ((tracesF d S)[i].src.map fun n=>(wordAt d n).r):=by
 rw [traces_at d S h]
 show sortF (repN d _ _) = _
 rw [repN,List.take_length]
 rfl
end Go.Proofs.YtefnikpoimaiiaaGreat

namespace Go.Proofs.YtefnikpoimaiiaaGreat
open Go.Pal Go.RowKit
set_option maxRecDepth 100000
def edD:Dr:=⟨[⟨ByteArray.mk (Array.mk [97]),3,4⟩],[]⟩
def edS:List Sp:=[⟨0,0,1,[ByteArray.mk (Array.mk [98])]⟩]
theorem ed_ok:(match endF edD edS with
  | .ok S=>decide ((tracesM edD S).map (·.f) = [3]) && decide ((tracesM edD S).map (·.rep) = [[4]]) && decide (lostM edD S = [])
  | _=>false) = true:=by decide +kernel
theorem ed_end:∃ S tr,endF edD edS = .ok S∧tracesF edD S = [tr]∧tr.f = 3∧tr.rep = [4]∧lostF edD S = []:=by
 have h:=ed_ok
 generalize endF edD edS = e at h
 cases e with
 | ok S =>
  simp only [Bool.and_eq_true,decide_eq_true_eq] at h
  obtain ⟨⟨h1,h2⟩,h3⟩:=h
  rw [← tracesF_eq] at h1 h2
  rw [← lostF_eq] at h3
  obtain ⟨tr,hl⟩:∃ tr,tracesF edD S = [tr]:=List.length_eq_one_iff.1 (by have:=congrArg List.length h1;simpa using this)
  rw [hl] at h1 h2
  simp only [List.map_cons,List.map_nil,List.cons.injEq,and_true] at h1 h2
  exact ⟨S,tr,rfl,hl,h1,h2,h3⟩
 | _=>cases h
abbrev edT:PSpec:=gsca (fun args _ (_:Unit)=>args = []) fun _ v=>v = .bool true
set_option maxHeartbeats 2000000 in
theorem edits20:Sound Tryz.prog 20 id edT:=by
 refine compK20.gsca (Tab.cons 25 _ traces16 body16 (Tab.nil _)) (fun args G s h=>?_) (fun args G x h=>?_)
 ·subst h;simp
 ·obtain rfl:=h
  (conv=>whnf)
  refine PubP.mk (fun a1 c1 G1 hg1 hp1=>W.mk ?_)
  (conv=>whnf)
  refine PubP.mk (fun a2 c2 G2 hg2 hp2=>W.mk ?_)
  (conv=>whnf)
  refine PubP.mk (fun a3 c3 G3 hg3 hp3=>W.mk ?_)
  (conv=>whnf)
  have k1:SlV strE G3 (.slice a1 1 c1) [ByteArray.mk (Array.mk [98])]:=((hp1.slV (e:=strE) (l:=[ByteArray.mk (Array.mk [98])]) rfl rfl (by decide)).grow hg2).grow hg3
  have k2:SlV woE G3 (.slice a2 1 c2) edD.ws:=(hp2.slV (e:=woE) (l:=edD.ws) rfl rfl (by decide)).grow hg3
  have k3:spsRd.R G3 (.slice a3 1 c3) edS:=⟨a3,1,c3,rfl,SlR.ofPub hp3 rfl (fun i hi=>by
   obtain rfl:i = 0:=by have:i < 1:=hi;omega
   exact ⟨rfl,_,rfl,k1⟩),by decide⟩
  refine RelP.g (ok2 drRd spsRd fun _ _=>True) (x:=(edD,edS)) ⟨_,_,rfl,⟨_,_,rfl,k2,SlV.nil⟩,k3,trivial⟩ (Grow.refl _) (fun v G4 hg4 hq=>W.mk ?_)
  obtain ⟨S,tr,h0,h1,h2,h3,h4⟩:=ed_end
  unfold tracesR at hq
  dsimp only at hq
  rw [h0] at hq
  obtain ⟨u,b,rfl,⟨ua,un,uc,rfl,hul,_⟩,hb⟩:=hq
  rw [h1] at hul
  rw [h4] at hb
  obtain ⟨ba,bn,bc,rfl,hbl,_⟩:=hb
  have hun:un = 1:=hul.len.symm
  have hbn:bn = 0:=hbl.len.symm
  subst hun hbn
  obtain ⟨cs,q1,q2,⟨ta,tb,rfl,t1,t2⟩⟩:=hul.at_ 0 Nat.one_pos
  have t2:SlV intE G4 tb [4]:=by rw [← h3];exact t2
  obtain ⟨ra,rn,rc,rfl,hrl,_⟩:=t2
  have hrn:rn = 1:=hrl.len.symm
  subst hrn
  have e1:=hrl.el (i:=0) (by decide)
  have q2':CellsAt G4 (ab ua) (ao ua + 0 * 4) [ta,I 3,I tr.l, .slice ra 1 rc]:=by rw [← h2];exact q2
  (conv=>whnf)
  refine IteP.mk (fun _=>W.mk ?_) (fun h=>absurd rfl h)
  (conv=>whnf)
  refine IteP.mk (fun _=>W.mk ?_) (fun h=>absurd rfl h)
  (conv=>whnf)
  refine IteP.mk (fun _=>W.mk ?_) (fun h=>absurd rfl h)
  (conv=>whnf)
  repeat' (first | (refine ob ?_ ?_;(first | trivial | omega | (simp only [inR];omega) | exact ble (by rfl) | exact SlR.some ‹_› (by omega));(conv=>whnf)) | (first | (refine ra ‹_› (by rfl) ?_;(conv=>whnf)) | (refine rb ‹_› (by rfl) ?_;(conv=>whnf)) | (refine rc ‹_› (by rfl) ?_;(conv=>whnf)) | (refine rd ‹_› (by rfl) ?_;(conv=>whnf))))
  refine IteP.mk (fun _=>W.mk ?_) (fun h=>absurd rfl h)
  (conv=>whnf)
  repeat' (first | (refine ob ?_ ?_;(first | trivial | omega | (simp only [inR];omega) | exact ble (by rfl) | exact SlR.some ‹_› (by omega));(conv=>whnf)) | (first | (refine ra ‹_› (by rfl) ?_;(conv=>whnf)) | (refine rb ‹_› (by rfl) ?_;(conv=>whnf)) | (refine rc ‹_› (by rfl) ?_;(conv=>whnf)) | (refine rd ‹_› (by rfl) ?_;(conv=>whnf))))
  refine IteP.mk (fun _=>W.mk ?_) (fun h=>absurd rfl h)
  (conv=>whnf)
  repeat' (first | (refine ob ?_ ?_;(first | trivial | omega | (simp only [inR];omega) | exact ble (by rfl) | exact SlR.some ‹_› (by omega));(conv=>whnf)) | (first | (refine ra ‹_› (by rfl) ?_;(conv=>whnf)) | (refine rb ‹_› (by rfl) ?_;(conv=>whnf)) | (refine rc ‹_› (by rfl) ?_;(conv=>whnf)) | (refine rd ‹_› (by rfl) ?_;(conv=>whnf))))
  refine IteP.mk (fun _=>W.mk ?_) (fun h=>absurd rfl h)
  (conv=>whnf)
  exact FinP.mk rfl
end Go.Proofs.YtefnikpoimaiiaaGreat

namespace Go.Proofs.YtefnikpoimaiiaaGreat
open Go.Pal Go.RowKit
set_option maxRecDepth 100000
theorem atE_cases {s:L.Sit} {m:Int} (hf:L.faultF s = 0) (h0:0≤m) (h1:m < s.len):L.atE s m = 0∨L.atE s m = 7:=by
 unfold L.atE
 rw [if_pos hf,if_pos (by simp only [L.inF,decide_eq_true_eq];omega)]
 split
 ·exact .inr rfl
 ·exact .inl rfl
theorem lastS_rng {s:L.Sit} {rota:List Int} {n:Nat} {xs:List Wo} {m:Int} (h:TkOk s rota n xs) (h0:0≤m) (h1:m < s.len):0≤lastS xs m∧lastS xs m < s.len:=by
 obtain ⟨k1,k2,k3⟩:=lastS_ge (m:=m) h.up
 rcases k3 with k3 | ⟨x,hx,k3⟩
 ·omega
 ·have:=atV_rng (h.wd x hx).2.2.2.1
  omega
theorem rota_bd {s:L.Sit} {o:L.Off} (hc:o.crew.length≤5) (h:¬ L.farthestF (L.wkF s o) [] (-1) < (L.wkF s o).t.length):(L.rotaF s o).length = (L.takesF s).length∧∀ r∈L.rotaF s o,0≤r∧r≤4:=by
 have:=(L.rest_right h).1
 simp only [L.listedF,Bool.and_eq_true,decide_eq_true_eq,List.all_eq_true,L.memF,L.inF] at this
 refine ⟨this.1,fun r hr=>?_⟩
 have h2:=this.2 r hr
 have h3:(L.wkF s o).o.crew.length = o.crew.length:=rfl
 omega
theorem _root_.Go.Pal.Row.sub {α:Type} {e:El α} {l:List α} {n:Nat} {vs:List Value} (h:Row e l n vs) {i:Nat} (hi:i < l.length) {d k:Nat} (hd:d + k≤e.k):(vs.drop (i * e.k + d)).take k = ((e.f l[i]).drop d).take k:=by
 rw [← h.at hi,List.drop_take,List.drop_drop,List.take_take,Nat.min_eq_left (by omega)]
theorem words_ok {d:Dr} (hv:validF d = true):∀ w∈d.ws,textF w.t = true∧0≤w.s∧w.s≤36000:=fun w hw=>by
 obtain ⟨i,hi,rfl⟩:=List.mem_iff_getElem.1 hw
 have h:=((valid_iff d).1 hv).2.1 i hi
 have e:d.ws.getD i default = d.ws[i]:=by simp [hi]
 simp only [rWo,e,Bool.and_eq_true,inF,decide_eq_true_eq] at h
 exact ⟨h.1.1.1,h.1.1.2⟩
set_option maxHeartbeats 4000000 in
theorem lawT4:Sound Tryz.prog 4 id (gsca (args4 L.sitU L.offU duRd suRd fun _ _ _ _=>True) fun _ v=>v = .bool true):=by
 refine compK4.gsca (Tab.cons 15 _ L.thin41 L.body41 (Tab.cons 16 _ L.fault10 L.body10 (Tab.cons 17 _ L.right23 L.body23 (Tab.cons 18 _ thin14 body14 (Tab.cons 19 _ right32 body32 (Tab.cons 20 _ edits20 bodyK20 (Tab.cons 22 _ L.sitting13 L.body13 (Tab.cons 23 _ L.office18 L.body18 (Tab.cons 21 _ L.rota17 L.body17 (Tab.cons 24 _ L.at15 L.body15 (Tab.cons 26 _ draft17 body17 (Tab.cons 27 _ steps18 body18 (Tab.cons 25 _ traces16 body16 (Tab.cons 28 _ sorted52 body52 (Tab.nil _)))))))))))))))  (fun args G s h=>?_) (fun args G x h=>?_)
 ·obtain ⟨u,v,w,y,rfl,_⟩:=h;simp
 ·obtain ⟨s,o,d,steps⟩:=x
  obtain ⟨_,_,_,_,rfl,⟨_,rfl,a,n,c,rfl,hl⟩,⟨_,rfl,a2,n2,c2,rfl,hl2⟩,hdu,hsu,_⟩:=h
  dsimp only at hl hl2 hdu hsu
  obtain ⟨w,k,rfl,hw,hk⟩:=id hdu
  obtain ⟨wa,wn,wc,rfl,hwl,_⟩:=id hw
  obtain ⟨ka,kn,kc,rfl,hkl,_⟩:=id hk
  obtain ⟨sa,sn,sc,rfl,hst,hsn⟩:=id hsu
  have e1:=hl.len
  have e2:=hl2.len
  have hwlen:=hwl.len
  have hslen:=hst.len
  dsimp only
  (conv=>whnf)
  refine ScaP.g (ok2 L.sitU L.offU fun _ _=>True) (x:=(s,o)) ⟨_,_,rfl,⟨_,rfl,a,n,c,rfl,hl⟩,⟨_,rfl,a2,n2,c2,rfl,hl2⟩,trivial⟩ (fun v hv=>W.mk ?_)
  subst hv
  dsimp only
  (conv=>whnf)
  refine ForkP.mk (fun hthin1=>W.mk ?_) (fun ht=>W.mk ?_)<;>(conv=>whnf)
  rotate_left
  ·(refine ScaP.g okU (G:=fun _=>none) (x:=()) rfl (fun v hv=>W.mk ?_);subst hv;(conv=>whnf);refine ForkP.mk (fun _=>W.mk ?_) (fun h=>by cases h);(conv=>whnf);exact FinP.mk rfl)
  have hth:s.ps.length≤60∧o.crew.length≤8:=by simpa [L.thinF] using hthin1
  have hn:n≤140737488355328:=by omega
  have hn2:n2≤140737488355328:=by omega
  have hS:L.sitRd.R G _ s:=⟨_,rfl,a,n,c,rfl,hl,hn⟩
  have hO:L.offRd.R G _ o:=⟨_,rfl,a2,n2,c2,rfl,hl2,hn2⟩
  refine ScaP.g (ok1 L.sitRd fun _=>True) (x:=s) ⟨_,rfl,hS,trivial⟩ (fun v hv=>W.mk ?_)
  subst hv
  (conv=>whnf)
  refine IteP.mk (fun hf=>W.mk ?_) (fun h=>W.mk ?_)<;>(conv=>whnf)
  rotate_left
  ·(refine ScaP.g okU (G:=fun _=>none) (x:=()) rfl (fun v hv=>W.mk ?_);subst hv;(conv=>whnf);refine ForkP.mk (fun _=>W.mk ?_) (fun h=>by cases h);(conv=>whnf);exact FinP.mk rfl)
  have hf:L.faultF s = 0:=hf
  refine ScaP.g (ok1 L.offRd fun _=>True) (x:=o) ⟨_,rfl,hO,trivial⟩ (fun v hv=>W.mk ?_)
  subst hv
  (conv=>whnf)
  refine ForkP.mk (fun hvo=>W.mk ?_) (fun ht=>W.mk ?_)<;>(conv=>whnf)
  rotate_left
  ·(refine ScaP.g okU (G:=fun _=>none) (x:=()) rfl (fun v hv=>W.mk ?_);subst hv;(conv=>whnf);refine ForkP.mk (fun _=>W.mk ?_) (fun h=>by cases h);(conv=>whnf);exact FinP.mk rfl)
  refine ScaP.g (ok2 duRd suRd fun _ _=>True) (x:=(d,steps)) ⟨_,_,rfl,hdu,hsu,trivial⟩ (fun v hv=>W.mk ?_)
  subst hv
  dsimp only
  (conv=>whnf)
  refine ForkP.mk (fun hthin=>W.mk ?_) (fun ht=>W.mk ?_)<;>(conv=>whnf)
  rotate_left
  ·(refine ScaP.g okU (G:=fun _=>none) (x:=()) rfl (fun v hv=>W.mk ?_);subst hv;(conv=>whnf);refine ForkP.mk (fun _=>W.mk ?_) (fun h=>by cases h);(conv=>whnf);exact FinP.mk rfl)
  obtain ⟨t1,t2,t3,t4,t5⟩:=thin_iff.1 hthin
  have hdr:=thin_dr hthin hdu
  have hsr:=thin_sps hthin hsu
  refine ScaP.g (ok1 drRd fun d=>d.ks.length≤100000∧∀ w∈d.ws,w.t.size≤1000000) (x:=d) ⟨_,rfl,hdr,by omega,fun w hw=>by have:=t1 w hw;omega⟩ (fun v hv2=>W.mk ?_)
  subst hv2
  (conv=>whnf)
  refine ForkP.mk (fun hv=>W.mk ?_) (fun hv=>W.mk ?_)<;>(conv=>whnf)
  rotate_left
  ·(refine ScaP.g okU (G:=fun _=>none) (x:=()) rfl (fun v hv=>W.mk ?_);subst hv;(conv=>whnf);refine ForkP.mk (fun _=>W.mk ?_) (fun h=>by cases h);(conv=>whnf);exact FinP.mk rfl)
  refine IteP.mk (fun h14=>W.mk ?_) (fun h14=>W.mk ?_)<;>(conv=>whnf)
  ·(refine ScaP.g okU (G:=fun _=>none) (x:=()) rfl (fun v hv=>W.mk ?_);subst hv;(conv=>whnf);refine ForkP.mk (fun _=>W.mk ?_) (fun h=>by cases h);(conv=>whnf);exact FinP.mk rfl)
  have he:L.errW s o = 0:=by
   rw [L.errW,if_pos hf,if_pos hvo]
  obtain ⟨hvS,htl,ho⟩:=L.err0 he
  obtain ⟨hfi,hc,_⟩:=L.fine0 he
  have hcalm:=L.valid_calm hvS
  have hlen1:=(L.validF_iff.1 hvS).2.1
  refine RelP.g (ok1 L.sitRd fun s=>s.ps.length≤1000) (x:=s) ⟨_,rfl,hS,by show s.ps.length≤1000;omega⟩ (Grow.refl _) (fun v G1 hg1 hq=>W.mk ?_)
  have s1:=hq
  obtain ⟨w1,rfl,_⟩:=hq
  (conv=>whnf)
  refine RelP.g (ok1 L.offRd fun o=>o.crew.length≤1000) (x:=o) ⟨_,rfl,L.offRd.grow hg1 hO,by show o.crew.length≤1000;omega⟩ (Grow.refl _) (fun v G2 hg2 hq=>W.mk ?_)
  have o1:=hq
  obtain ⟨w2,rfl,_⟩:=hq
  (conv=>whnf)
  refine RelP.g (ok2 L.sitRd L.offRd fun s _=>L.Calm s) (x:=(s,o)) ⟨_,_,rfl,L.sitRd.grow hg2 s1,o1,hcalm⟩ (Grow.refl _) (fun v G3 hg3 hq=>W.mk ?_)
  obtain ⟨w3,rfl,hq⟩:=hq
  have hG3:=(hg1.trans hg2).trans hg3
  simp only at hq
  dsimp only
  by_cases hE:L.rotaE s o = 0
  rotate_left
  ·have h9:L.rotaE s o = 9:=by
    rw [L.rotaE,if_pos he] at hE ⊢
    split at hE
    ·rename_i h;rw [if_pos h]
    ·exact absurd rfl hE
   rw [h9]
   rw [if_neg hE] at hq
   subst hq
   (conv=>whnf)
   refine IteP.mk (fun h=>absurd h (by decide)) (fun h=>W.mk ?_)
   (conv=>whnf)
   refine IteP.mk (fun h=>W.mk ?_) (fun h=>absurd rfl h)
   (conv=>whnf)
   (refine ScaP.g okU (G:=fun _=>none) (x:=()) rfl (fun v hv=>W.mk ?_);subst hv;(conv=>whnf);refine ForkP.mk (fun _=>W.mk ?_) (fun h=>by cases h);(conv=>whnf);exact FinP.mk rfl)
  rw [if_pos hE] at hq
  rw [hE]
  obtain ⟨qa,qn,qc,rfl,hrl,hrn⟩:=hq
  have hrb:=rota_bd (s:=s) (o:=o) (by omega) (by
   rw [L.rotaE,if_pos he] at hE
   split at hE
   ·cases hE
   ·assumption)
  have hrlen:=hrl.len
  generalize L.rotaF s o = rota at hrl hrb hrlen
  (conv=>whnf)
  refine IteP.mk (fun _=>W.mk ?_) (fun h=>absurd rfl h)
  (conv=>whnf)
  refine LoopP.of { α:=Nat × Nat × List Value,fr:=fun x=>[(3, .v (.slice sa sn sc)),(4, .c (.ptr 0 0)),(5, .c (.ptr 1 0)),(6, .c (.ptr 2 0)),(9, .v (.slice qa qn qc)),(11, .c (.ptr 54 0)),(12, .v (I x.1))],H:=fun x=>[(0, .cells .anon [.val (I s.len), .val (.slice a n c), .val (I s.long), .val (I s.short)] 52),(1, .cells .anon [.val (.slice a2 n2 c2), .val (I o.due), .val (I o.delay)] 55),(2, .cells .anon [.val (.slice wa wn wc), .val (.slice ka kn kc)] 58),(54, .cells .anon [.row 55 x.2.1, .val (.slice none 0 0)] 58),(55, .row none x.2.1 x.2.2 76 3)],ok:=fun x _=>x.1≤d.ws.length∧TkOk s rota x.1 (takT s rota d.ws x.1)∧Row woE (takT s rota d.ws x.1) x.2.1 x.2.2,m:=fun x=>d.ws.length - x.1 }
   (0,0,[]) (HeadP.of [(55,none)] ⟨rfl,rfl,rfl,rfl,rfl,rfl,rfl,trivial⟩ ⟨rfl,rfl,rfl,rfl,rfl,trivial⟩) ⟨Nat.zero_le _,TkOk.nil,Row.nil⟩ (fun _=>⟨rfl,rfl⟩) (fun x G4 hg4 hx=>W.mk ?_)
  obtain ⟨i,m,vs⟩:=x
  obtain ⟨hi,htk,hr⟩:=hx
  dsimp only at hi htk hr
  dsimp only
  have hG4:=hG3.trans hg4
  (conv=>whnf)
  refine IteP.mk (fun hlt=>W.mk ?_) (fun hge=>W.mk ?_)<;>(conv=>whnf)
  ·have h1:i < d.ws.length:=by omega
   have hce:=(SlR.grow (G:=G) (G':=G4) (fun _ _ h=>h) hwl hG4).el h1
   have hsu:=takT_succ (s:=s) (rota:=rota) h1
   have hwv:=words_ok hv _ (List.getElem_mem h1)
   have hst2:=htk.step (w:=d.ws[i]) hlen1.1 hwv.1 hwv.2.1 hwv.2.2
   rw [← hsu] at hst2
   generalize d.ws[i] = x at hce hsu hwv hst2
   repeat' (first | (refine ob ?_ ?_;(first | trivial | omega | (simp only [inR];omega) | exact ble (by rfl) | exact SlR.some ‹_› (by omega));(conv=>whnf)) | (first | (refine ra ‹_› (by rfl) ?_;(conv=>whnf)) | (refine rb ‹_› (by rfl) ?_;(conv=>whnf)) | (refine rc ‹_› (by rfl) ?_;(conv=>whnf)) | (refine rd ‹_› (by rfl) ?_;(conv=>whnf))))
   have hmn:=hr.n
   have hm60:m≤100:=by have:=htk.len;omega
   refine IteP.mk (fun hm0=>W.mk ?_) (fun hm0=>W.mk ?_)<;>(conv=>whnf)
   ·repeat' (first | (refine ob ?_ ?_;(first | trivial | omega | (simp only [inR];omega) | exact ble (by rfl) | exact SlR.some ‹_› (by omega));(conv=>whnf)) | (first | (refine ra ‹_› (by rfl) ?_;(conv=>whnf)) | (refine rb ‹_› (by rfl) ?_;(conv=>whnf)) | (refine rc ‹_› (by rfl) ?_;(conv=>whnf)) | (refine rd ‹_› (by rfl) ?_;(conv=>whnf))))
    have hlast:m - 1 < (takT s rota d.ws i).length:=by omega
    have hsub:=hr.sub hlast (d:=1) (k:=1) (by decide)
    have e0:((m:Int) - 1).toNat = m - 1:=by omega
    rw [e0]
    refine EqP.mk ⟨_,hsub,rfl,W.mk ?_⟩
    have hM:max (x.s % s.len) ((takT s rota d.ws i)[m - 1]).s = lastS (takT s rota d.ws i) (x.s % s.len):=by
     unfold lastS
     have:(takT s rota d.ws i).getLast? = some (takT s rota d.ws i)[m - 1]:=by
      rw [List.getLast?_eq_getElem?, ← hmn,List.getElem?_eq_getElem hlast]
     rw [this]
    (conv=>whnf)
    repeat' (first | (refine ob ?_ ?_;(first | trivial | omega | (simp only [inR];omega) | exact ble (by rfl) | exact SlR.some ‹_› (by omega));(conv=>whnf)) | (first | (refine ra ‹_› (by rfl) ?_;(conv=>whnf)) | (refine rb ‹_› (by rfl) ?_;(conv=>whnf)) | (refine rc ‹_› (by rfl) ?_;(conv=>whnf)) | (refine rd ‹_› (by rfl) ?_;(conv=>whnf))))
    have hls:=lastS_rng (m:=x.s % s.len) htk (Int.emod_nonneg _ (by omega)) (Int.emod_lt_of_pos _ (by omega))
    refine RelP.g (ok1 L.sitRd fun s=>s.ps.length≤1000) (x:=s) ⟨_,rfl,L.sitRd.grow hG4 hS,by show s.ps.length≤1000;omega⟩ (Grow.refl _) (fun v G5 hg5 hq5=>W.mk ?_)
    have s5:=hq5
    obtain ⟨w5,rfl,_⟩:=hq5
    (conv=>whnf)
    refine ScaP.g (ok2 L.sitRd intRd fun s _=>L.Calm s) (x:=(s,lastS (takT s rota d.ws i) (x.s % s.len))) ⟨_,_,rfl,s5,congrArg I hM,hcalm⟩ (fun v hv5=>W.mk ?_)
    subst hv5
    dsimp only
    rcases atE_cases hf hls.1 hls.2 with hat | hat
    ·have hrg:=atV_rng hat
     have hsu0:takT s rota d.ws (i + 1) = takT s rota d.ws i++[⟨x.t,lastS (takT s rota d.ws i) (x.s % s.len),rota.getD (L.atV s (lastS (takT s rota d.ws i) (x.s % s.len))).toNat 0⟩]:=by rw [hsu,stepT,if_pos hat]
     rw [hat]
     generalize L.atV s (lastS (takT s rota d.ws i) (x.s % s.len)) = av at hrg hsu0
     obtain ⟨j,rfl⟩:∃ j:Nat,av = j:=⟨av.toNat,by omega⟩
     have hj:j < rota.length:=by omega
     have hre:=(SlR.grow (G:=G3) (G':=G5) (fun _ _ h=>h) hrl (hg4.trans hg5)).el hj
     have hrj:=hrb.2 _ (List.getElem_mem hj)
     have hgd:rota.getD (j:Int).toNat 0 = rota[j]:=by simp [hj]
     rw [hgd] at hsu0
     generalize rota[j] = y at hre hrj hsu0
     have hr2:=hr.snoc ⟨x.t,lastS (takT s rota d.ws i) (x.s % s.len),y⟩
     rw [← hsu0, ← hM] at hr2
     (conv=>whnf)
     repeat' (first | (refine ob ?_ ?_;(first | trivial | omega | (simp only [inR];omega) | exact ble (by rfl) | exact SlR.some ‹_› (by omega));(conv=>whnf)) | (first | (refine ra ‹_› (by rfl) ?_;(conv=>whnf)) | (refine rb ‹_› (by rfl) ?_;(conv=>whnf)) | (refine rc ‹_› (by rfl) ?_;(conv=>whnf)) | (refine rd ‹_› (by rfl) ?_;(conv=>whnf))) | (refine IteP.mk (fun _=>W.mk ?_) (fun _=>W.mk ?_)<;>first | (exfalso;omega) | (conv=>whnf)))
     exact RoundP.of (i + 1,m + 1,_) (HeadP.of [(55,some 141)] ⟨rfl,rfl,rfl,rfl,rfl,rfl,rfl,trivial⟩ ⟨rfl,rfl,rfl,rfl,rfl,trivial⟩) ⟨h1,hst2,hr2⟩ (by show d.ws.length - (i + 1) < d.ws.length - i;omega)
    ·have hsu0:takT s rota d.ws (i + 1) = takT s rota d.ws i:=by rw [hsu,stepT,if_neg (by rw [hat];decide)]
     rw [hat]
     (conv=>whnf)
     repeat' (first | (refine ob ?_ ?_;(first | trivial | omega | (simp only [inR];omega) | exact ble (by rfl) | exact SlR.some ‹_› (by omega));(conv=>whnf)) | (first | (refine ra ‹_› (by rfl) ?_;(conv=>whnf)) | (refine rb ‹_› (by rfl) ?_;(conv=>whnf)) | (refine rc ‹_› (by rfl) ?_;(conv=>whnf)) | (refine rd ‹_› (by rfl) ?_;(conv=>whnf))) | (refine IteP.mk (fun _=>W.mk ?_) (fun _=>W.mk ?_)<;>first | (exfalso;omega) | (conv=>whnf)))
     exact RoundP.of (i + 1,m,vs) (HeadP.of [] ⟨rfl,rfl,rfl,rfl,rfl,rfl,rfl,trivial⟩ ⟨rfl,rfl,rfl,rfl,rfl,trivial⟩) ⟨h1,hst2,by show Row woE (takT s rota d.ws (i + 1)) m vs;rw [hsu0];exact hr⟩ (by show d.ws.length - (i + 1) < d.ws.length - i;omega)
   ·repeat' (first | (refine ob ?_ ?_;(first | trivial | omega | (simp only [inR];omega) | exact ble (by rfl) | exact SlR.some ‹_› (by omega));(conv=>whnf)) | (first | (refine ra ‹_› (by rfl) ?_;(conv=>whnf)) | (refine rb ‹_› (by rfl) ?_;(conv=>whnf)) | (refine rc ‹_› (by rfl) ?_;(conv=>whnf)) | (refine rd ‹_› (by rfl) ?_;(conv=>whnf))))
    have hM:x.s % s.len = lastS (takT s rota d.ws i) (x.s % s.len):=by
     have:takT s rota d.ws i = []:=List.eq_nil_of_length_eq_zero (by omega)
     rw [this];rfl
    have hls:=lastS_rng (m:=x.s % s.len) htk (Int.emod_nonneg _ (by omega)) (Int.emod_lt_of_pos _ (by omega))
    refine RelP.g (ok1 L.sitRd fun s=>s.ps.length≤1000) (x:=s) ⟨_,rfl,L.sitRd.grow hG4 hS,by show s.ps.length≤1000;omega⟩ (Grow.refl _) (fun v G5 hg5 hq5=>W.mk ?_)
    have s5:=hq5
    obtain ⟨w5,rfl,_⟩:=hq5
    (conv=>whnf)
    refine ScaP.g (ok2 L.sitRd intRd fun s _=>L.Calm s) (x:=(s,lastS (takT s rota d.ws i) (x.s % s.len))) ⟨_,_,rfl,s5,congrArg I hM,hcalm⟩ (fun v hv5=>W.mk ?_)
    subst hv5
    dsimp only
    rcases atE_cases hf hls.1 hls.2 with hat | hat
    ·have hrg:=atV_rng hat
     have hsu0:takT s rota d.ws (i + 1) = takT s rota d.ws i++[⟨x.t,lastS (takT s rota d.ws i) (x.s % s.len),rota.getD (L.atV s (lastS (takT s rota d.ws i) (x.s % s.len))).toNat 0⟩]:=by rw [hsu,stepT,if_pos hat]
     rw [hat]
     generalize L.atV s (lastS (takT s rota d.ws i) (x.s % s.len)) = av at hrg hsu0
     obtain ⟨j,rfl⟩:∃ j:Nat,av = j:=⟨av.toNat,by omega⟩
     have hj:j < rota.length:=by omega
     have hre:=(SlR.grow (G:=G3) (G':=G5) (fun _ _ h=>h) hrl (hg4.trans hg5)).el hj
     have hrj:=hrb.2 _ (List.getElem_mem hj)
     have hgd:rota.getD (j:Int).toNat 0 = rota[j]:=by simp [hj]
     rw [hgd] at hsu0
     generalize rota[j] = y at hre hrj hsu0
     have hr2:=hr.snoc ⟨x.t,lastS (takT s rota d.ws i) (x.s % s.len),y⟩
     rw [← hsu0, ← hM] at hr2
     (conv=>whnf)
     repeat' (first | (refine ob ?_ ?_;(first | trivial | omega | (simp only [inR];omega) | exact ble (by rfl) | exact SlR.some ‹_› (by omega));(conv=>whnf)) | (first | (refine ra ‹_› (by rfl) ?_;(conv=>whnf)) | (refine rb ‹_› (by rfl) ?_;(conv=>whnf)) | (refine rc ‹_› (by rfl) ?_;(conv=>whnf)) | (refine rd ‹_› (by rfl) ?_;(conv=>whnf))) | (refine IteP.mk (fun _=>W.mk ?_) (fun _=>W.mk ?_)<;>first | (exfalso;omega) | (conv=>whnf)))
     exact RoundP.of (i + 1,m + 1,_) (HeadP.of [(55,some 141)] ⟨rfl,rfl,rfl,rfl,rfl,rfl,rfl,trivial⟩ ⟨rfl,rfl,rfl,rfl,rfl,trivial⟩) ⟨h1,hst2,hr2⟩ (by show d.ws.length - (i + 1) < d.ws.length - i;omega)
    ·have hsu0:takT s rota d.ws (i + 1) = takT s rota d.ws i:=by rw [hsu,stepT,if_neg (by rw [hat];decide)]
     rw [hat]
     (conv=>whnf)
     repeat' (first | (refine ob ?_ ?_;(first | trivial | omega | (simp only [inR];omega) | exact ble (by rfl) | exact SlR.some ‹_› (by omega));(conv=>whnf)) | (first | (refine ra ‹_› (by rfl) ?_;(conv=>whnf)) | (refine rb ‹_› (by rfl) ?_;(conv=>whnf)) | (refine rc ‹_› (by rfl) ?_;(conv=>whnf)) | (refine rd ‹_› (by rfl) ?_;(conv=>whnf))) | (refine IteP.mk (fun _=>W.mk ?_) (fun _=>W.mk ?_)<;>first | (exfalso;omega) | (conv=>whnf)))
     exact RoundP.of (i + 1,m,vs) (HeadP.of [] ⟨rfl,rfl,rfl,rfl,rfl,rfl,rfl,trivial⟩ ⟨rfl,rfl,rfl,rfl,rfl,trivial⟩) ⟨h1,hst2,by show Row woE (takT s rota d.ws (i + 1)) m vs;rw [hsu0];exact hr⟩ (by show d.ws.length - (i + 1) < d.ws.length - i;omega)
  ·have hin:i = d.ws.length:=by omega
   subst hin
   have hw60:=valid_ws hv
   have hvx:=htk.valid hw60 hrb.2
   have hxl:=htk.len
   have hwd:=htk.wd
   have hfs:=thin_fine hthin
   generalize takT s rota d.ws d.ws.length = xs at hr hvx hxl hwd
   have hmn:=hr.n
   refine PubP.mk (fun xa xc G5 hg5 hp5=>W.mk ?_)
   have hx5:=hr.pub hp5 (by omega)
   (conv=>whnf)
   refine RelP.g (ok1 drRd fun d=>d.ws.length≤100000∧d.ks.length≤100000) (x:=⟨xs,[]⟩) ⟨_,rfl,⟨_,_,rfl,hx5,SlV.nil⟩,by show xs.length≤_;omega,Nat.zero_le _⟩ (Grow.refl _) (fun v G6 hg6 hq6=>W.mk ?_)
   obtain ⟨_,_,rfl,⟨_,_,_,rfl,_,_⟩,⟨_,_,_,rfl,_,_⟩⟩:=id hq6
   have hG6:=hG4.trans (hg5.trans hg6)
   (conv=>whnf)
   refine RelP.g (ok1 spsRd fun l=>l.length≤100000∧FineS l) (x:=steps) ⟨_,rfl,spsRd.grow hG6 hsr,by show steps.length≤_;omega,hfs⟩ (Grow.refl _) (fun v G7 hg7 hq7=>W.mk ?_)
   obtain ⟨_,_,_,rfl,_,_⟩:=id hq7
   (conv=>whnf)
   refine RelP.g (ok2 drRd spsRd fun _ _=>True) (x:=(⟨xs,[]⟩,steps)) ⟨_,_,rfl,drRd.grow hg7 hq6,hq7,trivial⟩ (Grow.refl _) (fun v G8 hg8 hq=>W.mk ?_)
   have hG8:=hG6.trans (hg7.trans hg8)
   unfold tracesR at hq
   dsimp only at hq
   cases hE2:endF ⟨xs,[]⟩ steps with
   | arg =>
    exfalso
    unfold endF at hE2
    rw [if_neg (by rw [hvx];decide)] at hE2
    split at hE2
    ·cases hE2
    ·split at hE2<;>cases hE2
   | limit =>
    exfalso
    unfold endF at hE2
    rw [if_neg (by rw [hvx];decide),if_neg (by omega)] at hE2
    split at hE2<;>cases hE2
   | fail kk =>
    rw [hE2] at hq
    subst hq
    (conv=>whnf)
    repeat' (refine IteP.mk (fun _=>W.mk ?_) (fun _=>W.mk ?_)<;>first | (exfalso;omega) | (conv=>whnf))
    (refine ScaP.g okU (G:=fun _=>none) (x:=()) rfl (fun v hv=>W.mk ?_);subst hv;(conv=>whnf);refine ForkP.mk (fun _=>W.mk ?_) (fun h=>by cases h);(conv=>whnf);exact FinP.mk rfl)
   | ok S =>
    rw [hE2] at hq
    obtain ⟨_,_,rfl,⟨ua,un,uc,rfl,hul,hun⟩,hlo⟩:=hq
    obtain ⟨_,_,_,rfl,_,_⟩:=hlo
    have hrch:=rch_end hE2
    have hok:∀ i (h:i < (tracesF ⟨xs,[]⟩ S).length),TrOk ⟨xs,[]⟩ (tracesF ⟨xs,[]⟩ S)[i]∧(tracesF ⟨xs,[]⟩ S)[i].rep = sortF ((tracesF ⟨xs,[]⟩ S)[i].src.map fun n=>(wordAt ⟨xs,[]⟩ n).r):=fun i h=>⟨trace_ok hvx hrch h,trace_rep h⟩
    generalize tracesF ⟨xs,[]⟩ S = trs at hul hok
    have hulen:=hul.len
    have hun2:un≤9223372036854775807:=hun
    (conv=>whnf)
    (refine IteP.mk (fun _=>W.mk ?_) (fun _=>W.mk ?_)<;>first | (exfalso;omega) | (conv=>whnf))
    refine LoopP.of { α:=Nat × Unit,fr:=fun x=>[(4, .c (.ptr 0 0)),(9, .v (.slice qa qn qc)),(11, .c (.ptr 54 0)),(16, .v (.slice ua un uc)),(19, .v (I x.1))],H:=fun x=>[(0, .cells .anon [.val (I s.len), .val (.slice a n c), .val (I s.long), .val (I s.short)] 52),(54, .cells .anon [.row 55 m, .val (.slice none 0 0)] 58),(55, .row (some (.slice xa m xc)) m vs 76 3)],ok:=fun x _=>x.1≤trs.length,m:=fun x=>trs.length - x.1 }
     (0,()) (HeadP.of [] ⟨rfl,rfl,rfl,rfl,rfl,trivial⟩ ⟨rfl,rfl,rfl,trivial⟩) (Nat.zero_le _) (fun _=>⟨rfl,rfl⟩) (fun x G9 hg9 hi2=>W.mk ?_)
    obtain ⟨i,_⟩:=x
    dsimp only at hi2
    dsimp only
    have hG9:=hG8.trans hg9
    (conv=>whnf)
    refine IteP.mk (fun hlt=>W.mk ?_) (fun hge=>W.mk ?_)<;>(conv=>whnf)
    rotate_left
    ·(refine ScaP.g okU (G:=fun _=>none) (x:=()) rfl (fun v hv=>W.mk ?_);subst hv;(conv=>whnf);refine ForkP.mk (fun _=>W.mk ?_) (fun h=>by cases h);(conv=>whnf);exact FinP.mk rfl)
    have h1:i < trs.length:=by omega
    obtain ⟨hto,htr⟩:=hok i h1
    obtain ⟨_,_,hc2,ta,tb,rfl,ht1,ht2⟩:=hul.at_ i h1
    generalize trs[i] = tr at hto htr hc2 ht1 ht2
    obtain ⟨ha,han,hac,rfl,hal,_⟩:=id ht1
    obtain ⟨hb,hbn,hbc,rfl,hbl,_⟩:=id ht2
    have halen:=hal.len
    have hblen:=hbl.len
    have hsl:=hto.len
    have hx60:xs.length≤60:=by omega
    have hsl2:tr.src.length≤xs.length:=by
     have:(tr.src.length:Int)≤(xs.length:Int):=hsl
     omega
    refine LoopP.of { α:=Nat × Nat × List Value,fr:=fun x=>[(4, .c (.ptr 0 0)),(9, .v (.slice qa qn qc)),(11, .c (.ptr 54 0)),(16, .v (.slice ua un uc)),(19, .v (I i)),(20, .c (.row 172 x.2.1)),(21, .v (I x.1))],H:=fun x=>[(0, .cells .anon [.val (I s.len), .val (.slice a n c), .val (I s.long), .val (I s.short)] 52),(54, .cells .anon [.row 55 m, .val (.slice none 0 0)] 58),(55, .row (some (.slice xa m xc)) m vs 76 3),(172, .row none x.2.1 x.2.2 3 1)],ok:=fun x _=>x.1≤tr.src.length∧Row intE ((tr.src.take x.1).map fun n=>(wordAt ⟨xs,[]⟩ n).r) x.2.1 x.2.2,m:=fun x=>tr.src.length - x.1 }
     (0,0,[]) (HeadP.of [(172,none)] ⟨rfl,rfl,rfl,rfl,rfl,rfl,rfl,trivial⟩ ⟨rfl,rfl,rfl,rfl,trivial⟩) ⟨Nat.zero_le _,Row.nil⟩ (fun _=>⟨rfl,rfl⟩) (fun x G10 hg10 hx=>W.mk ?_)
    obtain ⟨k,m2,us⟩:=x
    obtain ⟨hk,hrw⟩:=hx
    dsimp only at hk hrw
    dsimp only
    have hg810:=hg9.trans hg10
    have hG10:=hG9.trans hg10
    have hc10:CellsAt G10 _ _ _:=hc2.grow hg810
    have hrwn:=hrw.n
    rw [List.length_map,List.length_take] at hrwn
    (conv=>whnf)
    repeat' (first | (refine ob ?_ ?_;(first | trivial | omega | (simp only [inR];omega) | exact ble (by rfl) | exact SlR.some ‹_› (by omega));(conv=>whnf)) | (first | (refine ra ‹_› (by rfl) ?_;(conv=>whnf)) | (refine rb ‹_› (by rfl) ?_;(conv=>whnf)) | (refine rc ‹_› (by rfl) ?_;(conv=>whnf)) | (refine rd ‹_› (by rfl) ?_;(conv=>whnf))))
    refine IteP.mk (fun hlt2=>W.mk ?_) (fun hge2=>W.mk ?_)<;>(conv=>whnf)
    ·have h2:k < tr.src.length:=by omega
     have hsr2:=hto.rng _ (List.getElem_mem h2)
     have hce:=(SlR.grow (G:=G8) (G':=G10) (fun _ _ h=>h) hal hg810).el h2
     have htk2:tr.src.take (k + 1) = tr.src.take k++[tr.src[k]]:=by rw [List.take_add_one,List.getElem?_eq_getElem h2];rfl
     generalize tr.src[k] = y at hsr2 hce htk2
     obtain ⟨z,rfl⟩:∃ z:Nat,y = z:=⟨y.toNat,by omega⟩
     have hz:z < xs.length:=by have h3:(z:Int) < (xs.length:Int):=hsr2.2;omega
     repeat' (first | (refine ob ?_ ?_;(first | trivial | omega | (simp only [inR];omega) | exact ble (by rfl) | exact SlR.some ‹_› (by omega));(conv=>whnf)) | (first | (refine ra ‹_› (by rfl) ?_;(conv=>whnf)) | (refine rb ‹_› (by rfl) ?_;(conv=>whnf)) | (refine rc ‹_› (by rfl) ?_;(conv=>whnf)) | (refine rd ‹_› (by rfl) ?_;(conv=>whnf))) | (refine IteP.mk (fun _=>W.mk ?_) (fun _=>W.mk ?_)<;>first | (exfalso;omega) | (conv=>whnf)))
     refine RelP.g (ok1 L.sitRd fun s=>s.ps.length≤1000) (x:=s) ⟨_,rfl,L.sitRd.grow hG10 hS,by show s.ps.length≤1000;omega⟩ (Grow.refl _) (fun v G11 hg11 hq11=>W.mk ?_)
     have s11:=hq11
     obtain ⟨w11,rfl,_⟩:=hq11
     have hxz:=hwd _ (List.getElem_mem hz)
     have hwz:wordAt ⟨xs,[]⟩ (z:Int) = xs[z]:=word_at (d:=⟨xs,[]⟩) (a:=(z:Int)) (by show z < xs.length;exact hz)
     have hsub:=hr.sub hz (d:=1) (k:=1) (by decide)
     have hrg:=atV_rng hxz.2.2.2.1
     (conv=>whnf)
     repeat' (first | (refine ob ?_ ?_;(first | trivial | omega | (simp only [inR];omega) | exact ble (by rfl) | exact SlR.some ‹_› (by omega));(conv=>whnf)) | (first | (refine ra ‹_› (by rfl) ?_;(conv=>whnf)) | (refine rb ‹_› (by rfl) ?_;(conv=>whnf)) | (refine rc ‹_› (by rfl) ?_;(conv=>whnf)) | (refine rd ‹_› (by rfl) ?_;(conv=>whnf))))
     refine EqP.mk ⟨_,hsub,rfl,W.mk ?_⟩
     (conv=>whnf)
     refine ScaP.g (ok2 L.sitRd intRd fun s _=>L.Calm s) (x:=(s,xs[z].s)) ⟨_,_,rfl,s11,rfl,hcalm⟩ (fun v hv5=>W.mk ?_)
     subst hv5
     dsimp only
     rw [hxz.2.2.2.1]
     have hxr:=hxz.2.2.2.2
     generalize L.atV s xs[z].s = av at hrg hxr
     obtain ⟨j,rfl⟩:∃ j:Nat,av = j:=⟨av.toNat,by omega⟩
     have hj:j < rota.length:=by omega
     have hre:=(SlR.grow (G:=G3) (G':=G11) (fun _ _ h=>h) hrl (hg4.trans (hg5.trans (hg6.trans (hg7.trans (hg8.trans (hg810.trans hg11))))))).el hj
     have hgd:rota.getD (j:Int).toNat 0 = rota[j]:=by simp [hj]
     rw [hgd] at hxr
     have hrw2:=hrw.snoc rota[j]
     have hmap:((tr.src.take k).map fun n=>(wordAt ⟨xs,[]⟩ n).r)++[rota[j]] = (tr.src.take (k + 1)).map fun n=>(wordAt ⟨xs,[]⟩ n).r:=by
      rw [htk2,List.map_append]
      show _ = _++[(wordAt ⟨xs,[]⟩ (z:Int)).r]
      rw [hwz,hxr]
     rw [hmap] at hrw2
     generalize rota[j] = y at hre hrw2
     (conv=>whnf)
     repeat' (first | (refine ob ?_ ?_;(first | trivial | omega | (simp only [inR];omega) | exact ble (by rfl) | exact SlR.some ‹_› (by omega));(conv=>whnf)) | (first | (refine ra ‹_› (by rfl) ?_;(conv=>whnf)) | (refine rb ‹_› (by rfl) ?_;(conv=>whnf)) | (refine rc ‹_› (by rfl) ?_;(conv=>whnf)) | (refine rd ‹_› (by rfl) ?_;(conv=>whnf))) | (refine IteP.mk (fun _=>W.mk ?_) (fun _=>W.mk ?_)<;>first | (exfalso;omega) | (conv=>whnf)))
     exact RoundP.of (k + 1,m2 + 1,_) (HeadP.of [(172,some 234)] ⟨rfl,rfl,rfl,rfl,rfl,rfl,rfl,trivial⟩ ⟨rfl,rfl,rfl,rfl,trivial⟩) ⟨h2,hrw2⟩ (by show tr.src.length - (k + 1) < tr.src.length - k;omega)
    ·have hke:k = tr.src.length:=by omega
     subst hke
     rw [List.take_length] at hrw
     refine PubP.mk (fun pa pc G11 hg11 hp11=>W.mk ?_)
     have hp:=hrw.pub hp11 (by omega)
     (conv=>whnf)
     refine RelP.g (ok1 (slRd intE) fun l=>l.length≤100000) (x:=tr.src.map fun n=>(wordAt ⟨xs,[]⟩ n).r) ⟨_,rfl,hp,by show (tr.src.map _).length≤_;rw [List.length_map];omega⟩ (Grow.refl _) (fun v G12 hg12 hq12=>W.mk ?_)
     rw [← htr] at hq12
     obtain ⟨ga,gn,gc,rfl,hgl,hgn⟩:=hq12
     have hglen:=hgl.len
     have hg812:=hg810.trans (hg11.trans hg12)
     have hG12:=hG10.trans (hg11.trans hg12)
     have hc12:CellsAt G12 _ _ _:=hc2.grow hg812
     (conv=>whnf)
     repeat' (first | (refine ob ?_ ?_;(first | trivial | omega | (simp only [inR];omega) | exact ble (by rfl) | exact SlR.some ‹_› (by omega));(conv=>whnf)) | (first | (refine ra ‹_› (by rfl) ?_;(conv=>whnf)) | (refine rb ‹_› (by rfl) ?_;(conv=>whnf)) | (refine rc ‹_› (by rfl) ?_;(conv=>whnf)) | (refine rd ‹_› (by rfl) ?_;(conv=>whnf))) | (refine IteP.mk (fun _=>W.mk ?_) (fun _=>W.mk ?_)<;>first | (exfalso;omega) | (conv=>whnf)))
     refine LoopP.of { α:=Nat × Unit,fr:=fun x=>[(4, .c (.ptr 0 0)),(9, .v (.slice qa qn qc)),(11, .c (.ptr 54 0)),(16, .v (.slice ua un uc)),(19, .v (I i)),(20, .v (.slice ga gn gc)),(25, .v (I x.1))],H:=fun x=>[(0, .cells .anon [.val (I s.len), .val (.slice a n c), .val (I s.long), .val (I s.short)] 52),(54, .cells .anon [.row 55 m, .val (.slice none 0 0)] 58),(55, .row (some (.slice xa m xc)) m vs 76 3)],ok:=fun x _=>x.1≤tr.rep.length,m:=fun x=>tr.rep.length - x.1 }
      (0,()) (HeadP.of [] ⟨rfl,rfl,rfl,rfl,rfl,rfl,rfl,trivial⟩ ⟨rfl,rfl,rfl,trivial⟩) (Nat.zero_le _) (fun _=>⟨rfl,rfl⟩) (fun x G13 hg13 hq2=>W.mk ?_)
     obtain ⟨q,_⟩:=x
     dsimp only at hq2
     dsimp only
     have hg813:=hg812.trans hg13
     have hc13:CellsAt G13 _ _ _:=hc2.grow hg813
     (conv=>whnf)
     repeat' (first | (refine ob ?_ ?_;(first | trivial | omega | (simp only [inR];omega) | exact ble (by rfl) | exact SlR.some ‹_› (by omega));(conv=>whnf)) | (first | (refine ra ‹_› (by rfl) ?_;(conv=>whnf)) | (refine rb ‹_› (by rfl) ?_;(conv=>whnf)) | (refine rc ‹_› (by rfl) ?_;(conv=>whnf)) | (refine rd ‹_› (by rfl) ?_;(conv=>whnf))))
     refine IteP.mk (fun hlt3=>W.mk ?_) (fun hge3=>W.mk ?_)<;>(conv=>whnf)
     ·have h3:q < tr.rep.length:=by omega
      have r1:=(SlR.grow (G:=G12) (G':=G13) (fun _ _ h=>h) hgl hg13).el h3
      have r2:=(SlR.grow (G:=G8) (G':=G13) (fun _ _ h=>h) hbl hg813).el h3
      generalize tr.rep[q] = y at r1 r2
      repeat' (first | (refine ob ?_ ?_;(first | trivial | omega | (simp only [inR];omega) | exact ble (by rfl) | exact SlR.some ‹_› (by omega));(conv=>whnf)) | (first | (refine ra ‹_› (by rfl) ?_;(conv=>whnf)) | (refine rb ‹_› (by rfl) ?_;(conv=>whnf)) | (refine rc ‹_› (by rfl) ?_;(conv=>whnf)) | (refine rd ‹_› (by rfl) ?_;(conv=>whnf))))
      refine IteP.mk (fun _=>W.mk ?_) (fun h=>absurd rfl h)
      (conv=>whnf)
      repeat' (first | (refine ob ?_ ?_;(first | trivial | omega | (simp only [inR];omega) | exact ble (by rfl) | exact SlR.some ‹_› (by omega));(conv=>whnf)) | (first | (refine ra ‹_› (by rfl) ?_;(conv=>whnf)) | (refine rb ‹_› (by rfl) ?_;(conv=>whnf)) | (refine rc ‹_› (by rfl) ?_;(conv=>whnf)) | (refine rd ‹_› (by rfl) ?_;(conv=>whnf))))
      exact RoundP.of (q + 1,()) (HeadP.of [] ⟨rfl,rfl,rfl,rfl,rfl,rfl,rfl,trivial⟩ ⟨rfl,rfl,rfl,trivial⟩) h3 (by show tr.rep.length - (q + 1) < tr.rep.length - q;omega)
     ·repeat' (first | (refine ob ?_ ?_;(first | trivial | omega | (simp only [inR];omega) | exact ble (by rfl) | exact SlR.some ‹_› (by omega));(conv=>whnf)) | (first | (refine ra ‹_› (by rfl) ?_;(conv=>whnf)) | (refine rb ‹_› (by rfl) ?_;(conv=>whnf)) | (refine rc ‹_› (by rfl) ?_;(conv=>whnf)) | (refine rd ‹_› (by rfl) ?_;(conv=>whnf))))
      exact RoundP.of (i + 1,()) (HeadP.of [] ⟨rfl,rfl,rfl,rfl,rfl,trivial⟩ ⟨rfl,rfl,rfl,trivial⟩) h1 (by show trs.length - (i + 1) < trs.length - i;omega)

end Go.Proofs.YtefnikpoimaiiaaGreat
