/- Layer 3 (plain): what is shown; protected words stay. Layer 3 (plain): what holds of every sheet; a change that is undone at once; when all changes are undone. Layer 3 (plain): what the traces of a sheet are. Layer 3 (plain): the reference's way to the sources of an item. Layer 3: the reference: Has, of a row that is lent. Layer 3: the reference: Sorted. -/
import Derived.Test.YtefnikpoimaiiaaGreatML
import Derived.Test.YtefnikpoimaiiaaGreatMI
import Derived.Test.YtefnikpoimaiiaaGreatMK
import Derived.Test.YtefnikpoimaiiaaGreatMD
set_option linter.unusedSimpArgs false
set_option linter.unusedVariables false
namespace Go.Proofs.YtefnikpoimaiiaaGreat
open Go.Pal Go.RowKit
set_option maxRecDepth 100000
theorem play_inv {d:Dr} {I:Sh→Prop} (hI:∀ {S S':Sh} {x:Sp},PosL S→I S→stepF d S x = some S'→I S'):∀ {steps:List Sp} {S S':Sh} {i:Nat},PosL S→I S→playF d S steps i = .inr S'→I S'∧PosL S'
 | [],S,S',i,hp,h,e=>by cases e;exact ⟨h,hp⟩
 | x :: r,S,S',i,hp,h,e=>by
  simp only [playF] at e
  split at e
  ·rename_i S1 hs
   exact play_inv hI (posL_step hp hs) (hI hp h hs) e
  ·cases e
theorem posL_begin (d:Dr):PosL (beginS d):=⟨Int.le_refl _,fun n hn=>by cases hn⟩
theorem endF_ok {d:Dr} {steps:List Sp} {S:Sh} (h:endF d steps = .ok S):validF d = true∧steps.length≤80∧playF d (beginS d) steps 0 = .inr S:=by
 unfold endF at h
 split at h
 ·cases h
 ·rename_i hv
  split at h
  ·cases h
  ·split at h
   ·cases h
   ·rename_i e;cases h;exact ⟨by simpa using hv,by omega,e⟩
end Go.Proofs.YtefnikpoimaiiaaGreat

namespace Go.Proofs.YtefnikpoimaiiaaGreat
open Go.Pal Go.RowKit
set_option maxRecDepth 100000
def It.key (y:It):ByteArray × Int × Int:=(y.t,y.o,y.m)
theorem goneF_key (n:Int):∀ (ps:List Nat) (l:List It),(goneF l n ps).map It.key = l.map It.key
 | [],l=>rfl
 | p :: ps,l=>by
  have e:goneF l n (p :: ps) = goneF (l.set p { l.getD p default with g:=n }) n ps:=rfl
  rw [e,goneF_key n ps,List.map_set]
  by_cases hp:p < l.length
  ·have hgd:l.getD p default = l[p]:=by simp [hp]
   rw [hgd]
   have:(l.map It.key)[p]'(by simpa using hp) = It.key l[p]:=by simp
   show (l.map It.key).set p (It.key l[p]) = _
   rw [← this,List.set_getElem_self]
  ·rw [List.set_eq_of_length_le (by simpa using hp)]
theorem goneF_of (n:Int):∀ (ps:List Nat) (l:List It), ∀ y∈goneF l n ps, ∃ z∈l,y.key = z.key∧(y.g = z.g∨y.g = n)
 | [],l,y,hy=>⟨y,hy,rfl, .inl rfl⟩
 | p :: ps,l,y,hy=>by
  have hy:y∈goneF (l.set p { l.getD p default with g:=n }) n ps:=hy
  obtain ⟨z,hz,h1,h2⟩:=goneF_of n ps _ y hy
  by_cases hp:p < l.length
  ·rcases List.mem_or_eq_of_mem_set hz with h3 | rfl
   ·exact ⟨z,h3,h1,h2⟩
   ·have hgd:l.getD p default = l[p]:=by simp [hp]
    refine ⟨l[p],List.getElem_mem hp, ?_, .inr ?_⟩
    ·rw [h1,hgd];rfl
    ·rcases h2 with h2 | h2
     ·exact h2
     ·exact h2
  ·rw [List.set_eq_of_length_le (by omega)] at hz
   exact ⟨z,hz,h1,h2⟩
theorem backF_key (n:Int) (y:It):(backF n y).key = y.key:=by unfold backF;split<;>rfl
theorem backF_m (n:Int) (y:It):(backF n y).m = y.m:=by unfold backF;split<;>rfl
theorem key_m {y z:It} (h:y.key = z.key):y.m = z.m:=congrArg (fun k=>k.2.2) h
def baseF (l:List It):List (ByteArray × Int × Int):=(l.map It.key).filter fun k=>k.2.2 = 0
structure Rch (d:Dr) (S:Sh):Prop where
 wf:Inv d.ws.length S
 pos:PosL S
 le:∀ n∈S.live,n≤S.ch
 inc:S.live.Pairwise (· < ·)
 gl:∀ y∈S.its,y.g = 0∨y.g∈S.live
 ml:∀ y∈S.its,y.m = 0∨y.m∈S.live
 base:baseF S.its = (List.range d.ws.length).map fun (i:Nat)=>((d.ws.getD i default).t,(i:Int),0)
theorem rch_begin (d:Dr):Rch d (beginS d):=by
 refine ⟨inv_begin d,posL_begin d,fun n hn=>(by cases hn),List.Pairwise.nil,fun y hy=>?_,fun y hy=>?_, ?_⟩
 ·obtain ⟨i,hi,rfl⟩:=List.mem_map.1 hy;exact .inl rfl
 ·obtain ⟨i,hi,rfl⟩:=List.mem_map.1 hy;exact .inl rfl
 ·show ((List.map _ _).map It.key).filter _ = _
  rw [List.map_map,List.filter_eq_self.2]
  ·rfl
  ·intro k hk
   obtain ⟨i,hi,rfl⟩:=List.mem_map.1 hk
   rfl
theorem baseF_app (l r:List It):baseF (l++r) = baseF l++baseF r:=by rw [baseF,List.map_append,List.filter_append];rfl
theorem rch_step {d:Dr} {S S':Sh} {x:Sp} (h:Rch d S) (hs:stepF d S x = some S'):Rch d S':=by
 refine ⟨inv_step h.pos.1 h.wf hs,posL_step h.pos hs, ?_, ?_, ?_, ?_, ?_⟩<;>unfold stepF at hs<;>split at hs
 ·unfold changeF at hs
  split at hs
  ·cases hs
   intro n hn
   show n≤S.ch + 1
   rcases List.mem_append.1 hn with hn | hn
   ·have:=h.le n hn;omega
   ·have:n = S.ch + 1:=by simpa using hn
    omega
  ·cases hs
 ·unfold undoF at hs
  split at hs
  ·cases hs
   exact fun n hn=>h.le n (List.mem_filter.1 hn).1
  ·cases hs
 ·unfold changeF at hs
  split at hs
  ·cases hs
   refine List.pairwise_append.2 ⟨h.inc,by simp,fun a ha b hb=>?_⟩
   have:b = S.ch + 1:=by simpa using hb
   have:=h.le a ha
   omega
  ·cases hs
 ·unfold undoF at hs
  split at hs
  ·cases hs;exact h.inc.filter _
  ·cases hs
 ·unfold changeF at hs
  split at hs
  ·cases hs
   intro y hy
   show y.g = 0∨y.g∈S.live++[S.ch + 1]
   have old:y∈goneF S.its (S.ch + 1) (cutF S.its x)→y.g = 0∨y.g∈S.live++[S.ch + 1]:=fun hm=>by
    obtain ⟨z,hz,_,h2⟩:=goneF_of _ _ _ y hm
    rcases h2 with h2 | h2
    ·rw [h2];exact (h.gl z hz).imp id fun h3=>List.mem_append_left _ h3
    ·rw [h2];exact .inr (by simp)
   rcases List.mem_append.1 hy with hy | hy
   ·rcases List.mem_append.1 hy with hy | hy
    ·exact old (List.mem_of_mem_take hy)
    ·obtain ⟨t,_,rfl⟩:=List.mem_map.1 hy;exact .inl rfl
   ·exact old (List.mem_of_mem_drop hy)
  ·cases hs
 ·unfold undoF at hs
  split at hs
  ·cases hs
   intro y hy
   obtain ⟨z,hz,rfl⟩:=List.mem_map.1 hy
   show (backF x.u z).g = 0∨(backF x.u z).g∈S.live.filter (· != x.u)
   unfold backF
   split
   ·exact .inl rfl
   ·rename_i hne
    rcases h.gl z (List.mem_filter.1 hz).1 with h3 | h3
    ·exact .inl h3
    ·exact .inr (List.mem_filter.2 ⟨h3,by simpa using hne⟩)
  ·cases hs
 ·unfold changeF at hs
  split at hs
  ·cases hs
   intro y hy
   show y.m = 0∨y.m∈S.live++[S.ch + 1]
   have old:y∈goneF S.its (S.ch + 1) (cutF S.its x)→y.m = 0∨y.m∈S.live++[S.ch + 1]:=fun hm=>by
    obtain ⟨z,hz,h1,_⟩:=goneF_of _ _ _ y hm
    rw [key_m h1];exact (h.ml z hz).imp id fun h3=>List.mem_append_left _ h3
   rcases List.mem_append.1 hy with hy | hy
   ·rcases List.mem_append.1 hy with hy | hy
    ·exact old (List.mem_of_mem_take hy)
    ·obtain ⟨t,_,rfl⟩:=List.mem_map.1 hy;exact .inr (by simp)
   ·exact old (List.mem_of_mem_drop hy)
  ·cases hs
 ·unfold undoF at hs
  split at hs
  ·cases hs
   intro y hy
   obtain ⟨z,hz,rfl⟩:=List.mem_map.1 hy
   obtain ⟨hz1,hz2⟩:=List.mem_filter.1 hz
   show (backF x.u z).m = 0∨(backF x.u z).m∈S.live.filter (· != x.u)
   rw [backF_m]
   rcases h.ml z hz1 with h3 | h3
   ·exact .inl h3
   ·exact .inr (List.mem_filter.2 ⟨h3,hz2⟩)
  ·cases hs
 ·unfold changeF at hs
  split at hs
  ·cases hs
   show baseF (insF (goneF S.its (S.ch + 1) (cutF S.its x)) (placeF S.its x) (putF (S.ch + 1) x.put)) = _
   have hput:baseF (putF (S.ch + 1) x.put) = []:=by
    rw [baseF,List.filter_eq_nil_iff]
    intro k hk
    simp only [putF,List.map_map,List.mem_map,Function.comp] at hk
    obtain ⟨_,_,rfl⟩:=hk
    have:=h.pos.1
    show ¬ decide (S.ch + 1 = 0) = true
    rw [decide_eq_false (by omega)];decide
   rw [insF,baseF_app,baseF_app,hput,List.append_nil, ← baseF_app,List.take_append_drop,baseF,goneF_key]
   exact h.base
  ·cases hs
 ·unfold undoF at hs
  split at hs
  ·rename_i hu
   cases hs
   have hu1:1≤x.u:=by
    unfold undoableF at hu
    exact h.pos.2 _ (of_decide_eq_true (Bool.and_eq_true_iff.1 hu).1)
   show baseF ((S.its.filter fun y=>y.m != x.u).map (backF x.u)) = _
   rw [← h.base]
   have key:∀ l:List It,baseF ((l.filter fun y=>y.m != x.u).map (backF x.u)) = baseF l:=by
    intro l
    rw [baseF,baseF,List.map_map]
    have:(It.key ∘ backF x.u) = It.key:=funext fun y=>backF_key x.u y
    rw [this,List.filter_map,List.filter_map,List.filter_filter]
    congr 1
    apply List.filter_congr
    intro y _
    simp only [Function.comp,It.key]
    by_cases h0:y.m = 0
    ·simp [h0];omega
    ·simp [h0]
   exact key S.its
  ·cases hs
theorem rch_play {d:Dr} {steps:List Sp} {S S':Sh} {i:Nat} (h:Rch d S) (e:playF d S steps i = .inr S'):Rch d S' :=
 (play_inv (I:=Rch d) (fun _ h hs=>rch_step h hs) h.pos h e).1
theorem rch_end {d:Dr} {steps:List Sp} {S:Sh} (h:endF d steps = .ok S):Rch d S:=rch_play (rch_begin d) (endF_ok h).2.2
theorem places_g {l:List It} {p:Nat} (h:p∈placesF l):(l.getD p default).g = 0:=by
 simp only [placesF,placesN,List.mem_filter,decide_eq_true_eq] at h;exact h.2
end Go.Proofs.YtefnikpoimaiiaaGreat

namespace Go.Proofs.YtefnikpoimaiiaaGreat
open Go.Pal Go.RowKit
set_option maxRecDepth 100000
def seenAt (S:Sh) (i:Nat):It:=S.its.getD ((placesF S.its).getD i 0) default
def seenN (S:Sh):Nat:=(placesF S.its).length
theorem traces_n (d:Dr) (S:Sh):(tracesF d S).length = seenN S:=by rw [tracesF,List.length_map];rfl
theorem traces_at (d:Dr) (S:Sh) {i:Nat} (h:i < (tracesF d S).length):(tracesF d S)[i] = traceF d (ofF S.its (seenAt S i)):=by
 have h':i < (placesF S.its).length:=by rw [traces_n] at h;exact h
 have e:(placesF S.its).getD i 0 = (placesF S.its)[i]:=by rw [List.getD_eq_getElem?_getD,List.getElem?_eq_getElem h'];rfl
 rw [seenAt,e]
 simp only [tracesF,List.getElem_map]
theorem seen_mem {S:Sh} {i:Nat} (h:i < seenN S):seenAt S i∈S.its∧(seenAt S i).g = 0:=by
 have h':i < (placesF S.its).length:=h
 have e:(placesF S.its).getD i 0 = (placesF S.its)[i]:=by rw [List.getD_eq_getElem?_getD,List.getElem?_eq_getElem h'];rfl
 have hm:=List.getElem_mem h'
 rw [← e] at hm
 have hg:=places_g hm
 obtain ⟨h1,_⟩:=List.mem_filter.1 hm
 have h2:=List.mem_range.1 h1
 refine ⟨?_,hg⟩
 rw [seenAt,List.getD_eq_getElem?_getD,List.getElem?_eq_getElem h2]
 exact List.getElem_mem h2
theorem sec_step {d:Dr} (hv:validF d = true) {j:Nat} (hj:j < d.ws.length):0≤(d.ws.getD j default).s∧(0 < j→(d.ws.getD (j - 1) default).s≤(d.ws.getD j default).s):=by
 have h:=((valid_iff d).1 hv).2.1 j hj
 simp only [rWo,Bool.and_eq_true,inF,decide_eq_true_eq,Bool.not_eq_true',Bool.and_eq_false_iff,decide_eq_false_iff_not] at h
 refine ⟨h.1.1.2.1,fun h0=>?_⟩
 rcases h.2 with h2 | h2<;>omega
theorem sec_mono {d:Dr} (hv:validF d = true) (i:Nat):∀ (k:Nat),i + k < d.ws.length→(d.ws.getD i default).s≤(d.ws.getD (i + k) default).s
 | 0,_=>Int.le_refl _
 | k + 1,h=>by
  have h1:=sec_mono hv i k (by omega)
  have h2:=(sec_step hv h).2 (by omega)
  rw [show i + (k + 1) - 1 = i + k by omega] at h2
  exact Int.le_trans h1 h2
theorem word_mono {d:Dr} (hv:validF d = true) {a b:Int} (h0:0≤a) (h:a≤b) (hb:b < d.ws.length):(wordAt d a).s≤(wordAt d b).s:=by
 have:=sec_mono hv a.toNat (b.toNat - a.toNat) (by omega)
 rw [show a.toNat + (b.toNat - a.toNat) = b.toNat by omega] at this
 exact this
theorem word_at {d:Dr} {a:Int} (h:a.toNat < d.ws.length):wordAt d a = d.ws[a.toNat]:=by rw [wordAt,List.getD_eq_getElem?_getD,List.getElem?_eq_getElem h];rfl
structure TrOk (d:Dr) (t:Tr):Prop where
 rng:∀ x∈t.src,0≤x∧x < d.ws.length
 inc:t.src.Pairwise (· < ·)
 len:(t.src.length:Int)≤d.ws.length
 non:t.src.length = 0→t.f = -1∧t.l = -1∧t.rep.length = 0
 has:∀ x∈t.src,(wordAt d x).r∈t.rep
 first:∀ h:0 < t.src.length,t.f = (wordAt d t.src[0]).s
 last:∀ h:0 < t.src.length,t.l = (wordAt d (t.src[t.src.length - 1]'(by omega))).s
 le:0 < t.src.length→t.f≤t.l
 rep:t.rep.length≤t.src.length
theorem sortF_le (l:List Int):(sortF l).length≤l.length:=by
 have h:=compact_le (l.mergeSort fun x y=>decide (x≤y))
 have h2:(l.mergeSort fun x y=>decide (x≤y)).length = _:=List.length_mergeSort _
 rw [sortF]
 omega
theorem traceF_ok {d:Dr} (hv:validF d = true) {src:List Int} (hm:∀ x∈src,0≤x∧x < d.ws.length) (hp:src.Pairwise (· < ·)):TrOk d (traceF d src):=by
 have hf:∀ h:0 < src.length,fstN d src src.length = (wordAt d src[0]).s:=fun h=>by
  rw [fstN,if_neg (by omega),List.getD_eq_getElem?_getD,List.getElem?_eq_getElem h];rfl
 have hl:∀ h:0 < src.length,lstN d src src.length = (wordAt d (src[src.length - 1]'(by omega))).s:=fun h=>by
  rw [lstN,if_neg (by omega),List.getD_eq_getElem?_getD,List.getElem?_eq_getElem (by omega)];rfl
 refine ⟨hm,hp, ?_,fun h=>?_,fun x hx=>?_,hf,hl,fun h=>?_, ?_⟩
 ·have:=incr_len hp (fun x hx=>hm x hx) (a:=0) (N:=d.ws.length) (by omega)
  show (src.length:Int)≤_
  omega
 ·have:src = []:=List.eq_nil_of_length_eq_zero h
  subst this
  exact ⟨rfl,rfl,Nat.le_zero.1 (sortF_le [])⟩
 ·show (wordAt d x).r∈sortF (repN d src src.length)
  rw [sortF_mem,repN,List.take_length]
  exact List.mem_map_of_mem (f:=fun n=>(wordAt d n).r) hx
 ·show fstN d src src.length≤lstN d src src.length
  have h:0 < src.length:=h
  rw [hf h,hl h]
  have h2:=hm _ (List.getElem_mem (l:=src) (n:=src.length - 1) (by omega))
  have h1:=hm _ (List.getElem_mem h)
  refine word_mono hv h1.1 ?_ h2.2
  by_cases h3:src.length = 1
  ·have:∀ k (hk:k < src.length),k = 0→src[0]≤src[k]:=fun k hk e=>by subst e;exact Int.le_refl _
   exact this _ (by omega) (by omega)
  ·exact Int.le_of_lt (List.pairwise_iff_getElem.1 hp 0 (src.length - 1) h (by omega) (by omega))
 ·have:=sortF_le (repN d src src.length)
  have h2:(repN d src src.length).length = src.length:=by simp [repN]
  show (sortF _).length≤src.length
  omega
theorem src_mem {d:Dr} {S:Sh} (hr:Rch d S) {i:Nat} (h:i < seenN S):∀ x∈ofF S.its (seenAt S i),0≤x∧x < d.ws.length :=
 ofF_mem (Inv.wf hr.wf) (Inv.wf hr.wf _ (seen_mem h).1)
theorem ofF_lt {N:Nat} {L:List It} (hw:WfL N L) {y:It} (hy:WfI N y):(ofF L y).Pairwise (· < ·):=by
 unfold ofF
 split
 ·simp
 ·rename_i ho
  rcases hy with h | h
  ·exact absurd h.1 ho
  ·rw [grpF_eq hw h.2.1];exact sortF_lt _
theorem trace_ok {d:Dr} {S:Sh} (hv:validF d = true) (hr:Rch d S) {i:Nat} (h:i < (tracesF d S).length):TrOk d (tracesF d S)[i]:=by
 have h1:i < seenN S:=by rw [traces_n] at h;exact h
 rw [traces_at d S h]
 exact traceF_ok hv (src_mem hr h1) (ofF_lt (Inv.wf hr.wf) (Inv.wf hr.wf _ (seen_mem h1).1))
end Go.Proofs.YtefnikpoimaiiaaGreat

namespace Go.Proofs.YtefnikpoimaiiaaGreat
open Go.Pal Go.RowKit
set_option maxRecDepth 100000
end Go.Proofs.YtefnikpoimaiiaaGreat

namespace Go.Proofs.YtefnikpoimaiiaaGreat
open Go.Pal Go.RowKit
set_option maxRecDepth 100000
def hasL (q:List Int):PSpec:=.st (fun args ls _=>∃ b n cap vs rest x,args = [.slice (some ⟨b,0,none⟩) n cap,I x]∧ls = [⟨b,false, .row n n cap vs rest 3 1⟩]∧Row intE q n vs) fun args _ v ns _=>ns = []∧∃ a x,args = [a,I x]∧v = .bool (decide (x∈q))
theorem has24l (q:List Int) (hb:q.length≤100000):Sound Tryz.prog 62 id (hasL q):=by
 refine ⟨fun args ls v ns G G' hg h=>h,fun args ls G Wd hsub hls hnd hpre=>?_⟩
 obtain ⟨b,n,cap,vs,rest,x,rfl,rfl,hr⟩:=hpre
 have hone:=(hls _ (List.mem_singleton.2 rfl)).2.2
 obtain ⟨z1,z2,z3,z4,z5,z6⟩:=id hone
 have hn:=hr.n
 have hvl:vs.length = n:=by rw [hr.len];exact Nat.mul_one _
 refine st_sound (Tab.nil _) comp24b (svs:=[.c (.row 0 n), .v (I x)]) (obs:=[.xrow b n cap vs rest 3 1]) (by simp) hsub hls hnd (Nat.le_refl _) ?_ ?_ ?_
 ·exact ⟨⟨rfl,_,_,rfl⟩,(Nat.le_of_ble_eq_true rfl:0 < 1),rfl,trivial,trivial⟩
 ·exact ⟨rfl,trivial⟩
 ·have fin:∀ {bb:Bool},decide (x∈q) = bb→([]:List LB) = []∧∃ a x',[Value.slice (some ⟨b,0,none⟩) n cap,I x] = [a,I x']∧Value.bool bb = .bool (decide (x'∈q)):=fun h=>⟨rfl,_,_,rfl,by rw [h]⟩
  (conv=>whnf)
  refine LoopP.of { α:=Nat,fr:=fun y=>[(0, .c (.row 0 n)),(1, .v (I x)),(5, .v (I y))],H:=fun _=>[(0, .xrow b n cap vs rest 3 1)],ok:=fun i _=>i≤q.length∧(x∈q↔x∈q.drop i),m:=fun y=>q.length - y }
   0 (HeadP.of [] ⟨rfl,rfl,rfl,trivial⟩ ⟨rfl,trivial⟩) ⟨Nat.zero_le _,Iff.rfl⟩ (fun _=>⟨rfl,rfl⟩) (fun (i:Nat) G2 hg2 hx=>W.mk ?_)
  obtain ⟨hi,hx⟩:=hx
  dsimp only
  (conv=>whnf)
  refine IteP.mk (fun hlt=>W.mk ?_) (fun hge=>W.mk ?_)<;>(conv=>whnf)
  ·have h1:i < q.length:=by omega
   rw [List.drop_eq_getElem_cons h1,List.mem_cons] at hx
   repeat' (refine ob ?_ ?_;(first | trivial | omega | (simp only [inR];omega) | exact ble (by rfl) | exact SlR.some ‹_› (by omega));(conv=>whnf))
   refine EqP.row hr h1 (W.mk ?_)
   generalize q[i] = z at hx
   (conv=>whnf)
   refine IteP.mk (fun hq=>W.mk ?_) (fun hq=>W.mk ?_)<;>(conv=>whnf)
   ·exact FinS.mk ⟨[],⟨.row n n cap vs rest 3 1,⟨rfl,Nat.le_refl _⟩,⟨rfl,rfl,rfl,rfl,rfl⟩,rfl,rfl⟩,fin (decide_eq_true (hx.2 (.inl hq.symm)))⟩
   ·repeat' (refine ob ?_ ?_;(first | trivial | omega | (simp only [inR];omega) | exact ble (by rfl) | exact SlR.some ‹_› (by omega));(conv=>whnf))
    exact RoundP.of (i + 1) (HeadP.of [] ⟨rfl,rfl,rfl,trivial⟩ ⟨rfl,trivial⟩) ⟨h1,hx.trans ⟨fun h=>h.resolve_left fun e=>hq e.symm, .inr⟩⟩ (by show q.length - (i + 1) < q.length - i;omega)
  ·exact FinS.mk ⟨[],⟨.row n n cap vs rest 3 1,⟨rfl,Nat.le_refl _⟩,⟨rfl,rfl,rfl,rfl,rfl⟩,rfl,rfl⟩,fin (decide_eq_false (fun h=>by have:=hx.1 h;rw [List.drop_of_length_le (by omega)] at this;cases this))⟩
end Go.Proofs.YtefnikpoimaiiaaGreat

namespace Go.Proofs.YtefnikpoimaiiaaGreat
open Go.Pal Go.RowKit
set_option maxRecDepth 100000
def atK (q:List Int) (x:Int) (k:Nat):List Int:=q.take k++x :: q.drop k
theorem atK_len (q:List Int) (x:Int) (k:Nat):(atK q x k).length = q.length + 1:=by
 rw [atK,List.length_append,List.length_cons,List.length_take,List.length_drop];omega
theorem atK_at {q:List Int} {x:Int} {k:Nat} (h:k≤q.length) (h2:k < (atK q x k).length):(atK q x k)[k] = x:=by
 have hl:(q.take k).length = k:=by rw [List.length_take];omega
 simp only [atK]
 rw [List.getElem_append_right (by omega)]
 simp [hl]
theorem atK_lt {q:List Int} {x:Int} {k i:Nat} (h:k≤q.length) (hi:i < k) (h2:i < (atK q x k).length):(atK q x k)[i] = q[i]'(by omega):=by
 have hl:(q.take k).length = k:=by rw [List.length_take];omega
 simp only [atK]
 rw [List.getElem_append_left (by omega),List.getElem_take]
theorem atK_step {q:List Int} {x:Int} {k:Nat} (h:k + 1≤q.length):((atK q x (k + 1)).set (k + 1) (q[k]'(by omega))).set k x = atK q x k:=by
 have hl:(q.take k).length = k:=by rw [List.length_take];omega
 have e1:atK q x (k + 1) = q.take k++q[k]'(by omega) :: x :: q.drop (k + 1):=by
  rw [atK,List.take_add_one,List.getElem?_eq_getElem (show k < q.length by omega),Option.toList_some,List.append_assoc];rfl
 have e2:atK q x k = q.take k++x :: q[k]'(by omega) :: q.drop (k + 1):=by
  rw [atK,List.drop_eq_getElem_cons (show k < q.length by omega)]
 rw [e1,e2,List.set_append_right _ _ (by omega),List.set_append_right _ _ (by omega),hl]
 simp [show k + 1 - k = 1 by omega]
theorem atK_mem {q:List Int} {x y:Int} {k:Nat}:y∈atK q x k↔y = x∨y∈q:=by
 have h:y∈q↔y∈q.take k∨y∈q.drop k:=by
  rw [← List.mem_append,List.take_append_drop]
 rw [atK,List.mem_append,List.mem_cons,h]
 constructor
 ·rintro (h1 | h1 | h1)
  ·exact .inr (.inl h1)
  ·exact .inl h1
  ·exact .inr (.inr h1)
 ·rintro (h1 | h1 | h1)
  ·exact .inr (.inl h1)
  ·exact .inl h1
  ·exact .inr (.inr h1)
theorem atK_lt_all {q:List Int} {x:Int} {k:Nat} (hk:k≤q.length) (hp:q.Pairwise (· < ·)) (hx:x ∉ q) (hd:∀ y∈q.drop k,x < y) (hl:∀ h:0 < k,q[k - 1]'(by omega)≤x):(atK q x k).Pairwise (· < ·):=by
 have htd:=hp
 rw [← List.take_append_drop k q] at htd
 obtain ⟨p1,p2,p3⟩:=List.pairwise_append.1 htd
 have hlt:∀ y∈q.take k,y < x:=fun y hy=>by
  obtain ⟨i,hi,rfl⟩:=List.mem_iff_getElem.1 hy
  rw [List.length_take] at hi
  rw [List.getElem_take]
  have h1:=hl (by omega)
  have h2:q[i]≤q[k - 1]:=by
   by_cases e:i = k - 1
   ·subst e;exact Int.le_refl _
   ·exact Int.le_of_lt (List.pairwise_iff_getElem.1 hp i (k - 1) (by omega) (by omega) (by omega))
  have h3:q[i]≠x:=fun e=>hx (e ▸ List.getElem_mem _)
  omega
 refine List.pairwise_append.2 ⟨p1,List.pairwise_cons.2 ⟨hd,p2⟩,fun a ha b hb=>?_⟩
 rcases List.mem_cons.1 hb with rfl | hb
 ·exact hlt a ha
 ·exact p3 a ha b hb
def soV:Nat→SV
 | 0=>.v (.slice none 0 0)
 | k + 1=>.c (.row 1 (k + 1))
def soH:Nat→List Value→List (Nat × OB)
 | 0,_=>[]
 | k + 1,vs=>[(1, .row none (k + 1) vs 3 1)]
theorem row_oneI {q:List Int} {n:Nat} {vs:List Value} (h:Row intE q n vs):∀ v∈vs,v.oneCell' = true:=fun v hv=>by
 rw [h.vs] at hv
 obtain ⟨l,hl,hv⟩:=List.mem_flatten.1 hv
 obtain ⟨x,_,rfl⟩:=List.mem_map.1 hl
 have:v = I x:=by simpa [intE] using hv
 rw [this];rfl
set_option maxHeartbeats 4000000 in
theorem sorted52:Sound Tryz.prog 28 id (grel (args1 (slRd intE) fun l=>l.length≤100000) fun l v G=>SlV intE G v (sortF l)):=by
 refine comp52.grel (Tab.nil _) (ok1 _ _) (fun args G s h=>?_) (fun x v G G' hg h=>h.grow hg) (fun args G l h=>?_)
 ·obtain ⟨v,rfl,_⟩:=h;simp
 ·obtain ⟨v,rfl,⟨a,n,c,rfl,hl,hn⟩,hb⟩:=h
  have hlen:=hl.len
  (conv=>whnf)
  refine LoopP.of { α:=Nat × Nat × List Int × List Value,fr:=fun x=>[(0, .v (.slice a n c)),(3,soV x.2.1),(4, .v (I x.1))],H:=fun x=>soH x.2.1 x.2.2.2,ok:=fun x _=>x.1≤l.length∧Row intE x.2.2.1 x.2.1 x.2.2.2∧x.2.2.1.Pairwise (· < ·)∧(∀ z,z∈x.2.2.1↔z∈l.take x.1)∧x.2.1≤x.1,m:=fun x=>l.length - x.1 }
   (0,0,[],[]) (HeadP.of [] ⟨rfl,rfl,rfl,trivial⟩ trivial) ⟨Nat.zero_le _,Row.nil,List.Pairwise.nil,fun z=>Iff.rfl,Nat.zero_le _⟩ (fun y=>⟨(by obtain ⟨_,k,_⟩:=y;cases k<;>rfl),(by obtain ⟨_,k,_⟩:=y;cases k<;>rfl)⟩) (fun x G1 hg1 hx=>W.mk ?_)
  obtain ⟨i,m,q,vs⟩:=x
  obtain ⟨hi,hrow,hinc,hmem,hmi⟩:=hx
  dsimp only at hi hrow hinc hmem hmi
  have hl1:=SlR.grow (G:=G) (G':=G1) (fun _ _ h=>h) hl hg1
  have hqn:=hrow.n
  cases m with
  | zero =>
   dsimp only [soV,soH]
   have hqq:q = []:=List.eq_nil_of_length_eq_zero hqn.symm
   obtain rfl:vs = []:=by rw [hrow.vs,hqq];rfl
   (conv=>whnf)
   refine IteP.mk (fun hlt=>W.mk ?_) (fun hge=>W.mk ?_)<;>(conv=>whnf)
   ·have h1:i < l.length:=by omega
    have hce:=hl1.el h1
    have htk:∀ z,z∈l.take (i + 1)↔z∈l.take i∨z = l[i]:=fun z=>by
     rw [List.take_add_one,List.getElem?_eq_getElem h1,List.mem_append];simp
    generalize l[i] = x at hce htk
    repeat' (first | (refine ob ?_ ?_;(first | trivial | omega | (simp only [inR];omega) | exact ble (by rfl) | exact SlR.some ‹_› (by omega));(conv=>whnf)) | (first | (refine ra ‹_› (by rfl) ?_;(conv=>whnf)) | (refine rb ‹_› (by rfl) ?_;(conv=>whnf)) | (refine rc ‹_› (by rfl) ?_;(conv=>whnf)) | (refine rd ‹_› (by rfl) ?_;(conv=>whnf))))
    refine CallN.mk ⟨_,has24,body24,W.mk ?_⟩
    (conv=>whnf)
    refine ScaP.g (ok2 (slRd intE) intRd fun _ _=>True) (x:=(([]:List Int),x)) ⟨_,_,rfl,SlV.nil,rfl,trivial⟩ (fun v hv=>W.mk ?_)
    subst hv
    dsimp only
    (conv=>whnf)
    refine ForkP.mk (fun h=>by simp at h) (fun _=>W.mk ?_)
    (conv=>whnf)
    repeat' (first | (refine ob ?_ ?_;(first | trivial | omega | (simp only [inR];omega) | exact ble (by rfl) | exact SlR.some ‹_› (by omega));(conv=>whnf)) | (first | (refine ra ‹_› (by rfl) ?_;(conv=>whnf)) | (refine rb ‹_› (by rfl) ?_;(conv=>whnf)) | (refine rc ‹_› (by rfl) ?_;(conv=>whnf)) | (refine rd ‹_› (by rfl) ?_;(conv=>whnf))))
    have hxq:x ∉ q:=by rw [hqq];simp
    have hr0:Row intE (atK q x (((1:Nat):Int) - 1).toNat) 1 [I x]:=by
     rw [show (((1:Nat):Int) - 1).toNat = q.length by omega,atK,List.take_length,List.drop_of_length_le (Nat.le_refl _)]
     exact hrow.snoc x
    refine LoopP.of { α:=Int × List Value,fr:=fun y=>[(0, .v (.slice a n c)),(3, .c (.row 1 1)),(4, .v (I i)),(5, .v (I y.1))],H:=fun y=>[(1, .row none 1 y.2 3 1)],ok:=fun y _=>0≤y.1∧y.1≤q.length∧Row intE (atK q x y.1.toNat) 1 y.2∧∀ z∈q.drop y.1.toNat,x < z,m:=fun y=>y.1.toNat }
     (((1:Nat):Int) - 1,[I x]) (HeadP.of [(1,some 19)] ⟨rfl,rfl,rfl,rfl,trivial⟩ ⟨rfl,trivial⟩) ⟨by show 0≤((1:Nat):Int) - 1;omega,by show ((1:Nat):Int) - 1≤(q.length:Int);omega,hr0,fun z hz=>by dsimp only at hz;rw [show (((1:Nat):Int) - 1).toNat = q.length by omega,List.drop_of_length_le (Nat.le_refl _)] at hz;cases hz⟩ (fun _=>⟨rfl,rfl⟩) (fun y G2 hg2 hy=>W.mk ?_)
    obtain ⟨k,ws⟩:=y
    obtain ⟨hk0,hk1,hr,hdr⟩:=hy
    dsimp only at hk0 hk1 hr hdr
    have hkn:k.toNat < (atK q x k.toNat).length:=by rw [atK_len];omega
    have hwl:ws.length = 1:=by rw [hr.len];exact Nat.mul_one _
    have hrn:=hr.n
    rw [atK_len] at hrn
    dsimp only
    (conv=>whnf)
    repeat' (first | (refine ob ?_ ?_;(first | trivial | omega | (simp only [inR];omega) | exact ble (by rfl) | exact SlR.some ‹_› (by omega));(conv=>whnf)) | (first | (refine ra ‹_› (by rfl) ?_;(conv=>whnf)) | (refine rb ‹_› (by rfl) ?_;(conv=>whnf)) | (refine rc ‹_› (by rfl) ?_;(conv=>whnf)) | (refine rd ‹_› (by rfl) ?_;(conv=>whnf))))
    refine IteP.mk (fun hk=>W.mk ?_) (fun hk=>W.mk ?_)<;>(conv=>whnf)
    ·have hk2:(k - 1).toNat < (atK q x k.toNat).length:=by rw [atK_len];omega
     have ea:=atK_at (q:=q) (x:=x) (by omega) hkn
     have eb:=atK_lt (q:=q) (x:=x) (i:=(k - 1).toNat) (by omega) (by omega) hk2
     obtain ⟨z,hz⟩:∃ z,z = q[(k - 1).toNat]'(by omega):=⟨_,rfl⟩
     rw [← hz] at eb
     repeat' (first | (refine ob ?_ ?_;(first | trivial | omega | (simp only [inR];omega) | exact ble (by rfl) | exact SlR.some ‹_› (by omega));(conv=>whnf)) | (first | (refine ra ‹_› (by rfl) ?_;(conv=>whnf)) | (refine rb ‹_› (by rfl) ?_;(conv=>whnf)) | (refine rc ‹_› (by rfl) ?_;(conv=>whnf)) | (refine rd ‹_› (by rfl) ?_;(conv=>whnf))))
     refine EqP.row hr hkn (W.mk ?_)
     rw [ea]
     (conv=>whnf)
     repeat' (refine ob ?_ ?_;(first | trivial | omega | (simp only [inR];omega) | exact ble (by rfl) | exact SlR.some ‹_› (by omega));(conv=>whnf))
     refine EqP.row hr hk2 (W.mk ?_)
     rw [eb]
     (conv=>whnf)
     refine IteP.mk (fun hxz=>W.mk ?_) (fun hxz=>W.mk ?_)<;>(conv=>whnf)
     ·repeat' (refine ob ?_ ?_;(first | trivial | omega | (simp only [inR];omega) | exact ble (by rfl) | exact SlR.some ‹_› (by omega));(conv=>whnf))
      refine EqP.row hr hk2 (W.mk ?_)
      rw [eb]
      (conv=>whnf)
      repeat' (refine ob ?_ ?_;(first | trivial | omega | (simp only [inR];omega) | exact ble (by rfl) | exact SlR.some ‹_› (by omega));(conv=>whnf))
      refine EqP.row hr hkn (W.mk ?_)
      rw [ea]
      (conv=>whnf)
      have hs1:=Row.setAt hr (i:=k.toNat) (us:=[I z]) (d:=0) (m:=1) (x:=z) hkn (by decide) rfl
      have hl2:(ws.take (k.toNat * 1)++[I z]++ws.drop (k.toNat * 1 + 1)).length = 1:=hs1.len.trans (Nat.mul_one _)
      repeat' (first | (refine ob ?_ ?_;(first | trivial | omega | (simp only [inR];omega) | exact ble (by rfl) | exact SlR.some ‹_› (by omega));(conv=>whnf)) | (refine OblP.mk (by rw [hl2];omega) (W.mk ?_);(conv=>whnf)))
      have hs2:=Row.setAt hs1 (i:=(k - 1).toNat) (us:=[I x]) (d:=0) (m:=1) (x:=x) (by rw [List.length_set];exact hk2) (by decide) rfl
      have est:((atK q x k.toNat).set k.toNat z).set (k - 1).toNat x = atK q x (k - 1).toNat:=by
       have:=atK_step (q:=q) (x:=x) (k:=(k - 1).toNat) (by omega)
       rw [← hz,show (k - 1).toNat + 1 = k.toNat by omega] at this
       exact this
      rw [est] at hs2
      refine RoundP.of (k - 1,_) (HeadP.of [] ⟨rfl,rfl,rfl,rfl,trivial⟩ ⟨rfl,trivial⟩) ⟨by show 0≤k - 1;omega,by show k - 1≤_;omega,hs2,fun y hy=>?_⟩ (by show (k - 1).toNat < k.toNat;omega)
      have hy:y∈q.drop (k - 1).toNat:=hy
      rw [List.drop_eq_getElem_cons (show (k - 1).toNat < q.length by omega), ← hz,show (k - 1).toNat + 1 = k.toNat by omega] at hy
      rcases List.mem_cons.1 hy with rfl | hy
      ·exact hxz
      ·exact hdr y hy
     ·have hfin:=atK_lt_all (q:=q) (x:=x) (k:=k.toNat) (by omega) hinc hxq hdr (fun h=>by
       have e:q[k.toNat - 1]'(by omega) = z:=by rw [hz];congr 1;omega
       omega)
      repeat' (first | (refine ob ?_ ?_;(first | trivial | omega | (simp only [inR];omega) | exact ble (by rfl) | exact SlR.some ‹_› (by omega));(conv=>whnf)) | (first | (refine ra ‹_› (by rfl) ?_;(conv=>whnf)) | (refine rb ‹_› (by rfl) ?_;(conv=>whnf)) | (refine rc ‹_› (by rfl) ?_;(conv=>whnf)) | (refine rd ‹_› (by rfl) ?_;(conv=>whnf))))
      exact RoundP.of (i + 1,1,atK q x k.toNat,ws) (HeadP.of [] ⟨rfl,rfl,rfl,trivial⟩ ⟨rfl,trivial⟩) ⟨h1,hr,hfin,fun z=>by rw [atK_mem,htk z, ← hmem z];exact Or.comm,by show 1≤i + 1;omega⟩ (by show l.length - (i + 1) < l.length - i;omega)
    ·have hfin:=atK_lt_all (q:=q) (x:=x) (k:=k.toNat) (by omega) hinc hxq hdr (fun h=>by omega)
     repeat' (first | (refine ob ?_ ?_;(first | trivial | omega | (simp only [inR];omega) | exact ble (by rfl) | exact SlR.some ‹_› (by omega));(conv=>whnf)) | (first | (refine ra ‹_› (by rfl) ?_;(conv=>whnf)) | (refine rb ‹_› (by rfl) ?_;(conv=>whnf)) | (refine rc ‹_› (by rfl) ?_;(conv=>whnf)) | (refine rd ‹_› (by rfl) ?_;(conv=>whnf))))
     exact RoundP.of (i + 1,1,atK q x k.toNat,ws) (HeadP.of [] ⟨rfl,rfl,rfl,trivial⟩ ⟨rfl,trivial⟩) ⟨h1,hr,hfin,fun z=>by rw [atK_mem,htk z, ← hmem z];exact Or.comm,by show 1≤i + 1;omega⟩ (by show l.length - (i + 1) < l.length - i;omega)
   ·have hie:i = l.length:=by omega
    rw [hie,List.take_length] at hmem
    have hq:sortF l = q:=incr_uniq (sortF_lt l) hinc fun z=>by rw [sortF_mem,hmem z]
    exact FinP.mk (by rw [hq,hqq];exact SlV.nil)
  | succ m =>
   dsimp only [soV,soH]
   (conv=>whnf)
   refine IteP.mk (fun hlt=>W.mk ?_) (fun hge=>W.mk ?_)<;>(conv=>whnf)
   ·have h1:i < l.length:=by omega
    have hce:=hl1.el h1
    have htk:∀ z,z∈l.take (i + 1)↔z∈l.take i∨z = l[i]:=fun z=>by
     rw [List.take_add_one,List.getElem?_eq_getElem h1,List.mem_append];simp
    generalize l[i] = x at hce htk
    repeat' (first | (refine ob ?_ ?_;(first | trivial | omega | (simp only [inR];omega) | exact ble (by rfl) | exact SlR.some ‹_› (by omega));(conv=>whnf)) | (first | (refine ra ‹_› (by rfl) ?_;(conv=>whnf)) | (refine rb ‹_› (by rfl) ?_;(conv=>whnf)) | (refine rc ‹_› (by rfl) ?_;(conv=>whnf)) | (refine rd ‹_› (by rfl) ?_;(conv=>whnf))))
    refine PubP.opn (Nat.succ_ne_zero m) (fun b cap rest g1 g2 g3=>W.mk ?_)
    (conv=>whnf)
    refine CallN.mk ⟨_,has24l q (by omega),body24,W.mk ?_⟩
    (conv=>whnf)
    refine StP.mk ⟨[(1,⟨b,false, .row (m + 1) (m + 1) cap vs rest 3 1⟩)],⟨⟨_,_,rfl,rfl,Nat.le_refl _,hrow.len,g3,g1,g2,row_oneI hrow⟩,trivial⟩,by simp,⟨b,_,cap,_,rest,x,rfl,rfl,hrow⟩,fun v ns G2 hg2 hpost=>W.mk ?_⟩
    obtain ⟨rfl,_,x',hxe,rfl⟩:=hpost
    simp only [List.cons.injEq,Value.int.injEq,true_and,and_true] at hxe
    obtain ⟨_,rfl⟩:=hxe
    replace hce:=CellsAt.grow hg2 hce
    (conv=>whnf)
    refine ForkP.mk (fun hin=>W.mk ?_) (fun hin=>W.mk ?_)<;>(conv=>whnf)
    ·have hin:=of_decide_eq_true hin
     repeat' (first | (refine ForgP.drop (W.mk ?_);(conv=>whnf)) | (refine ob ?_ ?_;(first | trivial | omega | (simp only [inR];omega) | exact ble (by rfl) | exact SlR.some ‹_› (by omega));(conv=>whnf)) | (first | (refine ra ‹_› (by rfl) ?_;(conv=>whnf)) | (refine rb ‹_› (by rfl) ?_;(conv=>whnf)) | (refine rc ‹_› (by rfl) ?_;(conv=>whnf)) | (refine rd ‹_› (by rfl) ?_;(conv=>whnf))))
     exact RoundP.of (i + 1,m + 1,q,vs) (HeadP.of [] ⟨rfl,rfl,rfl,trivial⟩ ⟨rfl,trivial⟩) ⟨h1,hrow,hinc,fun z=>by rw [htk z, ← hmem z];exact ⟨.inl,fun h=>h.elim id fun e=>e ▸ hin⟩,by show m + 1≤i + 1;omega⟩ (by show l.length - (i + 1) < l.length - i;omega)
    ·have hxq:=of_decide_eq_false hin
     repeat' (first | (refine ForgP.drop (W.mk ?_);(conv=>whnf)) | (refine OblP.mk rfl (W.mk ?_);(conv=>whnf)) | (refine ob ?_ ?_;(first | trivial | omega | (simp only [inR];omega) | exact ble (by rfl) | exact SlR.some ‹_› (by omega));(conv=>whnf)) | (first | (refine ra ‹_› (by rfl) ?_;(conv=>whnf)) | (refine rb ‹_› (by rfl) ?_;(conv=>whnf)) | (refine rc ‹_› (by rfl) ?_;(conv=>whnf)) | (refine rd ‹_› (by rfl) ?_;(conv=>whnf))))
     have hr0:Row intE (atK q x (((m + 1 + 1:Nat):Int) - 1).toNat) (m + 1 + 1) (vs++[I x]):=by
      rw [show (((m + 1 + 1:Nat):Int) - 1).toNat = q.length by omega,atK,List.take_length,List.drop_of_length_le (Nat.le_refl _)]
      exact hrow.snoc x
     refine LoopP.of { α:=Int × List Value,fr:=fun y=>[(0, .v (.slice a n c)),(3, .c (.row 1 (m + 1 + 1))),(4, .v (I i)),(5, .v (I y.1))],H:=fun y=>[(1, .row none (m + 1 + 1) y.2 3 1)],ok:=fun y _=>0≤y.1∧y.1≤q.length∧Row intE (atK q x y.1.toNat) (m + 1 + 1) y.2∧∀ z∈q.drop y.1.toNat,x < z,m:=fun y=>y.1.toNat }
      (((m + 1 + 1:Nat):Int) - 1,(vs++[I x])) (HeadP.of [(1,some 19)] ⟨rfl,rfl,rfl,rfl,trivial⟩ ⟨rfl,trivial⟩) ⟨by show 0≤((m + 1 + 1:Nat):Int) - 1;omega,by show ((m + 1 + 1:Nat):Int) - 1≤(q.length:Int);omega,hr0,fun z hz=>by dsimp only at hz;rw [show (((m + 1 + 1:Nat):Int) - 1).toNat = q.length by omega,List.drop_of_length_le (Nat.le_refl _)] at hz;cases hz⟩ (fun _=>⟨rfl,rfl⟩) (fun y G2 hg2 hy=>W.mk ?_)
     obtain ⟨k,ws⟩:=y
     obtain ⟨hk0,hk1,hr,hdr⟩:=hy
     dsimp only at hk0 hk1 hr hdr
     have hkn:k.toNat < (atK q x k.toNat).length:=by rw [atK_len];omega
     have hwl:ws.length = (m + 1 + 1):=by rw [hr.len];exact Nat.mul_one _
     have hrn:=hr.n
     rw [atK_len] at hrn
     dsimp only
     (conv=>whnf)
     repeat' (first | (refine ob ?_ ?_;(first | trivial | omega | (simp only [inR];omega) | exact ble (by rfl) | exact SlR.some ‹_› (by omega));(conv=>whnf)) | (first | (refine ra ‹_› (by rfl) ?_;(conv=>whnf)) | (refine rb ‹_› (by rfl) ?_;(conv=>whnf)) | (refine rc ‹_› (by rfl) ?_;(conv=>whnf)) | (refine rd ‹_› (by rfl) ?_;(conv=>whnf))))
     refine IteP.mk (fun hk=>W.mk ?_) (fun hk=>W.mk ?_)<;>(conv=>whnf)
     ·have hk2:(k - 1).toNat < (atK q x k.toNat).length:=by rw [atK_len];omega
      have ea:=atK_at (q:=q) (x:=x) (by omega) hkn
      have eb:=atK_lt (q:=q) (x:=x) (i:=(k - 1).toNat) (by omega) (by omega) hk2
      obtain ⟨z,hz⟩:∃ z,z = q[(k - 1).toNat]'(by omega):=⟨_,rfl⟩
      rw [← hz] at eb
      repeat' (first | (refine ob ?_ ?_;(first | trivial | omega | (simp only [inR];omega) | exact ble (by rfl) | exact SlR.some ‹_› (by omega));(conv=>whnf)) | (first | (refine ra ‹_› (by rfl) ?_;(conv=>whnf)) | (refine rb ‹_› (by rfl) ?_;(conv=>whnf)) | (refine rc ‹_› (by rfl) ?_;(conv=>whnf)) | (refine rd ‹_› (by rfl) ?_;(conv=>whnf))))
      refine EqP.row hr hkn (W.mk ?_)
      rw [ea]
      (conv=>whnf)
      repeat' (refine ob ?_ ?_;(first | trivial | omega | (simp only [inR];omega) | exact ble (by rfl) | exact SlR.some ‹_› (by omega));(conv=>whnf))
      refine EqP.row hr hk2 (W.mk ?_)
      rw [eb]
      (conv=>whnf)
      refine IteP.mk (fun hxz=>W.mk ?_) (fun hxz=>W.mk ?_)<;>(conv=>whnf)
      ·repeat' (refine ob ?_ ?_;(first | trivial | omega | (simp only [inR];omega) | exact ble (by rfl) | exact SlR.some ‹_› (by omega));(conv=>whnf))
       refine EqP.row hr hk2 (W.mk ?_)
       rw [eb]
       (conv=>whnf)
       repeat' (refine ob ?_ ?_;(first | trivial | omega | (simp only [inR];omega) | exact ble (by rfl) | exact SlR.some ‹_› (by omega));(conv=>whnf))
       refine EqP.row hr hkn (W.mk ?_)
       rw [ea]
       (conv=>whnf)
       have hs1:=Row.setAt hr (i:=k.toNat) (us:=[I z]) (d:=0) (m:=1) (x:=z) hkn (by decide) rfl
       have hl2:(ws.take (k.toNat * 1)++[I z]++ws.drop (k.toNat * 1 + 1)).length = (m + 1 + 1):=hs1.len.trans (Nat.mul_one _)
       repeat' (first | (refine ob ?_ ?_;(first | trivial | omega | (simp only [inR];omega) | exact ble (by rfl) | exact SlR.some ‹_› (by omega));(conv=>whnf)) | (refine OblP.mk (by rw [hl2];omega) (W.mk ?_);(conv=>whnf)))
       have hs2:=Row.setAt hs1 (i:=(k - 1).toNat) (us:=[I x]) (d:=0) (m:=1) (x:=x) (by rw [List.length_set];exact hk2) (by decide) rfl
       have est:((atK q x k.toNat).set k.toNat z).set (k - 1).toNat x = atK q x (k - 1).toNat:=by
        have:=atK_step (q:=q) (x:=x) (k:=(k - 1).toNat) (by omega)
        rw [← hz,show (k - 1).toNat + 1 = k.toNat by omega] at this
        exact this
       rw [est] at hs2
       refine RoundP.of (k - 1,_) (HeadP.of [] ⟨rfl,rfl,rfl,rfl,trivial⟩ ⟨rfl,trivial⟩) ⟨by show 0≤k - 1;omega,by show k - 1≤_;omega,hs2,fun y hy=>?_⟩ (by show (k - 1).toNat < k.toNat;omega)
       have hy:y∈q.drop (k - 1).toNat:=hy
       rw [List.drop_eq_getElem_cons (show (k - 1).toNat < q.length by omega), ← hz,show (k - 1).toNat + 1 = k.toNat by omega] at hy
       rcases List.mem_cons.1 hy with rfl | hy
       ·exact hxz
       ·exact hdr y hy
      ·have hfin:=atK_lt_all (q:=q) (x:=x) (k:=k.toNat) (by omega) hinc hxq hdr (fun h=>by
        have e:q[k.toNat - 1]'(by omega) = z:=by rw [hz];congr 1;omega
        omega)
       repeat' (first | (refine ob ?_ ?_;(first | trivial | omega | (simp only [inR];omega) | exact ble (by rfl) | exact SlR.some ‹_› (by omega));(conv=>whnf)) | (first | (refine ra ‹_› (by rfl) ?_;(conv=>whnf)) | (refine rb ‹_› (by rfl) ?_;(conv=>whnf)) | (refine rc ‹_› (by rfl) ?_;(conv=>whnf)) | (refine rd ‹_› (by rfl) ?_;(conv=>whnf))))
       exact RoundP.of (i + 1,(m + 1 + 1),atK q x k.toNat,ws) (HeadP.of [] ⟨rfl,rfl,rfl,trivial⟩ ⟨rfl,trivial⟩) ⟨h1,hr,hfin,fun z=>by rw [atK_mem,htk z, ← hmem z];exact Or.comm,by show (m + 1 + 1)≤i + 1;omega⟩ (by show l.length - (i + 1) < l.length - i;omega)
     ·have hfin:=atK_lt_all (q:=q) (x:=x) (k:=k.toNat) (by omega) hinc hxq hdr (fun h=>by omega)
      repeat' (first | (refine ob ?_ ?_;(first | trivial | omega | (simp only [inR];omega) | exact ble (by rfl) | exact SlR.some ‹_› (by omega));(conv=>whnf)) | (first | (refine ra ‹_› (by rfl) ?_;(conv=>whnf)) | (refine rb ‹_› (by rfl) ?_;(conv=>whnf)) | (refine rc ‹_› (by rfl) ?_;(conv=>whnf)) | (refine rd ‹_› (by rfl) ?_;(conv=>whnf))))
      exact RoundP.of (i + 1,(m + 1 + 1),atK q x k.toNat,ws) (HeadP.of [] ⟨rfl,rfl,rfl,trivial⟩ ⟨rfl,trivial⟩) ⟨h1,hr,hfin,fun z=>by rw [atK_mem,htk z, ← hmem z];exact Or.comm,by show (m + 1 + 1)≤i + 1;omega⟩ (by show l.length - (i + 1) < l.length - i;omega)
   ·have hie:i = l.length:=by omega
    rw [hie,List.take_length] at hmem
    have hq:sortF l = q:=incr_uniq (sortF_lt l) hinc fun z=>by rw [sortF_mem,hmem z]
    refine PubP.mk (fun ga gc G2 hg2 hp=>W.mk ?_)
    (conv=>whnf)
    exact FinP.mk (by rw [hq];exact hrow.pub hp (by omega))
end Go.Proofs.YtefnikpoimaiiaaGreat
