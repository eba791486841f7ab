/- Layer 3 (plain): what is shown; protected words stay. Layer 3 (plain): what holds of every sheet; a change that is undone at once; when all changes are undone. Layer 3 (plain): a change, as it is seen; two changes that do not touch. -/
import Derived.Test.YtefnikpoimaiiaaML
import Derived.Test.YtefnikpoimaiiaaMI
set_option linter.unusedSimpArgs false
set_option linter.unusedVariables false
namespace Go.Proofs.Ytefnikpoimaiiaa
open Go.Pal Go.RowKit
set_option maxRecDepth 100000
theorem visN (l:List It):∀ n,n≤l.length→(placesN l n).map (fun i=>l.getD i default) = (l.take n).filter (fun y=>y.g = 0)
 | 0,_=>by simp [placesN]
 | n + 1,h=>by
  have ih:=visN l n (by omega)
  have h1:n < l.length:=by omega
  have hgd:l.getD n default = l[n]:=by simp [h1]
  rw [placesN_succ,List.take_add_one,List.getElem?_eq_getElem h1,List.filter_append,hgd]
  split
  ·rename_i hg
   rw [List.map_append,ih]
   congr 1
   show [l.getD n default] = _
   rw [hgd,Option.toList_some,List.filter_cons,if_pos (by simpa using hg)];rfl
  ·rename_i hg
   rw [ih]
   simp [hg]
def visF (l:List It):List It:=l.filter fun y=>y.g = 0
theorem places_vis (l:List It):(placesF l).map (fun i=>l.getD i default) = visF l:=by
 rw [placesF,visN l l.length (Nat.le_refl _),List.take_length];rfl
theorem places_len (l:List It):(placesF l).length = (visF l).length:=by rw [← places_vis,List.length_map]
theorem goneF_map_o (n:Int):∀ (ps:List Nat) (l:List It),(goneF l n ps).map (·.o) = l.map (·.o)
 | [],l=>rfl
 | p :: ps,l=>by
  have e:goneF l n (p :: ps) = goneF (l.set p { l.getD p default with g:=n }) n ps:=rfl
  rw [e,goneF_map_o n ps,List.map_set]
  by_cases hp:p < l.length
  ·have hgd:l.getD p default = l[p]:=by simp [hp]
   rw [hgd]
   have:(l.map (·.o))[p]'(by simpa using hp) = l[p].o:=by simp
   rw [← this,List.set_getElem_self]
  ·rw [List.set_eq_of_length_le (by simpa using hp)]
theorem goneF_mem (n:Int) (K:List Int):∀ (ps:List Nat) (l:List It),(∀ p∈ps,(l.getD p default).o ∉ K)→∀ y∈goneF l n ps,y.o∈K→y∈l
 | [],l,_,y,hy,_=>hy
 | p :: ps,l,h,y,hy,ho=>by
  have hy:y∈goneF (l.set p { l.getD p default with g:=n }) n ps:=hy
  have hs:∀ q,((l.set p { l.getD p default with g:=n }).getD q default).o = (l.getD q default).o:=fun q=>goneF_o n q [p] l
  have h1:=goneF_mem n K ps _ (fun q hq=>by rw [hs];exact h q (by simp [hq])) y hy ho
  by_cases hp:p < l.length
  ·rcases List.mem_or_eq_of_mem_set h1 with h2 | rfl
   ·exact h2
   ·exact absurd ho (h p (by simp))
  ·rwa [List.set_eq_of_length_le (by omega)] at h1
def KeptI (d:Dr) (S:Sh):Prop:=∀ n∈d.ks,(S.its.map (·.o)).count n = 1∧∀ y∈S.its,y.o = n→y.g = 0∧y.m = 0∧y.t = (d.ws.getD n.toNat default).t
theorem ks_lt {d:Dr} (hv:validF d = true):∀ n∈d.ks,n < d.ws.length:=fun n hn=>by
 obtain ⟨i,hi,rfl⟩:=List.mem_iff_getElem.1 hn
 have h:=((valid_iff d).1 hv).2.2 i hi
 have hgd:d.ks.getD i 0 = d.ks[i]:=by simp [hi]
 rw [rKe,hgd] at h
 simp only [Bool.and_eq_true,inF,decide_eq_true_eq] at h
 omega
theorem kept_begin {d:Dr} (hv:validF d = true):KeptI d (beginS d):=fun n hn=>by
 have h0:=valid_ks hv n hn
 have h1:=ks_lt hv n hn
 have e:(beginS d).its.map (·.o) = (List.range d.ws.length).map fun (i:Nat)=>(i:Int):=by simp [beginS,beginIts,List.map_map,Function.comp_def]
 refine ⟨?_,fun y hy ho=>?_⟩
 ·rw [e]
  have hnd:((List.range d.ws.length).map fun (i:Nat)=>(i:Int)).Nodup:=by
   rw [List.nodup_iff_pairwise_ne,List.pairwise_map]
   exact (List.nodup_range (n:=d.ws.length)).imp fun h h2=>h (by omega)
  have hm:n∈(List.range d.ws.length).map fun (i:Nat)=>(i:Int):=List.mem_map.2 ⟨n.toNat,List.mem_range.2 (by omega),by omega⟩
  rw [hnd.count,if_pos hm]
 ·obtain ⟨i,hi,rfl⟩:=List.mem_map.1 hy
  have ho:(i:Int) = n:=ho
  subst ho
  exact ⟨rfl,rfl,rfl⟩
theorem kept_step {d:Dr} (hv:validF d = true) {S S':Sh} {x:Sp} (hp:PosL S) (h:KeptI d S) (hs:stepF d S x = some S'):KeptI d S':=by
 unfold stepF at hs
 split at hs
 ·unfold changeF at hs
  split at hs
  ·rename_i hc
   cases hs
   intro n hn
   obtain ⟨h1,h2⟩:=h n hn
   have h0:=valid_ks hv n hn
   have hcut:∀ p∈cutF S.its x,(S.its.getD p default).o ∉ d.ks:=fun p hpm=>by
    have:=List.all_eq_true.1 hc.2 p hpm
    simpa [protF] using this
   have hm:((insF (goneF S.its (S.ch + 1) (cutF S.its x)) (placeF S.its x) (putF (S.ch + 1) x.put)).map (·.o)).count n = 1:=by
    have hput:((putF (S.ch + 1) x.put).map (·.o)).count n = 0:=by
     rw [List.count_eq_zero]
     intro hm
     simp only [putF,List.map_map,List.mem_map,Function.comp] at hm
     obtain ⟨_,_,rfl⟩:=hm
     omega
    rw [insF,List.map_append,List.map_append,List.count_append,List.count_append,hput,Nat.add_zero, ← List.count_append, ← List.map_append,List.take_append_drop,goneF_map_o]
    exact h1
   refine ⟨hm,fun y hy ho=>?_⟩
   have hy:y∈insF (goneF S.its (S.ch + 1) (cutF S.its x)) (placeF S.its x) (putF (S.ch + 1) x.put):=hy
   have old:y∈goneF S.its (S.ch + 1) (cutF S.its x):=by
    rcases List.mem_append.1 hy with hy | hy
    ·rcases List.mem_append.1 hy with hy | hy
     ·exact List.mem_of_mem_take hy
     ·obtain ⟨t,_,rfl⟩:=List.mem_map.1 hy
      have ho:(-1:Int) = n:=ho
      omega
    ·exact List.mem_of_mem_drop hy
   exact h2 y (goneF_mem (S.ch + 1) d.ks _ _ hcut y old (by rw [ho];exact hn)) ho
  ·cases hs
 ·unfold undoF at hs
  split at hs
  ·rename_i hu
   cases hs
   have hu1:1≤x.u:=by
    unfold undoableF at hu
    exact hp.2 _ (of_decide_eq_true (Bool.and_eq_true_iff.1 hu).1)
   intro n hn
   obtain ⟨h1,h2⟩:=h n hn
   have hb:∀ y:It,(backF x.u y).o = y.o∧(backF x.u y).m = y.m∧(backF x.u y).t = y.t:=fun y=>by unfold backF;split<;>exact ⟨rfl,rfl,rfl⟩
   refine ⟨?_,fun y hy ho=>?_⟩
   ·have hmo:∀ l:List It,(l.map (backF x.u)).map (·.o) = l.map (·.o):=fun l=>by
     rw [List.map_map];exact List.map_congr_left fun y _=>(hb y).1
    show (((S.its.filter fun y=>y.m != x.u).map (backF x.u)).map (·.o)).count n = 1
    rw [hmo]
    have key:∀ l:List It,(∀ y∈l,y.o = n→y.m = 0)→((l.filter fun y=>y.m != x.u).map (·.o)).count n = (l.map (·.o)).count n:=by
     intro l
     induction l with
     | nil=>intro _;rfl
     | cons y r ih =>
      intro hl
      have ih:=ih fun z hz=>hl z (by simp [hz])
      rw [List.filter_cons]
      split
      ·rw [List.map_cons,List.map_cons,List.count_cons,List.count_cons,ih]
      ·rename_i hne
       have hmu:y.m = x.u:=by simpa using hne
       have:y.o≠n:=fun e=>by have:=hl y (by simp) e;omega
       rw [ih,List.map_cons,List.count_cons]
       simp [this]
    rw [key S.its fun y hy ho=>(h2 y hy ho).2.1]
    exact h1
   ·obtain ⟨z,hz,rfl⟩:=List.mem_map.1 hy
    obtain ⟨b1,b2,b3⟩:=hb z
    rw [b1] at ho
    obtain ⟨g1,g2,g3⟩:=h2 z (List.mem_filter.1 hz).1 ho
    refine ⟨?_,by rw [b2];exact g2,by rw [b3];exact g3⟩
    unfold backF
    split
    ·rfl
    ·exact g1
  ·cases hs
theorem play_inv {d:Dr} {I:Sh→Prop} (hI:∀ {S S':Sh} {x:Sp},PosL S→I S→stepF d S x = some S'→I S'):∀ {steps:List Sp} {S S':Sh} {i:Nat},PosL S→I S→playF d S steps i = .inr S'→I S'∧PosL S'
 | [],S,S',i,hp,h,e=>by cases e;exact ⟨h,hp⟩
 | x :: r,S,S',i,hp,h,e=>by
  simp only [playF] at e
  split at e
  ·rename_i S1 hs
   exact play_inv hI (posL_step hp hs) (hI hp h hs) e
  ·cases e
theorem posL_begin (d:Dr):PosL (beginS d):=⟨Int.le_refl _,fun n hn=>by cases hn⟩
theorem endF_ok {d:Dr} {steps:List Sp} {S:Sh} (h:endF d steps = .ok S):validF d = true∧steps.length≤80∧playF d (beginS d) steps 0 = .inr S:=by
 unfold endF at h
 split at h
 ·cases h
 ·rename_i hv
  split at h
  ·cases h
  ·split at h
   ·cases h
   ·rename_i e;cases h;exact ⟨by simpa using hv,by omega,e⟩
end Go.Proofs.Ytefnikpoimaiiaa

namespace Go.Proofs.Ytefnikpoimaiiaa
open Go.Pal Go.RowKit
set_option maxRecDepth 100000
def It.key (y:It):ByteArray × Int × Int:=(y.t,y.o,y.m)
theorem goneF_key (n:Int):∀ (ps:List Nat) (l:List It),(goneF l n ps).map It.key = l.map It.key
 | [],l=>rfl
 | p :: ps,l=>by
  have e:goneF l n (p :: ps) = goneF (l.set p { l.getD p default with g:=n }) n ps:=rfl
  rw [e,goneF_key n ps,List.map_set]
  by_cases hp:p < l.length
  ·have hgd:l.getD p default = l[p]:=by simp [hp]
   rw [hgd]
   have:(l.map It.key)[p]'(by simpa using hp) = It.key l[p]:=by simp
   show (l.map It.key).set p (It.key l[p]) = _
   rw [← this,List.set_getElem_self]
  ·rw [List.set_eq_of_length_le (by simpa using hp)]
theorem backF_key (n:Int) (y:It):(backF n y).key = y.key:=by unfold backF;split<;>rfl
theorem key_m {y z:It} (h:y.key = z.key):y.m = z.m:=congrArg (fun k=>k.2.2) h
end Go.Proofs.Ytefnikpoimaiiaa

namespace Go.Proofs.Ytefnikpoimaiiaa
open Go.Pal Go.RowKit
set_option maxRecDepth 100000
theorem placesF_lt (l:List It):(placesF l).Pairwise (· < ·):=List.pairwise_lt_range.filter _
theorem placesN_filter (l:List It) {m:Nat} (h:m≤l.length):placesN l m = (placesF l).filter fun i=>decide (i < m):=by
 have:∀ k,placesN l m = (placesN l (m + k)).filter fun i=>decide (i < m):=by
  intro k
  induction k with
  | zero =>
   rw [Nat.add_zero]
   exact (List.filter_eq_self.2 fun i hi=>decide_eq_true (placesN_lt hi)).symm
  | succ k ih =>
   rw [← Nat.add_assoc,placesN_succ]
   split
   ·rw [List.filter_append, ← ih]
    have:([m + k].filter fun i=>decide (i < m)) = []:=by simp
    rw [this,List.append_nil]
   ·exact ih
 have h2:=this (l.length - m)
 rw [show m + (l.length - m) = l.length by omega] at h2
 exact h2
theorem filter_lt_take:∀ {P:List Nat} {a:Nat},P.Pairwise (· < ·)→(h:a < P.length)→P.filter (fun i=>decide (i < P[a])) = P.take a
 | [],a,_,h=>absurd h (Nat.not_lt_zero a)
 | x :: r,0,hp,h=>by
  obtain ⟨h1,_⟩:=List.pairwise_cons.1 hp
  rw [List.take_zero,List.filter_eq_nil_iff]
  intro i hi
  simp only [List.getElem_cons_zero,decide_eq_true_eq]
  rcases List.mem_cons.1 hi with rfl | hi
  ·omega
  ·have:=h1 i hi;omega
 | x :: r,a + 1,hp,h=>by
  obtain ⟨h1,h2⟩:=List.pairwise_cons.1 hp
  have hr:a < r.length:=by simpa using h
  have hx:x < r[a]:=h1 _ (List.getElem_mem hr)
  rw [List.take_succ_cons,List.filter_cons,List.getElem_cons_succ,if_pos (decide_eq_true hx),filter_lt_take h2 hr]
theorem filter_le_take:∀ {P:List Nat} {a:Nat},P.Pairwise (· < ·)→(h:a < P.length)→P.filter (fun i=>decide (i < P[a] + 1)) = P.take (a + 1)
 | [],a,_,h=>absurd h (Nat.not_lt_zero a)
 | x :: r,0,hp,h=>by
  obtain ⟨h1,_⟩:=List.pairwise_cons.1 hp
  rw [List.filter_cons,if_pos (by simp),List.filter_eq_nil_iff.2]
  ·rfl
  ·intro i hi
   have:=h1 i hi
   simp only [List.getElem_cons_zero,decide_eq_true_eq];omega
 | x :: r,a + 1,hp,h=>by
  obtain ⟨h1,h2⟩:=List.pairwise_cons.1 hp
  have hr:a < r.length:=by simpa using h
  have hx:x < r[a]:=h1 _ (List.getElem_mem hr)
  rw [List.take_succ_cons,List.filter_cons,List.getElem_cons_succ,if_pos (decide_eq_true (by omega)),filter_le_take h2 hr]
theorem goneF_at (n:Int) (i:Nat):∀ (ps:List Nat) (l:List It),i ∉ ps→(goneF l n ps).getD i default = l.getD i default
 | [],l,_=>rfl
 | p :: ps,l,h=>by
  have h2:=goneF_at n i ps (l.set p { l.getD p default with g:=n }) fun h1=>h (by simp [h1])
  have e:goneF l n (p :: ps) = goneF (l.set p { l.getD p default with g:=n }) n ps:=rfl
  rw [e,h2,List.getD_eq_getElem?_getD,List.getElem?_set_ne (fun e=>h (by simp [e])),List.getD_eq_getElem?_getD]
theorem goneF_in (n:Int) (i:Nat):∀ (ps:List Nat) (l:List It),i∈ps→i < l.length→((goneF l n ps).getD i default).g = n
 | [],l,h,_=>by cases h
 | p :: ps,l,h,hi=>by
  have e:goneF l n (p :: ps) = goneF (l.set p { l.getD p default with g:=n }) n ps:=rfl
  rw [e]
  by_cases hm:i∈ps
  ·exact goneF_in n i ps _ hm (by rw [List.length_set];exact hi)
  ·rw [goneF_at n i ps _ hm]
   have:i = p:=by
    rcases List.mem_cons.1 h with h | h
    ·exact h
    ·exact absurd h hm
   subst this
   simp [List.getD_eq_getElem?_getD,hi]
theorem places_gone {l:List It} {n:Int} (hn:n≠0) (cs:List Nat):placesF (goneF l n cs) = (placesF l).filter fun i=>!decide (i∈cs):=by
 rw [placesF,placesN,goneF_len,placesF,placesN,List.filter_filter]
 apply List.filter_congr
 intro i hi
 have hi:=List.mem_range.1 hi
 by_cases hm:i∈cs
 ·rw [decide_eq_false (by rw [goneF_in n i _ _ hm hi];exact hn),decide_eq_true hm];rfl
 ·rw [goneF_at n i _ _ hm,decide_eq_false hm];rfl
theorem vis_gone {l:List It} {n:Int} {a c:Nat} (hn:n≠0):visF (goneF l n (((placesF l).drop a).take c)) = (visF l).take a++(visF l).drop (a + c):=by
 have hnd:(placesF l).Nodup:=by rw [List.nodup_iff_pairwise_ne];exact (placesF_lt l).imp fun h=>by omega
 have hcs:∀ p∈((placesF l).drop a).take c,p < l.length:=fun p hp=>placesN_lt (List.mem_of_mem_drop (List.mem_of_mem_take hp))
 have hpl:=places_gone (l:=l) (n:=n) hn (((placesF l).drop a).take c)
 have hsplit:(placesF l).filter (fun i=>!decide (i∈((placesF l).drop a).take c)) = (placesF l).take a++(placesF l).drop (a + c):=by
  have e:placesF l = (placesF l).take a++(((placesF l).drop a).take c++(placesF l).drop (a + c)):=by
   rw [← List.drop_drop,List.take_append_drop,List.take_append_drop]
  have hnd2:=hnd
  rw [e] at hnd2
  obtain ⟨_,n2,n3⟩:=List.nodup_append.1 hnd2
  obtain ⟨_,_,n6⟩:=List.nodup_append.1 n2
  generalize hA:(placesF l).take a = A at *
  generalize hB:((placesF l).drop a).take c = B at *
  generalize hC:(placesF l).drop (a + c) = C at *
  rw [e,List.filter_append,List.filter_append]
  have f1:A.filter (fun i=>!decide (i∈B)) = A:=List.filter_eq_self.2 fun i hi=>by
   have:i ∉ B:=fun hb=>n3 i hi i (List.mem_append_left _ hb) rfl
   simp [this]
  have f2:B.filter (fun i=>!decide (i∈B)) = []:=List.filter_eq_nil_iff.2 fun i hi=>by simp [hi]
  have f3:C.filter (fun i=>!decide (i∈B)) = C:=List.filter_eq_self.2 fun i hi=>by
   have:i ∉ B:=fun hb=>n6 i hb i hi rfl
   simp [this]
  rw [f1,f2,f3,List.nil_append]
 have hout:∀ i∈(placesF l).take a++(placesF l).drop (a + c),i ∉ ((placesF l).drop a).take c:=fun i hi=>by
  rw [← hsplit] at hi
  simpa using (List.mem_filter.1 hi).2
 rw [← places_vis,hpl,hsplit,List.map_congr_left fun i hi=>goneF_at n i _ _ (hout i hi),List.map_append,List.map_take,List.map_drop,places_vis]
theorem visF_app (l r:List It):visF (l++r) = visF l++visF r:=List.filter_append ..
theorem take_gone (n:Int) (m:Nat):∀ (ps:List Nat) (l:List It),(∀ p∈ps,m≤p)→(goneF l n ps).take m = l.take m
 | [],l,_=>rfl
 | p :: ps,l,h=>by
  have e:goneF l n (p :: ps) = goneF (l.set p { l.getD p default with g:=n }) n ps:=rfl
  rw [e,take_gone n m ps _ fun q hq=>h q (by simp [hq]),List.take_set_of_le (h p (by simp))]
theorem vis_change {d:Dr} {S S1:Sh} {x:Sp} (h0:0≤S.ch) (hc:changeF d S x = some S1):visF S1.its = (visF S.its).take x.a.toNat++putF (S.ch + 1) x.put++(visF S.its).drop (x.a.toNat + x.c.toNat):=by
 unfold changeF at hc
 split at hc
 case isFalse=>cases hc
 rename_i hf
 cases hc
 obtain ⟨g1,g2,g3,g4,g5⟩:=fine_iff.1 hf.1
 have g2':0≤x.c∧x.c≤4:=by simpa [inF] using g2
 show visF (insF (goneF S.its (S.ch + 1) (cutF S.its x)) (placeF S.its x) (putF (S.ch + 1) x.put)) = _
 have hput:visF (putF (S.ch + 1) x.put) = putF (S.ch + 1) x.put:=List.filter_eq_self.2 fun y hy=>by
  obtain ⟨t,_,rfl⟩:=List.mem_map.1 hy;rfl
 have hall:visF (goneF S.its (S.ch + 1) (cutF S.its x)) = (visF S.its).take x.a.toNat++(visF S.its).drop (x.a.toNat + x.c.toNat):=vis_gone (by omega)
 have htake:visF ((goneF S.its (S.ch + 1) (cutF S.its x)).take (placeF S.its x)) = (visF S.its).take x.a.toNat:=by
  have fin:∀ {m:Nat},m≤S.its.length→(placesF S.its).filter (fun i=>decide (i < m)) = (placesF S.its).take x.a.toNat→visF (S.its.take m) = (visF S.its).take x.a.toNat:=fun {m} hm he=>by
   have:visF (S.its.take m) = (placesN S.its m).map (fun i=>S.its.getD i default):=(visN S.its m hm).symm
   rw [this,placesN_filter S.its hm,he,List.map_take,places_vis]
  by_cases hc0:0 < x.c
  ·have ha:x.a.toNat < (placesF S.its).length:=by omega
   have hpf:placeF S.its x = (placesF S.its)[x.a.toNat]:=by
    unfold placeF
    rw [if_pos hc0,List.getD_eq_getElem?_getD,List.getElem?_eq_getElem ha];rfl
   rw [hpf,take_gone]
   ·exact fin (Nat.le_of_lt (placesN_lt (List.getElem_mem ha))) (filter_lt_take (placesF_lt _) ha)
   ·intro p hp
    have hp:=List.mem_of_mem_take hp
    obtain ⟨k,hk,rfl⟩:=List.mem_iff_getElem.1 hp
    rw [List.getElem_drop]
    have hk:k < (placesF S.its).length - x.a.toNat:=by simpa using hk
    by_cases h00:k = 0
    ·subst h00;exact Nat.le_refl _
    ·exact Nat.le_of_lt (List.pairwise_iff_getElem.1 (placesF_lt S.its) _ _ ha (by omega) (by omega))
  ·have hcut:cutF S.its x = []:=by rw [cutF,show x.c.toNat = 0 by omega];rfl
   rw [hcut]
   show visF (S.its.take (placeF S.its x)) = _
   by_cases ha0:0 < x.a
   ·have ha:x.a.toNat - 1 < (placesF S.its).length:=by omega
    have hpf:placeF S.its x = (placesF S.its)[x.a.toNat - 1] + 1:=by
     unfold placeF
     rw [if_neg hc0,if_pos ha0,List.getD_eq_getElem?_getD,List.getElem?_eq_getElem ha];rfl
    rw [hpf]
    refine fin (placesN_lt (List.getElem_mem ha)) ?_
    rw [filter_le_take (placesF_lt _) ha,show x.a.toNat - 1 + 1 = x.a.toNat by omega]
   ·have hpf:placeF S.its x = 0:=by unfold placeF;rw [if_neg hc0,if_neg ha0]
    rw [hpf,show x.a.toNat = 0 by omega];rfl
 have hdrop:visF ((goneF S.its (S.ch + 1) (cutF S.its x)).drop (placeF S.its x)) = (visF S.its).drop (x.a.toNat + x.c.toNat):=by
  have:=hall
  rw [← List.take_append_drop (placeF S.its x) (goneF S.its (S.ch + 1) (cutF S.its x)),visF_app,htake] at this
  exact List.append_cancel_left this
 rw [insF,visF_app,visF_app,htake,hdrop,hput]
def canV (d:Dr) (v:List It) (x:Sp):Prop:=0≤x.a∧(0≤x.c∧x.c≤4)∧x.a + x.c≤v.length∧(inF x.put.length 0 4 && x.put.all textF) = true∧0 < x.c + x.put.length∧∀ y∈(v.drop x.a.toNat).take x.c.toNat,protF d y = false
theorem change_can {d:Dr} {S:Sh} {x:Sp}:(∃ S1,changeF d S x = some S1)↔canV d (visF S.its) x:=by
 have hcut:((visF S.its).drop x.a.toNat).take x.c.toNat = (cutF S.its x).map fun i=>S.its.getD i default:=by rw [cutF,List.map_take,List.map_drop,places_vis]
 have hl:=places_len S.its
 have e:(∃ S1,changeF d S x = some S1)↔(fineF S.its x = true∧(cutF S.its x).all (fun i=>!protF d (S.its.getD i default)) = true):=by
  unfold changeF
  split
  ·exact ⟨fun _=>‹_›,fun _=>⟨_,rfl⟩⟩
  ·exact ⟨fun ⟨_,h⟩=>(by cases h),fun h=>absurd h ‹_›⟩
 rw [e,fine_iff,canV,hcut]
 constructor
 ·rintro ⟨⟨g1,g2,g3,g4,g5⟩,h2⟩
  refine ⟨g1,by simpa [inF] using g2,by omega,g4,g5,fun y hy=>?_⟩
  obtain ⟨i,hi,rfl⟩:=List.mem_map.1 hy
  simpa using List.all_eq_true.1 h2 i hi
 ·rintro ⟨g1,g2,g3,g4,g5,h2⟩
  refine ⟨⟨g1,by simpa [inF] using g2,by omega,g4,g5⟩,List.all_eq_true.2 fun i hi=>?_⟩
  rw [h2 _ (List.mem_map.2 ⟨i,hi,rfl⟩)];rfl
theorem putF_len (n:Int) (put:List ByteArray):(putF n put).length = put.length:=by rw [putF,List.length_map]
theorem putF_t (n:Int) (put:List ByteArray):(putF n put).map (·.t) = put:=by rw [putF,List.map_map];simp [Function.comp_def]
theorem apart_list {α:Type} (V P1 P2:List α) {n1 m1 n2 m2:Nat} (h:n1 + m1 < n2) (hb:n2 + m2≤V.length) :
  (V.take n1++P1++V.drop (n1 + m1)).take (n1 + P1.length + (n2 - (n1 + m1)))++P2++(V.take n1++P1++V.drop (n1 + m1)).drop (n1 + P1.length + (n2 - (n1 + m1)) + m2) =
   (V.take n2++P2++V.drop (n2 + m2)).take n1++P1++(V.take n2++P2++V.drop (n2 + m2)).drop (n1 + m1):=by
 have l1:(V.take n1).length = n1:=by rw [List.length_take];omega
 have l2:(V.take n2).length = n2:=by rw [List.length_take];omega
 have e1:(V.take n1++P1++V.drop (n1 + m1)).take (n1 + P1.length + (n2 - (n1 + m1))) = V.take n1++P1++(V.drop (n1 + m1)).take (n2 - (n1 + m1)):=by
  rw [List.take_append,List.take_of_length_le (by rw [List.length_append,l1];omega),List.length_append,l1,show n1 + P1.length + (n2 - (n1 + m1)) - (n1 + P1.length) = n2 - (n1 + m1) by omega]
 have e2:(V.take n1++P1++V.drop (n1 + m1)).drop (n1 + P1.length + (n2 - (n1 + m1)) + m2) = V.drop (n2 + m2):=by
  rw [List.drop_append,List.drop_of_length_le (by rw [List.length_append,l1];omega),List.nil_append,List.drop_drop,List.length_append,l1,show n1 + m1 + (n1 + P1.length + (n2 - (n1 + m1)) + m2 - (n1 + P1.length)) = n2 + m2 by omega]
 have e3:(V.take n2++P2++V.drop (n2 + m2)).take n1 = V.take n1:=by
  rw [List.append_assoc,List.take_append_of_le_length (by rw [l2];omega),List.take_take,Nat.min_eq_left (by omega)]
 have e4:(V.take n2++P2++V.drop (n2 + m2)).drop (n1 + m1) = (V.drop (n1 + m1)).take (n2 - (n1 + m1))++P2++V.drop (n2 + m2):=by
  rw [List.append_assoc,List.drop_append_of_le_length (by rw [l2];omega),List.drop_take,List.append_assoc]
 rw [e1,e2,e3,e4]
 simp only [List.append_assoc]
theorem apart {d:Dr} (hv:validF d = true) {S:Sh} (h0:0≤S.ch) {one two:Sp} (h1:0≤one.a) (h2:0≤one.c) (h3:one.a + one.c < two.a) :
  (∃ A B C D,changeF d S one = some A∧changeF d A { two with a:=two.a + (one.put.length - one.c) } = some B∧changeF d S two = some C∧changeF d C one = some D∧(visF B.its).map (·.t) = (visF D.its).map (·.t)) ∨
  ((∀ A,changeF d S one = some A→changeF d A { two with a:=two.a + (one.put.length - one.c) } = none)∧∀ C,changeF d S two = some C→changeF d C one = none):=by
 obtain ⟨v,hvv⟩:∃ v,v = visF S.its:=⟨_,rfl⟩
 have cA:∀ A,changeF d S one = some A→A.ch = S.ch + 1∧visF A.its = v.take one.a.toNat++putF (S.ch + 1) one.put++v.drop (one.a.toNat + one.c.toNat):=fun A hA=>by
  refine ⟨?_,by rw [hvv];exact vis_change h0 hA⟩
  unfold changeF at hA
  split at hA<;>cases hA;rfl
 have cC:∀ C,changeF d S two = some C→C.ch = S.ch + 1∧visF C.its = v.take two.a.toNat++putF (S.ch + 1) two.put++v.drop (two.a.toNat + two.c.toNat):=fun C hC=>by
  refine ⟨?_,by rw [hvv];exact vis_change h0 hC⟩
  unfold changeF at hC
  split at hC<;>cases hC;rfl
 -- the second change behind the first one is as it is ahead of it
 have iff1:∀ A,changeF d S one = some A→((∃ B,changeF d A { two with a:=two.a + (one.put.length - one.c) } = some B)↔canV d v two):=fun A hA=>by
  obtain ⟨_,e⟩:=cA A hA
  have hcan:=(change_can (d:=d) (S:=S) (x:=one)).1 ⟨A,hA⟩
  rw [← hvv] at hcan
  obtain ⟨q1,q2,q3,q4,q5,q6⟩:=hcan
  have hlen:(visF A.its).length + one.c.toNat = v.length + one.put.length:=by
   rw [e]
   simp only [List.length_append,List.length_take,List.length_drop,putF_len]
   omega
  rw [change_can]
  have hdr:((visF A.its).drop (two.a + ((one.put.length:Int) - one.c)).toNat).take two.c.toNat = (v.drop two.a.toNat).take two.c.toNat:=by
   rw [e,List.drop_append,List.drop_of_length_le (by simp only [List.length_append,List.length_take,putF_len];omega),List.nil_append,List.drop_drop]
   congr 2
   simp only [List.length_append,List.length_take,putF_len]
   omega
  unfold canV
  dsimp only
  rw [hdr]
  constructor
  ·rintro ⟨r1,r2,r3,r4,r5,r6⟩
   exact ⟨by omega,r2,by omega,r4,r5,r6⟩
  ·rintro ⟨r1,r2,r3,r4,r5,r6⟩
   exact ⟨by omega,r2,by omega,r4,r5,r6⟩
 have iff2:∀ C,changeF d S two = some C→((∃ D,changeF d C one = some D)↔canV d v one):=fun C hC=>by
  obtain ⟨_,e⟩:=cC C hC
  have hcan:=(change_can (d:=d) (S:=S) (x:=two)).1 ⟨C,hC⟩
  rw [← hvv] at hcan
  obtain ⟨q1,q2,q3,q4,q5,q6⟩:=hcan
  have hlen:(visF C.its).length + two.c.toNat = v.length + two.put.length:=by
   rw [e]
   simp only [List.length_append,List.length_take,List.length_drop,putF_len]
   omega
  rw [change_can]
  have hdr:((visF C.its).drop one.a.toNat).take one.c.toNat = (v.drop one.a.toNat).take one.c.toNat:=by
   rw [e,List.append_assoc,List.drop_append_of_le_length (by rw [List.length_take];omega),List.take_append_of_le_length (by rw [List.length_drop,List.length_take];omega),List.drop_take,List.take_take,Nat.min_eq_left (by omega)]
  unfold canV
  rw [hdr]
  constructor
  ·rintro ⟨r1,r2,r3,r4,r5,r6⟩
   exact ⟨r1,r2,by omega,r4,r5,r6⟩
  ·rintro ⟨r1,r2,r3,r4,r5,r6⟩
   refine ⟨r1,r2, ?_,r4,r5,r6⟩
   have:two.a.toNat≤v.length:=by omega
   have h5:(two.put.length:Int) ≥ 0:=by omega
   have h6:(visF C.its).length ≥ two.a.toNat:=by
    rw [e];simp only [List.length_append,List.length_take];omega
   omega
 have can1:=change_can (d:=d) (S:=S) (x:=one)
 have can2:=change_can (d:=d) (S:=S) (x:=two)
 rw [← hvv] at can1 can2
 by_cases p1:canV d v one
 ·by_cases p2:canV d v two
  ·left
   obtain ⟨A,hA⟩:=can1.2 p1
   obtain ⟨C,hC⟩:=can2.2 p2
   obtain ⟨B,hB⟩:=(iff1 A hA).2 p2
   obtain ⟨D,hD⟩:=(iff2 C hC).2 p1
   refine ⟨A,B,C,D,hA,hB,hC,hD, ?_⟩
   obtain ⟨a1,a2⟩:=cA A hA
   obtain ⟨c1,c2⟩:=cC C hC
   have b2:=vis_change (by omega:0≤A.ch) hB
   have d2:=vis_change (by omega:0≤C.ch) hD
   obtain ⟨q1,q2,q3,q4,q5,q6⟩:=p1
   obtain ⟨r1,r2,r3,r4,r5,r6⟩:=p2
   rw [b2,d2,a2,c2]
   simp only [List.map_append,List.map_take,List.map_drop,putF_t]
   rw [show (two.a + ((one.put.length:Int) - one.c)).toNat = one.a.toNat + one.put.length + (two.a.toNat - (one.a.toNat + one.c.toNat)) by omega]
   exact apart_list (n1:=one.a.toNat) (m1:=one.c.toNat) (n2:=two.a.toNat) (m2:=two.c.toNat) (v.map (·.t)) one.put two.put (by omega) (by rw [List.length_map];omega)
  ·right
   refine ⟨fun A hA=>?_,fun C hC=>absurd (can2.1 ⟨C,hC⟩) p2⟩
   cases hB:changeF d A { two with a:=two.a + (one.put.length - one.c) } with
   | none=>rfl
   | some B=>exact absurd ((iff1 A hA).1 ⟨B,hB⟩) p2
 ·right
  refine ⟨fun A hA=>absurd (can1.1 ⟨A,hA⟩) p1,fun C hC=>?_⟩
  cases hD:changeF d C one with
  | none=>rfl
  | some D=>exact absurd ((iff2 C hC).1 ⟨D,hD⟩) p1
end Go.Proofs.Ytefnikpoimaiiaa
