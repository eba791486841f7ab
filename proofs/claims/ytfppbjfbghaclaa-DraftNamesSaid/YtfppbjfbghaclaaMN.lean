/- Layer 3 (plain): what is shown; protected words stay. Layer 3: the law of DraftKept. Layer 3: items compared; shown. Layer 3 (plain): what holds of every sheet; a change that is undone at once; when all changes are undone. Layer 3 (plain): a change, as it is seen; two changes that do not touch. Layer 3: steps copied out of a row that is lent; the law of DraftAtOnce. Layer 3: steps copied into an own row; plain. Layer 3, plain: the steps of a style as a run over what is visible. Layer 3: rules: how they are read; whether they are right. Layer 3: where a rule finds its texts. Layer 3: the reference: whether rules are right. Layer 3: Style. Layer 3, plain: what the steps of a style are: all can be done; one rule makes few; its texts are nowhere behind it. -/
import Derived.Test.YtfppbjfbghaclaaML
import Derived.Test.YtfppbjfbghaclaaMI
import Derived.Test.YtfppbjfbghaclaaMD
set_option linter.unusedSimpArgs false
set_option linter.unusedVariables false
namespace Go.Proofs.Ytfppbjfbghaclaa
open Go.Pal Go.RowKit
set_option maxRecDepth 100000
theorem visN (l:List It):∀ n,n≤l.length→(placesN l n).map (fun i=>l.getD i default) = (l.take n).filter (fun y=>y.g = 0)
 | 0,_=>by simp [placesN]
 | n + 1,h=>by
  have ih:=visN l n (by omega)
  have h1:n < l.length:=by omega
  have hgd:l.getD n default = l[n]:=by simp [h1]
  rw [placesN_succ,List.take_add_one,List.getElem?_eq_getElem h1,List.filter_append,hgd]
  split
  ·rename_i hg
   rw [List.map_append,ih]
   congr 1
   show [l.getD n default] = _
   rw [hgd,Option.toList_some,List.filter_cons,if_pos (by simpa using hg)];rfl
  ·rename_i hg
   rw [ih]
   simp [hg]
def visF (l:List It):List It:=l.filter fun y=>y.g = 0
theorem places_vis (l:List It):(placesF l).map (fun i=>l.getD i default) = visF l:=by
 rw [placesF,visN l l.length (Nat.le_refl _),List.take_length];rfl
theorem places_len (l:List It):(placesF l).length = (visF l).length:=by rw [← places_vis,List.length_map]
end Go.Proofs.Ytfppbjfbghaclaa

namespace Go.Proofs.Ytfppbjfbghaclaa
open Go.Pal Go.RowKit
set_option maxRecDepth 100000
end Go.Proofs.Ytfppbjfbghaclaa

namespace Go.Proofs.Ytfppbjfbghaclaa
open Go.Pal Go.RowKit
set_option maxRecDepth 100000
instance:DecidableEq Vi:=fun a b=>decidable_of_iff (a.t = b.t∧a.o = b.o∧a.m = b.m) (by cases a;cases b;simp)
end Go.Proofs.Ytfppbjfbghaclaa

namespace Go.Proofs.Ytfppbjfbghaclaa
open Go.Pal Go.RowKit
set_option maxRecDepth 100000
def It.key (y:It):ByteArray × Int × Int:=(y.t,y.o,y.m)
end Go.Proofs.Ytfppbjfbghaclaa

namespace Go.Proofs.Ytfppbjfbghaclaa
open Go.Pal Go.RowKit
set_option maxRecDepth 100000
theorem placesF_lt (l:List It):(placesF l).Pairwise (· < ·):=List.pairwise_lt_range.filter _
theorem placesN_filter (l:List It) {m:Nat} (h:m≤l.length):placesN l m = (placesF l).filter fun i=>decide (i < m):=by
 have:∀ k,placesN l m = (placesN l (m + k)).filter fun i=>decide (i < m):=by
  intro k
  induction k with
  | zero =>
   rw [Nat.add_zero]
   exact (List.filter_eq_self.2 fun i hi=>decide_eq_true (placesN_lt hi)).symm
  | succ k ih =>
   rw [← Nat.add_assoc,placesN_succ]
   split
   ·rw [List.filter_append, ← ih]
    have:([m + k].filter fun i=>decide (i < m)) = []:=by simp
    rw [this,List.append_nil]
   ·exact ih
 have h2:=this (l.length - m)
 rw [show m + (l.length - m) = l.length by omega] at h2
 exact h2
theorem filter_lt_take:∀ {P:List Nat} {a:Nat},P.Pairwise (· < ·)→(h:a < P.length)→P.filter (fun i=>decide (i < P[a])) = P.take a
 | [],a,_,h=>absurd h (Nat.not_lt_zero a)
 | x :: r,0,hp,h=>by
  obtain ⟨h1,_⟩:=List.pairwise_cons.1 hp
  rw [List.take_zero,List.filter_eq_nil_iff]
  intro i hi
  simp only [List.getElem_cons_zero,decide_eq_true_eq]
  rcases List.mem_cons.1 hi with rfl | hi
  ·omega
  ·have:=h1 i hi;omega
 | x :: r,a + 1,hp,h=>by
  obtain ⟨h1,h2⟩:=List.pairwise_cons.1 hp
  have hr:a < r.length:=by simpa using h
  have hx:x < r[a]:=h1 _ (List.getElem_mem hr)
  rw [List.take_succ_cons,List.filter_cons,List.getElem_cons_succ,if_pos (decide_eq_true hx),filter_lt_take h2 hr]
theorem filter_le_take:∀ {P:List Nat} {a:Nat},P.Pairwise (· < ·)→(h:a < P.length)→P.filter (fun i=>decide (i < P[a] + 1)) = P.take (a + 1)
 | [],a,_,h=>absurd h (Nat.not_lt_zero a)
 | x :: r,0,hp,h=>by
  obtain ⟨h1,_⟩:=List.pairwise_cons.1 hp
  rw [List.filter_cons,if_pos (by simp),List.filter_eq_nil_iff.2]
  ·rfl
  ·intro i hi
   have:=h1 i hi
   simp only [List.getElem_cons_zero,decide_eq_true_eq];omega
 | x :: r,a + 1,hp,h=>by
  obtain ⟨h1,h2⟩:=List.pairwise_cons.1 hp
  have hr:a < r.length:=by simpa using h
  have hx:x < r[a]:=h1 _ (List.getElem_mem hr)
  rw [List.take_succ_cons,List.filter_cons,List.getElem_cons_succ,if_pos (decide_eq_true (by omega)),filter_le_take h2 hr]
theorem goneF_at (n:Int) (i:Nat):∀ (ps:List Nat) (l:List It),i ∉ ps→(goneF l n ps).getD i default = l.getD i default
 | [],l,_=>rfl
 | p :: ps,l,h=>by
  have h2:=goneF_at n i ps (l.set p { l.getD p default with g:=n }) fun h1=>h (by simp [h1])
  have e:goneF l n (p :: ps) = goneF (l.set p { l.getD p default with g:=n }) n ps:=rfl
  rw [e,h2,List.getD_eq_getElem?_getD,List.getElem?_set_ne (fun e=>h (by simp [e])),List.getD_eq_getElem?_getD]
theorem goneF_in (n:Int) (i:Nat):∀ (ps:List Nat) (l:List It),i∈ps→i < l.length→((goneF l n ps).getD i default).g = n
 | [],l,h,_=>by cases h
 | p :: ps,l,h,hi=>by
  have e:goneF l n (p :: ps) = goneF (l.set p { l.getD p default with g:=n }) n ps:=rfl
  rw [e]
  by_cases hm:i∈ps
  ·exact goneF_in n i ps _ hm (by rw [List.length_set];exact hi)
  ·rw [goneF_at n i ps _ hm]
   have:i = p:=by
    rcases List.mem_cons.1 h with h | h
    ·exact h
    ·exact absurd h hm
   subst this
   simp [List.getD_eq_getElem?_getD,hi]
theorem places_gone {l:List It} {n:Int} (hn:n≠0) (cs:List Nat):placesF (goneF l n cs) = (placesF l).filter fun i=>!decide (i∈cs):=by
 rw [placesF,placesN,goneF_len,placesF,placesN,List.filter_filter]
 apply List.filter_congr
 intro i hi
 have hi:=List.mem_range.1 hi
 by_cases hm:i∈cs
 ·rw [decide_eq_false (by rw [goneF_in n i _ _ hm hi];exact hn),decide_eq_true hm];rfl
 ·rw [goneF_at n i _ _ hm,decide_eq_false hm];rfl
theorem vis_gone {l:List It} {n:Int} {a c:Nat} (hn:n≠0):visF (goneF l n (((placesF l).drop a).take c)) = (visF l).take a++(visF l).drop (a + c):=by
 have hnd:(placesF l).Nodup:=by rw [List.nodup_iff_pairwise_ne];exact (placesF_lt l).imp fun h=>by omega
 have hcs:∀ p∈((placesF l).drop a).take c,p < l.length:=fun p hp=>placesN_lt (List.mem_of_mem_drop (List.mem_of_mem_take hp))
 have hpl:=places_gone (l:=l) (n:=n) hn (((placesF l).drop a).take c)
 have hsplit:(placesF l).filter (fun i=>!decide (i∈((placesF l).drop a).take c)) = (placesF l).take a++(placesF l).drop (a + c):=by
  have e:placesF l = (placesF l).take a++(((placesF l).drop a).take c++(placesF l).drop (a + c)):=by
   rw [← List.drop_drop,List.take_append_drop,List.take_append_drop]
  have hnd2:=hnd
  rw [e] at hnd2
  obtain ⟨_,n2,n3⟩:=List.nodup_append.1 hnd2
  obtain ⟨_,_,n6⟩:=List.nodup_append.1 n2
  generalize hA:(placesF l).take a = A at *
  generalize hB:((placesF l).drop a).take c = B at *
  generalize hC:(placesF l).drop (a + c) = C at *
  rw [e,List.filter_append,List.filter_append]
  have f1:A.filter (fun i=>!decide (i∈B)) = A:=List.filter_eq_self.2 fun i hi=>by
   have:i ∉ B:=fun hb=>n3 i hi i (List.mem_append_left _ hb) rfl
   simp [this]
  have f2:B.filter (fun i=>!decide (i∈B)) = []:=List.filter_eq_nil_iff.2 fun i hi=>by simp [hi]
  have f3:C.filter (fun i=>!decide (i∈B)) = C:=List.filter_eq_self.2 fun i hi=>by
   have:i ∉ B:=fun hb=>n6 i hb i hi rfl
   simp [this]
  rw [f1,f2,f3,List.nil_append]
 have hout:∀ i∈(placesF l).take a++(placesF l).drop (a + c),i ∉ ((placesF l).drop a).take c:=fun i hi=>by
  rw [← hsplit] at hi
  simpa using (List.mem_filter.1 hi).2
 rw [← places_vis,hpl,hsplit,List.map_congr_left fun i hi=>goneF_at n i _ _ (hout i hi),List.map_append,List.map_take,List.map_drop,places_vis]
theorem visF_app (l r:List It):visF (l++r) = visF l++visF r:=List.filter_append ..
theorem take_gone (n:Int) (m:Nat):∀ (ps:List Nat) (l:List It),(∀ p∈ps,m≤p)→(goneF l n ps).take m = l.take m
 | [],l,_=>rfl
 | p :: ps,l,h=>by
  have e:goneF l n (p :: ps) = goneF (l.set p { l.getD p default with g:=n }) n ps:=rfl
  rw [e,take_gone n m ps _ fun q hq=>h q (by simp [hq]),List.take_set_of_le (h p (by simp))]
theorem vis_change {d:Dr} {S S1:Sh} {x:Sp} (h0:0≤S.ch) (hc:changeF d S x = some S1):visF S1.its = (visF S.its).take x.a.toNat++putF (S.ch + 1) x.put++(visF S.its).drop (x.a.toNat + x.c.toNat):=by
 unfold changeF at hc
 split at hc
 case isFalse=>cases hc
 rename_i hf
 cases hc
 obtain ⟨g1,g2,g3,g4,g5⟩:=fine_iff.1 hf.1
 have g2':0≤x.c∧x.c≤4:=by simpa [inF] using g2
 show visF (insF (goneF S.its (S.ch + 1) (cutF S.its x)) (placeF S.its x) (putF (S.ch + 1) x.put)) = _
 have hput:visF (putF (S.ch + 1) x.put) = putF (S.ch + 1) x.put:=List.filter_eq_self.2 fun y hy=>by
  obtain ⟨t,_,rfl⟩:=List.mem_map.1 hy;rfl
 have hall:visF (goneF S.its (S.ch + 1) (cutF S.its x)) = (visF S.its).take x.a.toNat++(visF S.its).drop (x.a.toNat + x.c.toNat):=vis_gone (by omega)
 have htake:visF ((goneF S.its (S.ch + 1) (cutF S.its x)).take (placeF S.its x)) = (visF S.its).take x.a.toNat:=by
  have fin:∀ {m:Nat},m≤S.its.length→(placesF S.its).filter (fun i=>decide (i < m)) = (placesF S.its).take x.a.toNat→visF (S.its.take m) = (visF S.its).take x.a.toNat:=fun {m} hm he=>by
   have:visF (S.its.take m) = (placesN S.its m).map (fun i=>S.its.getD i default):=(visN S.its m hm).symm
   rw [this,placesN_filter S.its hm,he,List.map_take,places_vis]
  by_cases hc0:0 < x.c
  ·have ha:x.a.toNat < (placesF S.its).length:=by omega
   have hpf:placeF S.its x = (placesF S.its)[x.a.toNat]:=by
    unfold placeF
    rw [if_pos hc0,List.getD_eq_getElem?_getD,List.getElem?_eq_getElem ha];rfl
   rw [hpf,take_gone]
   ·exact fin (Nat.le_of_lt (placesN_lt (List.getElem_mem ha))) (filter_lt_take (placesF_lt _) ha)
   ·intro p hp
    have hp:=List.mem_of_mem_take hp
    obtain ⟨k,hk,rfl⟩:=List.mem_iff_getElem.1 hp
    rw [List.getElem_drop]
    have hk:k < (placesF S.its).length - x.a.toNat:=by simpa using hk
    by_cases h00:k = 0
    ·subst h00;exact Nat.le_refl _
    ·exact Nat.le_of_lt (List.pairwise_iff_getElem.1 (placesF_lt S.its) _ _ ha (by omega) (by omega))
  ·have hcut:cutF S.its x = []:=by rw [cutF,show x.c.toNat = 0 by omega];rfl
   rw [hcut]
   show visF (S.its.take (placeF S.its x)) = _
   by_cases ha0:0 < x.a
   ·have ha:x.a.toNat - 1 < (placesF S.its).length:=by omega
    have hpf:placeF S.its x = (placesF S.its)[x.a.toNat - 1] + 1:=by
     unfold placeF
     rw [if_neg hc0,if_pos ha0,List.getD_eq_getElem?_getD,List.getElem?_eq_getElem ha];rfl
    rw [hpf]
    refine fin (placesN_lt (List.getElem_mem ha)) ?_
    rw [filter_le_take (placesF_lt _) ha,show x.a.toNat - 1 + 1 = x.a.toNat by omega]
   ·have hpf:placeF S.its x = 0:=by unfold placeF;rw [if_neg hc0,if_neg ha0]
    rw [hpf,show x.a.toNat = 0 by omega];rfl
 have hdrop:visF ((goneF S.its (S.ch + 1) (cutF S.its x)).drop (placeF S.its x)) = (visF S.its).drop (x.a.toNat + x.c.toNat):=by
  have:=hall
  rw [← List.take_append_drop (placeF S.its x) (goneF S.its (S.ch + 1) (cutF S.its x)),visF_app,htake] at this
  exact List.append_cancel_left this
 rw [insF,visF_app,visF_app,htake,hdrop,hput]
def canV (d:Dr) (v:List It) (x:Sp):Prop:=0≤x.a∧(0≤x.c∧x.c≤4)∧x.a + x.c≤v.length∧(inF x.put.length 0 4 && x.put.all textF) = true∧0 < x.c + x.put.length∧∀ y∈(v.drop x.a.toNat).take x.c.toNat,protF d y = false
theorem change_can {d:Dr} {S:Sh} {x:Sp}:(∃ S1,changeF d S x = some S1)↔canV d (visF S.its) x:=by
 have hcut:((visF S.its).drop x.a.toNat).take x.c.toNat = (cutF S.its x).map fun i=>S.its.getD i default:=by rw [cutF,List.map_take,List.map_drop,places_vis]
 have hl:=places_len S.its
 have e:(∃ S1,changeF d S x = some S1)↔(fineF S.its x = true∧(cutF S.its x).all (fun i=>!protF d (S.its.getD i default)) = true):=by
  unfold changeF
  split
  ·exact ⟨fun _=>‹_›,fun _=>⟨_,rfl⟩⟩
  ·exact ⟨fun ⟨_,h⟩=>(by cases h),fun h=>absurd h ‹_›⟩
 rw [e,fine_iff,canV,hcut]
 constructor
 ·rintro ⟨⟨g1,g2,g3,g4,g5⟩,h2⟩
  refine ⟨g1,by simpa [inF] using g2,by omega,g4,g5,fun y hy=>?_⟩
  obtain ⟨i,hi,rfl⟩:=List.mem_map.1 hy
  simpa using List.all_eq_true.1 h2 i hi
 ·rintro ⟨g1,g2,g3,g4,g5,h2⟩
  refine ⟨⟨g1,by simpa [inF] using g2,by omega,g4,g5⟩,List.all_eq_true.2 fun i hi=>?_⟩
  rw [h2 _ (List.mem_map.2 ⟨i,hi,rfl⟩)];rfl
theorem putF_len (n:Int) (put:List ByteArray):(putF n put).length = put.length:=by rw [putF,List.length_map]
theorem putF_t (n:Int) (put:List ByteArray):(putF n put).map (·.t) = put:=by rw [putF,List.map_map];simp [Function.comp_def]
theorem apart_list {α:Type} (V P1 P2:List α) {n1 m1 n2 m2:Nat} (h:n1 + m1 < n2) (hb:n2 + m2≤V.length) :
  (V.take n1++P1++V.drop (n1 + m1)).take (n1 + P1.length + (n2 - (n1 + m1)))++P2++(V.take n1++P1++V.drop (n1 + m1)).drop (n1 + P1.length + (n2 - (n1 + m1)) + m2) =
   (V.take n2++P2++V.drop (n2 + m2)).take n1++P1++(V.take n2++P2++V.drop (n2 + m2)).drop (n1 + m1):=by
 have l1:(V.take n1).length = n1:=by rw [List.length_take];omega
 have l2:(V.take n2).length = n2:=by rw [List.length_take];omega
 have e1:(V.take n1++P1++V.drop (n1 + m1)).take (n1 + P1.length + (n2 - (n1 + m1))) = V.take n1++P1++(V.drop (n1 + m1)).take (n2 - (n1 + m1)):=by
  rw [List.take_append,List.take_of_length_le (by rw [List.length_append,l1];omega),List.length_append,l1,show n1 + P1.length + (n2 - (n1 + m1)) - (n1 + P1.length) = n2 - (n1 + m1) by omega]
 have e2:(V.take n1++P1++V.drop (n1 + m1)).drop (n1 + P1.length + (n2 - (n1 + m1)) + m2) = V.drop (n2 + m2):=by
  rw [List.drop_append,List.drop_of_length_le (by rw [List.length_append,l1];omega),List.nil_append,List.drop_drop,List.length_append,l1,show n1 + m1 + (n1 + P1.length + (n2 - (n1 + m1)) + m2 - (n1 + P1.length)) = n2 + m2 by omega]
 have e3:(V.take n2++P2++V.drop (n2 + m2)).take n1 = V.take n1:=by
  rw [List.append_assoc,List.take_append_of_le_length (by rw [l2];omega),List.take_take,Nat.min_eq_left (by omega)]
 have e4:(V.take n2++P2++V.drop (n2 + m2)).drop (n1 + m1) = (V.drop (n1 + m1)).take (n2 - (n1 + m1))++P2++V.drop (n2 + m2):=by
  rw [List.append_assoc,List.drop_append_of_le_length (by rw [l2];omega),List.drop_take,List.append_assoc]
 rw [e1,e2,e3,e4]
 simp only [List.append_assoc]
theorem apart {d:Dr} (hv:validF d = true) {S:Sh} (h0:0≤S.ch) {one two:Sp} (h1:0≤one.a) (h2:0≤one.c) (h3:one.a + one.c < two.a) :
  (∃ A B C D,changeF d S one = some A∧changeF d A { two with a:=two.a + (one.put.length - one.c) } = some B∧changeF d S two = some C∧changeF d C one = some D∧(visF B.its).map (·.t) = (visF D.its).map (·.t)) ∨
  ((∀ A,changeF d S one = some A→changeF d A { two with a:=two.a + (one.put.length - one.c) } = none)∧∀ C,changeF d S two = some C→changeF d C one = none):=by
 obtain ⟨v,hvv⟩:∃ v,v = visF S.its:=⟨_,rfl⟩
 have cA:∀ A,changeF d S one = some A→A.ch = S.ch + 1∧visF A.its = v.take one.a.toNat++putF (S.ch + 1) one.put++v.drop (one.a.toNat + one.c.toNat):=fun A hA=>by
  refine ⟨?_,by rw [hvv];exact vis_change h0 hA⟩
  unfold changeF at hA
  split at hA<;>cases hA;rfl
 have cC:∀ C,changeF d S two = some C→C.ch = S.ch + 1∧visF C.its = v.take two.a.toNat++putF (S.ch + 1) two.put++v.drop (two.a.toNat + two.c.toNat):=fun C hC=>by
  refine ⟨?_,by rw [hvv];exact vis_change h0 hC⟩
  unfold changeF at hC
  split at hC<;>cases hC;rfl
 -- the second change behind the first one is as it is ahead of it
 have iff1:∀ A,changeF d S one = some A→((∃ B,changeF d A { two with a:=two.a + (one.put.length - one.c) } = some B)↔canV d v two):=fun A hA=>by
  obtain ⟨_,e⟩:=cA A hA
  have hcan:=(change_can (d:=d) (S:=S) (x:=one)).1 ⟨A,hA⟩
  rw [← hvv] at hcan
  obtain ⟨q1,q2,q3,q4,q5,q6⟩:=hcan
  have hlen:(visF A.its).length + one.c.toNat = v.length + one.put.length:=by
   rw [e]
   simp only [List.length_append,List.length_take,List.length_drop,putF_len]
   omega
  rw [change_can]
  have hdr:((visF A.its).drop (two.a + ((one.put.length:Int) - one.c)).toNat).take two.c.toNat = (v.drop two.a.toNat).take two.c.toNat:=by
   rw [e,List.drop_append,List.drop_of_length_le (by simp only [List.length_append,List.length_take,putF_len];omega),List.nil_append,List.drop_drop]
   congr 2
   simp only [List.length_append,List.length_take,putF_len]
   omega
  unfold canV
  dsimp only
  rw [hdr]
  constructor
  ·rintro ⟨r1,r2,r3,r4,r5,r6⟩
   exact ⟨by omega,r2,by omega,r4,r5,r6⟩
  ·rintro ⟨r1,r2,r3,r4,r5,r6⟩
   exact ⟨by omega,r2,by omega,r4,r5,r6⟩
 have iff2:∀ C,changeF d S two = some C→((∃ D,changeF d C one = some D)↔canV d v one):=fun C hC=>by
  obtain ⟨_,e⟩:=cC C hC
  have hcan:=(change_can (d:=d) (S:=S) (x:=two)).1 ⟨C,hC⟩
  rw [← hvv] at hcan
  obtain ⟨q1,q2,q3,q4,q5,q6⟩:=hcan
  have hlen:(visF C.its).length + two.c.toNat = v.length + two.put.length:=by
   rw [e]
   simp only [List.length_append,List.length_take,List.length_drop,putF_len]
   omega
  rw [change_can]
  have hdr:((visF C.its).drop one.a.toNat).take one.c.toNat = (v.drop one.a.toNat).take one.c.toNat:=by
   rw [e,List.append_assoc,List.drop_append_of_le_length (by rw [List.length_take];omega),List.take_append_of_le_length (by rw [List.length_drop,List.length_take];omega),List.drop_take,List.take_take,Nat.min_eq_left (by omega)]
  unfold canV
  rw [hdr]
  constructor
  ·rintro ⟨r1,r2,r3,r4,r5,r6⟩
   exact ⟨r1,r2,by omega,r4,r5,r6⟩
  ·rintro ⟨r1,r2,r3,r4,r5,r6⟩
   refine ⟨r1,r2, ?_,r4,r5,r6⟩
   have:two.a.toNat≤v.length:=by omega
   have h5:(two.put.length:Int) ≥ 0:=by omega
   have h6:(visF C.its).length ≥ two.a.toNat:=by
    rw [e];simp only [List.length_append,List.length_take];omega
   omega
 have can1:=change_can (d:=d) (S:=S) (x:=one)
 have can2:=change_can (d:=d) (S:=S) (x:=two)
 rw [← hvv] at can1 can2
 by_cases p1:canV d v one
 ·by_cases p2:canV d v two
  ·left
   obtain ⟨A,hA⟩:=can1.2 p1
   obtain ⟨C,hC⟩:=can2.2 p2
   obtain ⟨B,hB⟩:=(iff1 A hA).2 p2
   obtain ⟨D,hD⟩:=(iff2 C hC).2 p1
   refine ⟨A,B,C,D,hA,hB,hC,hD, ?_⟩
   obtain ⟨a1,a2⟩:=cA A hA
   obtain ⟨c1,c2⟩:=cC C hC
   have b2:=vis_change (by omega:0≤A.ch) hB
   have d2:=vis_change (by omega:0≤C.ch) hD
   obtain ⟨q1,q2,q3,q4,q5,q6⟩:=p1
   obtain ⟨r1,r2,r3,r4,r5,r6⟩:=p2
   rw [b2,d2,a2,c2]
   simp only [List.map_append,List.map_take,List.map_drop,putF_t]
   rw [show (two.a + ((one.put.length:Int) - one.c)).toNat = one.a.toNat + one.put.length + (two.a.toNat - (one.a.toNat + one.c.toNat)) by omega]
   exact apart_list (n1:=one.a.toNat) (m1:=one.c.toNat) (n2:=two.a.toNat) (m2:=two.c.toNat) (v.map (·.t)) one.put two.put (by omega) (by rw [List.length_map];omega)
  ·right
   refine ⟨fun A hA=>?_,fun C hC=>absurd (can2.1 ⟨C,hC⟩) p2⟩
   cases hB:changeF d A { two with a:=two.a + (one.put.length - one.c) } with
   | none=>rfl
   | some B=>exact absurd ((iff1 A hA).1 ⟨B,hB⟩) p2
 ·right
  refine ⟨fun A hA=>absurd (can1.1 ⟨A,hA⟩) p1,fun C hC=>?_⟩
  cases hD:changeF d C one with
  | none=>rfl
  | some D=>exact absurd ((iff2 C hC).1 ⟨D,hD⟩) p1
end Go.Proofs.Ytfppbjfbghaclaa

namespace Go.Proofs.Ytfppbjfbghaclaa
open Go.Pal Go.RowKit
set_option maxRecDepth 100000
end Go.Proofs.Ytfppbjfbghaclaa

namespace Go.Proofs.Ytfppbjfbghaclaa
open Go.Pal Go.RowKit
set_option maxRecDepth 100000
def RowSp (G:Hp) (l:List Sp) (n:Nat) (vs:List Value):Prop:=n = l.length∧vs.length = n * 4∧∀ i (h:i < l.length),((vs.drop (i * 4)).take 4).length = 4∧SpC G ((vs.drop (i * 4)).take 4) l[i]
theorem RowSp.grow {G G':Hp} {l:List Sp} {n:Nat} {vs:List Value} (hg:Grow G G') (h:RowSp G l n vs):RowSp G' l n vs:=⟨h.1,h.2.1,fun i hi=>⟨(h.2.2 i hi).1,SpC.grow _ _ hg (h.2.2 i hi).2⟩⟩
theorem RowSp.snoc {G:Hp} {l:List Sp} {n:Nat} {vs us:List Value} {x:Sp} (h:RowSp G l n vs) (hu:us.length = 4) (hx:SpC G us x):RowSp G (l++[x]) (n + 1) (vs++us):=by
 obtain ⟨rfl,h2,h3⟩:=h
 exact ⟨by simp,by rw [List.length_append,h2,hu];omega,spv_snoc h2 h3 hu hx⟩
theorem RowSp.pub {G:Hp} {a:Option Addr} {l:List Sp} {n c:Nat} {vs:List Value} (h:RowSp G l n vs) (hp:PubRow G a n c vs) (hb:n≤1000000):spsRd.R G (.slice a n c) l :=
 ⟨_,_,_,rfl,SlR.ofPub hp h.1.symm h.2.2,by unfold maxLen;omega⟩
end Go.Proofs.Ytfppbjfbghaclaa

namespace Go.Proofs.Ytfppbjfbghaclaa
open Go.Pal Go.RowKit
set_option maxRecDepth 100000
theorem visF_at {l:List It} {k:Nat} (h:k < (placesF l).length):(visF l).getD k default = l.getD ((placesF l).getD k 0) default:=by
 rw [← places_vis]
 simp [h]
structure Rul where
 f:List ByteArray
 p:List ByteArray
instance:Inhabited Rul:=⟨⟨[],[]⟩⟩
def okRul (r:Rul):Bool:=(inF r.f.length 1 4 && r.f.all textF) && (inF r.p.length 0 4 && r.p.all textF)
def okRuls (rs:List Rul):Bool:=decide (rs.length≤10) && rs.all okRul
def hitF (d:Dr) (v:List It) (r:Rul) (a k:Nat):Bool:=decide ((v.getD (a + k) default).t = r.f.getD k default) && !protF d (v.getD (a + k) default)
def foundF (d:Dr) (v:List It) (r:Rul) (a:Nat):Bool:=decide (a + r.f.length≤v.length) && (List.range r.f.length).all (hitF d v r a)
def stepR (r:Rul) (a:Nat):Sp:=⟨0,(a:Int),(r.f.length:Int),r.p⟩
def chV (v:List It) (c:Int) (r:Rul) (a:Nat):List It:=v.take a++putF (c + 1) r.p++v.drop (a + r.f.length)
inductive Run (d:Dr) (rs:List Rul):List It→Int→Nat→Nat→List Sp→Option (List Sp)→Prop
 | done {v c i a out}:rs.length≤i→Run d rs v c i a out (some out)
 | next {v c i a out r}:i < rs.length→v.length≤a→Run d rs v c (i + 1) 0 out r→Run d rs v c i a out r
 | skip {v c i a out r}:i < rs.length→a < v.length→foundF d v (rs.getD i default) a = false→Run d rs v c i (a + 1) out r→Run d rs v c i a out r
 | full {v c i a out}:i < rs.length→a < v.length→foundF d v (rs.getD i default) a = true→80≤out.length→Run d rs v c i a out none
 | hit {v c i a out r}:i < rs.length→a < v.length→foundF d v (rs.getD i default) a = true→out.length < 80→Run d rs (chV v c (rs.getD i default) a) (c + 1) i (a + (rs.getD i default).p.length) (out++[stepR (rs.getD i default) a]) r→Run d rs v c i a out r
theorem Run.uniq {d:Dr} {rs:List Rul} {v:List It} {c:Int} {i a:Nat} {out:List Sp} {r r':Option (List Sp)} (h:Run d rs v c i a out r) (h':Run d rs v c i a out r'):r = r':=by
 induction h with
 | done h1=>cases h'<;>first | rfl | (exfalso;omega)
 | next h1 h2 _ ih=>cases h'<;>first | exact ih ‹_› | (exfalso;omega)
 | skip h1 h2 h3 _ ih =>
  cases h'<;>first | (exfalso;omega) | exact ih ‹_› | exact absurd (h3.symm.trans ‹foundF d _ _ _ = true›) (by decide)
 | full h1 h2 h3 h4 =>
  cases h'<;>first | rfl | (exfalso;omega) | exact absurd (h3.symm.trans ‹foundF d _ _ _ = false›) (by decide)
 | hit h1 h2 h3 h4 _ ih =>
  cases h'<;>first | (exfalso;omega) | exact ih ‹_› | exact absurd (h3.symm.trans ‹foundF d _ _ _ = false›) (by decide)
theorem okRul_iff {r:Rul}:okRul r = true↔(1≤r.f.length∧r.f.length≤4∧r.f.all textF = true)∧(inF r.p.length 0 4 && r.p.all textF) = true:=by
 simp only [okRul,Bool.and_eq_true,inF,decide_eq_true_eq]
 constructor
 ·rintro ⟨⟨h1,h2⟩,h3⟩;exact ⟨⟨by omega,by omega,h2⟩,h3⟩
 ·rintro ⟨⟨h1,h2,h3⟩,h4⟩;exact ⟨⟨⟨by omega,by omega⟩,h3⟩,h4⟩
theorem okRul_p {r:Rul} (h:okRul r = true):r.p.length≤4:=by
 have h2:=(okRul_iff.1 h).2
 simp only [Bool.and_eq_true,inF,decide_eq_true_eq] at h2
 omega
theorem found_iff {d:Dr} {v:List It} {r:Rul} {a:Nat}:foundF d v r a = true↔a + r.f.length≤v.length∧∀ k < r.f.length,(v.getD (a + k) default).t = r.f.getD k default∧protF d (v.getD (a + k) default) = false:=by
 simp only [foundF,Bool.and_eq_true,decide_eq_true_eq,range_all,hitF,Bool.not_eq_true']
theorem change_hit {d:Dr} {S:Sh} {r:Rul} {a:Nat} (h0:0≤S.ch) (hr:okRul r = true) (hf:foundF d (visF S.its) r a = true):∃ S1,changeF d S (stepR r a) = some S1∧visF S1.its = chV (visF S.its) S.ch r a∧S1.ch = S.ch + 1:=by
 obtain ⟨h1,h2⟩:=found_iff.1 hf
 obtain ⟨⟨g1,g2,g3⟩,g4⟩:=okRul_iff.1 hr
 obtain ⟨S1,hS⟩:=(change_can (d:=d) (S:=S) (x:=stepR r a)).2 ⟨by show (0:Int)≤(a:Int);omega,⟨by show (0:Int)≤(r.f.length:Int);omega,by show (r.f.length:Int)≤4;omega⟩,by show (a:Int) + (r.f.length:Int)≤_;omega,g4,by show (0:Int) < (r.f.length:Int) + (r.p.length:Int);omega,fun y hy=>by
  obtain ⟨k,hk,rfl⟩:=List.mem_iff_getElem.1 hy
  have hk2:k < r.f.length:=by
   rw [List.length_take] at hk
   have e:(stepR r a).c.toNat = r.f.length:=rfl
   omega
  have:=(h2 k hk2).2
  have e:(visF S.its).getD (a + k) default = (visF S.its)[a + k]'(by omega):=by simp [show a + k < (visF S.its).length by omega]
  rw [e] at this
  simpa [stepR] using this⟩
 refine ⟨S1,hS, ?_, ?_⟩
 ·rw [vis_change h0 hS]
  show (visF S.its).take ((a:Int)).toNat++_++(visF S.its).drop ((a:Int).toNat + (r.f.length:Int).toNat) = _
  rfl
 ·unfold changeF at hS
  split at hS
  ·cases hS;rfl
  ·cases hS
theorem chV_len {v:List It} {c:Int} {r:Rul} {a:Nat} (h:a + r.f.length≤v.length):(chV v c r a).length + r.f.length = v.length + r.p.length:=by
 simp only [chV,List.length_append,List.length_take,List.length_drop,putF_len]
 omega
def Styles (d:Dr) (rs:List Rul) (r:Option (List Sp)):Prop:=Run d rs (visF (beginS d).its) 0 0 0 [] r
end Go.Proofs.Ytfppbjfbghaclaa

namespace Go.Proofs.Ytfppbjfbghaclaa
open Go.Pal Go.RowKit
set_option maxRecDepth 100000
def RuC (G:Hp) (cs:List Value) (r:Rul):Prop:=∃ f p,cs = [f,p]∧SlV strE G f r.f∧SlV strE G p r.p
theorem RuC.uniq {G:Hp} {cs:List Value} {x y:Rul} (h:RuC G cs x) (h':RuC G cs y):x = y:=by
 obtain ⟨f,p,h1,h2,h3⟩:=h
 obtain ⟨f',p',h1',h2',h3'⟩:=h'
 rw [h1] at h1'
 simp only [List.cons.injEq,and_true] at h1'
 obtain ⟨rfl,rfl⟩:=h1'
 have e1:=h2.uniq h2'
 have e2:=h3.uniq h3'
 cases x;cases y;simp_all
theorem RuC.grow {G G':Hp} (cs:List Value) (x:Rul) (hg:Grow G G') (h:RuC G cs x):RuC G' cs x:=by
 obtain ⟨f,p,h1,h2,h3⟩:=h
 exact ⟨f,p,h1,h2.grow hg,h3.grow hg⟩
def rusRd:Rd (List Rul):=⟨fun G v l=>∃ a n c,v = .slice a n c∧SlR 2 RuC G a n c l∧n≤140737488355328,fun ⟨a,n,c,h,h1,_⟩ ⟨a',n',c',h',h1',_⟩=>by
  rw [h] at h';cases h'
  exact h1.uniq (fun cs x y h h'=>RuC.uniq h h') h1',fun {G G' _ _} hg ⟨a,n,c,h,h1,h2⟩=>⟨a,n,c,h,SlR.grow (G:=G) (G':=G') (fun cs x h=>RuC.grow cs x hg h) h1 hg,h2⟩⟩
theorem list_of {α:Type} {p:Nat→α→Prop}:∀ {n:Nat},(∀ i < n, ∃ x,p i x)→∃ l:List α,l.length = n∧∀ i (h:i < l.length),p i l[i]
 | 0,_=>⟨[],rfl,fun i h=>absurd h (by simp)⟩
 | n + 1,h=>by
  obtain ⟨l,h1,h2⟩:=list_of (n:=n) fun i hi=>h i (by omega)
  obtain ⟨x,hx⟩:=h n (by omega)
  refine ⟨l++[x],by simp [h1],fun i hi=>?_⟩
  by_cases hn:i < l.length
  ·rw [List.getElem_append_left hn];exact h2 i hn
  ·have:i = l.length:=by simp at hi;omega
   subst this
   rw [List.getElem_append_right (Nat.le_refl _)]
   simpa [h1] using hx
def RawOk (G:Hp) (x:Sl3 × Sl3) (r:Rul):Prop:=SlV strE G (slOf x.1) r.f∧SlV strE G (slOf x.2) r.p
theorem RawOk.grow {G G':Hp} {x:Sl3 × Sl3} {r:Rul} (hg:Grow G G') (h:RawOk G x r):RawOk G' x r:=⟨h.1.grow hg,h.2.grow hg⟩
theorem raws {G:Hp} {v:Value} {rs:List Rul} (h:rusRd.R G v rs):∃ l,SlV rawE G v l∧l.length = rs.length∧∀ i < l.length,RawOk G (l.getD i default) (rs.getD i default):=by
 obtain ⟨a,n,c,rfl,h1,h2⟩:=h
 have hlen:=h1.len
 obtain ⟨l,k1,k2⟩:=list_of (n:=n) (p:=fun i (x:Sl3 × Sl3)=>CellsAt G (ab a) (ao a + i * 2) (rawE.f x)∧RawOk G x (rs.getD i default)) fun i hi=>by
  obtain ⟨cs,c1,c2,f,p,rfl,c4,c5⟩:=h1.at_ i (by omega)
  obtain ⟨fa,fn,fc,rfl,_⟩:=id c4
  obtain ⟨pa,pn,pc,rfl,_⟩:=id c5
  have e:rs.getD i default = rs[i]:=by simp [show i < rs.length by omega]
  exact ⟨((fa,fn,fc),(pa,pn,pc)),c2,by rw [e];exact ⟨c4,c5⟩⟩
 refine ⟨l,⟨a,n,c,rfl,⟨k1,h1.cap,h1.some,fun i hi=>⟨_,rawE.len _,(k2 i hi).1,rfl⟩⟩,h2⟩,by omega,fun i hi=>?_⟩
 have e:l.getD i default = l[i]:=by simp [hi]
 rw [e];exact (k2 i hi).2
theorem Sound.hpWith {P:Program} {f:FuncId} {sh:List Value→List Value} {pre pre':List Value→Hp→Hp→Prop} {q q':List Value→Hp→Value→Hp→Hp→Prop} {R:List Value→Hp→Prop} (h:Sound P f sh (.hp pre q)) (hR:∀ args G G',Grow G G'→R args G→R args G') (h1:∀ args p G,pre' args p G→pre args p G∧R args G) (h2:∀ args p v p' G,q args p v p' G→R args G→q' args p v p' G)
  (hm:∀ args p v p' G G',Grow G G'→q' args p v p' G→q' args p v p' G'):Sound P f sh (.hp pre' q') :=
 ⟨hm,fun args p G W hs hp hpre=>(h.2 args p G W hs hp (h1 args p G hpre).1).mono fun e W' ⟨v,p',G',k1,k2,k3,k4,k5⟩=>⟨v,p',G',k1,h2 _ _ _ _ _ k2 (hR _ _ _ k4 (h1 args p G hpre).2),k3,k4,k5⟩⟩
theorem right58 (r:Rul) (x:Sl3 × Sl3):Sound Try.prog 20 id (pureS (fun args G=>args = [.agg (rawE.f x).toArray]∧RawOk G x r) (.bool (okRul r))):=by
 refine comp58.hp (Tab.nil _) (fun args p G h=>?_) (fun args p v p' G G' hg h=>h) (fun args p G h=>?_)
 ·obtain ⟨rfl,_⟩:=h;simp
 ·obtain ⟨rfl,h1,h2⟩:=h
  obtain ⟨⟨fa,fn,fc⟩,pa,pn,pc⟩:=x
  (conv=>whnf)
  refine CallH.mk _ (texts59 r.f 1 4) body59 (W.mk ?_)
  (conv=>whnf)
  refine HpcP.mk ⟨_,rfl,h1⟩ (fun v p1 G1 hg1 hq=>W.mk ?_)
  obtain ⟨rfl,hk1⟩:=hq
  dsimp only
  (conv=>whnf)
  refine ForkP.mk (fun e1=>W.mk ?_) (fun e1=>W.mk ?_)<;>(conv=>whnf)
  ·refine CallH.mk _ (texts59 r.p 0 4) body59 (W.mk ?_)
   (conv=>whnf)
   refine HpcP.mk ⟨_,rfl,h2.grow hg1⟩ (fun v p2 G2 hg2 hq=>W.mk ?_)
   obtain ⟨rfl,hk2⟩:=hq
   dsimp only
   (conv=>whnf)
   refine ForkP.mk (fun e2=>W.mk ?_) (fun e2=>W.mk ?_)<;>(conv=>whnf)<;>refine NmP.mk ⟨[],W.mk ?_⟩<;>(conv=>whnf)<;>refine FinHp.of rfl ⟨congrArg Value.bool ?_,hk1.trans hk2⟩<;>rw [okRul,e1,e2]<;>rfl
  ·refine NmP.mk ⟨[],W.mk ?_⟩
   (conv=>whnf)
   refine FinHp.of rfl ⟨congrArg Value.bool ?_,hk1⟩
   rw [okRul,e1];rfl
theorem judge58 (l:List (Sl3 × Sl3)) (rs:List Rul) (hl:l.length = rs.length):Judge Try.prog (.func (.func 20) #[] #[]) (fun w=>.agg (rawE.f w).toArray) l (fun _ _ G=>∀ i < l.length,RawOk G (l.getD i default) (rs.getD i default)) (fun _=>False) (fun i=>okRul (rs.getD i default)) true:=by
 refine ⟨fun i hi _=>SoundFn.of body58 (Sound.bare ?_),fun _ _ _ _ _ h=>h,fun i p G G' hg h k hk=>(h k hk).grow hg,fun _ _ _ _ _ h=>h.elim⟩
 have e:l.getD i default = l[i]:=by simp [hi]
 refine Sound.hpWith (R:=fun _ G=>∀ i < l.length,RawOk G (l.getD i default) (rs.getD i default)) (right58 (rs.getD i default) l[i]) (fun args G G' hg h k hk=>(h k hk).grow hg) (fun args p G hp=>⟨⟨hp.1,by rw [← e];exact hp.2 i hi⟩,hp.2⟩) (fun args p v p' G hq hR=>⟨hq.1,hR,hq.2⟩) (fun args p v p' G G' hg h=>⟨h.1,fun k hk=>(h.2.1 k hk).grow hg,h.2.2⟩)
end Go.Proofs.Ytfppbjfbghaclaa

namespace Go.Proofs.Ytfppbjfbghaclaa
open Go.Pal Go.RowKit
set_option maxRecDepth 100000
theorem none63:Sound Try.prog 26 id (.fn (fun args _=>args = []) fun _=>.agg #[I (-1),I (-1)]):=by
 refine comp63.fn (Tab.nil _) (fun args G h=>?_) (fun args G h=>?_)
 ·subst h;simp
 ·subst h
  (conv=>whnf)
  repeat' (refine ob ?_ ?_;(first | trivial | omega | (simp only [inR];omega) | exact ble (by rfl) | exact SlR.some ‹_› (by omega));(conv=>whnf))
  exact FinP.mk rfl
theorem found89 (b:Nat) (d:Dr) (S:Sh) (hs:S.small) (r:Rul) (a:Nat) (ha:a≤100000) (hr:r.f.length≤1000):Sound Try.prog 50 id (.hp (fun args p G=>∃ cs pv,args = [ptr b, .agg cs.toArray,pv,I a]∧RuC G cs r∧SlV natE G pv (placesF S.its)∧ShH p G b d S) fun _ p v p' _=>v = .bool (foundF d (visF S.its) r a)∧p' = p):=by
 refine comp89.hp (Tab.nil _) (fun args p G h=>?_) (fun args p v p' G G' hg h=>h) (fun args p G h=>?_)
 ·obtain ⟨cs,pv,rfl,_⟩:=h;simp
 ·obtain ⟨_,pv,rfl,⟨f,q,rfl,hfv,hqv⟩,hpl,w,k,iv,lv,hv⟩:=h
  obtain ⟨fa,fn,fc,rfl,hf,hfn⟩:=id hfv
  obtain ⟨qa,qn,qc,rfl,_,_⟩:=id hqv
  obtain ⟨va,vn,vc,rfl,hvl,hvn⟩:=id hpl
  have hflen:=hf.len
  have hvlen:=hvl.len
  have hvis:=places_len S.its
  have hple:=placesN_le S.its S.its.length
  have hpl9:vn≤10000:=by have:=hs.1;have:(placesF S.its).length≤S.its.length:=hple;omega
  (conv=>whnf)
  repeat' (refine ob ?_ ?_;(first | trivial | omega | (simp only [inR];omega) | exact ble (by rfl) | exact SlR.some ‹_› (by omega));(conv=>whnf))
  refine IteP.mk (fun h0=>W.mk ?_) (fun h0=>W.mk ?_)<;>(conv=>whnf)
  ·refine NmP.mk ⟨[],W.mk ?_⟩
   (conv=>whnf)
   refine FinHp.of rfl ⟨congrArg Value.bool ?_,rfl⟩
   symm
   rw [foundF,decide_eq_false (by omega),Bool.false_and]
  refine LoopP.of { α:=Nat,fr:=fun x=>[(0, .v (ptr b)),(2, .v (.slice va vn vc)),(3, .v (I a)),(5, .c (.ptr 1000 0)),(21, .v (.slice fa fn fc)),(22, .v (I fn)),(23, .v (I x))],H:=fun _=>[(0, .heap p),(1000, .cells .anon [.val (.slice fa fn fc), .val (.slice qa qn qc)] 39)],ok:=fun i _=>i≤r.f.length∧∀ j < i,hitF d (visF S.its) r a j = true,m:=fun x=>r.f.length - x }
   0 (HeadP.of [] ⟨rfl,rfl,rfl,rfl,rfl,rfl,rfl,trivial⟩ ⟨rfl,rfl,trivial⟩) ⟨Nat.zero_le _,fun j hj=>by omega⟩ (fun _=>⟨rfl,rfl⟩) (fun (i:Nat) G2 hg2 hx=>W.mk ?_)
  obtain ⟨hi,hx⟩:=hx
  dsimp only
  (conv=>whnf)
  refine IteP.mk (fun hlt=>W.mk ?_) (fun hge=>W.mk ?_)<;>(conv=>whnf)
  ·have h1:i < r.f.length:=by omega
   have hvl2:=SlR.grow (G:=G) (G':=G2) (fun _ _ h=>h) hvl hg2
   have hf2:=SlR.grow (G:=G) (G':=G2) (fun _ _ h=>h) hf hg2
   have hv2:=ShV.grow hg2 hv
   have h2:a + i < (placesF S.its).length:=by omega
   have hva:=visF_at h2
   have hpg:(placesF S.its).getD (a + i) 0 = (placesF S.its)[a + i]:=by simp [h2]
   have hpm:=placesN_lt (List.getElem_mem h2)
   have hce:=hvl2.el h2
   rw [hpg] at hva
   generalize (placesF S.its)[a + i] = q at hva hpm hce
   obtain ⟨ib,c2,rest2,rfl,hb2,hfit2,_⟩:=ShV.item hv2 hpm
   have hgq:S.its.getD q default = S.its[q]:=by simp [hpm]
   rw [hgq] at hva
   have hfl:=flat_at itE S.its rest2 hpm
   generalize S.its[q] = y at hva hfl
   have hcf:=hf2.el h1
   have hgf:r.f.getD i default = r.f[i]:=by simp [h1]
   have bad:hitF d (visF S.its) r a i = false→foundF d (visF S.its) r a = false:=fun h=>by
    have:(List.range r.f.length).all (hitF d (visF S.its) r a) = false:=by
     cases hh:(List.range r.f.length).all (hitF d (visF S.its) r a) with
     | false=>rfl
     | true=>rw [range_all.1 hh i h1] at h;cases h
    rw [foundF,this,Bool.and_false]
   have hhit:hitF d (visF S.its) r a i = (decide (y.t = r.f[i]) && !protF d y):=by rw [hitF,hva,hgf]
   have nxt:hitF d (visF S.its) r a i = true→∀ j < i + 1,hitF d (visF S.its) r a j = true:=fun ht j hj=>by
    rcases Nat.lt_or_eq_of_le (Nat.le_of_lt_succ hj) with h | h
    ·exact hx j h
    ·subst h;exact ht
   generalize r.f[i] = s at hcf hhit
   rw [hhit] at bad nxt
   (refine ob ?_ ?_;(first | trivial | omega | (simp only [inR];omega) | exact ble (by rfl) | exact SlR.some ‹_› (by omega));(conv=>whnf))
   refine OblP.mk (hf2.some (by omega)) (W.mk ?_)
   (conv=>whnf)
   refine RdhP.g hcf rfl (W.mk ?_)
   (conv=>whnf)
   refine RdhP.h (ds:=[w,k, .slice (some ⟨ib,0,none⟩) S.its.length c2,lv,I S.ch]) hv2.1 rfl (W.mk ?_)
   (conv=>whnf)
   repeat' (refine ob ?_ ?_;(first | trivial | omega | (simp only [inR];omega) | exact ble (by rfl) | exact SlR.some ‹_› (by omega));(conv=>whnf))
   rw [show ((a:Int) + (i:Int)).toNat = a + i by omega]
   refine RdhP.g hce rfl (W.mk ?_)
   (conv=>whnf)
   repeat' (refine ob ?_ ?_;(first | trivial | omega | (simp only [inR];omega) | exact ble (by rfl) | exact SlR.some ‹_› (by omega));(conv=>whnf))
   refine RowH.cells (cs:=itE.f y) hb2 (by rw [← hfl];simp;rfl) rfl (W.mk ?_)
   (conv=>whnf)
   have fin:∀ bb:Bool,foundF d (visF S.its) r a = bb→Value.bool bb = .bool (foundF d (visF S.its) r a)∧p = p:=fun bb h=>⟨by rw [h],rfl⟩
   refine PurP.of _ (pur_neT y.t s) (W.mk ?_)
   (conv=>whnf)
   refine ForkP.mk (fun ht=>W.mk ?_) (fun ht=>W.mk ?_)<;>(conv=>whnf)
   ·refine NmP.mk ⟨[],W.mk ?_⟩
    (conv=>whnf)
    exact FinHp.of rfl (fin false (bad (by simp at ht;simp [ht])))
   ·have ht:y.t = s:=by simpa using ht
    refine CallH.mk _ (prot91 b d S y) body91 (W.mk ?_)
    (conv=>whnf)
    refine HpcP.mk ⟨rfl,w,k,_,_,hv2⟩ (fun v p5 G5 hg5 hq=>W.mk ?_)
    obtain ⟨rfl,rfl⟩:=hq
    cases hpr:protF d y with
    | true =>
     (conv=>whnf)
     refine ForkP.mk (fun _=>W.mk ?_) (fun h=>by cases h)
     (conv=>whnf)
     refine NmP.mk ⟨[],W.mk ?_⟩
     (conv=>whnf)
     exact FinHp.of rfl (fin false (bad (by rw [hpr];simp)))
    | false =>
     (conv=>whnf)
     refine ForkP.mk (fun h=>by cases h) (fun _=>W.mk ?_)
     (conv=>whnf)
     repeat' (refine ob ?_ ?_;(first | trivial | omega | (simp only [inR];omega) | exact ble (by rfl) | exact SlR.some ‹_› (by omega));(conv=>whnf))
     exact RoundP.of (i + 1) (HeadP.of [] ⟨rfl,rfl,rfl,rfl,rfl,rfl,rfl,trivial⟩ ⟨rfl,rfl,trivial⟩) ⟨h1,nxt (by rw [hpr,ht];simp)⟩ (by simp only;omega)
  ·have:i = r.f.length:=by omega
   subst this
   refine NmP.mk ⟨[],W.mk ?_⟩
   (conv=>whnf)
   refine FinHp.of rfl ⟨congrArg Value.bool ?_,rfl⟩
   symm
   rw [foundF,decide_eq_true (by omega),Bool.true_and]
   exact range_all.2 hx
def NextQ (d:Dr) (rs:List Rul) (v:List It) (i a:Nat) (res:Value):Prop :=
 (res = .agg #[I (-1),I (-1)]∧∀ c out,Run d rs v c i a out (some out)) ∨
 ∃ i' a':Nat,res = .agg #[I i',I a']∧i' < rs.length∧a' < v.length∧foundF d v (rs.getD i' default) a' = true∧(i < i'∨i = i'∧a≤a')∧∀ c out r,Run d rs v c i' a' out r→Run d rs v c i a out r
theorem next62 (b:Nat) (d:Dr) (S:Sh) (hs:S.small) (rs:List Rul) (hrs:rs.length≤1000∧∀ r∈rs,r.f.length≤1000) (i a:Nat) (ha:a≤100000) (hi:i≤1000):Sound Try.prog 25 id (.hp (fun args p G=>∃ rv,args = [ptr b,rv, .agg #[I i,I a]]∧rusRd.R G rv rs∧ShH p G b d S) fun _ p v p' _=>NextQ d rs (visF S.its) i a v∧p' = p):=by
 refine comp62.hp (Tab.nil _) (fun args p G h=>?_) (fun args p v p' G G' hg h=>h) (fun args p G h=>?_)
 ·obtain ⟨rv,rfl,_⟩:=h;simp
 ·obtain ⟨rv,rfl,⟨ra,rn,rc,rfl,hrl,hrn⟩,hsh⟩:=h
  have hrlen:=hrl.len
  (conv=>whnf)
  repeat' (refine ob ?_ ?_;(first | trivial | omega | (simp only [inR];omega) | exact ble (by rfl) | exact SlR.some ‹_› (by omega));(conv=>whnf))
  refine CallH.mk _ (placesH b d S hs) body88 (W.mk ?_)
  (conv=>whnf)
  refine HpcP.mk ⟨rfl,hsh⟩ (fun v p1 G1 hg1 hq=>W.mk ?_)
  obtain ⟨rfl,hpl⟩:=hq
  obtain ⟨va,vn,vc,rfl,hvl,hvn⟩:=id hpl
  have hvlen:=hvl.len
  have hvis:=places_len S.its
  have hple:=placesN_le S.its S.its.length
  have hpl9:vn≤10000:=by have:=hs.1;have:(placesF S.its).length≤S.its.length:=hple;omega
  have hsh1:=hsh.grow hg1
  (conv=>whnf)
  refine LoopP.of { α:=Nat × Nat,fr:=fun x=>[(0, .v (ptr b)),(1, .v (.slice ra rn rc)),(5, .c (.ptr 1000 0)),(6, .c (.ptr 1001 0)),(7, .v (.slice va vn vc))],H:=fun x=>[(0, .heap p1),(1000, .cells .anon [.val (I x.1), .val (I x.2)] 78),(1001, .cells .anon [.val (I 0), .val (I 0)] 78)],ok:=fun x _=>x.1≤1000∧x.2≤100000∧(i < x.1∨i = x.1∧a≤x.2)∧∀ c out r,Run d rs (visF S.its) c x.1 x.2 out r→Run d rs (visF S.its) c i a out r,m:=fun x=>rs.length - x.1 }
   (i,a) (HeadP.of [] ⟨rfl,rfl,rfl,rfl,rfl,trivial⟩ ⟨rfl,rfl,rfl,trivial⟩) ⟨hi,ha, .inr ⟨rfl,Nat.le_refl _⟩,fun _ _ _ h=>h⟩ (fun _=>⟨rfl,rfl⟩) (fun x G2 hg2 hx=>W.mk ?_)
  obtain ⟨i1,a1⟩:=x
  obtain ⟨hi1,ha1,hle,hback⟩:=hx
  dsimp only at hi1 ha1 hle hback
  dsimp only
  (conv=>whnf)
  repeat' (refine ob ?_ ?_;(first | trivial | omega | (simp only [inR];omega) | exact ble (by rfl) | exact SlR.some ‹_› (by omega));(conv=>whnf))
  refine IteP.mk (fun hlt=>W.mk ?_) (fun hge=>W.mk ?_)<;>(conv=>whnf)
  ·have h1:i1 < rs.length:=by omega
   repeat' (refine ob ?_ ?_;(first | trivial | omega | (simp only [inR];omega) | exact ble (by rfl) | exact SlR.some ‹_› (by omega));(conv=>whnf))
   refine LoopP.of { α:=Nat,fr:=fun x=>[(0, .v (ptr b)),(1, .v (.slice ra rn rc)),(5, .c (.ptr 1000 0)),(6, .c (.ptr 1001 0)),(7, .v (.slice va vn vc)),(8, .v (I x))],H:=fun _=>[(0, .heap p1),(1000, .cells .anon [.val (I i1), .val (I a1)] 78),(1001, .cells .anon [.val (I 0), .val (I 0)] 78)],ok:=fun x _=>x≤100000∧a1≤x∧∀ c out r,Run d rs (visF S.its) c i1 x out r→Run d rs (visF S.its) c i1 a1 out r,m:=fun x=>vn - x }
    a1 (HeadP.of [] ⟨rfl,rfl,rfl,rfl,rfl,rfl,trivial⟩ ⟨rfl,rfl,rfl,trivial⟩) ⟨ha1,Nat.le_refl _,fun _ _ _ h=>h⟩ (fun _=>⟨rfl,rfl⟩) (fun (a2:Nat) G3 hg3 hx=>W.mk ?_)
   obtain ⟨ha2,hle2,hback2⟩:=hx
   dsimp only
   (conv=>whnf)
   refine IteP.mk (fun hlt2=>W.mk ?_) (fun hge2=>W.mk ?_)<;>(conv=>whnf)
   ·have h2:a2 < (visF S.its).length:=by omega
    have hrl3:=SlR.grow (G:=G) (G':=G3) (fun cs x h=>RuC.grow cs x (hg1.trans (hg2.trans hg3)) h) hrl (hg1.trans (hg2.trans hg3))
    obtain ⟨cs,c1,c2,c3⟩:=hrl3.at_ i1 h1
    have hgr:rs.getD i1 default = rs[i1]:=by simp [h1]
    have hf9:=hrs.2 _ (List.getElem_mem h1)
    rw [← hgr] at c3 hf9
    obtain ⟨f,q,rfl,hfv,hqv⟩:=id c3
    obtain ⟨fa,fn,fc,rfl,_,_⟩:=id hfv
    obtain ⟨qa,qn,qc,rfl,_,_⟩:=id hqv
    repeat' (refine ob ?_ ?_;(first | trivial | omega | (simp only [inR];omega) | exact ble (by rfl) | exact SlR.some ‹_› (by omega));(conv=>whnf))
    refine RdhP.g c2 rfl (W.mk ?_)
    (conv=>whnf)
    refine CallH.mk _ (found89 b d S hs (rs.getD i1 default) a2 (by omega) hf9) body89 (W.mk ?_)
    (conv=>whnf)
    refine HpcP.mk ⟨_,_,rfl,c3,hpl.grow (hg2.trans hg3),hsh1.grow (hg2.trans hg3)⟩ (fun v p5 G5 hg5 hq=>W.mk ?_)
    obtain ⟨rfl,rfl⟩:=hq
    cases hfo:foundF d (visF S.its) (rs.getD i1 default) a2 with
    | true =>
     (conv=>whnf)
     refine ForkP.mk (fun _=>W.mk ?_) (fun h=>by cases h)
     (conv=>whnf)
     repeat' (refine ob ?_ ?_;(first | trivial | omega | (simp only [inR];omega) | exact ble (by rfl) | exact SlR.some ‹_› (by omega));(conv=>whnf))
     refine NmP.mk ⟨[],W.mk ?_⟩
     (conv=>whnf)
     exact FinHp.of rfl ⟨.inr ⟨i1,a2,rfl,h1,h2,hfo,by omega,fun c out r h=>hback _ _ _ (hback2 _ _ _ h)⟩,rfl⟩
    | false =>
     (conv=>whnf)
     refine ForkP.mk (fun h=>by cases h) (fun _=>W.mk ?_)
     (conv=>whnf)
     repeat' (refine ob ?_ ?_;(first | trivial | omega | (simp only [inR];omega) | exact ble (by rfl) | exact SlR.some ‹_› (by omega));(conv=>whnf))
     exact RoundP.of (a2 + 1) (HeadP.of [] ⟨rfl,rfl,rfl,rfl,rfl,rfl,trivial⟩ ⟨rfl,rfl,rfl,trivial⟩) ⟨by omega,by omega,fun c out r h=>hback2 _ _ _ (.skip h1 h2 hfo h)⟩ (by simp only;omega)
   ·repeat' (refine ob ?_ ?_;(first | trivial | omega | (simp only [inR];omega) | exact ble (by rfl) | exact SlR.some ‹_› (by omega));(conv=>whnf))
    exact RoundP.of (i1 + 1,0) (HeadP.of [] ⟨rfl,rfl,rfl,rfl,rfl,trivial⟩ ⟨rfl,rfl,rfl,trivial⟩) ⟨by omega,by omega, .inl (by omega),fun c out r h=>hback _ _ _ (hback2 _ _ _ (.next h1 (by omega) h))⟩ (by simp only;omega)
  ·refine CallH.mk _ none63 body63 (W.mk ?_)
   (conv=>whnf)
   refine OblP.mk rfl (W.mk ?_)
   (conv=>whnf)
   repeat' (refine ob ?_ ?_;(first | trivial | omega | (simp only [inR];omega) | exact ble (by rfl) | exact SlR.some ‹_› (by omega));(conv=>whnf))
   refine NmP.mk ⟨[],W.mk ?_⟩
   (conv=>whnf)
   exact FinHp.of rfl ⟨.inl ⟨rfl,fun c out=>hback _ _ _ (.done (by omega))⟩,rfl⟩
end Go.Proofs.Ytfppbjfbghaclaa

namespace Go.Proofs.Ytfppbjfbghaclaa
open Go.Pal Go.RowKit
set_option maxRecDepth 100000
def RuU (G:Hp) (cs:List Value) (r:Rul):Prop:=∃ f p,cs = [f,p]∧SlU strE G f r.f∧SlU strE G p r.p
theorem RuU.uniq {G:Hp} {cs:List Value} {x y:Rul} (h:RuU G cs x) (h':RuU G cs y):x = y:=by
 obtain ⟨f,p,h1,h2,h3⟩:=h
 obtain ⟨f',p',h1',h2',h3'⟩:=h'
 rw [h1] at h1'
 simp only [List.cons.injEq,and_true] at h1'
 obtain ⟨rfl,rfl⟩:=h1'
 have e1:=h2.uniq h2'
 have e2:=h3.uniq h3'
 cases x;cases y;simp_all
theorem RuU.grow {G G':Hp} (cs:List Value) (x:Rul) (hg:Grow G G') (h:RuU G cs x):RuU G' cs x:=by
 obtain ⟨f,p,h1,h2,h3⟩:=h
 exact ⟨f,p,h1,h2.grow hg,h3.grow hg⟩
theorem RuU.c {G:Hp} {cs:List Value} {x:Rul} (h:RuU G cs x) (hb:x.f.length≤140737488355328) (hc:x.p.length≤140737488355328):RuC G cs x:=by
 obtain ⟨f,p,rfl,h2,h3⟩:=h
 exact ⟨f,p,rfl,SlU.v h2 hb,SlU.v h3 hc⟩
def ruURd:Rd (List Rul):=⟨fun G v l=>∃ a n c,v = .slice a n c∧SlR 2 RuU G a n c l∧n≤maxLen,fun ⟨a,n,c,h,h1,_⟩ ⟨a',n',c',h',h1',_⟩=>by
  rw [h] at h';cases h'
  exact h1.uniq (fun cs x y h h'=>RuU.uniq h h') h1',fun {G G' _ _} hg ⟨a,n,c,h,h1,h2⟩=>⟨a,n,c,h,SlR.grow (G:=G) (G':=G') (fun cs x h=>RuU.grow cs x hg h) h1 hg,h2⟩⟩
theorem rusRd.u {G:Hp} {v:Value} {rs:List Rul} (h:rusRd.R G v rs):ruURd.R G v rs:=by
 obtain ⟨a,n,c,rfl,h1,h2⟩:=h
 exact ⟨a,n,c,rfl,SlR.imp h1 fun cs x _ ⟨f,p,e,k1,k2⟩=>⟨f,p,e,SlV.u k1,SlV.u k2⟩,by unfold maxLen;omega⟩
def fewR (r:Rul):Prop:=r.f.length≤1000∧r.p.length≤1000
theorem ruURd.s {G:Hp} {v:Value} {rs:List Rul} (h:ruURd.R G v rs) (hb:rs.length≤1000) (hr:∀ r∈rs,fewR r):rusRd.R G v rs:=by
 obtain ⟨a,n,c,rfl,h1,h2⟩:=h
 exact ⟨a,n,c,rfl,SlR.imp h1 fun cs x hx k=>k.c (by have:=(hr x hx).1;omega) (by have:=(hr x hx).2;omega),by have:=h1.len;omega⟩
theorem okRuls_few {rs:List Rul} (h:okRuls rs = true):rs.length≤10∧∀ r∈rs,fewR r:=by
 simp only [okRuls,Bool.and_eq_true,decide_eq_true_eq,List.all_eq_true] at h
 exact ⟨h.1,fun r hr=>⟨by have:=(okRul_iff.1 (h.2 r hr)).1;omega,by have:=okRul_p (h.2 r hr);omega⟩⟩
end Go.Proofs.Ytfppbjfbghaclaa

namespace Go.Proofs.Ytfppbjfbghaclaa
open Go.Pal Go.RowKit
set_option maxRecDepth 100000
theorem und59c:Try.prog.underlying 37 = some (.slice 9):=by kernel_rfl
theorem clone64:Sound Try.prog 27 id (gown 9 1 (args1 (slRd strE) fun l=>l.length≤1000) fun l n vs=>Row strE l n vs):=by
 refine comp64.gown (Tab.nil _) (ok1 _ _) (fun args G s h=>?_) (fun args G l h=>?_)
 ·obtain ⟨v,rfl,_⟩:=h;simp
 ·obtain ⟨v,rfl,⟨a,n,c,rfl,hl,hn⟩,hb⟩:=h
  have hlen:=hl.len
  obtain ⟨q1,q2,q3⟩:=hl.all
  (conv=>whnf)
  refine PurP.of _ (pur_sl_nil und59c a n c 0 0) (W.mk ?_)
  (conv=>whnf)
  refine ForkP.mk (fun hf=>W.mk ?_) (fun hf=>W.mk ?_)<;>(conv=>whnf)
  ·refine OwnFin.mk ?_
   have:l = []:=by
    by_cases h0:n = 0
    ·exact List.eq_nil_of_length_eq_zero (by omega)
    ·have:=hl.some h0;rw [this] at hf;cases hf
   subst this;exact Row.nil
  ·refine OblP.mk (fun h=>hl.some h) (W.mk ?_);(conv=>whnf)
   refine RdP.at q1 q2 (W.mk ?_);(conv=>whnf)
   refine OblP.mk q3 (W.mk ?_);(conv=>whnf)
   refine OblP.mk rfl (W.mk ?_);(conv=>whnf)
   refine OblP.mk (by omega) (W.mk ?_);(conv=>whnf)
   refine OwnFin.mk ⟨rfl,rfl,rfl, ?_⟩
   simp only [Nat.zero_add,List.nil_append]
   exact Row.of_all l hlen
def styleQ (d:Dr) (rs:List Rul) (v:Value) (G:Hp):Prop :=
 ((validF d = false∨okRuls rs = false)∧v = .tuple #[.slice none 0 0,I 1]) ∨
 validF d = true∧okRuls rs = true∧((Styles d rs none∧v = .tuple #[.slice none 0 0,I 3])∨∃ o a n c,Styles d rs (some o)∧v = .tuple #[.slice a n c,I 0]∧spsRd.R G (.slice a n c) o)
theorem styleQ.grow {d:Dr} {rs:List Rul} {v:Value} {G G':Hp} (hg:Grow G G') (h:styleQ d rs v G):styleQ d rs v G':=by
 rcases h with h | ⟨h1,h2,h | ⟨o,a,n,c,h3,h4,h5⟩⟩
 ·exact .inl h
 ·exact .inr ⟨h1,h2, .inl h⟩
 ·exact .inr ⟨h1,h2, .inr ⟨o,a,n,c,h3,h4,spsRd.grow hg h5⟩⟩
theorem visF_le (l:List It):(visF l).length≤l.length:=List.length_filter_le _ _
def SpotI (d:Dr) (rs:List Rul) (S:Sh) (out:List Sp) (si sa:Int):Prop :=
 (si = -1∧sa = -1∧Styles d rs (some out)) ∨
 ∃ i a:Nat,si = i∧sa = a∧i < rs.length∧a < (visF S.its).length∧foundF d (visF S.its) (rs.getD i default) a = true∧∀ r,Run d rs (visF S.its) S.ch i a out r→Styles d rs r
def spotM (n:Nat) (rs:List Rul) (si sa:Int):Nat:=if si < 0 then 0 else 1 + (rs.length - si.toNat) * 1000 + (n - sa.toNat)
set_option maxHeartbeats 2000000 in
theorem style37 (d:Dr) (rs:List Rul):Sound Try.prog 7 id (.hp (fun args p G=>∃ w k rv,args = [.agg #[w,k],rv]∧SlV woE G w d.ws∧SlV intE G k d.ks∧rusRd.R G rv rs) fun _ p v p' G=>styleQ d rs v G):=by
 refine comp37.hp (Tab.cons 26 _ none63 body63 (Tab.cons 27 _ clone64 body64 (Tab.nil _))) (fun args p G h=>?_) (fun args p v p' G G' hg h=>h.grow hg) (fun args p G h=>?_)
 ·obtain ⟨w,k,rv,rfl,_⟩:=h;simp
 ·obtain ⟨w,k,rv,rfl,hw,hk,hrv⟩:=h
  obtain ⟨wa,wn,wc,rfl,_,_⟩:=id hw
  obtain ⟨ka,kn,kc,rfl,_,_⟩:=id hk
  obtain ⟨ra,rn,rc,rfl,hrl,hrn⟩:=id hrv
  have hrlen:=hrl.len
  (conv=>whnf)
  refine CallH.mk _ (valid53 d) body53 (W.mk ?_)
  (conv=>whnf)
  refine HpcP.mk ⟨_,_,rfl,hw,hk⟩ (fun v p1 G1 hg1 hq=>W.mk ?_)
  obtain ⟨rfl,hk1⟩:=hq
  cases hv:validF d with
  | false =>
   (conv=>whnf)
   refine ForkP.mk (fun h=>by cases h) (fun _=>W.mk ?_)
   (conv=>whnf)
   refine NmP.mk ⟨[],W.mk ?_⟩
   (conv=>whnf)
   refine FinHp.of rfl ?_
   exact .inl ⟨.inl hv,rfl⟩
  | true =>
   (conv=>whnf)
   refine ForkP.mk (fun _=>W.mk ?_) (fun h=>by cases h)
   (conv=>whnf)
   refine IteP.mk (fun h10=>W.mk ?_) (fun h10=>W.mk ?_)<;>(conv=>whnf)
   ·have hno:okRuls rs = false:=by rw [okRuls,decide_eq_false (by omega)];rfl
    refine NmP.mk ⟨[],W.mk ?_⟩
    (conv=>whnf)
    refine FinHp.of rfl ?_
    exact .inl ⟨.inr hno,rfl⟩
   obtain ⟨raw,hraw,hrawl,hrawo⟩:=raws (rusRd.grow hg1 hrv)
   refine CallH.mk _ (all60 (judge58 raw rs hrawl)) body60 (W.mk ?_)
   (conv=>whnf)
   refine HpcP.mk ⟨_,rfl, .inl hraw,hrawo⟩ (fun v p2 G2 hg2 hq=>W.mk ?_)
   obtain ⟨hq,hk2⟩:=hq
   rcases hq with ⟨rfl,hf,_⟩ | ⟨rfl,j,hj,hbj,_⟩
   rotate_left
   ·have hno:okRuls rs = false:=by rw [okRuls,all_f (by omega) hbj,Bool.and_false]
    (conv=>whnf)
    refine ForkP.mk (fun h=>by cases h) (fun _=>W.mk ?_)
    (conv=>whnf)
    refine NmP.mk ⟨[],W.mk ?_⟩
    (conv=>whnf)
    refine FinHp.of rfl ?_
    exact .inl ⟨.inr hno,rfl⟩
   have hok:okRuls rs = true:=by rw [okRuls,decide_eq_true (by omega),all_t (d:=default) (fun j hj=>hf j (by omega))];rfl
   have hokr:∀ i < rs.length,okRul (rs.getD i default) = true:=fun i hi=>hf i (by omega)
   (conv=>whnf)
   refine ForkP.mk (fun _=>W.mk ?_) (fun h=>by cases h)
   (conv=>whnf)
   have hw60:=valid_ws hv
   obtain ⟨hr10,hfew⟩:=okRuls_few hok
   have hrs9:rs.length≤1000∧∀ r∈rs,r.f.length≤1000:=⟨by omega,fun r hr=>(hfew r hr).1⟩
   refine CallH.mk _ (begin61 d (by omega)) body61 (W.mk ?_)
   (conv=>whnf)
   refine HpcP.mk ⟨_,_,rfl,hw.grow (hg1.trans hg2),hk.grow (hg1.trans hg2)⟩ (fun v p3 G3 hg3 hq=>W.mk ?_)
   obtain ⟨_,b,rfl,hsh⟩:=hq
   have hG3:=hg1.trans (hg2.trans hg3)
   have hcb:=cnt_begin hw60
   (conv=>whnf)
   refine CallH.mk _ (next62 b d (beginS d) (hcb.small (by omega)) rs hrs9 0 0 (by omega) (by omega)) body62 (W.mk ?_)
   (conv=>whnf)
   refine HpcP.mk ⟨_,rfl,rusRd.grow hG3 hrv,hsh⟩ (fun v p4 G4 hg4 hq=>W.mk ?_)
   obtain ⟨hnq,rfl⟩:=hq
   obtain ⟨si,sa,rfl,hspot⟩:∃ si sa,v = .agg #[I si,I sa]∧SpotI d rs (beginS d) [] si sa:=by
    rcases hnq with ⟨rfl,h⟩ | ⟨i',a',rfl,h1,h2,h3,h4,h5⟩
    ·exact ⟨_,_,rfl, .inl ⟨rfl,rfl,h 0 []⟩⟩
    ·exact ⟨_,_,rfl, .inr ⟨i',a',rfl,rfl,h1,h2,h3,fun r h=>h5 0 [] r h⟩⟩
   (conv=>whnf)
   repeat' (refine ob ?_ ?_;(first | trivial | omega | (simp only [inR];omega) | exact ble (by rfl) | exact SlR.some ‹_› (by omega));(conv=>whnf))
   have hG4:=hG3.trans hg4
   refine LoopP.of { α:=Int × Int × Sh × Hp × List Sp × Nat × List Value,fr:=fun x=>[(1, .v (.slice ra rn rc)),(7, .v (ptr b)),(8, .c (.row 1023 x.2.2.2.2.2.1)),(9, .c (.ptr 1028 0))],H:=fun x=>[(0, .heap x.2.2.2.1),(1023, .row none x.2.2.2.2.2.1 x.2.2.2.2.2.2 45 4),(1028, .cells .anon [.val (I x.1), .val (I x.2.1)] 78)],ok:=fun x G=>x.2.2.1.cnt x.2.2.2.2.1.length∧x.2.2.2.2.1.length≤80∧ShH x.2.2.2.1 G b d x.2.2.1∧RowSp G x.2.2.2.2.1 x.2.2.2.2.2.1 x.2.2.2.2.2.2∧SpotI d rs x.2.2.1 x.2.2.2.2.1 x.1 x.2.1,m:=fun x=>spotM (visF x.2.2.1.its).length rs x.1 x.2.1 }
    (si,sa,beginS d,p4,[],0,[]) (HeadP.of [(1023,none)] ⟨rfl,rfl,rfl,rfl,trivial⟩ ⟨rfl,rfl,rfl,trivial⟩) ⟨hcb,Nat.zero_le _,hsh.grow hg4,⟨rfl,rfl,fun i h=>absurd h (by simp)⟩,hspot⟩ (fun _=>⟨rfl,rfl⟩) (fun x G5 hg5 hx=>W.mk ?_)
   clear hspot hnq hsh
   obtain ⟨si,sa,S,q,out,m,vs⟩:=x
   obtain ⟨hcnt,ho80,hsh,hr,hspot⟩:=hx
   dsimp only at hcnt ho80 hsh hr hspot
   dsimp only
   have hG5:=hG4.trans hg5
   have hm:=hr.1
   (conv=>whnf)
   repeat' (refine ob ?_ ?_;(first | trivial | omega | (simp only [inR];omega) | exact ble (by rfl) | exact SlR.some ‹_› (by omega));(conv=>whnf))
   refine OblP.mk (fun _ _=>rfl) (W.mk ?_)
   (conv=>whnf)
   rcases hspot with ⟨rfl,rfl,hfin⟩ | ⟨i,a,rfl,rfl,h1,h2,h3,hback⟩
   ·refine PurP.of _ (pur_ne2 (P:=Try.prog) (t:=78) (e:=3) (by kernel_rfl) (by kernel_rfl) (by kernel_rfl) (by kernel_rfl) (by kernel_rfl) (by kernel_rfl) (by kernel_rfl) (-1) (-1) (-1) (-1)) (W.mk ?_)
    (conv=>whnf)
    refine ForkP.mk (fun h=>absurd h (by decide)) (fun _=>W.mk ?_)
    (conv=>whnf)
    refine NmP.mk ⟨[1023], ?_⟩
    (conv=>whnf)
    refine PubP.mk (fun ga gc G6 hg6 hp=>W.mk ?_)
    (conv=>whnf)
    refine W.mk ?_
    (conv=>whnf)
    exact FinHp.of rfl (.inr ⟨hv,hok, .inr ⟨out,_,_,_,hfin,rfl,(hr.grow hg6).pub hp (by omega)⟩⟩)
   have hsp:=pur_ne2 (P:=Try.prog) (t:=78) (e:=3) (by kernel_rfl) (by kernel_rfl) (by kernel_rfl) (by kernel_rfl) (by kernel_rfl) (by kernel_rfl) (by kernel_rfl) (i:Int) (a:Int) (-1) (-1)
   refine PurP.of _ hsp (W.mk ?_)
   (conv=>whnf)
   refine ForkP.mk (fun _=>W.mk ?_) (fun h=>absurd h (by simp))
   (conv=>whnf)
   obtain ⟨cs,c1,c2,c3⟩:=(SlR.grow (G:=G) (G':=G5) (fun cs x h=>RuC.grow cs x hG5 h) hrl hG5).at_ i h1
   have hgr:rs.getD i default = rs[i]:=by simp [h1]
   rw [← hgr] at c3
   have hokr1:=hokr i h1
   generalize hrr:rs.getD i default = r at c3 hokr1 h3
   obtain ⟨f,pt,rfl,hfv,hpv⟩:=id c3
   obtain ⟨fa,fn,fc,rfl,hfl,_⟩:=id hfv
   obtain ⟨pa,pn,pc,rfl,hpl,_⟩:=id hpv
   have hflen:=hfl.len
   have hplen:=hpl.len
   have hf4:=(okRul_iff.1 hokr1).1
   have hp4:=okRul_p hokr1
   repeat' (refine ob ?_ ?_;(first | trivial | omega | (simp only [inR];omega) | exact ble (by rfl) | exact SlR.some ‹_› (by omega));(conv=>whnf))
   refine RdhP.g c2 rfl (W.mk ?_)
   (conv=>whnf)
   repeat' (refine ob ?_ ?_;(first | trivial | omega | (simp only [inR];omega) | exact ble (by rfl) | exact SlR.some ‹_› (by omega));(conv=>whnf))
   refine OwnP.g (ok1 (slRd strE) fun l=>l.length≤1000) (x:=r.p) ⟨_,rfl,hpv,by show r.p.length≤_;omega⟩ (Grow.refl _) (fun m0 vs0 G6 hg6 hr0=>W.mk ?_)
   have hm0:=hr0.n
   (conv=>whnf)
   repeat' (refine ob ?_ ?_;(first | trivial | omega | (simp only [inR];omega) | exact ble (by rfl) | exact SlR.some ‹_› (by omega));(conv=>whnf))
   refine IteP.mk (fun h80=>W.mk ?_) (fun h80=>W.mk ?_)<;>(conv=>whnf)
   ·refine NmP.mk ⟨[],W.mk ?_⟩
    (conv=>whnf)
    refine FinHp.of rfl (.inr ⟨hv,hok, .inl ⟨hback _ (.full h1 h2 (by rw [hrr];exact h3) (by omega)),rfl⟩⟩)
   refine PubP.mk (fun ca cc G7 hg7 hpc=>W.mk ?_)
   have hput:=hr0.pub hpc (by omega)
   (conv=>whnf)
   repeat' (refine ob ?_ ?_;(first | trivial | omega | (simp only [inR];omega) | exact ble (by rfl) | exact SlR.some ‹_› (by omega));(conv=>whnf))
   obtain ⟨S1,e1,e2,e3⟩:=change_hit hcnt.2.2.1 hokr1 h3
   have hcnt1:=cnt_step hcnt (show stepF d S (stepR r a) = some S1 from e1)
   have hfo:=(found_iff.1 h3).1
   have hvl1:=chV_len (c:=S.ch) hfo
   have hG67:=hg6.trans hg7
   have hspc:SpC G7 [I 0,I (a:Int),I (fn:Int), .slice ca m0 cc] (stepR r a):=⟨_,by rw [← hflen];rfl,hput⟩
   have hst:=(hr.grow hG67).snoc rfl hspc
   refine CallH.mk _ (change65 b d S S1 (hcnt.small ho80) (stepR r a) e1) body65 (W.mk ?_)
   (conv=>whnf)
   refine HpcP.mk ⟨_,rfl,hspc,hsh.grow hG67⟩ (fun v q2 G8 hg8 hq=>W.mk ?_)
   obtain ⟨rfl,hsh8,_⟩:=hq
   have ho81:out.length + 1≤80:=by omega
   have ha9:a≤10000:=by have:=hcnt.1;have:=visF_le S.its;omega
   (conv=>whnf)
   repeat' (refine ob ?_ ?_;(first | trivial | omega | (simp only [inR];omega) | exact ble (by rfl) | exact SlR.some ‹_› (by omega));(conv=>whnf))
   refine CallH.mk _ (next62 b d S1 (hcnt1.small ho81) rs hrs9 i (a + pn) (by omega) (by omega)) body62 (W.mk ?_)
   (conv=>whnf)
   refine HpcP.mk ⟨_,rfl,rusRd.grow (hG5.trans (hG67.trans hg8)) hrv,hsh8⟩ (fun v q3 G9 hg9 hq=>W.mk ?_)
   obtain ⟨hnq,rfl⟩:=hq
   obtain ⟨si,sa,rfl,hspot,hlt⟩:∃ si sa,v = .agg #[I si,I sa]∧SpotI d rs S1 (out++[stepR r a]) si sa∧spotM (visF S1.its).length rs si sa < spotM (visF S.its).length rs i a:=by
    have hm2:spotM (visF S.its).length rs i a = 1 + (rs.length - i) * 1000 + ((visF S.its).length - a):=by
     unfold spotM;rw [if_neg (by omega),Int.toNat_natCast,Int.toNat_natCast]
    have hnx:=fun (r2:Option (List Sp)) (h:Run d rs (visF S1.its) S1.ch i (a + pn) (out++[stepR r a]) r2)=>hback r2 (.hit h1 h2 (by rw [hrr];exact h3) (by omega) (by rw [hrr, ← e2, ← e3,hplen];exact h))
    rcases hnq with ⟨rfl,h⟩ | ⟨i',a',rfl,k1,k2,k3,k4,k5⟩
    ·refine ⟨_,_,rfl, .inl ⟨rfl,rfl,hnx _ (h _ _)⟩, ?_⟩
     rw [hm2]
     unfold spotM;rw [if_pos (by decide)];omega
    ·refine ⟨_,_,rfl, .inr ⟨i',a',rfl,rfl,k1,k2,k3,fun r2 h=>hnx _ (k5 _ _ _ h)⟩, ?_⟩
     rw [hm2]
     unfold spotM;rw [if_neg (by omega),Int.toNat_natCast,Int.toNat_natCast]
     have hv9:=visF_le S1.its
     have:=hcnt1.1
     rw [e2] at k2 hv9 ⊢
     have hmul:(rs.length - i') * 1000 + (if i = i' then 0 else 1000)≤(rs.length - i) * 1000:=by split<;>omega
     split at hmul<;>omega
   (conv=>whnf)
   repeat' (refine ob ?_ ?_;(first | trivial | omega | (simp only [inR];omega) | exact ble (by rfl) | exact SlR.some ‹_› (by omega));(conv=>whnf))
   refine RoundP.of (si,sa,S1,q3,out++[stepR r a],m + 1,_) (HeadP.of [(1023,some 1059),(1028,some 1078)] ⟨rfl,rfl,rfl,rfl,trivial⟩ ⟨rfl,rfl,rfl,trivial⟩) ⟨by simpa using hcnt1,by simp;omega,hsh8.grow hg9,hst.grow (hg8.trans hg9),hspot⟩ hlt
theorem style37r:Sound Try.prog 7 id (grel (args2 drRd rusRd fun _ _=>True) fun x v G=>styleQ x.1 x.2 v G):=by
 refine Sound.relG (ok2 _ _ _) (fun x v G G' hg h=>h.grow hg) fun x=>?_
 obtain ⟨d,rs⟩:=x
 refine Sound.hpRel (style37 d rs) (fun args G h=>?_) (fun args v p' G' G'' hg hp h=>h.grow hg) (fun args v G G' hg h=>h.grow hg)
 obtain ⟨v,w,rfl,⟨w1,k1,rfl,h1,h2⟩,h3,_⟩:=h
 exact ⟨w1,k1,_,rfl,h1,h2,h3⟩
end Go.Proofs.Ytfppbjfbghaclaa

namespace Go.Proofs.Ytfppbjfbghaclaa
open Go.Pal Go.RowKit
set_option maxRecDepth 100000
def Good (d:Dr) (v:List It) (f:List ByteArray) (j:Nat):Prop:=∀ k < f.length,0≤(v.getD (j + k) default).o∧(v.getD (j + k) default).o ∉ d.ks∧(v.getD (j + k) default).t = f.getD k default
end Go.Proofs.Ytfppbjfbghaclaa
