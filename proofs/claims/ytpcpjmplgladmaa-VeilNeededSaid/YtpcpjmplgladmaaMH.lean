/- Layer 9: the fewest orders, and those that are useless: the program's and the reference's (plain). Layer 9: what is shut (the reference) is the program's. Layer 9: what is shut: runs of hidden words (plain). Layer 9: the index (the reference) is the program's. Layer 9: orders in another order of the list (plain), and rows that are cut and set. Layer 9: how many words are shut; ranges within others (the statements' own functions). Layer 9: a report without one of its orders (plain). -/
import Derived.Test.YtpcpjmplgladmaaMG
import Derived.Shelf.Slices.Delete
set_option linter.unusedSimpArgs false
set_option linter.unusedVariables false
namespace Go.Proofs.Ytpcpjmplgladmaa
open Go.Pal Go.RowKit
set_option maxRecDepth 100000
theorem sub_cons {α:Type} {a:α} {s:List α}:∀ {l:List α},(a :: s).Sublist l→∃ j:Nat,l[j]? = some a∧s.Sublist (l.drop (j + 1))
 | [],h=>by cases h
 | b :: l,h=>by
  cases h with
  | cons _ h =>
   obtain ⟨j,h1,h2⟩:=sub_cons h
   exact ⟨j + 1,by simpa using h1,by simpa using h2⟩
  | cons_cons _ h=>exact ⟨0,rfl,by simpa using h⟩
theorem cnF_iff {P:List Int→Bool} {l:List Int}:∀ (f fr:Nat) (now:List Int),(cnF P l f fr now = true↔∃ s:List Int,s.Sublist (l.drop fr)∧s.length = f∧P (now++s) = true)
 | 0,fr,now=>by
  simp only [cnF]
  constructor
  ·exact fun hp=>⟨[],List.nil_sublist _,rfl,by simpa using hp⟩
  ·rintro ⟨s,_,hs,hp⟩
   rw [List.eq_nil_of_length_eq_zero hs,List.append_nil] at hp
   exact hp
 | f + 1,fr,now=>by
  simp only [cnF,List.any_eq_true,List.mem_range'_1]
  constructor
  ·rintro ⟨j,⟨h1,h2⟩,hp⟩
   have hj:j < l.length:=by omega
   obtain ⟨s,k1,k2,k3⟩:=(cnF_iff f (j + 1) _).1 hp
   have hgd:l.getD j 0 = l[j]:=by simp [hj]
   rw [hgd] at k3
   refine ⟨l[j] :: s, ?_,by simp [k2],by simpa using k3⟩
   have h3:(l[j] :: s).Sublist (l.drop j):=by rw [List.drop_eq_getElem_cons hj];exact k1.cons_cons _
   have h4:l.drop j = (l.drop fr).drop (j - fr):=by rw [List.drop_drop];congr 1;omega
   rw [h4] at h3
   exact h3.trans (List.drop_sublist _ _)
  ·rintro ⟨s,k1,k2,k3⟩
   cases s with
   | nil=>simp at k2
   | cons a s =>
    obtain ⟨j,h1,h2⟩:=sub_cons k1
    rw [List.getElem?_drop] at h1
    obtain ⟨hj,he⟩:=List.getElem?_eq_some_iff.1 h1
    have hgd:l.getD (fr + j) 0 = a:=by simp [he,hj]
    refine ⟨fr + j,⟨by omega,by omega⟩,(cnF_iff f _ _).2 ⟨s, ?_,by simpa using k2, ?_⟩⟩
    ·rw [List.drop_drop] at h2
     exact h2
    ·rw [hgd];simpa using k3
abbrev odAt (r:Rp) (j:Nat):Od:=r.orders.getD j ⟨0,0,0,0⟩
def cov (o:Od) (i:Nat):Bool:=decide (o.f≤(i:Int)) && decide ((i:Int) < o.t)
theorem cov_in (o:Od) (i:Nat):inF i o.f (o.t - 1) = cov o i:=by
 rw [Bool.eq_iff_iff]
 simp only [inF,cov,decide_eq_true_eq,Bool.and_eq_true]
 omega
theorem odAt_mem {r:Rp} {o:Od}:o∈r.orders↔∃ j:Nat,j < r.orders.length∧odAt r j = o:=by
 rw [List.mem_iff_getElem]
 constructor
 ·rintro ⟨j,hj,he⟩;exact ⟨j,hj,by simp [odAt,hj,he]⟩
 ·rintro ⟨j,hj,he⟩;exact ⟨j,hj,by simpa [odAt,hj] using he⟩
theorem hid_iff (r:Rp) (x:Rx) (i:Nat):hidF r x i = true↔∃ j:Nat,j < r.orders.length∧holdsF (odAt r j) x = true∧cov (odAt r j) i = true:=by
 simp only [hidF,List.any_eq_true,hidO,Bool.and_eq_true,cov_in]
 constructor
 ·rintro ⟨o,ho,h⟩
  obtain ⟨j,hj,rfl⟩:=odAt_mem.1 ho
  exact ⟨j,hj,h⟩
 ·rintro ⟨j,hj,h⟩
  exact ⟨_,odAt_mem.2 ⟨j,hj,rfl⟩,h⟩
theorem selK_iff (r:Rp) (s:Nat) (o:Od):∀ k,o∈selK r s k↔∃ j:Nat,j < k∧s.testBit j = true∧odAt r j = o
 | 0=>by simp [selK]
 | k + 1=>by
  have ih:=selK_iff r s o k
  simp only [selK]
  split
  ·rename_i hb
   rw [List.mem_append,ih]
   constructor
   ·rintro (⟨j,h1,h2⟩ | h)
    ·exact ⟨j,by omega,h2⟩
    ·simp only [List.mem_singleton] at h
     exact ⟨k,by omega,hb,h.symm⟩
   ·rintro ⟨j,h1,h2,h3⟩
    by_cases hj:j = k
    ·subst hj;exact .inr (by simpa using h3.symm)
    ·exact .inl ⟨j,by omega,h2,h3⟩
  ·rename_i hb
   rw [ih]
   constructor
   ·rintro ⟨j,h1,h2⟩;exact ⟨j,by omega,h2⟩
   ·rintro ⟨j,h1,h2,h3⟩
    have hj:j≠k:=fun e=>hb (e ▸ h2)
    exact ⟨j,by omega,h2,h3⟩
theorem sameF_iff (r:Rp) (x:Rx) (s:Nat):sameF r x s = true↔∀ i:Nat,i < r.words.length→hidF r x i = true→∃ j:Nat,j < r.orders.length∧s.testBit j = true∧holdsF (odAt r j) x = true∧cov (odAt r j) i = true:=by
 simp only [sameF,List.all_eq_true,List.mem_range,sameAt,Bool.or_eq_true,Bool.not_eq_true']
 refine forall_congr' fun i=>forall_congr' fun _=>?_
 have key:hidF (sel r s) x i = true↔∃ j:Nat,j < r.orders.length∧s.testBit j = true∧holdsF (odAt r j) x = true∧cov (odAt r j) i = true:=by
  simp only [hidF,List.any_eq_true,hidO,Bool.and_eq_true,cov_in]
  constructor
  ·rintro ⟨o,ho,h⟩
   obtain ⟨j,hj,hb,rfl⟩:=(selK_iff r s o _).1 ho
   exact ⟨j,hj,hb,h⟩
  ·rintro ⟨j,hj,hb,h⟩
   exact ⟨_,(selK_iff r s _ _).2 ⟨j,hj,hb,rfl⟩,h⟩
 rw [key]
 cases hidF r x i<;>simp
theorem hol_iff (r:Rp) (x:Rx) (k:Int):k∈holF (rgOf r x)↔∃ j:Nat,j < r.orders.length∧k = j∧holdsF (odAt r j) x = true:=holK_iff (rgOf r x) _ k
theorem sameV_iff {r:Rp} (hf:Fine r) (x:Rx) {s:List Int} (hs:∀ k∈s,k∈holF (rgOf r x)):sameV (rgOf r x) s = true↔∀ i:Nat,i < r.words.length→hidF r x i = true→∃ k∈s,cov (odAt r k.toNat) i = true:=by
 have hby:∀ i:Nat,byF (rgOf r x) s i = true↔∃ k∈s,cov (odAt r k.toNat) i = true:=fun i=>by
  rw [byF_eq,List.any_eq_true];rfl
 have hp:∀ i:Nat,(rgOf r x).p i = hidF r x i:=fun _=>rfl
 simp only [sameV,List.all_eq_true,List.mem_range,hp]
 constructor
 ·intro h i hi hh
  have hwl:=hf.wl
  have:=h i (by omega)
  rw [hh,beq_iff_eq] at this
  exact (hby i).1 this
 ·intro h i hi
  rw [beq_iff_eq,Bool.eq_iff_iff,hby]
  constructor
  ·rintro ⟨k,hk,hc⟩
   obtain ⟨j,hj,rfl,hh⟩:=(hol_iff r x k).1 (hs k hk)
   exact (hid_iff r x i).2 ⟨j,hj,hh,by simpa using hc⟩
  ·intro hh
   refine h i ?_ hh
   obtain ⟨j,hj,_,hc⟩:=(hid_iff r x i).1 hh
   have ho:=hf.o _ (odAt_mem.2 ⟨j,hj,rfl⟩)
   simp only [cov,Bool.and_eq_true,decide_eq_true_eq] at hc
   omega
def uslP (g:Rg):Nat→List Int
 | 0=>[]
 | i + 1=>if sameV g ((holF g).eraseIdx i) then uslP g i++[(holF g).getD i 0] else uslP g i
theorem holK_srt (g:Rg):∀ k,(holK g k).Pairwise (· < ·)
 | 0=>List.Pairwise.nil
 | k + 1=>by
  simp only [holK]
  split
  ·rw [List.pairwise_append]
   exact ⟨holK_srt g k,List.pairwise_singleton _ _,fun a ha b hb=>by simp at hb;have:=holK_mem g k a ha;omega⟩
  ·exact holK_srt g k
theorem holK_pre (g:Rg) (k:Nat):∀ d, ∃ t,holK g (k + d) = holK g k++t
 | 0=>⟨[],by simp⟩
 | d + 1=>by
  obtain ⟨t,ht⟩:=holK_pre g k d
  show ∃ t,holK g (k + d + 1) = _
  simp only [holK]
  split
  ·exact ⟨t++[((k + d:Nat):Int)],by rw [ht,List.append_assoc]⟩
  ·exact ⟨t,ht⟩
theorem but_bit {n i j:Nat} (hi:i < n) (hj:j < n):(butS n i).testBit j = decide (j≠i):=by
 have h1:2 ^ i < 2 ^ n:=Nat.pow_lt_pow_right (by omega) hi
 have h2:butS n i = 2 ^ n - (2 ^ i + 1):=by rw [butS];omega
 rw [h2,Nat.testBit_two_pow_sub_succ h1,Nat.testBit_two_pow]
 by_cases h:i = j
 ·subst h;simp
 ·simp [h,hj,show j≠i from fun e=>h e.symm]
theorem usl_eq {r:Rp} (hf:Fine r) (x:Rx):∀ k,k≤r.orders.length→uslP (rgOf r x) (holK (rgOf r x) k).length = uslK r x k
 | 0,_=>rfl
 | k + 1,hk=>by
  have ih:=usl_eq hf x k (by omega)
  simp only [holK,uslK]
  by_cases hh:holdsF (odAt r k) x = true
  ·have hh2:holdsF ((rgOf r x).r.orders.getD k ⟨0,0,0,0⟩) (rgOf r x).x = true:=hh
   rw [if_pos hh2]
   obtain ⟨t,ht⟩:=holK_pre (rgOf r x) (k + 1) (r.orders.length - (k + 1))
   rw [show k + 1 + (r.orders.length - (k + 1)) = r.orders.length by omega] at ht
   simp only [holK] at ht
   rw [if_pos hh2] at ht
   have ht:holF (rgOf r x) = holK (rgOf r x) k++[(k:Int)]++t:=ht
   generalize hL:(holK (rgOf r x) k).length = L at ih
   have hel:(holF (rgOf r x))[L]? = some (k:Int):=by
    rw [ht,List.append_assoc,List.getElem?_append_right (by omega),hL];simp
   have hgd:(holF (rgOf r x)).getD L 0 = (k:Int):=by simp [hel]
   have hsrt:=holK_srt (rgOf r x) (rgOf r x).r.orders.length
   have hsrt:(holF (rgOf r x)).Pairwise (· < ·):=hsrt
   have hmem:∀ q:Int,q∈(holF (rgOf r x)).eraseIdx L↔q∈holF (rgOf r x)∧q≠k:=fun q=>by
    rw [List.mem_eraseIdx_iff_getElem?,List.mem_iff_getElem?]
    constructor
    ·rintro ⟨i,h1,h2⟩
     refine ⟨⟨i,h2⟩,fun e=>h1 ?_⟩
     subst e
     obtain ⟨i1,i2⟩:=List.getElem?_eq_some_iff.1 h2
     obtain ⟨l1,l2⟩:=List.getElem?_eq_some_iff.1 hel
     rcases Nat.lt_trichotomy i L with h | h | h
     ·have:=List.pairwise_iff_getElem.1 hsrt i L i1 l1 h
      omega
     ·exact h
     ·have:=List.pairwise_iff_getElem.1 hsrt L i l1 i1 h
      omega
    ·rintro ⟨⟨i,h2⟩,h1⟩
     refine ⟨i,fun e=>h1 ?_,h2⟩
     subst e
     rw [hel] at h2
     exact (Option.some.inj h2).symm
   have hsame:sameV (rgOf r x) ((holF (rgOf r x)).eraseIdx L) = sameF r x (butS r.orders.length k):=by
    rw [Bool.eq_iff_iff,sameV_iff hf x fun q hq=>((hmem q).1 hq).1,sameF_iff]
    refine forall_congr' fun i=>forall_congr' fun _=>forall_congr' fun _=>⟨?_, ?_⟩
    ·rintro ⟨q,hq,hc⟩
     obtain ⟨h1,h2⟩:=(hmem q).1 hq
     obtain ⟨j,hj,rfl,ho⟩:=(hol_iff r x q).1 h1
     exact ⟨j,hj,by rw [but_bit hk hj];simp;omega,ho,by simpa using hc⟩
    ·rintro ⟨j,hj,hb,ho,hc⟩
     rw [but_bit hk hj] at hb
     exact ⟨(j:Int),(hmem _).2 ⟨(hol_iff r x _).2 ⟨j,hj,rfl,ho⟩,by simp at hb;omega⟩,by simpa using hc⟩
   rw [List.length_append,hL,List.length_singleton]
   simp only [uslP]
   rw [hsame,hgd,ih]
   rw [show holdsF (r.orders.getD k ⟨0,0,0,0⟩) x = true from hh,Bool.true_and]
  ·have hh2:¬ holdsF ((rgOf r x).r.orders.getD k ⟨0,0,0,0⟩) (rgOf r x).x = true:=hh
   rw [if_neg hh2,ih,if_neg]
   rw [Bool.and_eq_true]
   exact fun h=>hh h.1
theorem usl_F {r:Rp} (hf:Fine r) (x:Rx):uslP (rgOf r x) (holF (rgOf r x)).length = uslF r x:=usl_eq hf x _ (Nat.le_refl _)
end Go.Proofs.Ytpcpjmplgladmaa

/- Layer 9: slices.Clone,slices.Delete (the kit's contract laid at this program),the orders that are useless. -/
 namespace Go.Proofs.Ytpcpjmplgladmaa
open Go.Shelf
def deleteA_ren:Go.Shelf.Ren:=⟨fun | 23=>63 | n=>n,fun | 22=>26 | 3=>3 | 0=>0 | 4=>4 | n=>n,fun | n=>n⟩
theorem deleteA:Lays2.n23 Try.prog deleteA_ren:={
 mixed:=by kernel_rfl
 f23:=Try.func63.trans (congrArg some (by kernel_rfl))
 t0:=Try.underlying0
 a0:=Try.isAgg0
 z0:=Try.sizeOf0
 v0:=Try.zeroValue0
 t3:=Try.underlying3
 a3:=Try.isAgg3
 z3:=Try.sizeOf3
 v3:=Try.zeroValue3
 t4:=Try.underlying4
 a4:=Try.isAgg4
 z4:=Try.sizeOf4
 v4:=Try.zeroValue4
 t22:=Try.underlying26
 a22:=Try.isAgg26
 z22:=Try.sizeOf26
 v22:=Try.zeroValue26
 i3:=by kernel_rfl }
end Go.Proofs.Ytpcpjmplgladmaa
namespace Go.Proofs.Ytpcpjmplgladmaa
open Go.Pal Go.RowKit
set_option maxRecDepth 100000
theorem und26c:Try.prog.underlying 26 = some (.slice 3):=by kernel_rfl
theorem clone64:Sound Try.prog 64 id (gown 3 1 (args1 (slRd intE) fun l=>l.length≤8796093022207) fun l n vs=>Row intE l n vs):=by
 refine comp64.gown (Tab.nil _) (ok1 _ _) (fun args G s h=>?_) (fun args G l h=>?_)
 ·obtain ⟨v,rfl,_⟩:=h;simp
 ·obtain ⟨v,rfl,⟨a,n,c,rfl,hl,hn⟩,hb⟩:=h
  have hlen:=hl.len
  obtain ⟨q1,q2,q3⟩:=hl.all
  (conv=>whnf)
  refine PurP.of _ (pur_sl_nil und26c a n c 0 0) (W.mk ?_)
  (conv=>whnf)
  refine ForkP.mk (fun hf=>W.mk ?_) (fun hf=>W.mk ?_)<;>(conv=>whnf)
  ·refine OwnFin.mk ?_
   have:l = []:=by
    by_cases h0:n = 0
    ·exact List.eq_nil_of_length_eq_zero (by omega)
    ·have:=hl.some h0;rw [this] at hf;cases hf
   subst this;exact Row.nil
  ·refine OblP.mk (fun h=>hl.some h) (W.mk ?_);(conv=>whnf)
   refine RdP.at q1 q2 (W.mk ?_);(conv=>whnf)
   refine OblP.mk q3 (W.mk ?_);(conv=>whnf)
   refine OblP.mk rfl (W.mk ?_);(conv=>whnf)
   refine OblP.mk (by omega) (W.mk ?_);(conv=>whnf)
   refine OwnFin.mk ⟨rfl,rfl,rfl, ?_⟩
   simp only [Nat.zero_add,List.nil_append]
   exact Row.of_all l hlen
def delRes (n:Nat) (vs us:List Value):Nat × List Value:=match us with
 | [.int _ i, .int _ j]=>(n - (j.toNat - i.toNat),vs.take i.toNat++vs.drop j.toNat)
 | _=>(n,vs)
def delPre (_:Nat) (vs us:List Value):Prop:=∃ (l:List Int) (i:Nat),vs = l.map I∧us = [I i,I ((i:Int) + 1)]∧i < l.length
theorem delete63:Sound Try.prog 63 id (.cut 3 1 delPre delRes):=by
 intro v n vs us W hown hone hpre
 obtain ⟨l,i,rfl,rfl,hi⟩:=hpre
 have hn:l.length = n:=by have:=hown.1;simpa using this
 rcases hown.2 with ⟨_,h0⟩ | ⟨g,cap,cur,rfl,_,hw,hnc,hcm,hsz,htake⟩
 ·omega
 simp only [Nat.mul_one] at hsz htake
 have hcur:∀ j,j < l.length→cur[j]? = some (I (l.getD j 0)):=fun j hj=>by
  have:(cur.toList.take n)[j]? = (l.map I)[j]?:=by rw [htake]
  rw [List.getElem?_take,if_pos (by omega)] at this
  rw [← Array.getElem?_toList,this,List.getElem?_map,List.getElem?_eq_getElem hj]
  simp [hj]
 have hH:Sort.Holds (Value.int .i64) W g 0 l.toArray:=fun j hj=>by
  have hj:j < l.length:=by simpa using hj
  constructor
  ·simp only [World.cell?,Nat.zero_add,hw,hcur j hj]
   simp [hj,I]
  ·simp [World.frozen?,hw]
 have h:=Any.slices_Delete_int deleteA g 0 cap i (i + 1) l W hH (by omega) hcm (by omega) hi
 have ea:(id (Value.slice (some ⟨g,0,none⟩) n cap :: [I i,I ((i:Int) + 1)])).toArray = #[.slice (some ⟨g,0,none⟩) l.length cap, .int .i64 i, .int .i64 (i + 1:Nat)]:=by
  rw [hn];simp [I]
 rw [ea]
 refine Calls.mono h ?_
 rintro e W' ⟨rfl,q,rfl⟩
 obtain ⟨d,hd⟩:∃ d,d = (l.take i++l.drop (i + 1)++List.replicate (i + 1 - i) 0).toArray:=⟨_,rfl⟩
 have hds:d.size = l.length:=by rw [hd];simp;omega
 have hdg:∀ j,j < l.length - 1→d[j]! = (l.take i++l.drop (i + 1)).getD j 0:=fun j hj=>by
  have hl2:(l.take i++l.drop (i + 1)).length = l.length - 1:=by simp;omega
  rw [getElem!_pos d j (by omega)]
  have:d[j]? = (l.take i++l.drop (i + 1))[j]?:=by rw [hd,List.getElem?_toArray,List.getElem?_append_left (by omega)]
  rw [Array.getElem?_eq_getElem (by omega)] at this
  rw [List.getD_eq_getElem?_getD, ← this];rfl
 rw [← hd]
 have hheap:∀ k,(Sort.putRow (Value.int .i64) (Sort.ahead W q) g 0 d).heap[k]? = if g = k then some (.cells (Sort.putCells (Value.int .i64) 0 d cur) 3 (0,0)) else W.heap[k]?:=fun k=>by
  simp only [Sort.putRow,Sort.mapBlock,Sort.ahead,Array.getElem?_modify]
  by_cases hk:g = k
  ·subst hk;rw [if_pos rfl,if_pos rfl,hw];rfl
  ·rw [if_neg hk,if_neg hk]
 have hres:delRes n (l.map I) [I i,I ((i:Int) + 1)] = (n - 1,(l.map I).take i++(l.map I).drop (i + 1)):=by
  simp only [delRes,I]
  rw [show ((i:Int) + 1).toNat = i + 1 by omega,show ((i:Int)).toNat = i by omega,show i + 1 - i = 1 by omega]
 rw [hres,show i + 1 - i = 1 by omega,hn]
 refine ⟨_,rfl,⟨?_, .inr ⟨g,cap,Sort.putCells (Value.int .i64) 0 d cur,rfl,Nat.zero_le _,by rw [hheap,if_pos rfl],by omega,hcm, ?_, ?_⟩⟩, ?_,⟨rfl,rfl,rfl, ?_, ?_⟩,fun k e=>.inr e⟩
 ·simp;omega
 ·simp [Sort.putCells,hsz]
 ·apply List.ext_getElem?
  intro j
  rw [List.getElem?_take]
  have hl2:(l.take i++l.drop (i + 1)).length = l.length - 1:=by simp;omega
  have e2:(l.map I).take i++(l.map I).drop (i + 1) = (l.take i++l.drop (i + 1)).map I:=by simp
  rw [e2]
  by_cases hj:j < l.length - 1
  ·rw [if_pos (by omega),List.getElem?_map,Array.getElem?_toList,Sort.putCells,Array.getElem?_mapIdx,hcur j (by omega),List.getElem?_eq_getElem (l:=l.take i++l.drop (i + 1)) (by omega)]
   simp only [Option.map_some,Nat.zero_le,true_and,Nat.zero_add,Nat.sub_zero]
   rw [if_pos (by omega),hdg j hj,List.getD_eq_getElem?_getD,List.getElem?_eq_getElem (by omega)]
   rfl
  ·rw [if_neg (by omega),List.getElem?_eq_none (by simp;omega)]
 ·intro u hu
  rcases List.mem_append.1 hu with h | h
  ·exact hone u (List.mem_of_mem_take h)
  ·exact hone u (List.mem_of_mem_drop h)
 ·show _≤(W.heap.modify g _).size
  simp
 ·intro k _ hk
  rw [hheap,if_neg (fun e=>hk (by rw [e];rfl))]
theorem uslP_len (g:Rg):∀ i,(uslP g i).length≤i
 | 0=>Nat.le_refl _
 | i + 1=>by
  have ih:=uslP_len g i
  simp only [uslP]
  split
  ·simp;omega
  ·omega
theorem body63:HasBody Try.prog 63:=hasBody_of (by kernel_rfl)
theorem useless36:Sound Try.prog 36 id (grel (args2 rpRd rxRd fun _ _=>True) fun p v G=>∃ w,v = .tuple #[w,I (faultX p.1 p.2)]∧SlV intE G w (if faultX p.1 p.2 = 0 then uslF p.1 p.2 else [])):=by
 refine comp36.grel (Tab.cons 44 _ read44 body44 (Tab.cons 61 _ holding61 body61 (Tab.cons 62 _ by62 body62 (Tab.cons 63 _ delete63 body63 (Tab.cons 64 _ clone64 body64 (Tab.nil _)))))) (ok2 _ _ _) (fun args G s h=>?_) (fun x v G G' hg h=>?_) (fun args G p h=>?_)
 ·obtain ⟨v,w,rfl,_⟩:=h;simp
 ·obtain ⟨w,h1,h2⟩:=h
  exact ⟨w,h1,h2.grow hg⟩
 ·obtain ⟨r,x⟩:=p
  obtain ⟨u,v,rfl,hr,hx,_⟩:=h
  dsimp only at hr hx
  obtain ⟨rw_,ro,rfl,hrc⟩:=id hr
  obtain ⟨m,rfl,hm⟩:=id hx
  obtain ⟨oa,on,oc,rfl,ho1,ho2⟩:=id hrc.o
  obtain ⟨wa,wn,wc,rfl,hw1,hw2⟩:=id hrc.w
  obtain ⟨ma,mn,mc,rfl,hm1,hm2⟩:=id hm
  (conv=>whnf)
  refine RelP.g (ok2 rpRd rxRd fun _ _=>True) (x:=(r,x)) ⟨_,_,rfl,hr,hx,trivial⟩ (Grow.refl _) (fun v G1 hg1 hq=>W.mk ?_)
  obtain ⟨gwa,gwn,gwc,goa,gon,goc,gma,gmn,gmc,gc,gy,gp,rfl,hq⟩:=hq
  dsimp only at hq
  dsimp only
  (conv=>whnf)
  refine IteP.mk (fun h1=>W.mk ?_) (fun h1=>W.mk ?_)<;>(conv=>whnf)
  rotate_left
  ·have h1:¬ faultX r x = 0:=h1
   exact FinP.mk ⟨_,rfl,by rw [if_neg h1];exact SlV.nil⟩
  have h1:faultX r x = 0:=h1
  obtain ⟨rfl,rfl,rfl,hgc⟩:=hq h1
  have hfine:=rgFine h1
  have hfn:=(faultX_fine h1).1
  have hol:(rgOf r x).r.orders.length≤12:=hfn.ol
  have hll:=holK_len (rgOf r x) (rgOf r x).r.orders.length
  have hmem:=holK_mem (rgOf r x) (rgOf r x).r.orders.length
  have hord:∀ o∈(rgOf r x).r.orders,0≤o.f∧o.f≤o.t∧o.t≤60:=fun o ho=>by
   have:=hfn.o o ho
   have:=hfn.wl
   omega
  refine RelP.g (ok1 rgRd fun g=>g.r.orders.length≤1000) (x:=rgOf r x) ⟨_,rfl,⟨_,_,_,rfl,hgc⟩,by omega⟩ (Grow.refl _) (fun v G2 hg2 hq2=>W.mk ?_)
  obtain ⟨la,ln,lc,rfl,hl1,hl2⟩:=id hq2
  have hlen:=hl1.len
  (conv=>whnf)
  refine LoopP.of { α:=Nat × Nat × List Value,fr:=fun y=>[(6, .c (.ptr 10 0)),(8, .c (.row 1 y.2.1)),(9, .v (.slice la ln lc)),(23, .v (.slice la ln lc)),(24, .v (I ln)),(25, .v (I y.1))],H:=fun y=>[(10, .cells .anon ((rgl (.slice gwa gwn gwc) (.slice goa gon goc) (.slice gma gmn gmc) r.cols x.year (rgOf r x).p).map .val) 97),(1, .row none y.2.1 y.2.2 3 1)],ok:=fun y G=>y.1≤(holF (rgOf r x)).length∧Row intE (uslP (rgOf r x) y.1) y.2.1 y.2.2,m:=fun y=>(holF (rgOf r x)).length - y.1 }
   (0,0,[]) (HeadP.of [(1,none)] ⟨rfl,rfl,rfl,rfl,rfl,rfl,trivial⟩ ⟨rfl,rfl,trivial⟩) ⟨Nat.zero_le _,Row.nil⟩ (fun y=>⟨rfl,rfl⟩) (fun y G3 hg3 hx=>W.mk ?_)
  obtain ⟨i,n,vs⟩:=y
  obtain ⟨hi,hrow⟩:=hx
  dsimp only at hi hrow
  have hrn:=hrow.n
  have hul:=uslP_len (rgOf r x) i
  have hhl:(holF (rgOf r x)).length≤12:=Nat.le_trans hll hol
  dsimp only
  (conv=>whnf)
  refine IteP.mk (fun hlt=>W.mk ?_) (fun hge=>W.mk ?_)<;>(conv=>whnf)
  ·have hlt:i < (holF (rgOf r x)).length:=by omega
   have hl3:=SlR.grow (G:=G2) (G':=G3) (fun _ _ h=>h) hl1 hg3
   have hce:=hl3.el hlt
   have hst:uslP (rgOf r x) (i + 1) = if sameV (rgOf r x) ((holF (rgOf r x)).eraseIdx i) then uslP (rgOf r x) i++[(holF (rgOf r x)).getD i 0] else uslP (rgOf r x) i:=rfl
   have hgd:(holF (rgOf r x)).getD i 0 = (holF (rgOf r x))[i]:=by simp [hlt]
   rw [hgd] at hst
   have hmm:=hmem _ (List.getElem_mem hlt)
   generalize (holF (rgOf r x))[i] = kk at hce hst hmm
   repeat' (first | (refine ob ?_ ?_;(first | trivial | omega | (simp only [inR];omega) | exact ble (by rfl) | exact SlR.some ‹_› (by omega));(conv=>whnf)) | (first | (refine ra ‹_› (by rfl) ?_;(conv=>whnf)) | (refine rb ‹_› (by rfl) ?_;(conv=>whnf)) | (refine rc ‹_› (by rfl) ?_;(conv=>whnf)) | (refine rd ‹_› (by rfl) ?_;(conv=>whnf))))
   refine OwnP.g (ok1 (slRd intE) fun l=>l.length≤8796093022207) (x:=holF (rgOf r x)) ⟨_,rfl,hq2.grow hg3,by omega⟩ (Grow.refl _) (fun m ws G4 hg4 hrw=>W.mk ?_)
   obtain ⟨rfl,rfl⟩:=hrw
   have hfl:∀ l:List Int,(l.map intE.f).flatten = l.map I:=fun l=>by
    induction l with
    | nil=>rfl
    | cons a l ih=>rw [List.map_cons,List.flatten_cons,ih];rfl
   rw [hfl]
   dsimp only
   (conv=>whnf)
   (refine ob ?_ ?_;(first | trivial | omega | (simp only [inR];omega) | exact ble (by rfl) | exact SlR.some ‹_› (by omega));(conv=>whnf))
   refine OblP.mk ⟨rfl,holF (rgOf r x),i,rfl,rfl,hlt⟩ (W.mk ?_)
   (conv=>whnf)
   have hres:delRes (holF (rgOf r x)).length ((holF (rgOf r x)).map I) [I i,I ((i:Int) + 1)] = ((holF (rgOf r x)).length - 1,((holF (rgOf r x)).eraseIdx i).map I):=by
    simp only [delRes,I]
    rw [show ((i:Int) + 1).toNat = i + 1 by omega,show ((i:Int)).toNat = i by omega,show i + 1 - i = 1 by omega,List.eraseIdx_eq_take_drop_succ]
    simp
   refine GiveP.mk (fun ca cc G5 hg5 hp5=>W.mk ?_)
   rw [hres] at hp5 ⊢
   dsimp only at hp5 ⊢
   (conv=>whnf)
   have hsl:SlV intE G5 (.slice ca ((holF (rgOf r x)).length - 1) cc) ((holF (rgOf r x)).eraseIdx i):=hp5.slV (hfl _).symm (by rw [List.length_eraseIdx,if_pos hlt]) (by omega)
   refine ScaP.g (ok2 rgRd (slRd intE) ByOk) (x:=(rgOf r x,(holF (rgOf r x)).eraseIdx i)) ⟨_,_,rfl,⟨_,_,_,rfl,(((hgc.grow hg2).grow hg3).grow hg4).grow hg5⟩,hsl,fun k hk=>hmem k (List.mem_of_mem_eraseIdx hk),hord⟩ (fun v hv=>W.mk ?_)
   subst hv
   dsimp only
   (conv=>whnf)
   refine PurP.of _ (eq95 (byF (rgOf r x) ((holF (rgOf r x)).eraseIdx i)) (rgOf r x).p) (W.mk ?_)
   (conv=>whnf)
   have hsv:((List.range 60).all fun j=>byF (rgOf r x) ((holF (rgOf r x)).eraseIdx i) j == (rgOf r x).p j) = sameV (rgOf r x) ((holF (rgOf r x)).eraseIdx i):=rfl
   rw [hsv]
   refine ForkP.mk (fun hm=>W.mk ?_) (fun hm=>W.mk ?_)<;>(conv=>whnf)
   ·rw [if_pos hm] at hst
    repeat' (first | (refine OblP.mk rfl (W.mk ?_);(conv=>whnf)) | (refine ob ?_ ?_;(first | trivial | omega | (simp only [inR];omega) | exact ble (by rfl) | exact SlR.some ‹_› (by omega));(conv=>whnf)) | (first | (refine ra ‹_› (by rfl) ?_;(conv=>whnf)) | (refine rb ‹_› (by rfl) ?_;(conv=>whnf)) | (refine rc ‹_› (by rfl) ?_;(conv=>whnf)) | (refine rd ‹_› (by rfl) ?_;(conv=>whnf))))
    refine RoundP.of (i + 1,n + 1,vs++[I kk]) (HeadP.of [(1,some 45)] ⟨rfl,rfl,rfl,rfl,rfl,rfl,trivial⟩ ⟨rfl,rfl,trivial⟩) ⟨hlt, ?_⟩ (by simp only;omega)
    rw [hst]
    exact hrow.snoc kk
   ·rw [if_neg (by rw [hm];simp)] at hst
    repeat' (first | (refine OblP.mk rfl (W.mk ?_);(conv=>whnf)) | (refine ob ?_ ?_;(first | trivial | omega | (simp only [inR];omega) | exact ble (by rfl) | exact SlR.some ‹_› (by omega));(conv=>whnf)) | (first | (refine ra ‹_› (by rfl) ?_;(conv=>whnf)) | (refine rb ‹_› (by rfl) ?_;(conv=>whnf)) | (refine rc ‹_› (by rfl) ?_;(conv=>whnf)) | (refine rd ‹_› (by rfl) ?_;(conv=>whnf))))
    refine RoundP.of (i + 1,n,vs) (HeadP.of [] ⟨rfl,rfl,rfl,rfl,rfl,rfl,trivial⟩ ⟨rfl,rfl,trivial⟩) ⟨hlt, ?_⟩ (by simp only;omega)
    rw [hst]
    exact hrow
  ·have hie:i = (holF (rgOf r x)).length:=by omega
   subst hie
   refine PubP.mk (fun a1 c1 G4 hg4 hp=>W.mk ?_)
   (conv=>whnf)
   refine FinP.mk ⟨_,by rw [h1];rfl, ?_⟩
   rw [if_pos h1, ← usl_F hfn x]
   exact hrow.pub hp (by omega)
end Go.Proofs.Ytpcpjmplgladmaa

namespace Go.Proofs.Ytpcpjmplgladmaa
open Go.Pal Go.RowKit
set_option maxRecDepth 100000
end Go.Proofs.Ytpcpjmplgladmaa

namespace Go.Proofs.Ytpcpjmplgladmaa
open Go.Pal
set_option maxRecDepth 100000
theorem yr_fold (x:Rx) (i:Nat):∀ (os:List Od) (y0:Int),y0≤os.foldl (yrS x i) y0∧(∀ o∈os,shutsF x o = true→inF i o.f (o.t - 1) = true→o.u≤os.foldl (yrS x i) y0)∧(os.foldl (yrS x i) y0 = y0∨∃ o∈os,shutsF x o = true∧inF i o.f (o.t - 1) = true∧os.foldl (yrS x i) y0 = o.u)
 | [],y0=>⟨Int.le_refl _,fun o h=>(by cases h), .inl rfl⟩
 | q :: t,y0=>by
  obtain ⟨h1,h2,h3⟩:=yr_fold x i t (yrS x i y0 q)
  rw [List.foldl_cons]
  have hq:yrS x i y0 q = if shutsF x q && inF i q.f (q.t - 1) then max y0 q.u else y0:=rfl
  have hle:y0≤yrS x i y0 q:=by rw [hq];split<;>omega
  refine ⟨by omega,fun o ho k1 k2=>?_, ?_⟩
  ·rcases List.mem_cons.1 ho with rfl | ho
   ·have:o.u≤yrS x i y0 o:=by rw [hq,k1,k2];simp;omega
    omega
   ·exact h2 o ho k1 k2
  ·rcases h3 with h3 | ⟨o,ho,k1,k2,k3⟩
   ·rw [h3,hq]
    split
    ·rename_i hc
     rw [Bool.and_eq_true] at hc
     by_cases hm:q.u≤y0
     ·exact .inl (by omega)
     ·exact .inr ⟨q,by simp,hc.1,hc.2,by omega⟩
    ·exact .inl rfl
   ·exact .inr ⟨o,by simp [ho],k1,k2,k3⟩
structure RunS (g:Rg) (n:Nat) (s:Sh):Prop where
 rng:0≤s.f∧s.f < s.t∧s.t≤n
 hid:∀ i:Nat,s.f≤i→(i:Int) < s.t→g.p i = true
 lo:s.f = 0∨g.p (s.f - 1).toNat = false
 hi:s.t = n∨g.p s.t.toNat = false
 y1:∀ o∈g.r.orders,shutsF g.x o = true→∀ i:Nat,s.f≤i→(i:Int) < s.t→inF i o.f (o.t - 1) = true→o.u≤s.y
 y2:s.y = 0∨∃ o∈g.r.orders,shutsF g.x o = true∧(∃ i:Nat,s.f≤i∧(i:Int) < s.t∧inF i o.f (o.t - 1) = true)∧s.y = o.u
structure Runs (g:Rg) (n:Nat) (L:List Sh):Prop where
 all:∀ s∈L,RunS g n s
 srt:L.Pairwise fun a b=>a.t < b.f
 cov:∀ i:Nat,i < n→g.p i = true→∃ s∈L,s.f≤i∧(i:Int) < s.t
 sum:(L.map fun s=>s.t - s.f).sum = ((List.range n).countP g.p:Nat)
 last:∀ i:Nat,n = i + 1→g.p i = true→∃ (L0:List Sh) (s:Sh),L = L0++[s]∧s.t = (n:Int)
theorem cnt_succ (p:Nat→Bool) (n:Nat):(((List.range (n + 1)).countP p:Nat):Int) = ((List.range n).countP p:Nat) + (if p n then 1 else 0):=by
 rw [List.range_succ,List.countP_append]
 cases h:p n<;>simp [h]
theorem runs_ex (g:Rg):∀ n,Runs g n (clK g n)
 | 0=>⟨fun s h=>(by simp [clK] at h),List.Pairwise.nil,fun i h=>(by omega),by simp [clK],fun i h=>by omega⟩
 | n + 1=>by
  have ih:=runs_ex g n
  have hcnt:=cnt_succ g.p n
  simp only [clK]
  by_cases hp:g.p n = true
  ·rw [if_pos hp]
   rw [hp] at hcnt
   simp only [if_true] at hcnt
   by_cases hn:n = 0∨g.p (n - 1) = false
   ·have hI:clI g n (clK g n) = clK g n++[⟨n,0,0⟩]:=if_pos hn
    rw [hI,setL_snoc,lastY_snoc]
    obtain ⟨f1,f2,f3⟩:=yr_fold g.x n g.r.orders 0
    generalize g.r.orders.foldl (yrS g.x n) 0 = Y at f1 f2 f3
    have hne:∀ s∈clK g n,s.t≠n:=fun s hs e=>by
     have h1:=ih.all s hs
     rcases hn with h | h
     ·have:=h1.rng;omega
     ·have:=h1.hid (n - 1) (by have:=h1.rng;omega) (by have:=h1.rng;omega)
      rw [h] at this;cases this
    have hone:∀ i:Nat,(n:Int)≤i→(i:Int) < (n:Int) + 1→i = n:=fun i h1 h2=>by omega
    refine ⟨fun s hs=>?_, ?_,fun i hi hpi=>?_, ?_,fun i hi _=>⟨clK g n,_,rfl,by simp⟩⟩
    ·rcases List.mem_append.1 hs with hs | hs
     ·have h1:=ih.all s hs
      have h2:=hne s hs
      refine ⟨⟨h1.rng.1,h1.rng.2.1,by have:=h1.rng.2.2;omega⟩,h1.hid,h1.lo, .inr (h1.hi.resolve_left h2),h1.y1,h1.y2⟩
     ·simp at hs
      subst hs
      refine ⟨⟨by show (0:Int)≤n;omega,by show (n:Int) < (n:Int) + 1;omega,by show (n:Int) + 1≤((n + 1:Nat):Int);omega⟩,fun i h1 h2=>by rw [hone i h1 h2];exact hp, ?_, .inl (by show (n:Int) + 1 = ((n + 1:Nat):Int);omega),fun o ho k1 i h1 h2 k2=>f2 o ho k1 (by rw [← hone i h1 h2];exact k2), ?_⟩
      ·rcases hn with h | h
       ·exact .inl (by show (n:Int) = 0;omega)
       ·refine .inr ?_
        show g.p ((n:Int) - 1).toNat = false
        rw [show ((n:Int) - 1).toNat = n - 1 by omega];exact h
      ·rcases f3 with f3 | ⟨o,ho,k1,k2,k3⟩
       ·exact .inl f3
       ·exact .inr ⟨o,ho,k1,⟨n,by show (n:Int)≤n;omega,by show (n:Int) < (n:Int) + 1;omega,k2⟩,k3⟩
    ·rw [List.pairwise_append]
     refine ⟨ih.srt,List.pairwise_singleton _ _,fun a ha b hb=>?_⟩
     simp at hb
     subst hb
     show a.t < (n:Int)
     have h1:=(ih.all a ha).rng
     have h2:=hne a ha
     omega
    ·by_cases he:i = n
     ·subst he
      exact ⟨⟨i,(i:Int) + 1,Y⟩,by simp,by show (i:Int)≤i;omega,by show (i:Int) < (i:Int) + 1;omega⟩
     ·obtain ⟨s,hs,h1,h2⟩:=ih.cov i (by omega) hpi
      exact ⟨s,by simp [hs],h1,h2⟩
    ·rw [List.map_append,List.sum_append,ih.sum,hcnt]
     simp
     omega
   ·have hn0:n≠0:=fun h=>hn (.inl h)
    have hpn:g.p (n - 1) = true:=by cases h:g.p (n - 1) with
     | true=>rfl
     | false=>exact absurd (.inr h) hn
    have hI:clI g n (clK g n) = clK g n:=if_neg hn
    obtain ⟨L0,s0,hL,ht⟩:=ih.last (n - 1) (by omega) hpn
    rw [hI,hL,setL_snoc,lastY_snoc]
    rw [hL] at ih
    obtain ⟨f1,f2,f3⟩:=yr_fold g.x n g.r.orders s0.y
    generalize g.r.orders.foldl (yrS g.x n) s0.y = Y at f1 f2 f3
    have h0:=ih.all s0 (by simp)
    have hsrt:=ih.srt
    rw [List.pairwise_append] at hsrt
    have hlt:∀ s∈L0,s.t < s0.f:=fun s hs=>hsrt.2.2 s hs s0 (by simp)
    refine ⟨fun s hs=>?_, ?_,fun i hi hpi=>?_, ?_,fun i hi _=>⟨L0,_,rfl,by simp⟩⟩
    ·rcases List.mem_append.1 hs with hs | hs
     ·have h1:=ih.all s (by simp [hs])
      have h2:=hlt s hs
      refine ⟨⟨h1.rng.1,h1.rng.2.1,by have:=h1.rng.2.2;omega⟩,h1.hid,h1.lo, .inr (h1.hi.resolve_left (by have:=h0.rng;omega)),h1.y1,h1.y2⟩
     ·simp at hs
      subst hs
      refine ⟨⟨h0.rng.1,by show s0.f < (n:Int) + 1;have:=h0.rng;omega,by show (n:Int) + 1≤((n + 1:Nat):Int);omega⟩,fun i h1 h2=>?_,h0.lo, .inl (by show (n:Int) + 1 = ((n + 1:Nat):Int);omega),fun o ho k1 i h1 h2 k2=>?_, ?_⟩
      ·have h2:(i:Int) < (n:Int) + 1:=h2
       by_cases he:i = n
       ·rw [he];exact hp
       ·exact h0.hid i h1 (by omega)
      ·have h2:(i:Int) < (n:Int) + 1:=h2
       show o.u≤Y
       by_cases he:i = n
       ·subst he;exact f2 o ho k1 k2
       ·have:=h0.y1 o ho k1 i h1 (by omega) k2
        omega
      ·rcases f3 with f3 | ⟨o,ho,k1,k2,k3⟩
       ·rcases h0.y2 with h | ⟨o,ho,k1,⟨i,k2,k3,k4⟩,k5⟩
        ·exact .inl (by show Y = 0;rw [f3,h])
        ·exact .inr ⟨o,ho,k1,⟨i,k2,by show (i:Int) < (n:Int) + 1;omega,k4⟩,by show Y = o.u;rw [f3,k5]⟩
       ·exact .inr ⟨o,ho,k1,⟨n,by show s0.f≤n;have:=h0.rng;omega,by show (n:Int) < (n:Int) + 1;omega,k2⟩,k3⟩
    ·rw [List.pairwise_append]
     refine ⟨hsrt.1,List.pairwise_singleton _ _,fun a ha b hb=>?_⟩
     simp at hb
     subst hb
     exact hlt a ha
    ·by_cases he:i = n
     ·subst he
      exact ⟨⟨s0.f,(i:Int) + 1,Y⟩,by simp,by show s0.f≤i;have:=h0.rng;omega,by show (i:Int) < (i:Int) + 1;omega⟩
     ·obtain ⟨s,hs,h1,h2⟩:=ih.cov i (by omega) hpi
      rcases List.mem_append.1 hs with hs | hs
      ·exact ⟨s,by simp [hs],h1,h2⟩
      ·simp at hs
       subst hs
       exact ⟨⟨s.f,(n:Int) + 1,Y⟩,by simp,h1,by show (i:Int) < (n:Int) + 1;omega⟩
    ·have:=ih.sum
     rw [List.map_append,List.sum_append] at this ⊢
     simp at this ⊢
     omega
  ·have hpf:g.p n = false:=by simpa using hp
   rw [if_neg hp]
   rw [hpf] at hcnt
   simp only [Bool.false_eq_true,if_false,Int.add_zero] at hcnt
   refine ⟨fun s hs=>?_,ih.srt,fun i hi hpi=>?_,by rw [ih.sum,hcnt],fun i hi h=>?_⟩
   ·have h1:=ih.all s hs
    refine ⟨⟨h1.rng.1,h1.rng.2.1,by have:=h1.rng.2.2;omega⟩,h1.hid,h1.lo, ?_,h1.y1,h1.y2⟩
    rcases h1.hi with h | h
    ·refine .inr ?_
     rw [h,Int.toNat_natCast];exact hpf
    ·exact .inr h
   ·have he:i≠n:=fun e=>by rw [e,hpf] at hpi;cases hpi
    exact ih.cov i (by omega) hpi
   ·have:i = n:=by omega
    subst this
    rw [hpf] at h;cases h
theorem runs_cl (g:Rg):Runs g g.r.words.length (clF g):=runs_ex g _
end Go.Proofs.Ytpcpjmplgladmaa

namespace Go.Proofs.Ytpcpjmplgladmaa
open Go.Pal Go.RowKit
set_option maxRecDepth 100000
end Go.Proofs.Ytpcpjmplgladmaa

namespace Go.Proofs.Ytpcpjmplgladmaa
open Go.Pal Go.RowKit
set_option maxRecDepth 100000
def withO (r:Rp) (l:List Od):Rp:=⟨r.words,l,r.cols⟩
section
variable {r:Rp} {l:List Od} (h:l.Perm r.orders) (x:Rx)
include h
end
theorem pcK_congr {g g':Rg} (hp:g.p = g'.p) (hw:g.r.words = g'.r.words) (hc:g.r.cols = g'.r.cols):∀ i,pcK g i = pcK g' i
 | 0=>rfl
 | i + 1=>by simp only [pcK,pcK_congr hp hw hc i,hp,hw,hc]
section
variable {r:Rp} {l:List Od} (h:l.Perm r.orders) (x:Rx)
include h
end
/-! ### Rows that are cut,and set -/
theorem SlR.cut {α:Type} {k:Nat} {R:Hp→List Value→α→Prop} {G:Hp} {a:Option Addr} {n c:Nat} {l:List α} (h:SlR k R G a n c l) {b m:Nat} (hb:b≤m) (hm:m≤n) (hc:c≠b) (hn:n≠0):SlR k R G (cutA a b c k) (m - b) (c - b) ((l.take m).drop b):=by
 have h1:=h.some hn
 have hcap:=h.cap
 have hlen:=h.len
 generalize hB:ab a = B at h1
 generalize hO:ao a = O at h1
 have hX:cutA a b c k = some ⟨B,O + b * k,none⟩:=by
  rw [cutA,if_neg hc,h1]
  show some (Addr.add _ _) = _
  unfold Addr.add
  split
  ·rename_i h0;rw [h0];rfl
  ·rfl
 rw [hX]
 refine ⟨by simp;omega,by omega,fun _=>rfl,fun i hi=>?_⟩
 have hi':b + i < l.length:=by simp at hi;omega
 obtain ⟨cs,k1,k2,k3⟩:=h.at_ (b + i) hi'
 refine ⟨cs,k1, ?_,by simpa using k3⟩
 rw [hB,hO] at k2
 show CellsAt G B (O + b * k + i * k) cs
 rw [show O + b * k + i * k = O + (b + i) * k by rw [Nat.add_mul];omega]
 exact k2
theorem Row.set {α:Type} {e:El α} {l:List α} {n:Nat} {vs:List Value} (h:Row e l n vs) {i:Nat} (hi:i < l.length) (x:α):Row e (l.set i x) n (vs.take (i * e.k)++e.f x++vs.drop (i * e.k + e.k)):=by
 obtain ⟨rfl,rfl⟩:=h
 refine ⟨by simp, ?_⟩
 induction l generalizing i with
 | nil=>simp at hi
 | cons y t ih =>
  have hk:=e.len y
  cases i with
  | zero =>
   simp only [List.map_cons,List.flatten_cons,List.set_cons_zero,Nat.zero_mul,List.take_zero,List.nil_append,Nat.zero_add]
   rw [← hk,List.drop_left]
  | succ i =>
   have hi2:i < t.length:=by simpa using hi
   simp only [List.map_cons,List.flatten_cons,List.set_cons_succ]
   rw [← ih hi2,show (i + 1) * e.k = (e.f y).length + i * e.k by rw [hk,Nat.succ_mul];omega,List.take_append,List.drop_append,List.take_of_length_le (by omega),List.drop_of_length_le (by omega),Nat.add_sub_cancel_left,show (e.f y).length + i * e.k + e.k - (e.f y).length = i * e.k + e.k by omega]
   simp
end Go.Proofs.Ytpcpjmplgladmaa

namespace Go.Proofs.Ytpcpjmplgladmaa
open Go.Pal
set_option maxRecDepth 100000
def hidN (l:List Sh):Int:=(l.map fun s=>s.t - s.f).sum
structure ShB (l:List Sh):Prop where
 n:l.length≤1000
 s:∀ s∈l,0≤s.f∧s.f≤s.t∧s.t≤1000
theorem hidN_bd:∀ {l:List Sh},(∀ s∈l,0≤s.f∧s.f≤s.t∧s.t≤1000)→0≤hidN l∧hidN l≤1000 * (l.length:Int)
 | [],_=>by simp [hidN]
 | q :: t,h=>by
  have h1:=hidN_bd (l:=t) fun s hs=>h s (by simp [hs])
  have h2:=h q (by simp)
  simp only [hidN,List.map_cons,List.sum_cons,List.length_cons] at h1 ⊢
  omega
theorem hidden26:Sound Try.prog 26 id (gsca (args1 (slRd shE) ShB) fun l v=>v = I (hidN l)):=by
 refine comp26.gsca (Tab.nil _) (fun args G s h=>?_) (fun args G l h=>?_)
 ·obtain ⟨v,rfl,_⟩:=h;simp
 ·obtain ⟨v,rfl,⟨a,n,c,rfl,hl,hn⟩,hb⟩:=h
  have hlen:=hl.len
  have hbn:=hb.n
  (conv=>whnf)
  refine LoopP.of { α:=Nat,fr:=fun i=>[(0, .v (.slice a n c)),(3, .v (I (hidN (l.take i)))),(4, .v (I i))],H:=fun _=>[],ok:=fun i _=>i≤l.length,m:=fun i=>l.length - i }
   0 (HeadP.of [] ⟨rfl,rfl,rfl,trivial⟩ trivial) (Nat.zero_le _) (fun _=>⟨rfl,rfl⟩) (fun (i:Nat) G1 hg1 hx=>W.mk ?_)
  have hi:i≤l.length:=hx
  dsimp only
  (conv=>whnf)
  refine IteP.mk (fun hlt=>W.mk ?_) (fun hge=>W.mk ?_)<;>(conv=>whnf)
  ·have hlt:i < l.length:=by omega
   have hc:=(SlR.grow (G:=G) (G':=G1) (fun _ _ h=>h) hl hg1).el hlt
   have htk:=take_snoc (List.getElem?_eq_getElem hlt)
   have hsb:=hb.s _ (List.getElem_mem hlt)
   have hbd:=hidN_bd (l:=l.take i) fun s hs=>hb.s s (List.mem_of_mem_take hs)
   have hlt2:((l.take i).length:Int)≤1000:=by simp;omega
   generalize l[i] = s at hc htk hsb
   obtain ⟨f,t,y⟩:=s
   dsimp only at hsb
   have hc:CellsAt G1 (ab a) (ao a + i * 3) [I f,I t,I y]:=hc
   have hsum:hidN (l.take (i + 1)) = hidN (l.take i) + (t - f):=by rw [htk,hidN,List.map_append,List.sum_append];simp [hidN]
   generalize hidN (l.take i) = N at hbd hsum
   repeat' (first | (refine ob ?_ ?_;(first | trivial | omega | (simp only [inR];omega) | exact ble (by rfl) | exact SlR.some ‹_› (by omega));(conv=>whnf)) | (first | (refine ra ‹_› (by rfl) ?_;(conv=>whnf)) | (refine rb ‹_› (by rfl) ?_;(conv=>whnf)) | (refine rc ‹_› (by rfl) ?_;(conv=>whnf)) | (refine rd ‹_› (by rfl) ?_;(conv=>whnf))))
   refine RoundP.of (i + 1) (HeadP.of [] ⟨rfl,by rw [hsum];rfl,rfl,trivial⟩ trivial) hlt (by simp only;omega)
  ·have:i = l.length:=by omega
   subst this
   rw [List.take_length]
   exact FinP.mk rfl
end Go.Proofs.Ytpcpjmplgladmaa

namespace Go.Proofs.Ytpcpjmplgladmaa
open Go.Pal
set_option maxRecDepth 100000
abbrev lessO (r:Rp) (k:Nat):Rp:=withO r (r.orders.eraseIdx k)
theorem mem_less {r:Rp} {k:Nat} {o:Od}:o∈(lessO r k).orders↔∃ j:Nat,j < r.orders.length∧j≠k∧odAt r j = o:=by
 show o∈r.orders.eraseIdx k↔_
 rw [List.mem_eraseIdx_iff_getElem?]
 constructor
 ·rintro ⟨j,h1,h2⟩
  obtain ⟨h3,h4⟩:=List.getElem?_eq_some_iff.1 h2
  exact ⟨j,h3,h1,by show r.orders.getD j _ = o;simp [h2]⟩
 ·rintro ⟨j,h1,h2,h3⟩
  refine ⟨j,h2, ?_⟩
  subst h3
  show r.orders[j]? = some (r.orders.getD j _)
  simp [List.getElem?_eq_getElem h1]
theorem fine_less {r:Rp} (hf:Fine r) (k:Nat):Fine (lessO r k):=by
 refine ⟨hf.wl, ?_,fun o ho=>?_,hf.w,hf.c⟩
 ·have h1:=hf.ol
  have h2:=List.length_eraseIdx_le r.orders k
  show (r.orders.eraseIdx k).length≤12
  omega
 ·obtain ⟨j,h1,_,rfl⟩:=mem_less.1 ho
  exact hf.o _ (odAt_mem.2 ⟨j,h1,rfl⟩)
theorem fault_less {r:Rp} {x:Rx} (h:faultX r x = 0) (k:Nat):faultX (lessO r k) x = 0:=by
 have h1:faultR r = 0:=by
  unfold faultX at h
  split at h
  ·assumption
  ·exact h
 unfold faultX at h ⊢
 rw [if_pos h1] at h
 have h2:faultR (lessO r k) = 0:=by
  have hl:=List.length_eraseIdx_le r.orders k
  unfold faultR at h1 ⊢
  show (if 60 < r.words.length∨12 < (r.orders.eraseIdx k).length then 3 else if r.words.any longW then 3 else if r.words.any badW || (r.orders.eraseIdx k).any (badO r.words.length) || !inF r.cols 1 20 then 1 else 0) = 0
  split at h1
  ·cases h1
  rename_i c1
  rw [if_neg (by omega)]
  split at h1
  ·cases h1
  rename_i c2
  rw [if_neg c2]
  split at h1
  ·cases h1
  rename_i c3
  rw [if_neg]
  intro c4
  apply c3
  simp only [Bool.or_eq_true,List.any_eq_true] at c4 ⊢
  rcases c4 with (c4 | ⟨o,ho,c4⟩) | c4
  ·exact .inl (.inl c4)
  ·exact .inl (.inr ⟨o,List.mem_of_mem_eraseIdx ho,c4⟩)
  ·exact .inr c4
 rw [if_pos h2]
 exact h
theorem hid_less (r:Rp) (x:Rx) (k i:Nat):hidF (lessO r k) x i = true↔∃ j:Nat,j < r.orders.length∧j≠k∧holdsF (odAt r j) x = true∧cov (odAt r j) i = true:=by
 simp only [hidF,List.any_eq_true,hidO,Bool.and_eq_true,cov_in]
 constructor
 ·rintro ⟨o,ho,h1,h2⟩
  obtain ⟨j,j1,j2,rfl⟩:=mem_less.1 ho
  exact ⟨j,j1,j2,h1,h2⟩
 ·rintro ⟨j,j1,j2,h1,h2⟩
  exact ⟨_,mem_less.2 ⟨j,j1,j2,rfl⟩,h1,h2⟩
theorem less_hid {r:Rp} {x:Rx} {k i:Nat} (h:hidF (lessO r k) x i = true):hidF r x i = true:=by
 obtain ⟨j,j1,_,h1,h2⟩:=(hid_less r x k i).1 h
 exact (hid_iff r x i).2 ⟨j,j1,h1,h2⟩
theorem hid_lt {r:Rp} (hf:Fine r) {x:Rx} {i:Nat} (h:hidF r x i = true):i < r.words.length:=by
 obtain ⟨j,j1,h1,h2⟩:=(hid_iff r x i).1 h
 have ho:=hf.o _ (odAt_mem.2 ⟨j,j1,rfl⟩)
 simp only [cov,Bool.and_eq_true,decide_eq_true_eq] at h2
 omega
theorem usl_iff (r:Rp) (x:Rx) (k:Nat):(k:Int)∈uslF r x↔k < r.orders.length∧holdsF (odAt r k) x = true∧∀ i:Nat,hidF r x i = true→i < r.words.length→hidF (lessO r k) x i = true:=by
 have key:∀ n,n≤r.orders.length→((k:Int)∈uslK r x n↔k < n∧holdsF (odAt r k) x = true∧sameF r x (butS r.orders.length k) = true):=by
  intro n
  induction n with
  | zero=>intro _;simp [uslK]
  | succ n ih =>
   intro hn
   have ih:=ih (by omega)
   simp only [uslK]
   split
   ·rename_i hc
    rw [Bool.and_eq_true] at hc
    rw [List.mem_append,ih]
    constructor
    ·rintro (h | h)
     ·exact ⟨by omega,h.2⟩
     ·have h:(k:Int) = n:=by simpa using h
      have h:k = n:=by omega
      subst h
      exact ⟨by omega,hc⟩
    ·rintro ⟨h1,h2⟩
     by_cases e:k = n
     ·exact .inr (by simp [e])
     ·exact .inl ⟨by omega,h2⟩
   ·rename_i hc
    rw [Bool.and_eq_true] at hc
    rw [ih]
    constructor
    ·rintro ⟨h1,h2⟩;exact ⟨by omega,h2⟩
    ·rintro ⟨h1,h2⟩
     have:k≠n:=fun e=>hc (e ▸ h2)
     exact ⟨by omega,h2⟩
 rw [uslF,key _ (Nat.le_refl _)]
 refine and_congr_right fun hk=>and_congr_right fun hh=>?_
 rw [sameF_iff]
 constructor
 ·intro h i h1 h2
  obtain ⟨j,j1,j2,j3,j4⟩:=h i h2 h1
  rw [but_bit hk j1] at j2
  exact (hid_less r x k i).2 ⟨j,j1,by simpa using j2,j3,j4⟩
 ·intro h i h1 h2
  obtain ⟨j,j1,j2,j3,j4⟩:=(hid_less r x k i).1 (h i h2 h1)
  exact ⟨j,j1,by rw [but_bit hk j1];simpa using j2,j3,j4⟩
theorem same_less {r:Rp} (hf:Fine r) {x:Rx} {k:Nat} (hk:k < r.orders.length) (h:(k:Int)∈uslF r x∨holdsF (odAt r k) x = false):(rgOf (lessO r k) x).p = (rgOf r x).p:=by
 funext i
 show hidF (lessO r k) x i = hidF r x i
 rw [Bool.eq_iff_iff]
 refine ⟨less_hid,fun hh=>?_⟩
 rcases h with h | h
 ·exact ((usl_iff r x k).1 h).2.2 i hh (hid_lt hf hh)
 ·obtain ⟨j,j1,j2,j3⟩:=(hid_iff r x i).1 hh
  refine (hid_less r x k i).2 ⟨j,j1,fun e=>?_,j2,j3⟩
  subst e
  rw [h] at j2;cases j2
theorem hid_sum (r:Rp) (x:Rx):hidN (clF (rgOf r x)) = ((List.range r.words.length).countP fun i:Nat=>hidF r x i:Nat):=(runs_cl (rgOf r x)).sum
theorem less_same {r:Rp} (hf:Fine r) {x:Rx} {k:Nat} (hk:k < r.orders.length) (h:(k:Int)∈uslF r x∨holdsF (odAt r k) x = false):hidN (clF (rgOf (lessO r k) x)) = hidN (clF (rgOf r x))∧lookF (lessO r k) x = lookF r x:=by
 have hp:=same_less hf hk h
 refine ⟨?_, ?_⟩
 ·rw [hid_sum,hid_sum]
  have:(fun i:Nat=>hidF (lessO r k) x i) = fun i:Nat=>hidF r x i:=hp
  rw [this];rfl
 ·rw [lookF,lookF,pcF,pcF,pcK_congr hp rfl rfl]
  rfl
theorem cnt_lt {p q:Nat→Bool} {n:Nat} (h:∀ i,q i = true→p i = true) {j:Nat} (hj:j < n) (h1:p j = true) (h2:q j = false):(List.range n).countP q < (List.range n).countP p:=by
 induction n with
 | zero=>omega
 | succ n ih =>
  rw [List.range_succ,List.countP_append,List.countP_append]
  have hm:(List.range n).countP q≤(List.range n).countP p:=List.countP_mono_left fun i _=>h i
  by_cases e:j = n
  ·subst e
   have:[j].countP q = 0:=by simp [h2]
   have:[j].countP p = 1:=by simp [h1]
   omega
  ·have:=ih (by omega)
   have:[n].countP q≤[n].countP p:=List.countP_mono_left fun i _=>h i
   omega
theorem less_lt {r:Rp} (hf:Fine r) {x:Rx} {k:Nat} (hk:k < r.orders.length) (h:¬ (k:Int)∈uslF r x) (hh:holdsF (odAt r k) x = true):hidN (clF (rgOf (lessO r k) x)) < hidN (clF (rgOf r x)):=by
 rw [hid_sum,hid_sum]
 rw [usl_iff] at h
 have:∃ i:Nat,hidF r x i = true∧¬ hidF (lessO r k) x i = true:=by
  refine Classical.byContradiction fun hn=>h ⟨hk,hh,fun i h1 _=>?_⟩
  refine Classical.byContradiction fun h2=>hn ⟨i,h1,h2⟩
 obtain ⟨i,h1,h2⟩:=this
 have:=cnt_lt (p:=fun i:Nat=>hidF r x i) (q:=fun i:Nat=>hidF (lessO r k) x i) (n:=r.words.length) (fun i=>less_hid) (hid_lt hf h1) h1 (by simpa using h2)
 show ((List.countP _ (List.range r.words.length):Nat):Int) < _
 omega
theorem few_le {r:Rp} (hf:Fine r) {x:Rx} {m:Nat} (hm:IsFew (rgOf r x) m):m≤(holF (rgOf r x)).length:=by
 refine Nat.le_of_not_lt fun hlt=>?_
 have h:=hm.2 _ hlt
 rw [(cnF_iff _ _ _).2 ⟨holF (rgOf r x),by simp,rfl, ?_⟩] at h
 ·cases h
 ·rw [List.nil_append,sameV_iff hf x fun _ h=>h]
  intro i _ hh
  obtain ⟨j,j1,j2,j3⟩:=(hid_iff r x i).1 hh
  exact ⟨(j:Int),(hol_iff r x _).2 ⟨j,j1,rfl,j2⟩,by simpa using j3⟩
theorem few_zero {r:Rp} (hf:Fine r) {x:Rx} {m:Nat} (hm:IsFew (rgOf r x) m):m = 0↔clF (rgOf r x) = []:=by
 have h0:sameV (rgOf r x) [] = true↔clF (rgOf r x) = []:=by
  rw [sameV_iff hf x (s:=[]) fun _ h=>by cases h]
  constructor
  ·intro h
   cases hc:clF (rgOf r x) with
   | nil=>rfl
   | cons s t =>
    have hs:=(runs_cl (rgOf r x)).all s (by rw [hc];simp)
    obtain ⟨a1,a2,a3⟩:=hs.rng
    have a3:s.t≤r.words.length:=a3
    have:=hs.hid s.f.toNat (by omega) (by omega)
    obtain ⟨k,hk,_⟩:=h s.f.toNat (by omega) this
    cases hk
  ·intro h i hi hh
   obtain ⟨s,hs,_⟩:=(runs_cl (rgOf r x)).cov i hi hh
   rw [h] at hs;cases hs
 rw [← h0]
 have hc:cnF (sameV (rgOf r x)) (holF (rgOf r x)) 0 0 [] = true↔sameV (rgOf r x) [] = true:=by
  rw [cnF_iff]
  constructor
  ·rintro ⟨s,_,h1,h2⟩
   rw [List.length_eq_zero_iff.1 h1] at h2
   simpa using h2
  ·intro h
   exact ⟨[],by simp,rfl,by simpa using h⟩
 rw [← hc]
 constructor
 ·rintro rfl;exact hm.1
 ·intro h
  refine Nat.eq_zero_of_not_pos fun hp=>?_
  rw [hm.2 0 hp] at h;cases h
theorem hol_cnt (r:Rp) (x:Rx) (k:Nat):(holK (rgOf r x) (k + 1)).length = (holK (rgOf r x) k).length + (if holdsF (odAt r k) x then 1 else 0):=by
 simp only [holK]
 show (if holdsF (odAt r k) x = true then _ else _:List Int).length = _
 split<;>simp_all
end Go.Proofs.Ytpcpjmplgladmaa

/- Layer 9: the law VeilLater. -/
 namespace Go.Proofs.Ytpcpjmplgladmaa
open Go.Pal Go.RowKit
set_option maxRecDepth 100000
theorem cl_shb {r:Rp} (hf:Fine r) (x:Rx):ShB (clF (rgOf r x)):=by
 have h:=runs_cl (rgOf r x)
 have hwl:(rgOf r x).r.words.length≤60:=hf.wl
 refine ⟨by have:=clK_len (rgOf r x) (rgOf r x).r.words.length;show (clK _ _).length≤1000;omega,fun s hs=>?_⟩
 have:=(h.all s hs).rng
 omega
end Go.Proofs.Ytpcpjmplgladmaa

/- Layer 9: the law VeilNeeded. -/
     namespace Go.Proofs.Ytpcpjmplgladmaa
open Go.Pal Go.RowKit
set_option maxRecDepth 100000
theorem Sound.relAt {P:Program} {f:FuncId} {sh:List Value→List Value} {α:Type} {R:GRel α} {q:α→Value→Hp→Prop} (hs:Sound P f sh (grel R q)) (ok:GOk R) (hm:∀ x v G G',Grow G G'→q x v G→q x v G') (x:α):Sound P f sh (.rel (fun args G=>R args G x) fun _ v G=>q x v G):=by
 refine ⟨fun _ v G G' hg h=>hm x v G G' hg h,fun args G W hsub hx=>(hs.2 args G W hsub ⟨x,hx⟩).mono ?_⟩
 rintro e W' ⟨v,G',h1,⟨y,hy,hq⟩,h3,h4⟩
 have:=ok.uniq _ _ _ _ hy (ok.grow _ _ _ _ h3 hx)
 subst this
 exact ⟨v,G',h1,hq,h3,h4⟩
theorem Sound.two {P:Program} {f:FuncId} {sh:List Value→List Value} {α:Type} {R:GRel α} {q:α→Value→Hp→Prop} (hs:Sound P f sh (grel R q)) (ok:GOk R) (hm:∀ x v G G',Grow G G'→q x v G→q x v G') (x y:α) :
  Sound P f sh (.hp (fun args p G=>(p = hp0→R args G x)∧(p≠hp0→∀ G1,Over p G G1→R args G1 y)) fun _ p v p' G=>p' = p∧(p = hp0→q x v G)∧(p≠hp0→OverX p G (q y v))):=by
 refine ⟨fun args p v p' G G' hg ⟨h1,h2,h3⟩=>⟨h1,fun e=>hm _ _ _ _ hg (h2 e),fun e=>(h3 e).grow hg⟩,fun args p G W hsub hp hpre=>?_⟩
 by_cases e:p = hp0
 ·refine ((Sound.hpRelX (Sound.relAt hs ok hm x)).2 args p G W hsub hp fun G1 _ o=>ok.grow _ _ _ _ o.1 (hpre.1 e)).mono ?_
  rintro en W' ⟨v,p',G',h1,⟨h2,h3⟩,h4⟩
  refine ⟨v,p',G',h1,⟨h2,fun _=>?_,fun h=>absurd e h⟩,h4⟩
  subst e
  exact h3.at (fun G G' hg h=>hm _ _ _ _ hg h) (fun _ _ h=>h) (Grow.refl _) ⟨Grow.refl _,(fun b o h=>absurd h (by simp)),(fun b o h=>Or.inl h)⟩
 ·refine ((Sound.hpRelX (Sound.relAt hs ok hm y)).2 args p G W hsub hp fun G1 _ o=>hpre.2 e G1 o).mono ?_
  rintro en W' ⟨v,p',G',h1,⟨h2,h3⟩,h4⟩
  exact ⟨v,p',G',h1,⟨h2,fun h=>absurd h e,fun _=>h3⟩,h4⟩
theorem ScaP.o {α:Type} {R:GRel α} (ok:GOk R) {q:α→Value→Prop} {p G:Hp} {args:List Value} {x:α} (h:∀ G1,Over p G G1→R args G1 x) {A:Value→Prop} (k:∀ v,q x v→W (A v)):ScaP (∀ G1,Over p G G1→∃ y,R args G1 y) (fun v=>∃ G1,Over p G G1∧∃ y,R args G1 y∧q y v) A :=
 ⟨fun G1 ho=>⟨x,h G1 ho⟩,fun v ⟨G1,ho,y,hy,hq⟩=>k v (by
  have:=ok.uniq _ _ _ _ hy (h G1 ho)
  subst this;exact hq)⟩
theorem clQ_up {p:Rp × Rx} {v:Value} {G G':Hp} (hg:Grow G G'):(∃ w,v = .tuple #[w,I (faultX p.1 p.2)]∧SlV shE G w (if faultX p.1 p.2 = 0 then clF (rgOf p.1 p.2) else []))→∃ w,v = .tuple #[w,I (faultX p.1 p.2)]∧SlV shE G' w (if faultX p.1 p.2 = 0 then clF (rgOf p.1 p.2) else []):=fun ⟨w,h1,h2⟩=>⟨w,h1,h2.grow hg⟩
theorem lkQ_up {p:Rp × Rx} {v:Value} {G G':Hp} (hg:Grow G G'):(∃ w,v = .tuple #[w,I (faultX p.1 p.2)]∧SlV pcE G w (if faultX p.1 p.2 = 0 then lookF p.1 p.2 else []))→∃ w,v = .tuple #[w,I (faultX p.1 p.2)]∧SlV pcE G' w (if faultX p.1 p.2 = 0 then lookF p.1 p.2 else []):=fun ⟨w,h1,h2⟩=>⟨w,h1,h2.grow hg⟩
theorem pur_neB (a b:Bool):∀ w,((POp.bin .neq 4).sem [.bool a, .bool b]).run Try.prog w = .ok (.bool (a != b)) w:=fun w=>by
 have e1:(POp.bin .neq 4).sem [.bool a, .bool b] = (do eqGuard .neq 4 (.tmp 0) (.tmp 0) (.bool a) (.bool b);binOp .neq 4 (.bool a) (.bool b)):=rfl
 rw [e1,eqGuard_at_bool]
 cases a<;>cases b<;>rfl
theorem cut_src {l:List Od} {rest:List Value} {k m off:Nat} (hk:k < l.length) (hm:m = l.length - (k + 1)) (ho:m≠0→off = (k + 1) * 4):((flat odE l++rest).drop off).take (m * 4) = flat odE (l.drop (k + 1)):=by
 have hfl:(flat odE (l.drop (k + 1))).length = m * 4:=by rw [flat_len,List.length_drop, ← hm];rfl
 by_cases h0:m = 0
 ·subst h0
  rw [Nat.zero_mul] at hfl ⊢
  rw [List.take_zero,List.eq_nil_of_length_eq_zero hfl]
 ·rw [ho h0,List.drop_append_of_le_length (by rw [flat_len];show (k + 1) * 4≤l.length * 4;omega),show (k + 1) * 4 = (k + 1) * odE.k from rfl, ← flat_drop _ _ _ (by omega),List.take_append_of_le_length (by rw [hfl];exact Nat.le_refl _),List.take_of_length_le (by rw [hfl];exact Nat.le_refl _)]
theorem cut_row {p:Hp} {b c:Nat} {l:List Od} {rest:List Value} {k m:Nat} (hr:rest.length = (c - l.length) * odE.k) (hc:l.length≤c) (hcm:c≤maxLen) (hk:k < l.length) (hm:m = l.length - (k + 1)) :
  RowH odE 65 (upd p b (some (.cells ((flat odE l++rest).take (k * 4)++flat odE (l.drop (k + 1))++(flat odE l++rest).drop ((k + m) * 4)).toArray 65 (0,0)))) (.slice (some ⟨b,0,none⟩) (k + m) c) (l.eraseIdx k):=by
 have hle:(l.eraseIdx k).length = k + m:=by rw [List.length_eraseIdx_of_lt hk];omega
 have e1:(flat odE l++rest).take (k * 4) = flat odE (l.take k):=by
  rw [show k * 4 = k * odE.k from rfl,flat_take _ _ _ (by omega),List.take_append_of_le_length (by rw [flat_len];exact Nat.mul_le_mul_right _ (by omega))]
 refine .inr ⟨b,c,(flat odE l++rest).drop ((k + m) * 4),by rw [hle], ?_, ?_,by omega,hcm⟩
 ·rw [upd_same,e1,List.eraseIdx_eq_take_drop_succ,flat_app]
 ·rw [List.length_drop,List.length_append,flat_len,hr,hle]
  show l.length * 4 + (c - l.length) * 4 - (k + m) * 4 = (c - (k + m)) * 4
  omega
set_option maxHeartbeats 4000000 in
theorem law12 (r:Rp) (x:Rx) (wh:Int) (k:Nat) (hk:k = wh.toNat % r.orders.length):Sound Try.prog 12 id (.hp (fun args p G=>p = hp0∧∃ u v,args = [u,v,U wh]∧RuV G u r∧XuV G v x∧0≤wh∧wh≤255) fun _ _ v _ _=>v = .bool true):=by
 refine compH12.hp (Tab.cons 21 _ (Sound.two closed21 (ok2 _ _ _) (fun _ _ _ _ hg h=>clQ_up hg h) (r,x) (lessO r k,x)) body21 (Tab.cons 28 _ (Sound.two look28 (ok2 _ _ _) (fun _ _ _ _ hg h=>lkQ_up hg h) (r,x) (lessO r k,x)) body28 (Tab.cons 36 _ useless36 body36 (Tab.cons 26 _ hidden26 body26 tabLw)))) (fun args p G h=>?_) (fun args p v p' G G' hg h=>h) (fun args p G h=>?_)
 ·obtain ⟨_,u,v,rfl,_⟩:=h;simp
 ·obtain ⟨rfl,u,v,rfl,hr,hx,hw1,hw2⟩:=h
  obtain ⟨rw_,ro,rfl,⟨wa,wn,wc,rfl,hwu1,hwu2⟩,⟨oa,on,oc,rfl,hou1,hou2⟩⟩:=id hr
  obtain ⟨m,rfl,⟨ma,mn,mc,rfl,hmu1,hmu2⟩⟩:=id hx
  try dsimp only
  (conv=>whnf)
  refine CallH.mk _ ready23 body23 (W.mk ?_)
  (conv=>whnf)
  refine ScaP.g (ok2 ruRd xuRd fun _ _=>True) (x:=(r,x)) ⟨_,_,rfl,hr,hx,trivial⟩ (fun v hv=>W.mk ?_)
  subst hv
  dsimp only
  (conv=>whnf)
  refine ForkP.mk (fun hfw=>W.mk ?_) (fun hfw=>W.mk ?_)<;>(conv=>whnf)
  rotate_left
  ·refine CallH.mk _ wakes14 body14 (W.mk ?_)
   (conv=>whnf)
   refine ScaP.g okU (x:=()) rfl (fun v hv=>W.mk ?_)
   subst hv
   (conv=>whnf)
   refine ForkP.mk (fun _=>W.mk ?_) (fun h=>by cases h)
   (conv=>whnf)
   refine NmP.mk ⟨[],W.mk ?_⟩
   (conv=>whnf)
   exact FinHp.of rfl rfl
  rw [Bool.and_eq_true,decide_eq_true_eq] at hfw
  obtain ⟨hfw,h0⟩:=hfw
  have hf:=few_of hfw
  have hrv:=hr.v hf
  have hxv:=hx.v hf
  obtain ⟨hfine,hrx⟩:=faultX_fine h0
  have hon:=hou1.len
  have hol:=hfine.ol
  have hwl:=hfine.wl
  refine IteP.mk (fun hz=>W.mk ?_) (fun hz=>W.mk ?_)<;>(conv=>whnf)
  ·refine CallH.mk _ wakes14 body14 (W.mk ?_)
   (conv=>whnf)
   refine ScaP.g okU (x:=()) rfl (fun v hv=>W.mk ?_)
   subst hv
   (conv=>whnf)
   refine ForkP.mk (fun _=>W.mk ?_) (fun h=>by cases h)
   (conv=>whnf)
   refine NmP.mk ⟨[],W.mk ?_⟩
   (conv=>whnf)
   exact FinHp.of rfl rfl
  have hz:0 < on:=by have hz:¬ (on:Int) = 0:=hz;omega
  have hb0:=Int.emod_nonneg wh (show (on:Int)≠0 by omega)
  have hb1:=Int.emod_lt_of_pos wh (show 0 < (on:Int) by omega)
  have hke:wh % (on:Int) = (k:Int):=by
   have e:wh = (wh.toNat:Int):=by omega
   rw [hk,hon,e];simp
  have hkl:k < r.orders.length:=by rw [hk];exact Nat.mod_lt _ (by omega)
  refine OblP.mk (by simp only [inR];omega) (W.mk ?_)
  (conv=>whnf)
  refine OblP.mk ⟨by omega,by omega⟩ (W.mk ?_)
  rw [hke]
  (conv=>whnf)
  refine RelP.g (ok1 rpRd Repo) (x:=r) ⟨_,rfl,hrv,hf.repo⟩ (Grow.refl _) (fun v G1 h1 q1=>W.mk ?_)
  obtain ⟨_,_,rfl,_⟩:=id q1
  have hrv:=rpRd.grow h1 hrv
  have hxv:=rxRd.grow h1 hxv
  (conv=>whnf)
  refine RelP.g (ok1 rxRd fun x=>x.may.length≤1000) (x:=x) ⟨_,rfl,hxv,by have:=hf.ml;omega⟩ (Grow.refl _) (fun v G2 h2 q2=>W.mk ?_)
  obtain ⟨_,rfl,_⟩:=id q2
  have hrv:=rpRd.grow h2 hrv
  have hxv:=rxRd.grow h2 hxv
  (conv=>whnf)
  refine RelP.g (ok2 rpRd rxRd fun _ _=>True) (x:=(r,x)) ⟨_,_,rfl,rpRd.grow h2 q1,q2,trivial⟩ (Grow.refl _) (fun v G3 h3 q3=>W.mk ?_)
  obtain ⟨wl,rfl,hU⟩:=q3
  dsimp only at hU ⊢
  rw [if_pos h0] at hU
  obtain ⟨ua,un,uc,rfl,hu1,_⟩:=id hU
  have hrv:=rpRd.grow h3 hrv
  have hxv:=rxRd.grow h3 hxv
  (conv=>whnf)
  refine RelP.g (ok1 rpRd Repo) (x:=r) ⟨_,rfl,hrv,hf.repo⟩ (Grow.refl _) (fun v G4 h4 q4=>W.mk ?_)
  obtain ⟨_,_,rfl,_⟩:=id q4
  have hrv:=rpRd.grow h4 hrv
  have hxv:=rxRd.grow h4 hxv
  (conv=>whnf)
  refine RelP.g (ok1 rxRd fun x=>x.may.length≤1000) (x:=x) ⟨_,rfl,hxv,by have:=hf.ml;omega⟩ (Grow.refl _) (fun v G5 h5 q5=>W.mk ?_)
  obtain ⟨_,rfl,_⟩:=id q5
  have hrv:=rpRd.grow h5 hrv
  have hxv:=rxRd.grow h5 hxv
  (conv=>whnf)
  refine RelP.g (ok2 rpRd rxRd fun _ _=>True) (x:=(r,x)) ⟨_,_,rfl,rpRd.grow h5 q4,q5,trivial⟩ (Grow.refl _) (fun v G6 h6 q6=>W.mk ?_)
  rcases q6 with ⟨h,_⟩ | ⟨_,n,rfl,hfew⟩
  ·exact absurd h0 h
  dsimp only at hfew ⊢
  have hmle:=few_le hfine hfew
  have hmz:=few_zero hfine hfew
  have hrv:=rpRd.grow h6 hrv
  have hxv:=rxRd.grow h6 hxv
  (conv=>whnf)
  refine RelP.g (ok1 rpRd Repo) (x:=r) ⟨_,rfl,hrv,hf.repo⟩ (Grow.refl _) (fun v G7 h7 q7=>W.mk ?_)
  obtain ⟨_,_,rfl,_⟩:=id q7
  have hrv:=rpRd.grow h7 hrv
  have hxv:=rxRd.grow h7 hxv
  (conv=>whnf)
  refine RelP.g (ok1 rxRd fun x=>x.may.length≤1000) (x:=x) ⟨_,rfl,hxv,by have:=hf.ml;omega⟩ (Grow.refl _) (fun v G8 h8 q8=>W.mk ?_)
  obtain ⟨_,rfl,_⟩:=id q8
  have hrv:=rpRd.grow h8 hrv
  have hxv:=rxRd.grow h8 hxv
  (conv=>whnf)
  refine RelP.mk ⟨⟨fun _=>⟨_,_,rfl,(rpRd.grow h8 q7),q8,trivial⟩,fun e=>absurd rfl e⟩,fun _ _ _ h=>h.1⟩ (fun v G9 h9 q9=>W.mk ?_)
  obtain ⟨wl,rfl,hA⟩:=q9.2.1 rfl
  dsimp only at hA ⊢
  rw [if_pos h0] at hA
  obtain ⟨aa,an,ac,rfl,_,_⟩:=id hA
  have hrv:=rpRd.grow h9 hrv
  have hxv:=rxRd.grow h9 hxv
  (conv=>whnf)
  refine RelP.g (ok1 rpRd Repo) (x:=r) ⟨_,rfl,hrv,hf.repo⟩ (Grow.refl _) (fun v Ga ha qa=>W.mk ?_)
  obtain ⟨_,_,rfl,_⟩:=id qa
  have hrv:=rpRd.grow ha hrv
  have hxv:=rxRd.grow ha hxv
  (conv=>whnf)
  refine RelP.g (ok1 rxRd fun x=>x.may.length≤1000) (x:=x) ⟨_,rfl,hxv,by have:=hf.ml;omega⟩ (Grow.refl _) (fun v Gb hb qb=>W.mk ?_)
  obtain ⟨_,rfl,_⟩:=id qb
  have hrv:=rpRd.grow hb hrv
  have hxv:=rxRd.grow hb hxv
  (conv=>whnf)
  refine RelP.mk ⟨⟨fun _=>⟨_,_,rfl,(rpRd.grow hb qa),qb,trivial⟩,fun e=>absurd rfl e⟩,fun _ _ _ h=>h.1⟩ (fun v Gc hc qc=>W.mk ?_)
  obtain ⟨wl,rfl,hL⟩:=qc.2.1 rfl
  dsimp only at hL ⊢
  rw [if_pos h0] at hL
  obtain ⟨la,ln,lc,rfl,_,_⟩:=id hL
  have hrv:=rpRd.grow hc hrv
  have hxv:=rxRd.grow hc hxv
  (conv=>whnf)
  refine CallH.mk _ (report16h r) body16 (W.mk ?_)
  (conv=>whnf)
  refine HpcP.mk ⟨rfl,_,rfl,hrv,hf.repo⟩ (fun v p Gd hd qd=>W.mk ?_)
  obtain ⟨wv,ov,rfl,hRp⟩:=qd
  have hrv:=rpRd.grow hd hrv
  have hxv:=rxRd.grow hd hxv
  obtain ⟨raws,hRw,hRl,hRd⟩:=hRp.w
  obtain ⟨wb,wcp,rfl⟩:=hRw.sl
  rcases hRp.o with ⟨_,he⟩ | ⟨ob',oc',rest,rfl,hob,hrl,hocl,hocm⟩
  ·rw [he] at hkl;exact absurd hkl (Nat.not_lt_zero _)
  (conv=>whnf)
  have hcut0:cutA (some ⟨ob',0,none⟩) 0 oc' 4 = some ⟨ob',0,none⟩:=by
   rw [cutA,if_neg (by omega)];rfl
  obtain ⟨off,hcut1,hoff⟩:∃ off,cutA (some ⟨ob',0,none⟩) (k + 1) oc' 4 = some ⟨ob',off,none⟩∧(r.orders.length - (k + 1)≠0→off = (k + 1) * 4):=by
   by_cases e:oc' = k + 1
   ·exact ⟨0,by rw [cutA,if_pos e],fun h=>absurd h (by omega)⟩
   ·refine ⟨(k + 1) * 4, ?_,fun _=>rfl⟩
    rw [cutA,if_neg e]
    show some (Addr.add _ _) = _
    unfold Addr.add
    split
    ·rename_i h0;omega
    ·rw [Nat.zero_add]
  have hs0:Value.slice (cutA (some ⟨ob',0,none⟩) ((0:Nat):Int).toNat (oc':Int).toNat 4) ((k:Int).toNat - ((0:Nat):Int).toNat) ((oc':Int).toNat - ((0:Nat):Int).toNat) = .slice (some ⟨ob',0,none⟩) k oc':=by
   show Value.slice (cutA _ 0 oc' 4) (k - 0) (oc' - 0) = _
   rw [hcut0];rfl
  have hs1:Value.slice (cutA (some ⟨ob',0,none⟩) ((k:Int) + 1).toNat (oc':Int).toNat 4) ((r.orders.length:Int).toNat - ((k:Int) + 1).toNat) ((oc':Int).toNat - ((k:Int) + 1).toNat) = .slice (some ⟨ob',off,none⟩) (r.orders.length - (k + 1)) (oc' - (k + 1)):=by
   rw [show ((k:Int) + 1).toNat = k + 1 by omega]
   show Value.slice (cutA _ (k + 1) oc' 4) _ _ = _
   rw [hcut1];rfl
  refine OblP.mk ⟨by omega,by omega,by omega,by omega⟩ (W.mk ?_)
  rw [hs0]
  (conv=>whnf)
  refine OblP.mk (by simp only [inR];omega) (W.mk ?_)
  (conv=>whnf)
  refine OblP.mk ⟨by omega,by omega,by omega,by omega⟩ (W.mk ?_)
  rw [hs1]
  (conv=>whnf)
  obtain ⟨m,hm⟩:∃ m,m = r.orders.length - (k + 1):=⟨_,rfl⟩
  rw [← hm]
  have hcsl:(flat odE r.orders++rest).length = oc' * 4:=by rw [List.length_append,flat_len,hrl,show odE.k = 4 from rfl];omega
  have hone:∀ u∈(flat odE r.orders++rest).take (k * 4),u.oneCell' = true:=fun u hu=>by
   rw [show k * 4 = k * odE.k from rfl,List.take_append_of_le_length (by rw [flat_len];exact Nat.mul_le_mul_right _ (by omega)), ← flat_take _ _ _ (by omega)] at hu
   exact flat_one _ _ u hu
  have hsrc:=cut_src (rest:=rest) hkl hm (fun h=>hoff (by omega))
  have hrow:=cut_row (p:=p) (b:=ob') hrl hocl hocm hkl hm
  refine HpkP.mk ⟨_,65,hob,W.mk ?_⟩
  (conv=>whnf)
  refine OblP.mk ⟨rfl,rfl,hcsl,by omega,hocm,hone⟩ (W.mk ?_)
  (conv=>whnf)
  refine OblP.mk (fun _=>rfl) (W.mk ?_)
  (conv=>whnf)
  refine RowH.cells hob hsrc (by rw [flat_len,List.length_drop, ← hm];rfl) (W.mk ?_)
  (conv=>whnf)
  refine OblP.mk (flat_one _ _) (W.mk ?_)
  (conv=>whnf)
  refine OblP.mk ⟨by omega,by omega⟩ (W.mk ?_)
  (conv=>whnf)
  refine IteP.mk (fun hfit=>W.mk ?_) (fun hfit=>?_)
  rotate_left
  ·exact absurd hfit (by omega)
  obtain ⟨p2,hp2⟩:∃ p2,p2 = upd p ob' (some (.cells ((flat odE r.orders++rest).take (k * 4)++flat odE (r.orders.drop (k + 1))++(flat odE r.orders++rest).drop ((k + m) * 4)).toArray 65 (0,0))):=⟨_,rfl⟩
  rw [← hp2] at hrow
  have hRp2:RpH p2 Gd (.slice wb raws.length wcp) (.slice (some ⟨ob',0,none⟩) (k + m) oc') (lessO r k):=⟨⟨raws,by
   rw [hp2]
   exact hRw.off fun e=>absurd (hRw.typ e hob) (by decide),hRl,hRd⟩,hrow⟩
  have hne2:p2≠hp0:=fun e=>by
   have:p2 ob' = none:=by rw [e]
   rw [hp2,upd_same] at this;cases this
  have h02:=fault_less h0 k
  have hlw:(lessO r k).words.length≤1000:=by show r.words.length≤1000;omega
  have hlo:(lessO r k).orders.length≤1000:=by have:=(fine_less hfine k).ol;omega
  (conv=>whnf)
  refine RelP.g (ok1 rxRd fun x=>x.may.length≤1000) (x:=x) ⟨_,rfl,hxv,by have:=hf.ml;omega⟩ (Grow.refl _) (fun v Ge he qe=>W.mk ?_)
  obtain ⟨_,rfl,_⟩:=id qe
  have hrv:=rpRd.grow he hrv
  have hxv:=rxRd.grow he hxv
  (conv=>whnf)
  refine RelP.mk ⟨⟨fun e=>absurd (hp2.trans e) hne2,fun _ G1 ho=>⟨_,_,rfl,hRp2.rd (he.trans ho.1) (fun b o h=>ho.2.1 b o (by rw [hp2] at h;exact h)) hlw hlo,rxRd.grow ho.1 qe,trivial⟩⟩,fun _ _ _ h=>h.1⟩ (fun v Gf hff qf=>W.mk ?_)
  obtain ⟨ba,bn,bc,rfl,hB⟩:∃ a n c,v = .tuple #[.slice a n c,I (faultX (lessO r k) x)]∧OverX p2 Gf fun G1=>SlV shE G1 (.slice a n c) (clF (rgOf (lessO r k) x)):=by
   obtain ⟨Ga,Gb,o1,o2,w,rfl,h⟩:=qf.2.2 fun e=>hne2 (hp2.trans e)
   rw [if_pos h02] at h
   obtain ⟨a,n,c,rfl,_,_⟩:=id h
   exact ⟨a,n,c,rfl,Ga,Gb,o1,by rw [hp2];exact o2,h⟩
  have hrv:=rpRd.grow hff hrv
  have hxv:=rxRd.grow hff hxv
  (conv=>whnf)
  refine RelP.g (ok1 rxRd fun x=>x.may.length≤1000) (x:=x) ⟨_,rfl,hxv,by have:=hf.ml;omega⟩ (Grow.refl _) (fun v Gg hg qg=>W.mk ?_)
  obtain ⟨_,rfl,_⟩:=id qg
  have hrv:=rpRd.grow hg hrv
  have hxv:=rxRd.grow hg hxv
  (conv=>whnf)
  refine RelP.mk ⟨⟨fun e=>absurd (hp2.trans e) hne2,fun _ G1 ho=>⟨_,_,rfl,hRp2.rd ((he.trans (hff.trans hg)).trans ho.1) (fun b o h=>ho.2.1 b o (by rw [hp2] at h;exact h)) hlw hlo,rxRd.grow ho.1 qg,trivial⟩⟩,fun _ _ _ h=>h.1⟩ (fun v Gh hh qh=>W.mk ?_)
  obtain ⟨ma',mn',mc',rfl,hM⟩:∃ a n c,v = .tuple #[.slice a n c,I (faultX (lessO r k) x)]∧OverX p2 Gh fun G1=>SlV pcE G1 (.slice a n c) (lookF (lessO r k) x):=by
   obtain ⟨Ga,Gb,o1,o2,w,rfl,h⟩:=qh.2.2 fun e=>hne2 (hp2.trans e)
   rw [if_pos h02] at h
   obtain ⟨a,n,c,rfl,_,_⟩:=id h
   exact ⟨a,n,c,rfl,Ga,Gb,o1,by rw [hp2];exact o2,h⟩
  have hrv:=rpRd.grow hh hrv
  have hxv:=rxRd.grow hh hxv
  (conv=>whnf)
  repeat' (first | (refine IteP.mk (fun _=>W.mk ?_) (fun h=>absurd h0 h);(conv=>whnf)) | (refine IteP.mk (fun _=>W.mk ?_) (fun h=>absurd h02 h);(conv=>whnf)) | (refine IteP.mk (fun _=>W.mk ?_) (fun h=>absurd rfl h);(conv=>whnf)))
  obtain ⟨_,_,ee,hrc⟩:=id hrv
  cases ee
  obtain ⟨_,_,_,ee,hoG,_⟩:=id hrc.o
  cases ee
  refine LoopP.of { α:=Nat × Unit,fr:=fun y=>[(3, .c (.ptr 1000 0)),(4, .c (.ptr 1001 0)),(7, .v (I k)),(8, .v (.slice ua un uc)),(10, .v (I n)),(12, .v (.slice aa an ac)),(14, .v (.slice la ln lc)),(17, .v (.slice ba bn bc)),(19, .v (.slice ma' mn' mc')),(21, .v (I (holK (rgOf r x) y.1).length)),(22, .v (I y.1))],H:=fun _=>[(0, .heap p2),(1000, .cells .anon [.val (.slice wa wn wc), .val (.slice oa on oc), .val (I r.cols)] 25),(1001, .cells .anon [.val (I x.year), .val (.slice ma mn mc)] 28)],ok:=fun y _=>y.1≤r.orders.length,m:=fun y=>r.orders.length - y.1 }
   (0,()) (HeadP.of [] ⟨rfl,rfl,rfl,rfl,rfl,rfl,rfl,rfl,rfl,rfl,rfl,trivial⟩ ⟨by rw [hp2];rfl,rfl,rfl,trivial⟩) (Nat.zero_le _) (fun _=>⟨rfl,rfl⟩) (fun y Gi hgi hx=>W.mk ?_)
  obtain ⟨i,_⟩:=y
  have hi:i≤r.orders.length:=hx
  dsimp only
  (conv=>whnf)
  refine IteP.mk (fun hlt=>W.mk ?_) (fun hge=>W.mk ?_)<;>(conv=>whnf)
  ·have hlt:i < r.orders.length:=by omega
   have hce:=(SlR.grow (G:=Gh) (G':=Gi) (fun _ _ h=>h) hoG hgi).el hlt
   have hcnt:=hol_cnt r x i
   have hbd:=holK_len (rgOf r x) i
   have hod:odAt r i = r.orders[i]:=by simp [odAt,hlt]
   rw [hod] at hcnt
   generalize r.orders[i] = o at hce hcnt
   obtain ⟨f,t,kk,uu⟩:=o
   have hce:CellsAt Gi (ab oa) (ao oa + i * 4) [I f,I t,I kk,I uu]:=hce
   repeat' (first | (refine ob ?_ ?_;(first | trivial | omega | (simp only [inR];omega) | exact ble (by rfl) | exact SlR.some ‹_› (by omega));(conv=>whnf)))
   refine RdhP.g hce rfl (W.mk ?_)
   (conv=>whnf)
   refine ScaP.o (ok2 odRd rxRd fun _ _=>True) (x:=(⟨f,t,kk,uu⟩,x)) (fun G1 ho=>⟨_,_,rfl,rfl,rxRd.grow (hgi.trans ho.1) hxv,trivial⟩) (fun v hv=>W.mk ?_)
   subst hv
   dsimp only
   (conv=>whnf)
   refine ForkP.mk (fun hh=>W.mk ?_) (fun hh=>W.mk ?_)<;>(conv=>whnf)
   ·rw [hh,if_pos rfl] at hcnt
    repeat' (refine ob ?_ ?_;(first | trivial | omega | (simp only [inR];omega) | exact ble (by rfl) | exact SlR.some ‹_› (by omega));(conv=>whnf))
    refine RoundP.of (i + 1,()) (HeadP.of [] ⟨rfl,rfl,rfl,rfl,rfl,rfl,rfl,rfl,rfl,by rw [hcnt];rfl,rfl,trivial⟩ ⟨rfl,rfl,rfl,trivial⟩) hlt (by simp only;omega)
   ·rw [hh] at hcnt
    repeat' (refine ob ?_ ?_;(first | trivial | omega | (simp only [inR];omega) | exact ble (by rfl) | exact SlR.some ‹_› (by omega));(conv=>whnf))
    refine RoundP.of (i + 1,()) (HeadP.of [] ⟨rfl,rfl,rfl,rfl,rfl,rfl,rfl,rfl,rfl,by rw [hcnt];rfl,rfl,trivial⟩ ⟨rfl,rfl,rfl,trivial⟩) hlt (by simp only;omega)
  have hie:i = r.orders.length:=by omega
  subst hie
  have hhol:holK (rgOf r x) r.orders.length = holF (rgOf r x):=rfl
  rw [hhol]
  have han:(clF (rgOf r x)).length = an:=by obtain ⟨_,_,_,e,h,_⟩:=id hA;cases e;exact h.len
  have hn0:n = 0↔an = 0:=by rw [hmz, ← List.length_eq_zero_iff,han]
  refine IteP.mk (fun h=>absurd h (by omega)) (fun _=>W.mk ?_)
  (conv=>whnf)
  refine IteP.mk (fun h=>absurd h (by omega)) (fun _=>W.mk ?_)
  (conv=>whnf)
  have hS:∀ G1,Grow Gi G1→args1 (slRd shE) ShB [.slice aa an ac] G1 (clF (rgOf r x)):=fun G1 ho=>⟨_,rfl,hA.grow (ha.trans (hb.trans (hc.trans (hd.trans (he.trans (hff.trans (hg.trans (hh.trans (hgi.trans ho))))))))),cl_shb hfine x⟩
  have hT:∀ G1,Over p2 Gi G1→args1 (slRd shE) ShB [.slice ba bn bc] G1 (clF (rgOf (lessO r k) x)):=fun G1 ho=>⟨_,rfl,hB.at (fun _ _ hg h=>h.grow hg) (fun _ _ h=>h) (hg.trans (hh.trans hgi)) ho,cl_shb (fine_less hfine k) x⟩
  have hP:∀ G1,Over p2 Gi G1→args2 (slRd pcE) (slRd pcE) (fun _ _=>True) [.slice la ln lc, .slice ma' mn' mc'] G1 (lookF r x,lookF (lessO r k) x):=fun G1 ho=>⟨_,_,rfl,hL.grow (hd.trans (he.trans (hff.trans (hg.trans (hh.trans (hgi.trans ho.1)))))),hM.at (fun _ _ hg h=>h.grow hg) (fun _ _ h=>h) hgi ho,trivial⟩
  have hU2:∀ G1,Over p2 Gi G1→args2 (slRd intE) intRd (fun _ _=>True) [.slice ua un uc,I k] G1 (uslF r x,(k:Int)):=fun G1 ho=>⟨_,_,rfl,hU.grow (h4.trans (h5.trans (h6.trans (h7.trans (h8.trans (h9.trans (ha.trans (hb.trans (hc.trans (hd.trans (he.trans (hff.trans (hg.trans (hh.trans (hgi.trans ho.1))))))))))))))),rfl,trivial⟩
  have hok:=(SlR.grow (G:=Gh) (G':=Gi) (fun _ _ h=>h) hoG hgi).el hkl
  have hod:odAt r k = r.orders[k]:=by simp [odAt,hkl]
  have hui:=usl_iff r x k
  have hsm:=less_same hfine (x:=x) hkl
  have hlt':=less_lt hfine (x:=x) hkl
  rw [hod] at hui hsm hlt'
  generalize r.orders[k] = o at hok hui hsm hlt'
  obtain ⟨f,t,kk,uu⟩:=o
  have hok:CellsAt Gi (ab oa) (ao oa + k * 4) [I f,I t,I kk,I uu]:=hok
  have hO:∀ G1,Over p2 Gi G1→args2 odRd rxRd (fun _ _=>True) [odV ⟨f,t,kk,uu⟩, .agg #[I x.year, .slice ma mn mc]] G1 (⟨f,t,kk,uu⟩,x):=fun G1 ho=>⟨_,_,rfl,rfl,rxRd.grow (hgi.trans ho.1) hxv,trivial⟩
  refine IteP.mk (fun hq1=>W.mk ?_) (fun hq1=>W.mk ?_)<;>(conv=>whnf)
  all_goals
   first
   | (refine IteP.mk (fun hq2=>W.mk ?_) (fun hq2=>absurd (hn0.1 (by omega)) (by omega));(conv=>whnf);refine PurP.of _ (pur_neB true true) (W.mk ?_);(conv=>whnf);refine ForkP.mk (fun h=>absurd h (by decide)) (fun _=>W.mk ?_);(conv=>whnf))
   | (refine IteP.mk (fun hq2=>absurd (hn0.2 (by omega)) (by omega)) (fun hq2=>W.mk ?_);(conv=>whnf);refine PurP.of _ (pur_neB false false) (W.mk ?_);(conv=>whnf);refine ForkP.mk (fun h=>absurd h (by decide)) (fun _=>W.mk ?_);(conv=>whnf))
  all_goals
   refine ScaP.o (ok2 (slRd intE) intRd fun _ _=>True) hU2 (fun v hv=>W.mk ?_)
   subst hv
   dsimp only
   (conv=>whnf)
   refine ForkP.mk (fun hcu=>W.mk ?_) (fun hcu=>W.mk ?_)<;>(conv=>whnf)
   ·have hu:=hui.1 (by simpa using hcu)
    obtain ⟨hs1,hs2⟩:=hsm (.inl (by simpa using hcu))
    refine ScaP.o (ok1 (slRd shE) ShB) (fun G1 ho=>hS G1 ho.1) (fun v hv=>W.mk ?_)
    subst hv
    (conv=>whnf)
    refine ScaP.o (ok1 (slRd shE) ShB) hT (fun v hv=>W.mk ?_)
    subst hv
    (conv=>whnf)
    refine IteP.mk (fun _=>W.mk ?_) (fun h=>absurd hs1.symm h)
    (conv=>whnf)
    refine ScaP.o (ok2 (slRd pcE) (slRd pcE) fun _ _=>True) hP (fun v hv=>W.mk ?_)
    subst hv
    dsimp only
    (conv=>whnf)
    refine ForkP.mk (fun _=>W.mk ?_) (fun h=>absurd hs2.symm (of_decide_eq_false h))
    (conv=>whnf)
    refine ScaP.o (ok2 (slRd intE) intRd fun _ _=>True) hU2 (fun v hv=>W.mk ?_)
    subst hv
    dsimp only
    (conv=>whnf)
    refine ForkP.mk (fun _=>W.mk ?_) (fun h=>by rw [hcu] at h;cases h)
    (conv=>whnf)
    repeat' (refine ob ?_ ?_;(first | trivial | omega | (simp only [inR];omega) | exact ble (by rfl) | exact SlR.some ‹_› (by omega));(conv=>whnf))
    refine RdhP.g hok rfl (W.mk ?_)
    (conv=>whnf)
    refine ScaP.o (ok2 odRd rxRd fun _ _=>True) hO (fun v hv=>W.mk ?_)
    subst hv
    dsimp only
    (conv=>whnf)
    refine ForkP.mk (fun _=>W.mk ?_) (fun h=>by rw [hu.2.1] at h;cases h)
    (conv=>whnf)
    refine ScaP.o okU (x:=()) (fun _ _=>rfl) (fun v hv=>W.mk ?_)
    subst hv
    (conv=>whnf)
    refine ForkP.mk (fun _=>W.mk ?_) (fun h=>by cases h)
    (conv=>whnf)
    refine NmP.mk ⟨[],W.mk ?_⟩
    (conv=>whnf)
    exact FinHp.of rfl rfl
   ·repeat' (refine ob ?_ ?_;(first | trivial | omega | (simp only [inR];omega) | exact ble (by rfl) | exact SlR.some ‹_› (by omega));(conv=>whnf))
    refine RdhP.g hok rfl (W.mk ?_)
    (conv=>whnf)
    refine ScaP.o (ok2 odRd rxRd fun _ _=>True) hO (fun v hv=>W.mk ?_)
    subst hv
    dsimp only
    (conv=>whnf)
    refine ForkP.mk (fun hh=>W.mk ?_) (fun hh=>W.mk ?_)<;>(conv=>whnf)
    ·have hs1:=hlt' (by simpa using hcu) hh
     refine CallH.mk _ (Sound.hpSca (Sound.scaAt hidden26 (ok1 _ _) (clF (rgOf (lessO r k) x)))) body26 (W.mk ?_)
     (conv=>whnf)
     refine HpcP.mk (fun G1 _ ho=>hT G1 ho) (fun v p' Gj hgj hv=>W.mk ?_)
     obtain ⟨rfl,_,_,_,rfl⟩:=hv
     (conv=>whnf)
     refine CallH.mk _ (Sound.hpSca (Sound.scaAt hidden26 (ok1 _ _) (clF (rgOf r x)))) body26 (W.mk ?_)
     (conv=>whnf)
     refine HpcP.mk (fun G1 _ ho=>hS G1 (hgj.trans ho.1)) (fun v p' Gl hgl hv=>W.mk ?_)
     obtain ⟨rfl,_,_,_,rfl⟩:=hv
     (conv=>whnf)
     refine IteP.mk (fun _=>W.mk ?_) (fun h=>absurd hs1 h)
     (conv=>whnf)
     refine CallH.mk _ wakes14 body14 (W.mk ?_)
     (conv=>whnf)
     refine ScaP.g okU (x:=()) rfl (fun v hv=>W.mk ?_)
     subst hv
     (conv=>whnf)
     refine ForkP.mk (fun _=>W.mk ?_) (fun h=>by cases h)
     (conv=>whnf)
     refine NmP.mk ⟨[],W.mk ?_⟩
     (conv=>whnf)
     exact FinHp.of rfl rfl
    ·obtain ⟨hs1,hs2⟩:=hsm (.inr hh)
     refine ScaP.o (ok1 (slRd shE) ShB) (fun G1 ho=>hS G1 ho.1) (fun v hv=>W.mk ?_)
     subst hv
     (conv=>whnf)
     refine ScaP.o (ok1 (slRd shE) ShB) hT (fun v hv=>W.mk ?_)
     subst hv
     (conv=>whnf)
     refine IteP.mk (fun _=>W.mk ?_) (fun h=>absurd hs1.symm h)
     (conv=>whnf)
     refine ScaP.o (ok2 (slRd pcE) (slRd pcE) fun _ _=>True) hP (fun v hv=>W.mk ?_)
     subst hv
     dsimp only
     (conv=>whnf)
     refine ForkP.mk (fun _=>W.mk ?_) (fun h=>absurd hs2.symm (of_decide_eq_false h))
     (conv=>whnf)
     refine ScaP.o (ok2 (slRd intE) intRd fun _ _=>True) hU2 (fun v hv=>W.mk ?_)
     subst hv
     dsimp only
     (conv=>whnf)
     refine ForkP.mk (fun h=>by rw [hcu] at h;cases h) (fun _=>W.mk ?_)
     (conv=>whnf)
     refine ScaP.o okU (x:=()) (fun _ _=>rfl) (fun v hv=>W.mk ?_)
     subst hv
     (conv=>whnf)
     refine ForkP.mk (fun _=>W.mk ?_) (fun h=>by cases h)
     (conv=>whnf)
     refine NmP.mk ⟨[],W.mk ?_⟩
     (conv=>whnf)
     exact FinHp.of rfl rfl
end Go.Proofs.Ytpcpjmplgladmaa
