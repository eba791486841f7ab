/- Layer 3: a change of a sheet. Layer 3: play: its deferred function. Layer 3: play: its code in parts; its walk from the parts' walks. Layer 3: play: from the walks of its parts to its contract. Layer 3: play: its end, after its deferred function. Layer 3: play. -/
import Derived.Test.YtefnikpoimaiiaaGreatMG
import Derived.Tactics
import Derived.Tactics2
import Derived.Recover
import Derived.RecoverIn
import Derived.TacticsInMore
import Derived.Laws.Pointers
set_option linter.unusedSimpArgs false
set_option linter.unusedVariables false
namespace Go.Proofs.YtefnikpoimaiiaaGreat
open Go.Pal Go.RowKit
set_option maxRecDepth 100000
theorem SlR.cut {α:Type} {k:Nat} {R:Hp→List Value→α→Prop} {G:Hp} {a:Option Addr} {n c:Nat} {l:List α} (h:SlR k R G a n c l) {b m:Nat} (hb:b≤m) (hm:m≤n) (hc:c≠b) (hn:n≠0):SlR k R G (cutA a b c k) (m - b) (c - b) ((l.take m).drop b):=by
 have h1:=h.some hn
 have hcap:=h.cap
 have hlen:=h.len
 generalize hB:ab a = B at h1
 generalize hO:ao a = O at h1
 have hX:cutA a b c k = some ⟨B,O + b * k,none⟩:=by
  rw [cutA,if_neg hc,h1]
  show some (Addr.add _ _) = _
  unfold Addr.add
  split
  ·rename_i h0;rw [h0];rfl
  ·rfl
 rw [hX]
 refine ⟨by simp;omega,by omega,fun _=>rfl,fun i hi=>?_⟩
 have hi':b + i < l.length:=by simp at hi;omega
 obtain ⟨cs,k1,k2,k3⟩:=h.at_ (b + i) hi'
 refine ⟨cs,k1, ?_,by simpa using k3⟩
 rw [hB,hO] at k2
 show CellsAt G B (O + b * k + i * k) cs
 rw [show O + b * k + i * k = O + (b + i) * k by rw [Nat.add_mul];omega]
 exact k2
theorem fine_iff {l:List It} {x:Sp}:fineF l x = true↔0≤x.a∧inF x.c 0 4 = true∧x.a≤((placesF l).length:Int) - x.c∧(inF x.put.length 0 4 && x.put.all textF) = true∧0 < x.c + x.put.length:=by
 simp only [fineF,Bool.and_eq_true,decide_eq_true_eq]
 constructor
 ·rintro ⟨⟨⟨⟨h1,h2⟩,h3⟩,h4⟩,h5⟩;exact ⟨h1,h2,h3,h4,h5⟩
 ·rintro ⟨h1,h2,h3,h4,h5⟩;exact ⟨⟨⟨⟨h1,h2⟩,h3⟩,h4⟩,h5⟩
theorem ShH.keep {p p' G G':Hp} {b:Nat} {d:Dr} {S:Sh} (h:ShH p G b d S) (hg:Grow G G') (hk:∀ b o,p b = some o→p' b = some o):ShH p' G' b d S:=by
 obtain ⟨w,k,iv,lv,h1,h2,h3,h4,h5⟩:=h
 exact ⟨w,k,iv,lv,hk _ _ h1,h2.grow hg,h3.grow hg,h4.mono fun k o _ e=>hk _ _ e,h5.mono fun k o _ e=>hk _ _ e⟩
theorem ShV.grow {p G G':Hp} {b:Nat} {d:Dr} {S:Sh} {w k iv lv:Value} (hg:Grow G G') (h:ShV p G b d S w k iv lv):ShV p G' b d S w k iv lv:=⟨h.1,h.2.1.grow hg,h.2.2.1.grow hg,h.2.2.2⟩
theorem ShV.end2 {p G:Hp} {b:Nat} {d:Dr} {w k iv lv lv':Value} {c c':Int} {its:List It} {live:List Int} (h1:p b = some (.cells #[w,k,iv,lv,I c] 167 (0,0))) (h2:SlV woE G w d.ws) (h3:SlV intE G k d.ks) (h4:RowH itE 164 p iv its) (h5:RowH intE 3 p lv' live) :
  ShV (upd (upd p b (some (.cells #[w,k,iv,lv,I c'] 167 (0,0)))) b (some (.cells #[w,k,iv,lv',I c'] 167 (0,0)))) G b d ⟨its,live,c'⟩ w k iv lv'∧KeepT p (upd (upd p b (some (.cells #[w,k,iv,lv,I c'] 167 (0,0)))) b (some (.cells #[w,k,iv,lv',I c'] 167 (0,0)))):=by
 have hs:=ShV.store (G:=G) (d:=d) (c:=c') (c':=c') (p:=upd p b (some (.cells #[w,k,iv,lv,I c'] 167 (0,0)))) (upd_same _ _ _) h2 h3 (h4.off fun h=>absurd (h4.typ h h1) (by decide)) (h5.off fun h=>absurd (h5.typ h h1) (by decide))
 exact ⟨hs.1,(KeepT.set h1 fun _ _ _ e=>by cases e;exact .inl rfl).trans hs.2⟩
theorem goneF_snoc (l:List It) (n:Int) (ps:List Nat) (x:Nat):goneF l n (ps++[x]) = (goneF l n ps).set x { (goneF l n ps).getD x default with g:=n }:=by
 simp [goneF,List.foldl_append]
set_option maxHeartbeats 8000000 in
theorem change65 (b:Nat) (d:Dr) (S S':Sh) (hs:S.small) (x:Sp) (hS:changeF d S x = some S'):Sound Tryz.prog 87 id (.hp (fun args p G=>∃ cs,args = [ptr b, .agg cs.toArray]∧SpC G cs x∧ShH p G b d S) fun _ p v p' G=>v = .tuple #[]∧ShH p' G b d S'∧KeepT p p'):=by
 refine comp65.hp (Tab.nil _) (fun args p G h=>?_) (fun args p v p' G G' hg h=>⟨h.1,h.2.1.grow hg,h.2.2⟩) (fun args p G h=>?_)
 ·obtain ⟨cs,rfl,_⟩:=h;simp
 ·obtain ⟨_,rfl,⟨pv,rfl,hp⟩,hsh⟩:=h
  have hun:(fineF S.its x = true∧(cutF S.its x).all (fun i=>!protF d (S.its.getD i default)) = true)∧S' = ⟨insF (goneF S.its (S.ch + 1) (cutF S.its x)) (placeF S.its x) (putF (S.ch + 1) x.put),S.live++[S.ch + 1],S.ch + 1⟩:=by
   unfold changeF at hS
   split at hS
   ·exact ⟨‹_›,(Option.some.inj hS).symm⟩
   ·cases hS
  obtain ⟨⟨hfine,hprot⟩,rfl⟩:=hun
  obtain ⟨pa,pn,pc,rfl,hpl2,hpn⟩:=id hp
  obtain ⟨xu,xa,xc,xp⟩:=x
  dsimp only at hp hpl2
  obtain ⟨g1,g2,g3,g4,g5⟩:=fine_iff.1 hfine
  dsimp only at g1 g2 g3 g4 g5
  (conv=>whnf)
  refine CallH.mk _ (placesH b d S hs) body88 (W.mk ?_)
  (conv=>whnf)
  refine HpcP.mk ⟨rfl,hsh⟩ (fun v p1 G1 hg1 hq=>W.mk ?_)
  obtain ⟨rfl,hpl⟩:=hq
  obtain ⟨la,ln,lc,rfl,hl,hln⟩:=id hpl
  have hplen:=hl.len
  have hpl9:ln≤10000:=by rw [← hplen];exact Nat.le_trans (placesN_le _ _) hs.1
  have hputl:=hpl2.len
  dsimp only
  (conv=>whnf)
  refine IteP.mk (fun f1=>W.mk ?_) (fun f1=>W.mk ?_)<;>(conv=>whnf)
  rotate_left
  ·first | (exfalso;omega) | exact absurd (f2.symm.trans g2) (by decide) | exact absurd (f4.symm.trans g4) (by decide)
  refine CallH.mk _ within77 body77 (W.mk ?_)
  (conv=>whnf)
  refine OblP.mk ⟨_,_,_,rfl⟩ (W.mk ?_)
  (conv=>whnf)
  refine ForkP.mk (fun f2=>W.mk ?_) (fun f2=>W.mk ?_)<;>(conv=>whnf)
  rotate_left
  ·first | (exfalso;omega) | exact absurd (f2.symm.trans g2) (by decide) | exact absurd (f4.symm.trans g4) (by decide)
  have f2':0≤xc∧xc≤4:=by simpa [inF] using f2
  (refine ob ?_ ?_;(first | trivial | omega | (simp only [inR];omega) | exact ble (by rfl) | exact SlR.some ‹_› (by omega));(conv=>whnf))
  refine IteP.mk (fun f3=>W.mk ?_) (fun f3=>W.mk ?_)<;>(conv=>whnf)
  rotate_left
  ·first | (exfalso;omega) | exact absurd (f2.symm.trans g2) (by decide) | exact absurd (f4.symm.trans g4) (by decide)
  refine CallH.mk _ (texts59 xp 0 4) body59 (W.mk ?_)
  (conv=>whnf)
  refine HpcP.mk ⟨_,rfl,hp.grow hg1⟩ (fun v p2 G2 hg2 hq=>W.mk ?_)
  obtain ⟨rfl,hk2⟩:=hq
  dsimp only
  (conv=>whnf)
  refine ForkP.mk (fun f4=>W.mk ?_) (fun f4=>W.mk ?_)<;>(conv=>whnf)
  rotate_left
  ·first | (exfalso;omega) | exact absurd (f2.symm.trans g2) (by decide) | exact absurd (f4.symm.trans g4) (by decide)
  (refine ob ?_ ?_;(first | trivial | omega | (simp only [inR];omega) | exact ble (by rfl) | exact SlR.some ‹_› (by omega));(conv=>whnf))
  refine IteP.mk (fun f5=>W.mk ?_) (fun f5=>W.mk ?_)<;>(conv=>whnf)
  rotate_left
  ·first | (exfalso;omega) | exact absurd (f2.symm.trans g2) (by decide) | exact absurd (f4.symm.trans g4) (by decide)
  refine CallH.mk _ ask90 body90 (W.mk ?_)
  (conv=>whnf)
  refine HpcP.mk rfl (fun v p3 G3 hg3 hq=>W.mk ?_)
  obtain ⟨rfl,rfl⟩:=hq
  (conv=>whnf)
  have hg:Grow G G3:=hg1.trans (hg2.trans hg3)
  replace hsh:=hsh.keep hg fun b o e=>hk2 _ _ id e
  replace hl:=SlR.grow (G:=G1) (G':=G3) (fun _ _ h=>h) hl (hg2.trans hg3)
  obtain ⟨w,k,iv,lv,hv⟩:=hsh
  obtain ⟨ia,ic,rfl⟩:=hv.2.2.2.1.sl
  obtain ⟨lva,lvc,rfl⟩:=hv.2.2.2.2.sl
  have hsm:=hs
  obtain ⟨hs1,hs2,hs3,hs4⟩:=hs
  refine RdhP.h (ds:=[w,k, .slice ia S.its.length ic, .slice lva S.live.length lvc,I S.ch]) hv.1 rfl (W.mk ?_)
  (conv=>whnf)
  (refine ob ?_ ?_;(first | trivial | omega | (simp only [inR];omega) | exact ble (by rfl) | exact SlR.some ‹_› (by omega));(conv=>whnf))
  have hkp3:KeepT p1 p3:=KeepT.of fun b o e=>hk2 _ _ id e
  have hcutl:(cutF S.its ⟨xu,xa,xc,xp⟩).length = xc.toNat:=by
   simp only [cutF,List.length_take,List.length_drop,hplen];omega
  have hcutg:∀ i (h:i < (cutF S.its ⟨xu,xa,xc,xp⟩).length),(cutF S.its ⟨xu,xa,xc,xp⟩)[i]∈placesF S.its:=fun i h=>List.mem_of_mem_drop (List.mem_of_mem_take (List.getElem_mem h))
  have hpmem:∀ i∈placesF S.its,i < S.its.length:=fun i h=>placesN_lt h
  generalize hcE:cutF S.its ⟨xu,xa,xc,xp⟩ = cs at hcutl hcutg hprot
  have hlc:=hl.cap
  have hsn:(xa + xc).toNat - xa.toNat = cs.length:=by omega
  have hcs:0 < xc→SlR natE.k natE.R G3 (cutA la xa.toNat (lc:Int).toNat 1) cs.length ((lc:Int).toNat - xa.toNat) cs:=fun h0=>by
   have:=SlR.cut hl (b:=xa.toNat) (m:=xa.toNat + xc.toNat) (by omega) (by omega) (by omega) (by omega)
   rw [List.drop_take,Nat.add_sub_cancel_left] at this
   rw [← hsn, ← hcE,Int.toNat_natCast,show (xa + xc).toNat - xa.toNat = xa.toNat + xc.toNat - xa.toNat by omega,Nat.add_sub_cancel_left]
   exact this
  generalize hsa:cutA la xa.toNat (lc:Int).toNat 1 = sa at hcs
  generalize hsc:(lc:Int).toNat - xa.toNat = sc at hcs
  have hplf:placeF S.its ⟨xu,xa,xc,xp⟩≤S.its.length:=by
   simp only [placeF]
   split
   ·have h0:xa.toNat < (placesF S.its).length:=by omega
    have:=hpmem _ (List.getElem_mem h0)
    simp [h0];omega
   ·split
    ·have h0:xa.toNat - 1 < (placesF S.its).length:=by omega
     have:=hpmem _ (List.getElem_mem h0)
     simp [h0];omega
    ·omega
  refine IteP.mk (fun hc0=>W.mk ?_) (fun hc0=>W.mk ?_)<;>(conv=>whnf)
  focus
   have h0:xa.toNat < (placesF S.its).length:=by omega
   have hP:((placesF S.its)[xa.toNat]'h0) = placeF S.its ⟨xu,xa,xc,xp⟩:=by simp [placeF,hc0,h0]
   repeat' (refine ob ?_ ?_;(first | trivial | omega | (simp only [inR];omega) | exact ble (by rfl) | exact SlR.some ‹_› (by omega));(conv=>whnf))
   refine RdhP.g (hl.el (i:=xa.toNat) (by omega)) rfl (W.mk ?_)
   (conv=>whnf)
   rw [hP]
   clear hP
   generalize placeF S.its ⟨xu,xa,xc,xp⟩ = pl at hplf
  rotate_left
  focus
   refine IteP.mk (fun ha0=>W.mk ?_) (fun ha0=>W.mk ?_)<;>(conv=>whnf)
   focus
    have h0:xa.toNat - 1 < (placesF S.its).length:=by omega
    have hP:(((placesF S.its)[xa.toNat - 1]'h0:Nat):Int) + 1 = ((placeF S.its ⟨xu,xa,xc,xp⟩:Nat):Int):=by simp [placeF,hc0,ha0,h0]
    have hp9:=hpmem _ (List.getElem_mem h0)
    repeat' (refine ob ?_ ?_;(first | trivial | omega | (simp only [inR];omega) | exact ble (by rfl) | exact SlR.some ‹_› (by omega));(conv=>whnf))
    rw [show (xa - 1).toNat = xa.toNat - 1 by omega]
    refine RdhP.g (hl.el (i:=xa.toNat - 1) (by omega)) rfl (W.mk ?_)
    (conv=>whnf)
    repeat' (refine ob ?_ ?_;(first | trivial | omega | (simp only [inR];omega) | exact ble (by rfl) | exact SlR.some ‹_› (by omega));(conv=>whnf))
    rw [hP]
    clear hP
    generalize placeF S.its ⟨xu,xa,xc,xp⟩ = pl at hplf
   rotate_left
   focus
    have hP:(0:Int) = ((placeF S.its ⟨xu,xa,xc,xp⟩:Nat):Int):=by simp [placeF,hc0,ha0]
    rw [show SV.c (S1.val (I 0)) = SV.v (I ((placeF S.its ⟨xu,xa,xc,xp⟩:Nat):Int)) by rw [← hP]]
    clear hP
    generalize placeF S.its ⟨xu,xa,xc,xp⟩ = pl at hplf
  all_goals
   repeat' (refine ob ?_ ?_;(first | trivial | omega | (simp only [inR];omega) | exact ble (by rfl) | exact SlR.some ‹_› (by omega));(conv=>whnf))
   rw [hsa,hsn,hsc]
   refine LoopP.of { α:=Nat,fr:=fun x=>[(0, .v (ptr b)),(3, .c (.ptr 1000 0)),(4, .v (.slice la ln lc)),(5, .v (I (S.ch + 1))),(6, .v (I (pl:Nat))),(80, .v (.slice sa cs.length sc)),(81, .v (I cs.length)),(82, .v (I x))],H:=fun _=>[(0, .heap p3),(1000, .cells .anon [.val (I xu), .val (I xa), .val (I xc), .val (.slice pa pn pc)] 133)],ok:=fun i _=>i≤cs.length,m:=fun i=>cs.length - i }
    0 (HeadP.of [] ⟨rfl,rfl,rfl,rfl,rfl,rfl,rfl,rfl,trivial⟩ ⟨rfl,rfl,trivial⟩) (Nat.zero_le _) (fun _=>⟨rfl,rfl⟩) (fun (i:Nat) G4 hg4 hi=>W.mk ?_)
   dsimp only at hi
   dsimp only
   (conv=>whnf)
   refine IteP.mk (fun hlt=>W.mk ?_) (fun hge=>W.mk ?_)<;>(conv=>whnf)
   ·have hic:i < cs.length:=by omega
    have hcs4:=SlR.grow (G:=G3) (G':=G4) (fun _ _ h=>h) (hcs (by omega)) hg4
    have hat:cs[i] < S.its.length:=hpmem _ (hcutg i hic)
    have hv4:=ShV.grow hg4 hv
    obtain ⟨ib,c2,rest2,e2,hb2,hfit2,_⟩:=ShV.item hv4 hat
    simp only [Value.slice.injEq] at e2
    obtain ⟨rfl,_,rfl⟩:=e2
    have hpr:protF d S.its[cs[i]] = false:=by
     have:=List.all_eq_true.1 hprot cs[i] (List.getElem_mem hic)
     simpa [hat] using this
    (refine ob ?_ ?_;(first | trivial | omega | (simp only [inR];omega) | exact ble (by rfl) | exact SlR.some ‹_› (by omega));(conv=>whnf))
    refine OblP.mk (hcs4.some (by omega)) (W.mk ?_)
    (conv=>whnf)
    refine RdhP.g (hcs4.el hic) rfl (W.mk ?_)
    (conv=>whnf)
    refine RdhP.h (ds:=[w,k, .slice (some ⟨ib,0,none⟩) S.its.length ic, .slice lva S.live.length lvc,I S.ch]) hv4.1 rfl (W.mk ?_)
    (conv=>whnf)
    refine OblP.mk (by omega) (W.mk ?_)
    (conv=>whnf)
    refine OblP.mk rfl (W.mk ?_)
    (conv=>whnf)
    refine RowH.cells (cs:=itE.f S.its[cs[i]]) hb2 (by have:=flat_at itE S.its rest2 hat;rw [show ao (some (⟨ib,0,none⟩:Addr)) + ((cs[i]:Nat):Int).toNat * 4 = cs[i] * itE.k by simp;rfl];exact this) rfl (W.mk ?_)
    (conv=>whnf)
    refine CallH.mk _ (prot91 b d S S.its[cs[i]]) body91 (W.mk ?_)
    (conv=>whnf)
    refine HpcP.mk ⟨rfl,w,k,_,_,hv4⟩ (fun v p5 G5 hg5 hq=>W.mk ?_)
    obtain ⟨rfl,rfl⟩:=hq
    rw [hpr]
    (conv=>whnf)
    refine ForkP.mk (fun h=>by cases h) (fun _=>W.mk ?_)
    (conv=>whnf)
    refine CallH.mk _ ask90 body90 (W.mk ?_)
    (conv=>whnf)
    refine HpcP.mk rfl (fun v p6 G6 hg6 hq=>W.mk ?_)
    obtain ⟨rfl,rfl⟩:=hq
    (conv=>whnf)
    (refine ob ?_ ?_;(first | trivial | omega | (simp only [inR];omega) | exact ble (by rfl) | exact SlR.some ‹_› (by omega));(conv=>whnf))
    exact RoundP.of (i + 1) (HeadP.of [] ⟨rfl,rfl,rfl,rfl,rfl,rfl,rfl,rfl,trivial⟩ ⟨rfl,rfl,trivial⟩) hic (by show cs.length - (i + 1) < cs.length - i;omega)
   ·have hcs4:0 < xc→SlR natE.k natE.R G4 sa cs.length sc cs:=fun h=>SlR.grow (G:=G3) (G':=G4) (fun _ _ h=>h) (hcs h) hg4
    have hv4:=ShV.grow hg4 hv
    repeat' (refine ob ?_ ?_;(first | trivial | omega | (simp only [inR];omega) | exact ble (by rfl) | exact SlR.some ‹_› (by omega));(conv=>whnf))
    rw [hsa,hsn,hsc]
    refine LoopP.of { α:=Nat × Hp × List It,fr:=fun x=>[(0, .v (ptr b)),(3, .c (.ptr 1000 0)),(5, .v (I (S.ch + 1))),(6, .v (I (pl:Nat))),(106, .v (.slice sa cs.length sc)),(107, .v (I cs.length)),(108, .v (I x.1))],H:=fun x=>[(0, .heap x.2.1),(1000, .cells .anon [.val (I xu), .val (I xa), .val (I xc), .val (.slice pa pn pc)] 133)],ok:=fun x G=>x.1≤cs.length∧x.2.2.length = S.its.length∧x.2.2 = goneF S.its (S.ch + 1) (cs.take x.1)∧ShV x.2.1 G b d ⟨x.2.2,S.live,S.ch⟩ w k (.slice ia S.its.length ic) (.slice lva S.live.length lvc)∧KeepT p3 x.2.1,m:=fun x=>cs.length - x.1 }
     (0,p3,S.its) (HeadP.of [] ⟨rfl,rfl,rfl,rfl,rfl,rfl,rfl,trivial⟩ ⟨rfl,rfl,trivial⟩) ⟨Nat.zero_le _,rfl,rfl,hv4,KeepT.refl⟩ (fun _=>⟨rfl,rfl⟩) (fun x G5 hg5 hx=>W.mk ?_)
    obtain ⟨j,q,cur⟩:=x
    obtain ⟨hj,hcul,hcur,hv5,hkt5⟩:=hx
    dsimp only at hj hcul hcur hv5 hkt5
    dsimp only
    (conv=>whnf)
    refine IteP.mk (fun hlt2=>W.mk ?_) (fun hge2=>W.mk ?_)<;>(conv=>whnf)
    ·have hjc:j < cs.length:=by omega
     have hcs5:=SlR.grow (G:=G4) (G':=G5) (fun _ _ h=>h) (hcs4 (by omega)) hg5
     have hat:cs[j] < cur.length:=by rw [hcul];exact hpmem _ (hcutg j hjc)
     obtain ⟨ib,c2,rest2,e2,hb2,hfit2,hset2⟩:=ShV.item (S:=⟨cur,S.live,S.ch⟩) hv5 hat
     dsimp only at e2 hb2 hfit2 hset2
     simp only [Value.slice.injEq] at e2
     obtain ⟨rfl,_,rfl⟩:=e2
     obtain ⟨hcells,hv6,hkt6⟩:=hset2 (S.ch + 1)
     have hgo:cur.set cs[j] { cur[cs[j]] with g:=S.ch + 1 } = goneF S.its (S.ch + 1) (cs.take (j + 1)):=by
      rw [List.take_add_one,List.getElem?_eq_getElem hjc,show (some cs[j]).toList = [cs[j]] from rfl,goneF_snoc, ← hcur]
      simp [hat]
     (refine ob ?_ ?_;(first | trivial | omega | (simp only [inR];omega) | exact ble (by rfl) | exact SlR.some ‹_› (by omega));(conv=>whnf))
     refine OblP.mk (hcs5.some (by omega)) (W.mk ?_)
     (conv=>whnf)
     refine RdhP.g (hcs5.el hjc) rfl (W.mk ?_)
     (conv=>whnf)
     refine RdhP.h (ds:=[w,k, .slice (some ⟨ib,0,none⟩) S.its.length ic, .slice lva S.live.length lvc,I S.ch]) hv5.1 rfl (W.mk ?_)
     (conv=>whnf)
     refine OblP.mk (by omega) (W.mk ?_)
     (conv=>whnf)
     refine OblP.mk rfl (W.mk ?_)
     (conv=>whnf)
     refine HpkP.mk ⟨_,164,hb2,W.mk ?_⟩
     (conv=>whnf)
     rw [show ao (some (⟨ib,0,none⟩:Addr)) + ((cs[j]:Nat):Int).toNat * 4 + 3 = cs[j] * 4 + 3 by simp,hcells]
     refine OblP.mk (by omega) (W.mk ?_)
     (conv=>whnf)
     (refine ob ?_ ?_;(first | trivial | omega | (simp only [inR];omega) | exact ble (by rfl) | exact SlR.some ‹_› (by omega));(conv=>whnf))
     refine RoundP.of (j + 1,upd q ib (some (.cells (flat itE (cur.set cs[j] { cur[cs[j]] with g:=S.ch + 1 })++rest2).toArray 164 (0,0))),cur.set cs[j] { cur[cs[j]] with g:=S.ch + 1 }) (HeadP.of [] ⟨rfl,rfl,rfl,rfl,rfl,rfl,rfl,trivial⟩ ⟨rfl,rfl,trivial⟩) ⟨hjc,by show (cur.set _ _).length = _;rw [List.length_set,hcul],hgo,hv6,hkt5.trans hkt6⟩ (by show cs.length - (j + 1) < cs.length - j;omega)
    ·have hjj:j = cs.length:=by omega
     subst hjj
     rw [List.take_length] at hcur
     have hgG5:Grow G G5:=hg.trans (hg4.trans hg5)
     have hpl5:=SlR.grow (G:=G) (G':=G5) (fun _ _ h=>h) hpl2 hgG5
     refine LoopP.of { α:=Nat × Nat × List Value,fr:=fun x=>[(0, .v (ptr b)),(5, .v (I (S.ch + 1))),(6, .v (I (pl:Nat))),(11, .c (.row 5 x.2.1)),(122, .v (.slice pa pn pc)),(123, .v (I pn)),(124, .v (I x.1))],H:=fun x=>[(0, .heap q),(5, .row none x.2.1 x.2.2 164 4)],ok:=fun x _=>x.1≤pn∧Row itE (putF (S.ch + 1) (xp.take x.1)) x.2.1 x.2.2,m:=fun x=>pn - x.1 }
      (0,0,[]) (HeadP.of [(5,none)] ⟨rfl,rfl,rfl,rfl,rfl,rfl,rfl,trivial⟩ ⟨rfl,rfl,trivial⟩) ⟨Nat.zero_le _,Row.nil⟩ (fun _=>⟨rfl,rfl⟩) (fun x G6 hg6 hx=>W.mk ?_)
     obtain ⟨i2,m,vs⟩:=x
     obtain ⟨hi2,hrow⟩:=hx
     dsimp only at hi2 hrow
     dsimp only
     (conv=>whnf)
     refine IteP.mk (fun hlt3=>W.mk ?_) (fun hge3=>W.mk ?_)<;>(conv=>whnf)
     ·have hix:i2 < xp.length:=by omega
      have hpl6:=SlR.grow (G:=G5) (G':=G6) (fun _ _ h=>h) hpl5 hg6
      have hm:m≤10:=by
       have h4:inF (xp.length:Int) 0 4 = true:=by simpa using (Bool.and_eq_true_iff.1 g4).1
       have h5:0≤(xp.length:Int)∧(xp.length:Int)≤4:=by simpa [inF] using h4
       rw [hrow.n];simp [putF];omega
      have hrow2:=hrow.snoc ⟨xp[i2], -1,S.ch + 1,0⟩ (us:=[.string xp[i2],I (-1),I (S.ch + 1),I 0])
      have hput2:putF (S.ch + 1) (xp.take i2)++[⟨xp[i2], -1,S.ch + 1,0⟩] = putF (S.ch + 1) (xp.take (i2 + 1)):=by
       rw [List.take_add_one,List.getElem?_eq_getElem hix];simp only [putF,List.map_append,Option.toList_some,List.map_cons,List.map_nil]
      rw [hput2] at hrow2
      have hce:=hpl6.el hix
      generalize xp[i2] = tx at hce hrow2
      (refine ob ?_ ?_;(first | trivial | omega | (simp only [inR];omega) | exact ble (by rfl) | exact SlR.some ‹_› (by omega));(conv=>whnf))
      refine OblP.mk (hpl6.some (by omega)) (W.mk ?_)
      (conv=>whnf)
      refine RdhP.g hce rfl (W.mk ?_)
      (conv=>whnf)
      repeat' (refine ob ?_ ?_;(first | trivial | omega | (simp only [inR];omega) | exact ble (by rfl) | exact SlR.some ‹_› (by omega));(conv=>whnf))
      exact RoundP.of (i2 + 1,m + 1,_) (HeadP.of [(5,some 1133)] ⟨rfl,rfl,rfl,rfl,rfl,rfl,rfl,trivial⟩ ⟨rfl,rfl,trivial⟩) ⟨by show i2 + 1≤pn;omega,hrow2⟩ (by show pn - (i2 + 1) < pn - i2;omega)
     ·have hi2p:i2 = xp.length:=by omega
      subst hi2p
      rw [List.take_length] at hrow
      have hxp4:xp.length≤4:=by
       have h4:inF (xp.length:Int) 0 4 = true:=by simpa using (Bool.and_eq_true_iff.1 g4).1
       have h5:0≤(xp.length:Int)∧(xp.length:Int)≤4:=by simpa [inF] using h4
       omega
      have hm4:m≤4:=by rw [hrow.n];simpa [putF] using hxp4
      refine PubP.mk (fun ga gc G7 hg7 hpr=>W.mk ?_)
      have hput:=hrow.pub hpr (by omega)
      have hv7:=ShV.grow (hg6.trans hg7) hv5
      (conv=>whnf)
      refine CallH.mk _ (insert92 d ⟨cur,S.live,S.ch⟩ ⟨by show cur.length≤_;rw [hcul];exact hs1,hs2,hs3,hs4⟩ (putF (S.ch + 1) xp) (by rw [← hrow.n];omega) pl (by show pl≤cur.length;rw [hcul];exact hplf) b (.slice ga m gc)) body92 (W.mk ?_)
      (conv=>whnf)
      refine HpcP.mk ⟨rfl,⟨w,k,_,_,hv7⟩,hput⟩ (fun v q2 G8 hg8 hq=>W.mk ?_)
      obtain ⟨rfl,⟨w2,k2,iv2,lv2,hv8⟩,hkt8⟩:=hq
      obtain ⟨i2a,i2c,rfl⟩:=hv8.2.2.2.1.sl
      obtain ⟨h81,h82,h83,h84,h85⟩:=hv8
      dsimp only at h84 h85
      (conv=>whnf)
      rcases h85 with ⟨rfl,hl0⟩ | ⟨lb,c',rest,rfl,hb,hr,hc,hmx⟩
      ·refine RdhP.h (ds:=[w2,k2, .slice i2a (insF cur pl (putF (S.ch + 1) xp)).length i2c, .slice none 0 0,I S.ch]) h81 rfl (W.mk ?_)
       (conv=>whnf)
       refine OblP.mk rfl (W.mk ?_)
       (conv=>whnf)
       refine OblP.mk ⟨by omega,by omega⟩ (W.mk ?_)
       (conv=>whnf)
       refine AppnP.mk (fun b' cap rest' hb1 hb2 hb3 hb4=>W.mk ?_)
       have hnew:RowH intE 3 (upd q2 b' (some (.cells ([I (S.ch + 1)]++rest').toArray 3 (0,0)))) (.slice (some ⟨b',0,none⟩) 1 cap) (S.live++[S.ch + 1]):=by rw [hl0];exact RowH.appNew (E:=intE) (l:=[]) (us:=[S.ch + 1]) (vs:=[]) rfl hb4 hb2 hb3
       have hbb:b≠b':=fun h=>by rw [← h,h81] at hb1;cases hb1
       have h81':(upd q2 b' (some (.cells ([I (S.ch + 1)]++rest').toArray 3 (0,0)))) b = _:=(upd_other _ _ hbb).trans h81
       have h84':RowH itE 164 (upd q2 b' (some (.cells ([I (S.ch + 1)]++rest').toArray 3 (0,0)))) _ _:=h84.mono fun k o e1 e2=>by rw [upd_other _ _ (fun h=>by rw [h,hb1] at e2;cases e2)];exact e2
       have hkQ:KeepT q2 (upd q2 b' (some (.cells ([I (S.ch + 1)]++rest').toArray 3 (0,0)))):=KeepT.new hb1
       (conv=>whnf)
       refine HpkP.mk ⟨[w2,k2, .slice i2a (insF cur pl (putF (S.ch + 1) xp)).length i2c,(.slice none 0 0),I S.ch],167,h81',W.mk ?_⟩
       (conv=>whnf)
       refine OblP.mk (Nat.le_of_ble_eq_true rfl) (W.mk ?_)
       (conv=>whnf)
       refine HpkP.mk ⟨[w2,k2, .slice i2a (insF cur pl (putF (S.ch + 1) xp)).length i2c,(.slice none 0 0),I (S.ch + 1)],167,upd_same _ _ _,W.mk ?_⟩
       (conv=>whnf)
       refine OblP.mk (Nat.le_of_ble_eq_true rfl) (W.mk ?_)
       (conv=>whnf)
       refine NmP.mk ⟨[],W.mk ?_⟩
       (conv=>whnf)
       have hend:=ShV.end2 (c':=S.ch + 1) h81' h82 h83 h84' hnew
       refine FinHp.of (p:=upd (upd (upd q2 b' (some (.cells ([I (S.ch + 1)]++rest').toArray 3 (0,0)))) b (some (.cells #[w2,k2, .slice i2a (insF cur pl (putF (S.ch + 1) xp)).length i2c,(.slice none 0 0),I (S.ch + 1)] 167 (0,0)))) b (some (.cells #[w2,k2, .slice i2a (insF cur pl (putF (S.ch + 1) xp)).length i2c, .slice (some ⟨b',0,none⟩) 1 cap,I (S.ch + 1)] 167 (0,0)))) rfl ⟨rfl,⟨w2,k2, .slice i2a (insF cur pl (putF (S.ch + 1) xp)).length i2c, .slice (some ⟨b',0,none⟩) 1 cap, ?_⟩,((hkp3.trans (hkt5.trans hkt8)).trans hkQ).trans hend.2⟩
       rw [← hcur]
       exact hend.1
      ·have hin:=fun hc2=>RowH.appIn (t:=3) (p:=q2) (b:=lb) (us:=[S.ch + 1]) hr hc2 hmx
       have hnw:=fun (b' cap:Nat) (rest':List Value)=>RowH.appNew (t:=3) (p:=q2) (b:=b') (c:=cap) (l:=S.live) (us:=[S.ch + 1]) (vs:=(flat intE S.live++rest).take (S.live.length * intE.k)) (rest':=rest') take_flat
       have hone:∀ u∈(flat intE S.live++rest).take (S.live.length * intE.k),u.oneCell' = true:=by rw [take_flat];exact flat_one _ _
       have hlen2:(flat intE S.live++rest).length = c' * 1:=by rw [List.length_append,flat_len,hr,show intE.k = 1 from rfl];omega
       refine RdhP.h (ds:=[w2,k2, .slice i2a (insF cur pl (putF (S.ch + 1) xp)).length i2c, .slice (some ⟨lb,0,none⟩) S.live.length c',I S.ch]) h81 rfl (W.mk ?_)
       (conv=>whnf)
       refine HpkP.mk ⟨_,3,hb,W.mk ?_⟩
       (conv=>whnf)
       refine OblP.mk ⟨rfl,rfl,hlen2,hc,hmx,hone⟩ (W.mk ?_)
       (conv=>whnf)
       refine OblP.mk rfl (W.mk ?_)
       (conv=>whnf)
       refine OblP.mk ⟨by omega,by omega⟩ (W.mk ?_)
       (conv=>whnf)
       refine IteP.mk (fun hcap=>W.mk ?_) (fun hcap=>W.mk ?_)<;>(conv=>whnf)
       ·have hnew:=hin (by simp only [List.length_singleton];omega)
        have hbb:b≠lb:=fun h=>by rw [← h,h81] at hb;exact absurd (congrArg (fun o:Option Obj=>match o with | some (Obj.cells _ t _)=>t | _=>0) hb) (show ¬ (167:Nat) = 3 by decide)
        have h81':(upd q2 lb (some (.cells ((flat intE S.live++rest).take (S.live.length * intE.k)++flat intE [S.ch + 1]++(flat intE S.live++rest).drop ((S.live.length + [S.ch + 1].length) * intE.k)).toArray 3 (0,0)))) b = _:=(upd_other _ _ hbb).trans h81
        have h84':RowH itE 164 (upd q2 lb (some (.cells ((flat intE S.live++rest).take (S.live.length * intE.k)++flat intE [S.ch + 1]++(flat intE S.live++rest).drop ((S.live.length + [S.ch + 1].length) * intE.k)).toArray 3 (0,0)))) _ _:=h84.off fun h=>absurd (h84.typ h hb) (by decide)
        have hkQ:KeepT q2 (upd q2 lb (some (.cells ((flat intE S.live++rest).take (S.live.length * intE.k)++flat intE [S.ch + 1]++(flat intE S.live++rest).drop ((S.live.length + [S.ch + 1].length) * intE.k)).toArray 3 (0,0)))):=KeepT.set hb fun _ _ _ e=>by cases e;exact .inr (.inr rfl)
        (conv=>whnf)
        refine HpkP.mk ⟨[w2,k2, .slice i2a (insF cur pl (putF (S.ch + 1) xp)).length i2c,(.slice (some ⟨lb,0,none⟩) S.live.length c'),I S.ch],167,h81',W.mk ?_⟩
        (conv=>whnf)
        refine OblP.mk (Nat.le_of_ble_eq_true rfl) (W.mk ?_)
        (conv=>whnf)
        refine HpkP.mk ⟨[w2,k2, .slice i2a (insF cur pl (putF (S.ch + 1) xp)).length i2c,(.slice (some ⟨lb,0,none⟩) S.live.length c'),I (S.ch + 1)],167,upd_same _ _ _,W.mk ?_⟩
        (conv=>whnf)
        refine OblP.mk (Nat.le_of_ble_eq_true rfl) (W.mk ?_)
        (conv=>whnf)
        refine NmP.mk ⟨[],W.mk ?_⟩
        (conv=>whnf)
        have hend:=ShV.end2 (c':=S.ch + 1) h81' h82 h83 h84' hnew
        refine FinHp.of (p:=upd (upd (upd q2 lb (some (.cells ((flat intE S.live++rest).take (S.live.length * intE.k)++flat intE [S.ch + 1]++(flat intE S.live++rest).drop ((S.live.length + [S.ch + 1].length) * intE.k)).toArray 3 (0,0)))) b (some (.cells #[w2,k2, .slice i2a (insF cur pl (putF (S.ch + 1) xp)).length i2c,(.slice (some ⟨lb,0,none⟩) S.live.length c'),I (S.ch + 1)] 167 (0,0)))) b (some (.cells #[w2,k2, .slice i2a (insF cur pl (putF (S.ch + 1) xp)).length i2c, .slice (some ⟨lb,0,none⟩) (S.live.length + 1) c',I (S.ch + 1)] 167 (0,0)))) rfl ⟨rfl,⟨w2,k2, .slice i2a (insF cur pl (putF (S.ch + 1) xp)).length i2c, .slice (some ⟨lb,0,none⟩) (S.live.length + 1) c', ?_⟩,((hkp3.trans (hkt5.trans hkt8)).trans hkQ).trans hend.2⟩
        rw [← hcur]
        exact hend.1
       ·refine AppnP.mk (fun b' cap rest' hb1 hb2 hb3 hb4=>W.mk ?_)
        have hnew:=hnw b' cap rest' hb4 hb2 hb3
        have hbb:b≠b':=fun h=>by rw [← h,h81] at hb1;cases hb1
        have h81':(upd q2 b' (some (.cells ((flat intE S.live++rest).take (S.live.length * intE.k)++flat intE [S.ch + 1]++rest').toArray 3 (0,0)))) b = _:=(upd_other _ _ hbb).trans h81
        have h84':RowH itE 164 (upd q2 b' (some (.cells ((flat intE S.live++rest).take (S.live.length * intE.k)++flat intE [S.ch + 1]++rest').toArray 3 (0,0)))) _ _:=h84.mono fun k o e1 e2=>by rw [upd_other _ _ (fun h=>by rw [h,hb1] at e2;cases e2)];exact e2
        have hkQ:KeepT q2 (upd q2 b' (some (.cells ((flat intE S.live++rest).take (S.live.length * intE.k)++flat intE [S.ch + 1]++rest').toArray 3 (0,0)))):=KeepT.new hb1
        (conv=>whnf)
        refine HpkP.mk ⟨[w2,k2, .slice i2a (insF cur pl (putF (S.ch + 1) xp)).length i2c,(.slice (some ⟨lb,0,none⟩) S.live.length c'),I S.ch],167,h81',W.mk ?_⟩
        (conv=>whnf)
        refine OblP.mk (Nat.le_of_ble_eq_true rfl) (W.mk ?_)
        (conv=>whnf)
        refine HpkP.mk ⟨[w2,k2, .slice i2a (insF cur pl (putF (S.ch + 1) xp)).length i2c,(.slice (some ⟨lb,0,none⟩) S.live.length c'),I (S.ch + 1)],167,upd_same _ _ _,W.mk ?_⟩
        (conv=>whnf)
        refine OblP.mk (Nat.le_of_ble_eq_true rfl) (W.mk ?_)
        (conv=>whnf)
        refine NmP.mk ⟨[],W.mk ?_⟩
        (conv=>whnf)
        have hend:=ShV.end2 (c':=S.ch + 1) h81' h82 h83 h84' hnew
        refine FinHp.of (p:=upd (upd (upd q2 b' (some (.cells ((flat intE S.live++rest).take (S.live.length * intE.k)++flat intE [S.ch + 1]++rest').toArray 3 (0,0)))) b (some (.cells #[w2,k2, .slice i2a (insF cur pl (putF (S.ch + 1) xp)).length i2c,(.slice (some ⟨lb,0,none⟩) S.live.length c'),I (S.ch + 1)] 167 (0,0)))) b (some (.cells #[w2,k2, .slice i2a (insF cur pl (putF (S.ch + 1) xp)).length i2c, .slice (some ⟨b',0,none⟩) (S.live.length + 1) cap,I (S.ch + 1)] 167 (0,0)))) rfl ⟨rfl,⟨w2,k2, .slice i2a (insF cur pl (putF (S.ch + 1) xp)).length i2c, .slice (some ⟨b',0,none⟩) (S.live.length + 1) cap, ?_⟩,((hkp3.trans (hkt5.trans hkt8)).trans hkQ).trans hend.2⟩
        rw [← hcur]
        exact hend.1
set_option maxHeartbeats 8000000 in
theorem refuse65 (b:Nat) (d:Dr) (S:Sh) (hs:S.small) (x:Sp) (hS:changeF d S x = none):PanF Tryz.prog 87 203 (fun args p G=>∃ cs,args = [ptr b, .agg cs.toArray]∧SpC G cs x∧ShH p G b d S) (fun _ p q=>KeepT p q):=by
 refine comp65.pan (Tab.nil _) (fun args p G h=>?_) rfl (fun args p G h=>?_)
 ·obtain ⟨cs,rfl,_⟩:=h;simp
 ·obtain ⟨_,rfl,⟨pv,rfl,hp⟩,hsh⟩:=h
  obtain ⟨pa,pn,pc,rfl,hpl2,hpn⟩:=id hp
  obtain ⟨xu,xa,xc,xp⟩:=x
  dsimp only at hp hpl2
  (conv=>whnf)
  refine CallH.mk _ (placesH b d S hs) body88 (W.mk ?_)
  (conv=>whnf)
  refine HpcP.mk ⟨rfl,hsh⟩ (fun v p1 G1 hg1 hq=>W.mk ?_)
  obtain ⟨rfl,hpl⟩:=hq
  obtain ⟨la,ln,lc,rfl,hl,hln⟩:=id hpl
  have hplen:=hl.len
  have hpl9:ln≤10000:=by rw [← hplen];exact Nat.le_trans (placesN_le _ _) hs.1
  have hputl:=hpl2.len
  dsimp only
  (conv=>whnf)
  refine IteP.mk (fun f1=>W.mk ?_) (fun f1=>W.mk ?_)<;>(conv=>whnf)
  rotate_left
  ·first | exact CallH.pan ⟨203,_,_,_,_,rfl,rfl,refuse90,body90,rfl,fun q hq=>⟨q,rfl,by rw [hq];exact KeepT.of fun b o e=>hk2 _ _ id e⟩⟩ | exact CallH.pan ⟨203,_,_,_,_,rfl,rfl,refuse90,body90,rfl,fun q hq=>⟨q,rfl,by rw [hq];exact KeepT.refl⟩⟩
  refine CallH.mk _ within77 body77 (W.mk ?_)
  (conv=>whnf)
  refine OblP.mk ⟨_,_,_,rfl⟩ (W.mk ?_)
  (conv=>whnf)
  refine ForkP.mk (fun f2=>W.mk ?_) (fun f2=>W.mk ?_)<;>(conv=>whnf)
  rotate_left
  ·first | exact CallH.pan ⟨203,_,_,_,_,rfl,rfl,refuse90,body90,rfl,fun q hq=>⟨q,rfl,by rw [hq];exact KeepT.of fun b o e=>hk2 _ _ id e⟩⟩ | exact CallH.pan ⟨203,_,_,_,_,rfl,rfl,refuse90,body90,rfl,fun q hq=>⟨q,rfl,by rw [hq];exact KeepT.refl⟩⟩
  have f2':0≤xc∧xc≤4:=by simpa [inF] using f2
  (refine ob ?_ ?_;(first | trivial | omega | (simp only [inR];omega) | exact ble (by rfl) | exact SlR.some ‹_› (by omega));(conv=>whnf))
  refine IteP.mk (fun f3=>W.mk ?_) (fun f3=>W.mk ?_)<;>(conv=>whnf)
  rotate_left
  ·first | exact CallH.pan ⟨203,_,_,_,_,rfl,rfl,refuse90,body90,rfl,fun q hq=>⟨q,rfl,by rw [hq];exact KeepT.of fun b o e=>hk2 _ _ id e⟩⟩ | exact CallH.pan ⟨203,_,_,_,_,rfl,rfl,refuse90,body90,rfl,fun q hq=>⟨q,rfl,by rw [hq];exact KeepT.refl⟩⟩
  refine CallH.mk _ (texts59 xp 0 4) body59 (W.mk ?_)
  (conv=>whnf)
  refine HpcP.mk ⟨_,rfl,hp.grow hg1⟩ (fun v p2 G2 hg2 hq=>W.mk ?_)
  obtain ⟨rfl,hk2⟩:=hq
  dsimp only
  (conv=>whnf)
  refine ForkP.mk (fun f4=>W.mk ?_) (fun f4=>W.mk ?_)<;>(conv=>whnf)
  rotate_left
  ·first | exact CallH.pan ⟨203,_,_,_,_,rfl,rfl,refuse90,body90,rfl,fun q hq=>⟨q,rfl,by rw [hq];exact KeepT.of fun b o e=>hk2 _ _ id e⟩⟩ | exact CallH.pan ⟨203,_,_,_,_,rfl,rfl,refuse90,body90,rfl,fun q hq=>⟨q,rfl,by rw [hq];exact KeepT.refl⟩⟩
  (refine ob ?_ ?_;(first | trivial | omega | (simp only [inR];omega) | exact ble (by rfl) | exact SlR.some ‹_› (by omega));(conv=>whnf))
  refine IteP.mk (fun f5=>W.mk ?_) (fun f5=>W.mk ?_)<;>(conv=>whnf)
  rotate_left
  ·first | exact CallH.pan ⟨203,_,_,_,_,rfl,rfl,refuse90,body90,rfl,fun q hq=>⟨q,rfl,by rw [hq];exact KeepT.of fun b o e=>hk2 _ _ id e⟩⟩ | exact CallH.pan ⟨203,_,_,_,_,rfl,rfl,refuse90,body90,rfl,fun q hq=>⟨q,rfl,by rw [hq];exact KeepT.refl⟩⟩
  have hfine:fineF S.its ⟨xu,xa,xc,xp⟩ = true:=fine_iff.2 ⟨f1,f2,(show xa≤((placesF S.its).length:Int) - xc by omega),f4,(show 0 < xc + (xp.length:Int) by omega)⟩
  have hnot:¬ (cutF S.its ⟨xu,xa,xc,xp⟩).all (fun i=>!protF d (S.its.getD i default)) = true:=fun h=>by
   unfold changeF at hS
   rw [if_pos ⟨hfine,h⟩] at hS;cases hS
  obtain ⟨g1,g2,g3,g4,g5⟩:=fine_iff.1 hfine
  dsimp only at g1 g2 g3 g4 g5
  refine CallH.mk _ ask90 body90 (W.mk ?_)
  (conv=>whnf)
  refine HpcP.mk rfl (fun v p3 G3 hg3 hq=>W.mk ?_)
  obtain ⟨rfl,rfl⟩:=hq
  (conv=>whnf)
  have hg:Grow G G3:=hg1.trans (hg2.trans hg3)
  replace hsh:=hsh.keep hg fun b o e=>hk2 _ _ id e
  replace hl:=SlR.grow (G:=G1) (G':=G3) (fun _ _ h=>h) hl (hg2.trans hg3)
  obtain ⟨w,k,iv,lv,hv⟩:=hsh
  obtain ⟨ia,ic,rfl⟩:=hv.2.2.2.1.sl
  obtain ⟨lva,lvc,rfl⟩:=hv.2.2.2.2.sl
  have hsm:=hs
  obtain ⟨hs1,hs2,hs3,hs4⟩:=hs
  refine RdhP.h (ds:=[w,k, .slice ia S.its.length ic, .slice lva S.live.length lvc,I S.ch]) hv.1 rfl (W.mk ?_)
  (conv=>whnf)
  (refine ob ?_ ?_;(first | trivial | omega | (simp only [inR];omega) | exact ble (by rfl) | exact SlR.some ‹_› (by omega));(conv=>whnf))
  have hkp3:KeepT p1 p3:=KeepT.of fun b o e=>hk2 _ _ id e
  have hcutl:(cutF S.its ⟨xu,xa,xc,xp⟩).length = xc.toNat:=by
   simp only [cutF,List.length_take,List.length_drop,hplen];omega
  have hcutg:∀ i (h:i < (cutF S.its ⟨xu,xa,xc,xp⟩).length),(cutF S.its ⟨xu,xa,xc,xp⟩)[i]∈placesF S.its:=fun i h=>List.mem_of_mem_drop (List.mem_of_mem_take (List.getElem_mem h))
  have hpmem:∀ i∈placesF S.its,i < S.its.length:=fun i h=>placesN_lt h
  generalize hcE:cutF S.its ⟨xu,xa,xc,xp⟩ = cs at hcutl hcutg hnot
  have hlc:=hl.cap
  have hsn:(xa + xc).toNat - xa.toNat = cs.length:=by omega
  have hcs:0 < xc→SlR natE.k natE.R G3 (cutA la xa.toNat (lc:Int).toNat 1) cs.length ((lc:Int).toNat - xa.toNat) cs:=fun h0=>by
   have:=SlR.cut hl (b:=xa.toNat) (m:=xa.toNat + xc.toNat) (by omega) (by omega) (by omega) (by omega)
   rw [List.drop_take,Nat.add_sub_cancel_left] at this
   rw [← hsn, ← hcE,Int.toNat_natCast,show (xa + xc).toNat - xa.toNat = xa.toNat + xc.toNat - xa.toNat by omega,Nat.add_sub_cancel_left]
   exact this
  generalize hsa:cutA la xa.toNat (lc:Int).toNat 1 = sa at hcs
  generalize hsc:(lc:Int).toNat - xa.toNat = sc at hcs
  have hplf:placeF S.its ⟨xu,xa,xc,xp⟩≤S.its.length:=by
   simp only [placeF]
   split
   ·have h0:xa.toNat < (placesF S.its).length:=by omega
    have:=hpmem _ (List.getElem_mem h0)
    simp [h0];omega
   ·split
    ·have h0:xa.toNat - 1 < (placesF S.its).length:=by omega
     have:=hpmem _ (List.getElem_mem h0)
     simp [h0];omega
    ·omega
  refine IteP.mk (fun hc0=>W.mk ?_) (fun hc0=>W.mk ?_)<;>(conv=>whnf)
  focus
   have h0:xa.toNat < (placesF S.its).length:=by omega
   have hP:((placesF S.its)[xa.toNat]'h0) = placeF S.its ⟨xu,xa,xc,xp⟩:=by simp [placeF,hc0,h0]
   repeat' (refine ob ?_ ?_;(first | trivial | omega | (simp only [inR];omega) | exact ble (by rfl) | exact SlR.some ‹_› (by omega));(conv=>whnf))
   refine RdhP.g (hl.el (i:=xa.toNat) (by omega)) rfl (W.mk ?_)
   (conv=>whnf)
   rw [hP]
   clear hP
   generalize placeF S.its ⟨xu,xa,xc,xp⟩ = pl at hplf
  rotate_left
  focus
   refine IteP.mk (fun ha0=>W.mk ?_) (fun ha0=>W.mk ?_)<;>(conv=>whnf)
   focus
    have h0:xa.toNat - 1 < (placesF S.its).length:=by omega
    have hP:(((placesF S.its)[xa.toNat - 1]'h0:Nat):Int) + 1 = ((placeF S.its ⟨xu,xa,xc,xp⟩:Nat):Int):=by simp [placeF,hc0,ha0,h0]
    have hp9:=hpmem _ (List.getElem_mem h0)
    repeat' (refine ob ?_ ?_;(first | trivial | omega | (simp only [inR];omega) | exact ble (by rfl) | exact SlR.some ‹_› (by omega));(conv=>whnf))
    rw [show (xa - 1).toNat = xa.toNat - 1 by omega]
    refine RdhP.g (hl.el (i:=xa.toNat - 1) (by omega)) rfl (W.mk ?_)
    (conv=>whnf)
    repeat' (refine ob ?_ ?_;(first | trivial | omega | (simp only [inR];omega) | exact ble (by rfl) | exact SlR.some ‹_› (by omega));(conv=>whnf))
    rw [hP]
    clear hP
    generalize placeF S.its ⟨xu,xa,xc,xp⟩ = pl at hplf
   rotate_left
   focus
    have hP:(0:Int) = ((placeF S.its ⟨xu,xa,xc,xp⟩:Nat):Int):=by simp [placeF,hc0,ha0]
    rw [show SV.c (S1.val (I 0)) = SV.v (I ((placeF S.its ⟨xu,xa,xc,xp⟩:Nat):Int)) by rw [← hP]]
    clear hP
    generalize placeF S.its ⟨xu,xa,xc,xp⟩ = pl at hplf
  all_goals
   repeat' (refine ob ?_ ?_;(first | trivial | omega | (simp only [inR];omega) | exact ble (by rfl) | exact SlR.some ‹_› (by omega));(conv=>whnf))
   rw [hsa,hsn,hsc]
   refine LoopP.of { α:=Nat,fr:=fun x=>[(0, .v (ptr b)),(3, .c (.ptr 1000 0)),(4, .v (.slice la ln lc)),(5, .v (I (S.ch + 1))),(6, .v (I (pl:Nat))),(80, .v (.slice sa cs.length sc)),(81, .v (I cs.length)),(82, .v (I x))],H:=fun _=>[(0, .heap p3),(1000, .cells .anon [.val (I xu), .val (I xa), .val (I xc), .val (.slice pa pn pc)] 133)],ok:=fun i _=>i≤cs.length∧∀ k (h:k < cs.length),k < i→protF d (S.its.getD cs[k] default) = false,m:=fun i=>cs.length - i }
    0 (HeadP.of [] ⟨rfl,rfl,rfl,rfl,rfl,rfl,rfl,rfl,trivial⟩ ⟨rfl,rfl,trivial⟩) ⟨Nat.zero_le _,fun k _ h=>by omega⟩ (fun _=>⟨rfl,rfl⟩) (fun (i:Nat) G4 hg4 hi=>W.mk ?_)
   obtain ⟨hi,hpre⟩:=hi
   dsimp only
   (conv=>whnf)
   refine IteP.mk (fun hlt=>W.mk ?_) (fun hge=>W.mk ?_)<;>(conv=>whnf)
   ·have hic:i < cs.length:=by omega
    have hcs4:=SlR.grow (G:=G3) (G':=G4) (fun _ _ h=>h) (hcs (by omega)) hg4
    have hat:cs[i] < S.its.length:=hpmem _ (hcutg i hic)
    have hv4:=ShV.grow hg4 hv
    obtain ⟨ib,c2,rest2,e2,hb2,hfit2,_⟩:=ShV.item hv4 hat
    simp only [Value.slice.injEq] at e2
    obtain ⟨rfl,_,rfl⟩:=e2
    have hgd:S.its.getD cs[i] default = S.its[cs[i]]:=by simp [hat]
    (refine ob ?_ ?_;(first | trivial | omega | (simp only [inR];omega) | exact ble (by rfl) | exact SlR.some ‹_› (by omega));(conv=>whnf))
    refine OblP.mk (hcs4.some (by omega)) (W.mk ?_)
    (conv=>whnf)
    refine RdhP.g (hcs4.el hic) rfl (W.mk ?_)
    (conv=>whnf)
    refine RdhP.h (ds:=[w,k, .slice (some ⟨ib,0,none⟩) S.its.length ic, .slice lva S.live.length lvc,I S.ch]) hv4.1 rfl (W.mk ?_)
    (conv=>whnf)
    refine OblP.mk (by omega) (W.mk ?_)
    (conv=>whnf)
    refine OblP.mk rfl (W.mk ?_)
    (conv=>whnf)
    refine RowH.cells (cs:=itE.f S.its[cs[i]]) hb2 (by have:=flat_at itE S.its rest2 hat;rw [show ao (some (⟨ib,0,none⟩:Addr)) + ((cs[i]:Nat):Int).toNat * 4 = cs[i] * itE.k by simp;rfl];exact this) rfl (W.mk ?_)
    (conv=>whnf)
    refine CallH.mk _ (prot91 b d S S.its[cs[i]]) body91 (W.mk ?_)
    (conv=>whnf)
    refine HpcP.mk ⟨rfl,w,k,_,_,hv4⟩ (fun v p5 G5 hg5 hq=>W.mk ?_)
    obtain ⟨rfl,rfl⟩:=hq
    cases hpr:protF d S.its[cs[i]] with
    | true =>
     (conv=>whnf)
     refine ForkP.mk (fun _=>W.mk ?_) (fun h=>by cases h)
     (conv=>whnf)
     exact CallH.pan ⟨203,_,_,_,_,rfl,rfl,refuse90,body90,rfl,fun q hq=>⟨q,rfl,by rw [hq];exact hkp3⟩⟩
    | false =>
     (conv=>whnf)
     refine ForkP.mk (fun h=>by cases h) (fun _=>W.mk ?_)
     (conv=>whnf)
     refine CallH.mk _ ask90 body90 (W.mk ?_)
     (conv=>whnf)
     refine HpcP.mk rfl (fun v p6 G6 hg6 hq=>W.mk ?_)
     obtain ⟨rfl,rfl⟩:=hq
     (conv=>whnf)
     (refine ob ?_ ?_;(first | trivial | omega | (simp only [inR];omega) | exact ble (by rfl) | exact SlR.some ‹_› (by omega));(conv=>whnf))
     refine RoundP.of (i + 1) (HeadP.of [] ⟨rfl,rfl,rfl,rfl,rfl,rfl,rfl,rfl,trivial⟩ ⟨rfl,rfl,trivial⟩) ⟨hic,fun k hk hki=>?_⟩ (by show cs.length - (i + 1) < cs.length - i;omega)
     rcases Nat.lt_succ_iff_lt_or_eq.1 hki with h | rfl
     ·exact hpre k hk h
     ·rw [hgd];exact hpr
   ·exfalso
    refine hnot ?_
    rw [List.all_eq_true]
    intro y hy
    obtain ⟨k,hk,rfl⟩:=List.mem_iff_getElem.1 hy
    rw [hpre k hk (by omega)];rfl
end Go.Proofs.YtefnikpoimaiiaaGreat

namespace Go.Proofs.YtefnikpoimaiiaaGreat
open Go.Pal Go.RowKit
set_option maxRecDepth 100000
abbrev refu:Value:=.iface 203 (.agg #[])
theorem idle68 (b4 b6:Nat) (w:World):CallsDIn (FW none) 0 Tryz.prog 85 #[ptr b4,ptr b6] .returning w fun e u' w'=>e = .returned (.tuple #[])∧u' = .returning∧w' = w:=by
 refine callsDIn_of_wpSIn Tryz.func85 rfl trivial fun c₀ cs hu=>?_
 apply wpSIn_seq
 apply wpSIn_region
 simp [wpOpsSIn,go_sem,recoverD,hu,Tryz.ntmps85,Exit.thenS,FW,Fence.wide]
 refine wpSIn_seq (wpSIn_seq ?_)
 apply wpSIn_region
 simp [wpOpsSIn,go_sem,recoverD,hu,Tryz.ntmps85,Exit.thenS,FW,Fence.wide]
 refine wpSIn_cond (t:=true) (by simp [Act.eval,Array.replicate]) ?_
 simp only [if_true]
 refine wpSIn_of_wpIn rfl (wpIn_ret ?_)
 cases c₀
 simp_all [bodyPostS,results,Tryz.results85,Exit.thenS]
theorem tas131 (w:World):(Instr.typeAssert refu 20 203 true).run Tryz.prog w = .ok (.tuple #[.agg #[], .bool true]) w:=by
 rfl
theorem catch68 (b4 b6:Nat) (w:World) (v4 v6:Value) (h4:w.heap[b4]? = some (.cells #[v4] 152 (0,0))) (h6:w.heap[b6]? = some (.cells #[v6] 33 (0,0))) :
  CallsDIn (FW none) 0 Tryz.prog 85 #[ptr b4,ptr b6] (.panicking [{ v:=refu,recovered:=false }]) w fun e u' w'=>e = .returned (.tuple #[])∧u' = .panicking [{ v:=refu,recovered:=true }]∧w' = ((w.alloc (.cells #[] 203)).setCell ⟨b4,0,none⟩ (.pointer none)).setCell ⟨b6,0,none⟩ (.int .i64 9):=by
 refine callsDIn_of_wpSIn Tryz.func85 rfl trivial fun c₀ cs hu=>?_
 apply wpSIn_seq
 apply wpSIn_region
 simp [wpOpsSIn,go_sem,recoverD,hu,Tryz.ntmps85,Exit.thenS,FW,Fence.wide]
 refine wpSIn_seq (wpSIn_seq ?_)
 apply wpSIn_region
 simp [wpOpsSIn,go_sem,recoverD,hu,Tryz.ntmps85,Exit.thenS,FW,Fence.wide]
 refine wpSIn_cond (t:=false) (by simp [Act.eval,Array.replicate]) ?_
 simp only [Bool.false_eq_true,if_false]
 refine wpSIn_of_wpIn rfl (wpIn_skip ?_)
 simp only [Exit.thenS]
 refine wpSIn_seq (wpSIn_seq ?_)
 apply wpSIn_region
 simp [wpOpsSIn,go_sem,recoverD,hu,Tryz.ntmps85,Exit.thenS,FW,Fence.wide,tas131]
 refine wpSIn_seq ?_
 apply wpSIn_region
 simp [wpOpsSIn,go_sem,recoverD,hu,Tryz.ntmps85,Exit.thenS,FW,Fence.wide]
 refine wpSIn_cond (t:=false) (by simp [Act.eval,Array.replicate]) ?_
 simp only [Bool.false_eq_true,if_false]
 refine wpSIn_of_wpIn rfl (wpIn_skip ?_)
 simp only [Exit.thenS]
 have l4:=(Array.getElem?_eq_some_iff.1 h4).1
 have l6:=(Array.getElem?_eq_some_iff.1 h6).1
 have e4:(w.alloc (.cells #[] 203)).heap[b4]? = some (.cells #[v4] 152 (0,0)):=by
  rw [show (w.alloc (.cells #[] 203)).heap = w.heap.push (.cells #[] 203) from rfl,Array.getElem?_push,if_neg (by omega)];exact h4
 have e6:(w.alloc (.cells #[] 203)).heap[b6]? = some (.cells #[v6] 33 (0,0)):=by
  rw [show (w.alloc (.cells #[] 203)).heap = w.heap.push (.cells #[] 203) from rfl,Array.getElem?_push,if_neg (by omega)];exact h6
 have hne:b4≠b6:=fun h=>by
  subst h
  rw [h4] at h6
  exact absurd (congrArg (fun o:Option Obj=>match o with | some (Obj.cells _ t _)=>t | _=>0) h6) (show ¬ (152:Nat) = 33 by decide)
 have c4:(w.alloc (.cells #[] 203)).cell? ⟨b4,0,none⟩ = some v4:=by simp [World.cell?,e4]
 have z4:(w.alloc (.cells #[] 203)).frozen? ⟨b4,0,none⟩ = false:=by simp [World.frozen?,e4]
 have e6':((w.alloc (.cells #[] 203)).setCell ⟨b4,0,none⟩ (.pointer none)).heap[b6]? = some (.cells #[v6] 33 (0,0)):=by
  simp only [World.setCell,Array.getElem?_modify]
  rw [if_neg hne];exact e6
 have c6:((w.alloc (.cells #[] 203)).setCell ⟨b4,0,none⟩ (.pointer none)).cell? ⟨b6,0,none⟩ = some v6:=by simp [World.cell?,e6']
 have z6:((w.alloc (.cells #[] 203)).setCell ⟨b4,0,none⟩ (.pointer none)).frozen? ⟨b6,0,none⟩ = false:=by simp [World.frozen?,e6']
 apply wpSIn_region
 simp [wpOpsSIn,go_sem,recoverD,hu,Tryz.ntmps85,Exit.thenS,FW,Fence.wide,c4,z4,c6,z6,bodyPostS,results,Tryz.results85]
end Go.Proofs.YtefnikpoimaiiaaGreat

namespace Go.Proofs.YtefnikpoimaiiaaGreat
open Go.Pal Go.RowKit
set_option maxRecDepth 100000
def seqL:Code→Code
 | .seq a _=>a
 | c=>c
def seqR:Code→Code
 | .seq _ b=>b
 | c=>c
def regO:Code→Array Oper
 | .region _ ops _=>ops
 | _=>#[]
def ptA (c:Code):Code:=.seq (seqL c) (seqL (seqR c))
def ptD (c:Code):Array Oper:=regO (seqL (seqR (seqR c)))
def ptR (c:Code):Code:=seqR (seqR (seqR c))
def irA42:IC :=
 .seq (.reg 1000 4 [o1 2 (.box 84 (.t 0)) 1000,o1 4 (.alloc 152 [.pointer .none]) 1001,o1 5 (.mv (.k (.int .i64 0))) 1002,o1 6 (.alloc 33 [.int .i64 0]) 1003]) (.block 0 (.seq (.reg 1004 4 [o1 11 (.load 2 .true (.t 2)) 1004,o1 12 (.call 84 [.t 11]) 1005,o1 13 (.un .not (.t 12)) 1006,o1 10 (.mv (.t 13)) 1007]) (.cond (.t 10) (.seq (.reg 1008 3 [o2 (.store 1 (.t 4) (.k (.pointer .none))) 1008,o1 5 (.mv (.k (.int .i64 0))) 1009,o2 (.store 1 (.t 6) (.k (.int .i64 1))) 1010]) .ret) (.seq (.reg 1011 4 [o1 15 (.mv (.t 1)) 1011,o1 16 (.len (.t 15)) 1012,o1 17 (.bin .gtr (.t 16) (.k (.int .i64 80))) 1013,o1 14 (.mv (.t 17)) 1014]) (.cond (.t 14) (.seq (.reg 1015 3 [o2 (.store 1 (.t 4) (.k (.pointer .none))) 1015,o1 5 (.mv (.k (.int .i64 0))) 1016,o2 (.store 1 (.t 6) (.k (.int .i64 3))) 1017]) .ret) .skip)))))
def x42:IOper:=o1 18 (.mkf 85 [] [.t 4, .t 6]) 1018
def irR42:IC :=
 .seq (.reg 1019 3 [o1 19 (.load 2 .true (.t 2)) 1019,o1 20 (.call 86 [.t 19]) 1020,o2 (.store 1 (.t 4) (.t 20)) 1021]) (.seq (.seq (.reg 1022 3 [o1 21 (.mv (.t 1)) 1022,o1 22 (.len (.t 21)) 1023,o1 23 (.mv (.k (.int .i64 0))) 1024]) (.block 1 (.loop (.seq (.reg 1025 1 [o1 24 (.bin .lss (.t 23) (.t 22)) 1025]) (.seq (.cond (.t 24) .skip (.exit 1)) (.seq (.block 2 (.seq (.reg 1026 6 [o1 25 (.mv (.t 23)) 1026,
 o1 26 (.iaddr 4 (.t 21) (.t 23)) 1027,o1 27 (.load 4 .true (.t 26)) 1028,o1 8 (.alloc 133 [.int .i64 0, .int .i64 0, .int .i64 0, .slice .none 0 0]) 1029,o1 7 (.mv (.t 25)) 1030,o2 (.store 4 (.t 8) (.t 27)) 1031]) (.seq (.reg 1032 2 [o1 28 (.mv (.t 7)) 1032,o1 5 (.mv (.t 28)) 1033]) (.seq (.reg 1034 3 [o1 29 (.load 1 .false (.t 4)) 1034,o1 30 (.mkf 87 [.t 29] []) 1035,o1 9 (.mv (.t 30)) 1036]) (.seq (.seq (.reg 1037 3 [o1 31 (.faddr 0 (.t 8)) 1037,o1 32 (.load 1 .false (.t 31)) 1038,o1 33 (.bin .neq (.t 32) (.k (.int .i64 0))) 1039]) (.cond (.t 33) (.reg 1040
 3 [o1 34 (.load 1 .false (.t 4)) 1040,o1 35 (.mkf 88 [.t 34] []) 1041,o1 9 (.mv (.t 35)) 1042]) .skip)) (.reg 1043 3 [o1 36 (.mv (.t 9)) 1043,o1 37 (.load 4 .true (.t 8)) 1044,o1 38 (.callv (.t 36) [.t 37]) 1045])))))) (.reg 1046 2 [o1 39 (.bin .add (.t 23) (.k (.int .i64 1))) 1046,o1 23 (.mv (.t 39)) 1047]))))))) (.seq (.reg 1048 4 [o1 40 (.load 1 .false (.t 4)) 1048,o2 (.store 1 (.t 4) (.t 40)) 1049,o1 5 (.mv (.k (.int .i64 0))) 1050,o2 (.store 1 (.t 6) (.k (.int .i64 0))) 1051]) .ret))
def rs42:List IRes:=[.cell 4 1 .false, .tmp 5, .cell 6 1 .false]
theorem body42:HasBody Tryz.prog 57:=hasBody_of (by kernel_rfl)
theorem shape42:Tryz.f57.body = some (.seq (seqL (Tryz.f57.body.getD .skip)) (.seq (seqL (seqR (Tryz.f57.body.getD .skip))) (.seq (.region 5 (ptD (Tryz.f57.body.getD .skip)) false) (ptR (Tryz.f57.body.getD .skip))))):=by kernel_rfl
theorem compA42:compC Tryz.prog Tryz.f57.ntmps (ptA (Tryz.f57.body.getD .skip)) 1000 = some (irA42,1018):=by kernel_rfl
theorem compR42:compC Tryz.prog Tryz.f57.ntmps (ptR (Tryz.f57.body.getD .skip)) 1019 = some (irR42,1052):=by kernel_rfl
theorem ops42:∃ o1 o2,(ptD (Tryz.f57.body.getD .skip)).toList = [o1,o2]∧compList Tryz.prog Tryz.f57.ntmps (ptD (Tryz.f57.body.getD .skip)) [o1] 1018 = some [x42]∧o2.op = .defer ⟨.value (.tmp 18), #[], #[]⟩∧o2.guard = none∧o2.dst = none:=by
 refine ⟨(ptD (Tryz.f57.body.getD .skip)).toList.headD default,(ptD (Tryz.f57.body.getD .skip)).toList.tail.headD default, ?_, ?_, ?_, ?_, ?_⟩<;>kernel_rfl
theorem res42:compRes Tryz.prog Tryz.f57.results.toList = some rs42:=by kernel_rfl
theorem wpIn_monoQ {F:Fence} {n:Nat} {P:Program} {o:Oper} {a:Act} {w:World} {K:Act→World→Prop} {Q Q':Exit→Act→World→Prop} (h:∀ e a w,e≠.normal→Q e a w→Q' e a w)
  (hh:o.wpIn F n P a w K Q):o.wpIn F n P a w K Q':=by
 unfold Oper.wpIn at *
 refine ⟨hh.1, ?_⟩
 have hh:=hh.2
 generalize (o.semAt F.round a.eval).run P w = r at *
 have hl:LetsOut Q→LetsOut Q':=fun ⟨a,w,hq⟩=>⟨a,w,h _ _ _ (by simp) hq⟩
 cases r with
 | ok x w' =>
  cases x<;>simp only [Oper.uponIn] at hh ⊢ <;>
   first
    | exact hh
    | exact ⟨hh.1,CallsIn.mono hh.2 (fun e w'' he=>by cases e<;>first | exact he | exact h _ _ _ (by simp) he | exact hl he)⟩
    | exact ⟨hh.1,RoundIn.mono hh.2 (fun e w'' he=>by cases e<;>first | exact he | exact h _ _ _ (by simp) he | exact hl he)⟩
 | halt x w'=>cases x<;>simp only [Oper.uponIn] at hh ⊢<;>first | exact h _ _ _ (by simp) hh | exact hh
end Go.Proofs.YtefnikpoimaiiaaGreat

namespace Go.Proofs.YtefnikpoimaiiaaGreat
open Go.Pal Go.RowKit
set_option maxRecDepth 100000
theorem SatE.defer {t:TypeId} {C:St→Prop} {ln:Nat→Prop} {G:Hp} {W0 W:World} {n bd:Nat} {M0:Nat→Prop} {E0:Nat→Value} {σ:St} {a:Act} {fv:Fn} {cap:Array Value} (hs:SatE (baseEnv ln G W0) [] n bd M0 E0 σ a W) :
  SatE (panEnv t C ln G W0) [⟨.fn fv cap, #[]⟩] n bd M0 E0 σ { a with defers:=[⟨.fn fv cap, #[]⟩] } W:=by
 obtain ⟨⟨w,l,ds⟩,G0,M,E,h0,h1,h2,h3,h4,h5,h6⟩:=hs.ex
 have h0:ds = []:=h0
 subst h0
 have hat:=baseEnv_at.1 h4.at_
 refine SatE.of (r:=⟨w,l,[⟨.fn fv cap, #[]⟩]⟩) (G0:=G0) h1 h2 h3 ⟨?_,h4.ln,h4.sub,⟨fun d hd=>?_,fun D ⟨d,hd,e⟩=>?_,List.pairwise_singleton _ _⟩⟩ h5 ⟨⟨⟨h6.sim.below.os,h6.sim.below.tape,h6.sim.below.output,h6.sim.below.size,h6.sim.below.block⟩,h6.sim.sub,h6.sim.newG,fun h ob e=>OB.ok_root (h6.sim.own h ob e) (fun b hb=>(OB.blk (h6.sim.own h ob e) hb).1),h6.sim.pub,h6.sim.priv,h6.sim.inj⟩,h6.mfr,h6.mH,h6.fr,h6.size,rfl⟩
 ·refine baseEnv_at.2 ⟨hat.1,hat.2.1,fun b hb=>hat.2.2 b ?_⟩
  rcases hb with hb | ⟨d,hd,e⟩
  ·exact .inl hb
  ·simp at hd;subst hd;cases e
 ·simp at hd;subst hd
  exact .inr ⟨by simp [panEnv],_,_,_,rfl⟩
 ·simp at hd;subst hd;cases e
theorem results42 (b4 b6:Nat) (tmps:Array Value) (w:World) (v4 v5 v6:Value) (h4:tmps.getD 4 undef = ptr b4) (h5:tmps.getD 5 undef = v5) (h6:tmps.getD 6 undef = ptr b6) (c4:w.heap[b4]? = some (.cells #[v4] 152 (0,0))) (c6:w.heap[b6]? = some (.cells #[v6] 33 (0,0))) :
  (results Tryz.f57 tmps).run Tryz.prog w = .ok (.tuple #[v4,v5,v6]) w:=by
 have e4:(loadVar 152 ⟨b4,0,none⟩).run Tryz.prog w = .ok v4 w:=by
  have:=run_loadAt' (P:=Tryz.prog) (W:=w) (t:=152) (n:=1) (g:=false) (by kernel_rfl) (by kernel_rfl) (.inr rfl) (b:=b4) (off:=0) (cs:=[v4]) rfl (fun j v hj=>by
   cases j with
   | zero=>cases hj;simp [World.cell?,c4]
   | succ j=>simp at hj)
  simpa [Instr.loadAt,Instr.sureAddr,mkV] using this
 have e6:(loadVar 33 ⟨b6,0,none⟩).run Tryz.prog w = .ok v6 w:=by
  have:=run_loadAt' (P:=Tryz.prog) (W:=w) (t:=33) (n:=1) (g:=false) (by kernel_rfl) (by kernel_rfl) (.inr rfl) (b:=b6) (off:=0) (cs:=[v6]) rfl (fun j v hj=>by
   cases j with
   | zero=>cases hj;simp [World.cell?,c6]
   | succ j=>simp at hj)
  simpa [Instr.loadAt,Instr.sureAddr,mkV] using this
 have hr:Tryz.f57.results.toList = [.cell 4 152, .tmp 5, .cell 6 33]:=by kernel_rfl
 have:=results_run (P:=Tryz.prog) (W:=w) (fn:=Tryz.f57) (tmps:=tmps) (vs:=[v4,v5,v6]) (by
  rw [hr]
  simp only [List.mapM_cons,List.mapM_nil,resSem,h4,h5,h6,asAddr,ptr]
  simp [e4,e6])
 exact this
abbrev HpEnd (p G:Hp) (W:World) (K:Value→Hp→Hp→Prop) (e:Ending) (W':World):Prop:=∃ v p' G',e = .returned v∧K v p' G'∧(∀ b o,p' b = some o→W'.heap[b]? = some o∧G' b = none∧((∃ o,p b = some o)∨W.heap.size≤b))∧Grow G G'∧Sub G' W'∧(∀ b o,G' b = some o→G b = some o∨(∃ o,p b = some o)∨W.heap.size≤b)∧Beneath ⟨W,dom p,[]⟩ W'
theorem glueG {P:Program} (T:Tab P) {f:FuncId} {fn:Func} {R0 B R:Code} {rid:Nat} {D:Array Oper} {o1 o2:Oper} {icA icR:IC} {x1:IOper} {bA bR td:Nat} {rs:List IRes} {t:TypeId}
  (hf:P.funcs[f]? = some fn) (hb:fn.body = some (.seq R0 (.seq B (.seq (.region rid D false) R)))) (hA:compC P fn.ntmps (.seq R0 B) 1000 = some (icA,bA)) (hO:D.toList = [o1,o2]) (hO1:compList P fn.ntmps D [o1] bA = some [x1]) (hR:compC P fn.ntmps R (bA + 1) = some (icR,bR))
  (hr:compRes P fn.results.toList = some rs) (hd:o2.op = .defer ⟨.value (.tmp td), #[], #[]⟩) (hg:o2.guard = none) (hdst:o2.dst = none) (hnA:noRange icA = true) (hnR:noRange icR = true)
  {args:List Value} {p G:Hp} {W:World} {K:Value→Hp→Hp→Prop} (hn:args.length≤fn.ntmps) (hsub:Sub G W) (hp:∀ b o,p b = some o→W.heap[b]? = some o∧G b = none) {Good Bad:FuncId→Array Value→St→Prop}
  (h:vc P T.get (.no []) icA 1000 ⟨argFr args,heapS p,G⟩ fun o bd σ=>match o with
   | .ret=>finHp rs σ K
   | .norm=>cond (Nat.ble bd bA) (vcSeq P T.get (.no []) bA [x1] σ fun σ1=>∃ g cap, σ1.fr td = .v (.func (.func g) #[] cap) ∧
     vc P T.get (.pan t (Bad g cap)) icR (bA + 1) σ1 fun o _ σ=>match o with
      | .norm=>Good g cap σ
      | .ret=>Good g cap σ
      | .exit _=>False) False
   | .exit _=>False)
  (hgood:∀ g cap bd σ' a' W',Good g cap σ'→Grow G σ'.G→SatE (panEnv t (Bad g cap) (dom p) G W) [⟨.fn (.func g) cap, #[]⟩] fn.ntmps bd (fun _=>False) (fun _=>undef) σ' a' W'→LeavesInM (FW none) 0 P fn a'.tmps (HpEnd p G W K) [⟨.fn (.func g) cap, #[]⟩] .returning W')
  (hbad:∀ g cap bd σ' a' W',Bad g cap σ'→Grow G σ'.G→SatE (panEnv t (Bad g cap) (dom p) G W) [⟨.fn (.func g) cap, #[]⟩] fn.ntmps bd (fun _=>False) (fun _=>undef) σ' a' W'→LeavesInM (FW none) 0 P fn a'.tmps (HpEnd p G W K) [⟨.fn (.func g) cap, #[]⟩] (.panicking [{ v:=.iface t (.agg #[]),recovered:=false,goexit:=false }]) W') :
  Calls P f args.toArray W (HpEnd p G W K):=by
 have hs:SatE (baseEnv (dom p) G W) [] fn.ntmps 1000 (fun _=>False) (fun _=>undef) ⟨argFr args,heapS p,G⟩ { tmps:=args.toArray++Array.replicate (fn.ntmps - args.toArray.size) undef,defers:=[] } W :=
  SatE.of (r:=⟨W,dom p,[]⟩) (G0:=G) (fun _ h=>h) (fun _ h=>h.elim) (Agree.refl _ _) ⟨baseEnv_at.2 ⟨Beneath.refl ⟨W,_,[]⟩,fun b o h=>.inl h,fun b h=>h.elim (fun h=>.inr h.1) (fun ⟨d,hd,_⟩=>by cases hd)⟩,fun b ⟨o,hb⟩=>(Array.getElem?_eq_some_iff.1 (hp b o hb).1).1,hsub,marks_start⟩ (Grow.refl _) (sat_startHp hn hsub hp)
 refine (callsIn_wide (n:=0)).1 (callsIn_of_wp_marks hf hb trivial ?_)
 -- a return ahead of the defer
 have early:∀ {bd:Nat} {σ':St} {a':Act} {W':World},finHp rs σ' K→Grow G σ'.G→SatE (baseEnv (dom p) G W) [] fn.ntmps bd (fun _=>False) (fun _=>undef) σ' a' W'→LeavesInM (FW none) 0 P fn a'.tmps (HpEnd p G W K) a'.defers .returning W':=fun {bd σ' a' W'} hk hgr hs'=>by
  have hds:a'.defers = []:=by obtain ⟨M,E,e0,_⟩:=hs'.now (baseEnv_ok (P:=P));exact e0
  rw [hds]
  refine hs'.leave (baseEnv_ok (P:=P)) rfl rfl ?_
  intro a2 W2 ha2 hs2
  obtain ⟨M,E,e0,h1,h2,h3,h4,h5⟩:=hs2.now (baseEnv_ok (P:=P))
  rw [e0] at h4 h5
  rw [← ha2]
  obtain ⟨vs,H',G',r1,⟨p',hhp,k1⟩,g1,hg1⟩:=resN_sound h5 hr hk
  obtain ⟨q1,q2⟩:=h4.now (baseEnv_ok (P:=P)) g1 hg1.sim
  exact ⟨_,results_run r1,hp_fin (sv:=σ'.fr POS) (M:=M) (E:=E) hhp k1 (hgr.trans g1) ⟨q2,q1.at_⟩⟩
 simp only [compC] at hA
 split at hA
 case h_2=>cases hA
 rename_i i1 b1 hc1
 split at hA
 case h_2=>cases hA
 rename_i i2 b2 hc2
 cases hA
 simp only [noRange,Bool.and_eq_true] at hnA
 simp only [vc] at h
 refine wpIn_seq (vc_sound T R0 (baseEnv_ok (P:=P)) (rd:=none) (pb:=[]) hc1 (Nat.le_refl _) (fun _ h=>h.elim) (.inl rfl) hs h (fun t C ht=>by cases ht) ?_)
 intro o bd σ1 a1 W1 ds1 k0 hk hb1 hb2 hg1 hs1
 have k0:=k0 hnA.1
 subst k0
 cases o with
 | exit id=>exact hk.elim
 | ret=>exact early hk hg1 hs1
 | norm =>
  refine wpIn_seq (vc_sound T B (baseEnv_ok (P:=P)) (rd:=none) (pb:=[]) hc2 hb2 (fun _ h=>h.elim) (.inl rfl) hs1 hk (fun t C ht=>by cases ht) ?_)
  intro o bd' σ2 a2 W2 ds2 k0 hk hb3 hb4 hg2 hs2
  have k0:=k0 hnA.2
  subst k0
  cases o with
  | exit id=>exact hk.elim
  | ret=>exact early hk (hg1.trans hg2) hs2
  | norm =>
   have hk:cond (Nat.ble bd' bA) _ False:=hk
   have hble:Nat.ble bd' bA = true:=Nat.ble_eq_true_of_le hb4
   rw [hble] at hk
   have hk:vcSeq P T.get (.no []) bA [x1] σ2 _:=hk
   refine wpIn_seq (wpIn_region_list ?_)
   rw [hO]
   have key:=ops_sound T (baseEnv_ok (P:=P)) (rd:=none) (nn:=0) (pb:=[]) (Q:=fun e a w=>e = .normal∧∃ σ3,(∃ g cap, σ3.fr td = .v (.func (.func g) #[] cap)∧vc P T.get (.pan t (Bad g cap)) icR (bA + 1) σ3 fun o _ σ=>match o with
      | .norm=>Good g cap σ
      | .ret=>Good g cap σ
      | .exit _=>False)∧Grow σ2.G σ3.G∧SatE (baseEnv (dom p) G W) [] fn.ntmps (bA + 1) (fun _=>False) (fun _=>undef) σ3 a w) hO1 (hs2.up hb4) hk (fun t C ht=>by cases ht) (fun σ3 a3 W3 k1 k2 k3=>⟨rfl, σ3,k1,k2,k3⟩)
   have next:∀ a3 W3,(∃ σ3,(∃ g cap, σ3.fr td = .v (.func (.func g) #[] cap)∧vc P T.get (.pan t (Bad g cap)) icR (bA + 1) σ3 fun o _ σ=>match o with
      | .norm=>Good g cap σ
      | .ret=>Good g cap σ
      | .exit _=>False)∧Grow σ2.G σ3.G∧SatE (baseEnv (dom p) G W) [] fn.ntmps (bA + 1) (fun _=>False) (fun _=>undef) σ3 a3 W3)→wpListIn (FW none) 0 P D (Exit.then (R.wpIn (FW none) 0 P (bodyPostM (FW none) 0 P fn (HpEnd p G W K))) (bodyPostM (FW none) 0 P fn (HpEnd p G W K))) [o2] a3 W3:=by
    rintro a3 W3 ⟨σ3,⟨g,cap,hfr,hvc⟩,hg3,hs3⟩
    obtain ⟨M,E,e0,m1,m2,m3,m4,m5⟩:=hs3.now (baseEnv_ok (P:=P))
    have hev:a3.eval (.tmp td) = .func (.func g) #[] cap:=by
     have:=m5.fr td
     rw [hfr] at this
     exact this
    have hrun:(o2.semAt (FW none).round a3.eval).run P W3 = .ok (.defer ⟨.fn (.func g) cap, #[]⟩) W3:=by
     show (execOp a3.eval o2).run P W3 = _
     simp [execOp,hd,resolve,hev,Deferred.ofValue]
    have hgrow:Grow G σ3.G:=hg1.trans (hg2.trans hg3)
    simp only [wpListIn]
    rw [if_pos (by simp [Region.wanted,hg])]
    refine ⟨fun _ _=>trivial, ?_⟩
    rw [hrun,Oper.uponIn_defer,hdst,e0]
    show R.wpIn (FW none) 0 P (bodyPostM (FW none) 0 P fn (HpEnd p G W K)) ({ a3 with defers:=[⟨.fn (.func g) cap, #[]⟩] }) W3
    have hs4:=Go.Proofs.YtefnikpoimaiiaaGreat.SatE.defer (t:=t) (C:=Bad g cap) (fv:=.func g) (cap:=cap) hs3
    refine vc_sound T R (panEnv_ok (P:=P)) (rd:=none) (pb:=[]) hR (Nat.le_refl _) (fun _ h=>h.elim) (.inl rfl) hs4 hvc ?_ ?_
    ·intro t' C' ht bd4 σ4 a4 W4 ds4 ch k0 k9 k1 k2 k3 _ _
     cases ht
     have k0:=k0 hnR
     subst k0
     obtain ⟨M',E',e0',_⟩:=k3.now (panEnv_ok (P:=P))
     have k1:ch = _:=k1
     subst k1
     show LeavesInM (FW none) 0 P fn a4.tmps (HpEnd p G W K) a4.defers (.panicking _) W4
     rw [e0']
     exact hbad g cap bd4 σ4 a4 W4 k9 (hgrow.trans k2) k3
    ·intro o bd4 σ4 a4 W4 ds4 k0 hk4 _ _ hg4 hs5
     have k0:=k0 hnR
     subst k0
     obtain ⟨M',E',e0',_⟩:=hs5.now (panEnv_ok (P:=P))
     cases o with
     | exit id=>exact hk4.elim
     | norm =>
      show LeavesInM (FW none) 0 P fn a4.tmps (HpEnd p G W K) a4.defers .returning W4
      rw [e0']
      exact hgood g cap bd4 σ4 a4 W4 hk4 (hgrow.trans hg4) hs5
     | ret =>
      show LeavesInM (FW none) 0 P fn a4.tmps (HpEnd p G W K) a4.defers .returning W4
      rw [e0']
      exact hgood g cap bd4 σ4 a4 W4 hk4 (hgrow.trans hg4) hs5
   simp only [wpListIn] at key
   rw [wpListIn]
   split at key
   ·rename_i hw
    rw [if_pos hw]
    exact wpIn_monoQ (fun e a w hne h=>absurd h.1 hne) (Oper.wpIn_mono (fun a3 W3 h=>next a3 W3 h.2) key)
   ·rename_i hw
    rw [if_neg hw]
    exact ⟨key.1,next _ _ key.2.2⟩
end Go.Proofs.YtefnikpoimaiiaaGreat

namespace Go.Proofs.YtefnikpoimaiiaaGreat
open Go.Pal Go.RowKit
set_option maxRecDepth 100000
def Last42 (A:Hp→Value→Value→Value→Nat→Nat→Hp→Prop) (g:FuncId) (cap:Array Value) (σ:St):Prop:=g = 85∧∃ q b4 b6 v4 v5 v6,cap = #[ptr b4,ptr b6]∧σ.H 0 = some (.heap q)∧σ.fr 4 = .v (ptr b4)∧σ.fr 5 = .v v5∧σ.fr 6 = .v (ptr b6)∧q b4 = some (.cells #[v4] 152 (0,0))∧q b6 = some (.cells #[v6] 33 (0,0))∧A q v4 v5 v6 b4 b6 σ.G
abbrev Good42 (K:Value→Hp→Hp→Prop):FuncId→Array Value→St→Prop:=Last42 fun q v4 v5 v6 _ _ G=>K (.tuple #[v4,v5,v6]) q G
abbrev Bad42 (K:Value→Hp→Hp→Prop):FuncId→Array Value→St→Prop:=Last42 fun q _ v5 _ b4 b6 G=>K (.tuple #[.pointer none,v5,I 9]) (upd (upd q b4 none) b6 none) G
section
variable {p G:Hp} {W:World} {K:Value→Hp→Hp→Prop} {t:TypeId} {C:St→Prop}
theorem now42 {ds:List Deferred} {n bd:Nat} {σ:St} {a:Act} {W':World} (hs:SatE (panEnv t C (dom p) G W) ds n bd (fun _=>False) (fun _=>undef) σ a W') :
  Beneath ⟨W,dom p,[]⟩ W'∧(∀ b o, σ.G b = some o→G b = some o∨(∃ o,p b = some o)∨W.heap.size≤b)∧Sub σ.G W'∧(∀ i w, σ.fr i = .v w→a.tmps.getD i undef = w)∧∀ q, σ.H 0 = some (.heap q)→∀ b o,q b = some o→W'.heap[b]? = some o∧σ.G b = none∧((∃ o,p b = some o)∨W.heap.size≤b):=by
 obtain ⟨M,E,e0,q1,q2,q3,q4,q5⟩:=hs.now (panEnv_ok (P:=Tryz.prog))
 obtain ⟨hat,hat2,hat3⟩:=baseEnv_at.1 q4.at_
 refine ⟨hat,fun b o e=>(hat2 b o e).imp id fun h=>h.elim .inr .inl,q5.sim.sub,fun i w e=>?_,fun q kq1 b o e=>?_⟩
 ·have:=q5.fr i
  rw [e] at this
  exact this
 ·have hn:=q5.sim.priv 0 _ kq1 rfl b ⟨o,e⟩
  exact ⟨(q5.sim.own 0 _ kq1 b o e).2,hn,(hat3 b (.inl ⟨⟨0,_,kq1,⟨o,e⟩⟩,hn⟩)).symm⟩
theorem good42 {g:FuncId} {cap:Array Value} {n bd:Nat} {σ:St} {a:Act} {W':World} (h:Good42 K g cap σ) (hg:Grow G σ.G) (hs:SatE (panEnv t C (dom p) G W) [⟨.fn (.func g) cap, #[]⟩] n bd (fun _=>False) (fun _=>undef) σ a W') :
  LeavesInM (FW none) 0 Tryz.prog Tryz.f57 a.tmps (HpEnd p G W K) [⟨.fn (.func g) cap, #[]⟩] .returning W':=by
 obtain ⟨rfl,q,b4,b6,v4,v5,v6,rfl,h0,h4,h5,h6,c4,c6,hk⟩:=h
 obtain ⟨n1,n2,n3,n4,n5⟩:=now42 hs
 refine ⟨by simp, .inr ⟨(fun h=>by cases h),_,_,85, #[ptr b4,ptr b6],rfl,rfl,fun _ _=>trivial,(idle68 b4 b6 W').mono fun e u' w' ⟨k1,k2,k3⟩=>?_⟩⟩
 subst k1;subst k2;subst k3
 exact ⟨_,results42 b4 b6 a.tmps w' v4 v5 v6 (n4 4 _ h4) (n4 5 _ h5) (n4 6 _ h6) (n5 q h0 b4 _ c4).1 (n5 q h0 b6 _ c6).1,_,q, σ.G,rfl,hk,n5 q h0,hg,n3,n2,n1⟩
theorem bad42 {g:FuncId} {cap:Array Value} {n bd:Nat} {σ:St} {a:Act} {W':World} (h:Bad42 K g cap σ) (hg:Grow G σ.G) (hs:SatE (panEnv t C (dom p) G W) [⟨.fn (.func g) cap, #[]⟩] n bd (fun _=>False) (fun _=>undef) σ a W') :
  LeavesInM (FW none) 0 Tryz.prog Tryz.f57 a.tmps (HpEnd p G W K) [⟨.fn (.func g) cap, #[]⟩] (.panicking [{ v:=.iface 203 (.agg #[]),recovered:=false,goexit:=false }]) W':=by
 obtain ⟨rfl,q,b4,b6,v4,v5,v6,rfl,h0,h4,h5,h6,c4,c6,hk⟩:=h
 obtain ⟨n1,n2,n3,n4,n5⟩:=now42 hs
 obtain ⟨m4,g4,o4⟩:=n5 q h0 b4 _ c4
 obtain ⟨m6,g6,o6⟩:=n5 q h0 b6 _ c6
 refine ⟨by simp, .inr ⟨(fun h=>by cases h),_,_,85, #[ptr b4,ptr b6],rfl,rfl,fun _ _=>trivial,(catch68 b4 b6 W' v4 v6 m4 m6).mono fun e u' w' ⟨k1,k2,k3⟩=>?_⟩⟩
 subst k1;subst k2
 have hne:b4≠b6:=fun h=>by
  subst h
  rw [c4] at c6
  exact absurd (congrArg (fun o:Option Obj=>match o with | some (Obj.cells _ t _)=>t | _=>0) c6) (show ¬ (152:Nat) = 33 by decide)
 have l4:=(Array.getElem?_eq_some_iff.1 m4).1
 have l6:=(Array.getElem?_eq_some_iff.1 m6).1
 have hoth:∀ b,b < W'.heap.size→b≠b4→b≠b6→w'.heap[b]? = W'.heap[b]?:=fun b hb h1 h2=>by
  rw [k3]
  simp only [World.setCell,Array.getElem?_modify]
  rw [if_neg (Ne.symm h2),if_neg (Ne.symm h1),show (W'.alloc (.cells #[] 203)).heap = W'.heap.push (.cells #[] 203) from rfl,Array.getElem?_push,if_neg (by omega)]
 have hsz:w'.heap.size = W'.heap.size + 1:=by
  rw [k3]
  simp only [World.setCell,Array.size_modify,show (W'.alloc (.cells #[] 203)).heap = W'.heap.push (.cells #[] 203) from rfl,Array.size_push]
 have w4:w'.heap[b4]? = some (.cells #[.pointer none] 152 (0,0)):=by
  rw [k3]
  simp only [World.setCell,Array.getElem?_modify]
  rw [if_neg (Ne.symm hne),if_pos trivial,show (W'.alloc (.cells #[] 203)).heap = W'.heap.push (.cells #[] 203) from rfl,Array.getElem?_push,if_neg (by omega),m4]
  rfl
 have w6:w'.heap[b6]? = some (.cells #[I 9] 33 (0,0)):=by
  rw [k3]
  simp only [World.setCell,Array.getElem?_modify]
  rw [if_pos trivial,if_neg hne,show (W'.alloc (.cells #[] 203)).heap = W'.heap.push (.cells #[] 203) from rfl,Array.getElem?_push,if_neg (by omega),m6]
  rfl
 have hse:settle (.panicking [{ v:=refu,recovered:=true }]) = .returning:=by simp [settle]
 show LeavesInM (FW none) 0 Tryz.prog Tryz.f57 a.tmps (HpEnd p G W K) [] (settle (.panicking [{ v:=refu,recovered:=true }])) w'
 rw [hse]
 refine ⟨_,results42 b4 b6 a.tmps w' (.pointer none) v5 (I 9) (n4 4 _ h4) (n4 5 _ h5) (n4 6 _ h6) w4 w6,_,upd (upd q b4 none) b6 none, σ.G,rfl,hk,fun b o e=>?_,hg,fun b o e=>?_,n2, ?_⟩
 ·have e6:b≠b6:=fun h=>by rw [h,upd_same] at e;cases e
  rw [upd_other _ _ e6] at e
  have e4:b≠b4:=fun h=>by rw [h,upd_same] at e;cases e
  rw [upd_other _ _ e4] at e
  obtain ⟨r1,r2,r3⟩:=n5 q h0 b o e
  exact ⟨(hoth b (Array.getElem?_eq_some_iff.1 r1).1 e4 e6).trans r1,r2,r3⟩
 ·have r1:=n3 b o e
  exact (hoth b (Array.getElem?_eq_some_iff.1 r1).1 (fun h=>by rw [h,g4] at e;cases e) (fun h=>by rw [h,g6] at e;cases e)).trans r1
 ·have hos:w'.os = W'.os∧w'.tape = W'.tape∧w'.output = W'.output:=by rw [k3];exact ⟨rfl,rfl,rfl⟩
  refine ⟨hos.1.trans n1.os,hos.2.1.trans n1.tape,hos.2.2.trans n1.output,Nat.le_trans n1.size (by omega),fun k hk hn=>?_⟩
  have hk':k < W.heap.size:=hk
  have hlt:k < W'.heap.size:=Nat.lt_of_lt_of_le hk n1.size
  refine (hoth k hlt (fun h=>?_) (fun h=>?_)).trans (n1.block k hk hn)
  ·subst h;rcases o4 with h | h
   ·exact hn h
   ·omega
  ·subst h;rcases o6 with h | h
   ·exact hn h
   ·omega
end
theorem glue42 (T:Tab Tryz.prog) {args:List Value} {p G:Hp} {W:World} {K:Value→Hp→Hp→Prop} (hn:args.length≤Tryz.f57.ntmps) (hsub:Sub G W) (hp:∀ b o,p b = some o→W.heap[b]? = some o∧G b = none)
  (h:vc Tryz.prog T.get (.no []) irA42 1000 ⟨argFr args,heapS p,G⟩ fun o bd σ=>match o with
   | .ret=>finHp rs42 σ K
   | .norm=>cond (Nat.ble bd 1018) (vcSeq Tryz.prog T.get (.no []) 1018 [x42] σ fun σ1=>∃ g cap, σ1.fr 18 = .v (.func (.func g) #[] cap) ∧
     vc Tryz.prog T.get (.pan 203 (Bad42 K g cap)) irR42 1019 σ1 fun o _ σ=>match o with
      | .norm=>Good42 K g cap σ
      | .ret=>Good42 K g cap σ
      | .exit _=>False) False
   | .exit _=>False) :
  Calls Tryz.prog 57 args.toArray W (HpEnd p G W K):=by
 obtain ⟨o1,o2,hO,hO1,hd,hg,hdst⟩:=ops42
 exact glueG T (f:=57) Tryz.func57 shape42 compA42 hO hO1 compR42 res42 hd hg hdst rfl rfl hn hsub hp h (fun g cap bd σ' a' W' h1 h2 h3=>good42 h1 h2 h3) (fun g cap bd σ' a' W' h1 h2 h3=>bad42 h1 h2 h3)
theorem hp42 (T:Tab Tryz.prog) {pre:List Value→Hp→Hp→Prop} {post:List Value→Hp→Value→Hp→Hp→Prop} (hn:∀ args p G,pre args p G→args.length≤Tryz.f57.ntmps)
  (hm:∀ args p v p' G G',Grow G G'→post args p v p' G→post args p v p' G')
  (h:∀ args p G,pre args p G→vc Tryz.prog T.get (.no []) irA42 1000 ⟨argFr args,heapS p,G⟩ fun o bd σ=>match o with
   | .ret=>finHp rs42 σ (post args p)
   | .norm=>cond (Nat.ble bd 1018) (vcSeq Tryz.prog T.get (.no []) 1018 [x42] σ fun σ1=>∃ g cap, σ1.fr 18 = .v (.func (.func g) #[] cap) ∧
     vc Tryz.prog T.get (.pan 203 (Bad42 (post args p) g cap)) irR42 1019 σ1 fun o _ σ=>match o with
      | .norm=>Good42 (post args p) g cap σ
      | .ret=>Good42 (post args p) g cap σ
      | .exit _=>False) False
   | .exit _=>False):Sound Tryz.prog 57 id (.hp pre post) :=
 ⟨hm,fun args p G W hs hp hpre=>glue42 T (hn args p G hpre) hs hp (h args p G hpre)⟩
end Go.Proofs.YtefnikpoimaiiaaGreat

namespace Go.Proofs.YtefnikpoimaiiaaGreat
open Go.Pal Go.RowKit
set_option maxRecDepth 100000
theorem goneF_len (n:Int):∀ (ps:List Nat) (l:List It),(goneF l n ps).length = l.length
 | [],l=>rfl
 | i :: ps,l=>by
  have:=goneF_len n ps (l.set i { l.getD i default with g:=n })
  rw [List.length_set] at this
  exact this
def Sh.cnt (S:Sh) (i:Nat):Prop:=S.its.length≤60 + 4 * i∧S.live.length≤i∧0≤S.ch∧S.ch≤i
theorem Sh.cnt.small {S:Sh} {i:Nat} (h:S.cnt i) (hi:i≤80):S.small:=by
 obtain ⟨h1,h2,h3,h4⟩:=h
 exact ⟨by omega,by omega,h3,by omega⟩
theorem cnt_step {d:Dr} {S S':Sh} {x:Sp} {i:Nat} (h:S.cnt i) (hs:stepF d S x = some S'):S'.cnt (i + 1):=by
 obtain ⟨h1,h2,h3,h4⟩:=h
 unfold stepF at hs
 split at hs
 ·unfold changeF at hs
  split at hs
  ·rename_i hf
   have hf4:=(fine_iff.1 hf.1).2.2.2.1
   have hp4:(x.put.length:Int)≤4:=by
    have:=(Bool.and_eq_true_iff.1 hf4).1
    simp only [inF,decide_eq_true_eq] at this
    exact this.2
   cases hs
   refine ⟨?_,by simp;omega,by show 0≤S.ch + 1;omega,by show S.ch + 1≤_;omega⟩
   simp only [insF,List.length_append,List.length_take,List.length_drop,goneF_len,putF,List.length_map]
   omega
  ·cases hs
 ·unfold undoF at hs
  split at hs
  ·cases hs
   refine ⟨?_, ?_,h3,by show S.ch≤_;omega⟩
   ·have:=List.length_filter_le (fun y:It=>y.m != x.u) S.its
    simp only [List.length_map]
    omega
   ·have:=List.length_filter_le (fun y:Int=>y != x.u) S.live
    show (S.live.filter _).length≤_
    omega
  ·cases hs
theorem Sound.hpSh {P:Program} {f:FuncId} {pre:List Value→Hp→Hp→Prop} {post:List Value→Hp→Value→Hp→Hp→Prop} (sh:List Value→List Value) (h:Sound P f id (.hp pre post)):Sound P f sh (.hp (fun args=>pre (sh args)) (fun args=>post (sh args))) :=
 ⟨fun args=>h.1 (sh args),fun args=>h.2 (sh args)⟩
theorem ShH.off4 {p G:Hp} {b b4:Nat} {d:Dr} {S:Sh} {cs cs':Array Value} (h:ShH p G b d S) (e:p b4 = some (.cells cs 152 (0,0))):ShH (upd p b4 (some (.cells cs' 152 (0,0)))) G b d S:=by
 obtain ⟨w,k,iv,lv,h1,h2,h3,h4,h5⟩:=h
 refine ⟨w,k,iv,lv, ?_,h2,h3,h4.off fun h=>absurd (h4.typ h e) (by decide),h5.off fun h=>absurd (h5.typ h e) (by decide)⟩
 rw [upd_other _ _ (fun hb=>by subst hb;rw [h1] at e;exact absurd (congrArg (fun o:Option Obj=>match o with | some (Obj.cells _ t _)=>t | _=>0) e) (show ¬ (167:Nat) = 152 by decide))]
 exact h1
theorem SpC.grow {G G':Hp} (cs:List Value) (x:Sp) (hg:Grow G G') (h:SpC G cs x):SpC G' cs x:=by
 obtain ⟨pv,h1,h2⟩:=h
 exact ⟨pv,h1,h2.grow hg⟩
theorem upd_id {q:Hp} {b:Nat} {o:Obj} (h:q b = some o):upd q b (some o) = q:=by
 funext k
 by_cases hk:k = b
 ·subst hk;rw [upd_same,h]
 ·rw [upd_other _ _ hk]
def playQ (d:Dr) (steps:List Sp) (p:Hp) (v:Value) (q G:Hp):Prop:=KeepT p q∧(if validF d = false then v = .tuple #[.pointer none,I 0,I 1] else if 80 < steps.length then v = .tuple #[.pointer none,I 0,I 3] else match playF d (beginS d) steps 0 with
 | .inl k=>v = .tuple #[.pointer none,I k,I 9]
 | .inr S=>∃ b,v = .tuple #[ptr b,I 0,I 0]∧ShH q G b d S)
theorem playQ.grow {d:Dr} {steps:List Sp} {p:Hp} {v:Value} {q G G':Hp} (hg:Grow G G') (h:playQ d steps p v q G):playQ d steps p v q G':=by
 refine ⟨h.1, ?_⟩
 have h2:=h.2
 split
 ·rename_i h3;rw [if_pos h3] at h2;exact h2
 ·rename_i h3;rw [if_neg h3] at h2
  split
  ·rename_i h4;rw [if_pos h4] at h2;exact h2
  ·rename_i h4;rw [if_neg h4] at h2
   split
   ·rename_i h5;rw [h5] at h2;exact h2
   ·rename_i h5;rw [h5] at h2
    obtain ⟨b,h6,h7⟩:=h2
    exact ⟨b,h6,h7.grow hg⟩
theorem play42 (d:Dr) (steps:List Sp):Sound Tryz.prog 57 id (.hp (fun args p G=>∃ w k a n c,args = [.agg #[w,k], .slice a n c]∧SlV woE G w d.ws∧SlV intE G k d.ks∧SlR 4 SpC G a n c steps∧n≤maxLen) fun _ p v q G=>playQ d steps p v q G):=by
 refine hp42 (Tab.nil _) (fun args p G h=>?_) (fun args p v p' G G' hg h=>h.grow hg) (fun args p G h=>?_)
 ·obtain ⟨w,k,a,n,c,rfl,_⟩:=h;exact Nat.le_of_ble_eq_true rfl
 ·obtain ⟨w,k,a,n,c,rfl,hw,hk,hst,hn⟩:=h
  have hlen:=hst.len
  obtain ⟨wa,wn,wc,rfl,_,_⟩:=id hw
  obtain ⟨ka,kn,kc,rfl,_,_⟩:=id hk
  (conv=>whnf)
  refine CallH.mk _ (valid53 d) body53 (W.mk ?_)
  (conv=>whnf)
  refine HpcP.mk ⟨_,_,rfl,hw,hk⟩ (fun v p1 G1 hg1 hq=>W.mk ?_)
  obtain ⟨rfl,hk1⟩:=hq
  dsimp only
  (conv=>whnf)
  have hkt1:KeepT p p1:=KeepT.of fun b o e=>hk1 _ _ id e
  refine ForkP.mk (fun hv=>W.mk ?_) (fun hv=>W.mk ?_)<;>(conv=>whnf)
  rotate_left
  ·refine NmP.mk ⟨[],W.mk ?_⟩
   (conv=>whnf)
   refine FinHp.of rfl ⟨hkt1, ?_⟩
   rw [if_pos hv];rfl
  refine IteP.mk (fun h80=>W.mk ?_) (fun h80=>W.mk ?_)<;>(conv=>whnf)
  ·refine NmP.mk ⟨[],W.mk ?_⟩
   (conv=>whnf)
   refine FinHp.of rfl ⟨hkt1, ?_⟩
   rw [if_neg (by rw [hv];simp),if_pos (by omega)];rfl
  have hw60:d.ws.length≤60:=by
   simp only [validF,Bool.and_eq_true,decide_eq_true_eq] at hv
   exact hv.1.1
  refine NewP.mk (fun b4 h4=>W.mk ?_)
  (conv=>whnf)
  refine NewP.mk (fun b6 h6=>W.mk ?_)
  have n46:b4≠b6:=fun h=>by rw [← h,upd_same] at h6;cases h6
  rw [upd_other _ _ n46.symm] at h6
  (conv=>whnf)
  obtain ⟨p2,hp2⟩:∃ p2,p2 = upd (upd p1 b4 (some (.cells #[.pointer none] 152 (0,0)))) b6 (some (.cells #[I 0] 33 (0,0))):=⟨_,rfl⟩
  have e4:p2 b4 = some (.cells #[.pointer none] 152 (0,0)):=by rw [hp2,upd_other _ _ n46,upd_same]
  have e6:p2 b6 = some (.cells #[I 0] 33 (0,0)):=by rw [hp2,upd_same]
  have hkt2:KeepT p p2:=hkt1.trans (KeepT.of fun b o e=>by
   rw [hp2,upd_other _ _ (fun h=>by rw [h,h6] at e;cases e),upd_other _ _ (fun h=>by rw [h,h4] at e;cases e)];exact e)
  refine ⟨85, #[ptr b4,ptr b6],rfl, ?_⟩
  show vc _ _ _ _ _ ⟨_,upd (upd _ _ _) 0 (some (.heap (upd (upd p1 b4 (some (.cells #[.pointer none] 152 (0,0)))) b6 (some (.cells #[I 0] 33 (0,0)))))),_⟩ _
  rw [← hp2]
  clear hp2
  (conv=>whnf)
  refine CallH.mk _ (begin61 d (by omega)) body61 (W.mk ?_)
  (conv=>whnf)
  refine HpcP.mk ⟨_,_,rfl,hw.grow hg1,hk.grow hg1⟩ (fun v p3 G2 hg2 hq=>W.mk ?_)
  obtain ⟨hkt3,sb,rfl,hsh⟩:=hq
  dsimp only
  (conv=>whnf)
  refine HpkP.mk ⟨[.pointer none],152,hkt3 _ _ _ _ (by decide) (by decide) (by decide) e4,W.mk ?_⟩
  (conv=>whnf)
  refine OblP.mk (Nat.le_of_ble_eq_true rfl) (W.mk ?_)
  (conv=>whnf)
  have e4:=hkt3 _ _ _ _ (by decide) (by decide) (by decide) e4
  have e6:=hkt3 _ _ _ _ (by decide) (by decide) (by decide) e6
  have hfr:∀ b,p1 b = none→p b = none:=fun b h=>by
   cases hb:p b with
   | none=>rfl
   | some o=>rw [hk1 _ _ id hb] at h;cases h
  have hpb4:=hfr _ h4
  have hpb6:=hfr _ h6
  have hsh4:ShH (upd p3 b4 (some (.cells #[ptr sb] 152 (0,0)))) G2 sb d (beginS d):=hsh.off4 e4
  have hkt4:KeepT p (upd p3 b4 (some (.cells #[ptr sb] 152 (0,0)))):=fun b cs t x a1 a2 a3 e=>by
   rw [upd_other _ _ (fun h=>by rw [h,hpb4] at e;cases e)];exact (hkt2.trans hkt3) b cs t x a1 a2 a3 e
  refine LoopP.of { α:=Nat × Hp × Sh,fr:=fun x=>[(4, .v (ptr b4)),(6, .v (ptr b6)),(21, .v (.slice a n c)),(22, .v (I n)),(23, .v (I x.1))],H:=fun x=>[(0, .heap x.2.1)],ok:=fun x G=>x.1≤n∧KeepT p x.2.1∧x.2.1 b4 = some (.cells #[ptr sb] 152 (0,0))∧x.2.1 b6 = some (.cells #[I 0] 33 (0,0))∧ShH x.2.1 G sb d x.2.2∧x.2.2.cnt x.1∧playF d (beginS d) steps 0 = playF d x.2.2 (steps.drop x.1) x.1,m:=fun x=>n - x.1 }
   (0,upd p3 b4 (some (.cells #[ptr sb] 152 (0,0))),beginS d) (HeadP.of [] ⟨rfl,rfl,rfl,rfl,rfl,trivial⟩ ⟨rfl,trivial⟩) ⟨Nat.zero_le _,hkt4,upd_same _ _ _,(upd_other _ _ n46.symm).trans e6,hsh4,⟨by show (beginIts _ _).length≤_;rw [beginIts_len];omega,Nat.zero_le _,Int.le_refl _,Int.le_refl _⟩,rfl⟩ (fun _=>⟨rfl,rfl⟩) (fun x G3 hg3 hx=>W.mk ?_)
  obtain ⟨i,q,S⟩:=x
  obtain ⟨hi,hkq,q4,q6,hS,hcnt,hpl⟩:=hx
  dsimp only at hi hkq q4 q6 hS hcnt hpl
  dsimp only
  (conv=>whnf)
  refine IteP.mk (fun hlt=>W.mk ?_) (fun hge=>W.mk ?_)<;>(conv=>whnf)
  ·have hil:i < steps.length:=by omega
   obtain ⟨cs,k1,k2,k3⟩:=(SlR.grow (G:=G) (G':=G3) (fun cs x h=>SpC.grow cs x (hg1.trans (hg2.trans hg3)) h) hst (hg1.trans (hg2.trans hg3))).at_ i hil
   rw [List.drop_eq_getElem_cons hil] at hpl
   generalize steps[i] = x at k3 hpl
   obtain ⟨pv,rfl,k5⟩:=id k3
   obtain ⟨pa,pn,pc,rfl,_⟩:=id k5
   (refine ob ?_ ?_;(first | trivial | omega | (simp only [inR];omega) | exact ble (by rfl) | exact SlR.some ‹_› (by omega));(conv=>whnf))
   refine OblP.mk (hst.some (by omega)) (W.mk ?_)
   (conv=>whnf)
   refine RdhP.g k2 rfl (W.mk ?_)
   (conv=>whnf)
   repeat' (refine ob ?_ ?_;(first | trivial | omega | (simp only [inR];omega) | exact ble (by rfl) | exact SlR.some ‹_› (by omega));(conv=>whnf))
   refine RdhP.h (ds:=[ptr sb]) q4 rfl (W.mk ?_)
   (conv=>whnf)
   have hil8:i≤80:=by omega
   have hsm:=hcnt.small hil8
   have hbad:∀ q',stepF d S x = none→KeepT q q'→q' b4 = some (.cells #[ptr sb] 152 (0,0))∧q' b6 = some (.cells #[I 0] 33 (0,0))∧playQ d steps p (.tuple #[.pointer none,I i,I 9]) (upd (upd q' b4 none) b6 none) G3:=fun q' hs hk=>by
    refine ⟨hk _ _ _ _ (by decide) (by decide) (by decide) q4,hk _ _ _ _ (by decide) (by decide) (by decide) q6,fun b cs t x a1 a2 a3 e=>?_, ?_⟩
    ·rw [upd_other _ _ (fun h=>by rw [h,hpb6] at e;cases e),upd_other _ _ (fun h=>by rw [h,hpb4] at e;cases e)]
     exact (hkq.trans hk) b cs t x a1 a2 a3 e
    ·rw [if_neg (by rw [hv];simp),if_neg (by omega),hpl]
     simp only [playF,hs]
   have hgood:∀ q' S',stepF d S x = some S'→KeepT q q'→KeepT p q'∧q' b4 = some (.cells #[ptr sb] 152 (0,0))∧q' b6 = some (.cells #[I 0] 33 (0,0))∧S'.cnt (i + 1)∧playF d (beginS d) steps 0 = playF d S' (steps.drop (i + 1)) (i + 1):=fun q' S' hs hk=>by
    refine ⟨hkq.trans hk,hk _ _ _ _ (by decide) (by decide) (by decide) q4,hk _ _ _ _ (by decide) (by decide) (by decide) q6,cnt_step hcnt hs, ?_⟩
    rw [hpl]
    simp only [playF,hs]
   refine IteP.mk (fun hu=>W.mk ?_) (fun hu=>W.mk ?_)<;>(conv=>whnf)
   ·cases hS2:stepF d S x with
    | none =>
     have hS3:=(by rw [stepF,if_pos hu] at hS2;exact hS2)
     exact CallvP.pan ⟨87, #[ptr sb], #[],rfl,⟨203,_,_,_,_,rfl,rfl,refuse65 sb d S hsm x hS3,body65,⟨_,rfl,k3,hS⟩,fun q' hq'=>⟨rfl,q',b4,b6,_,_,_,rfl,rfl,rfl,rfl,rfl,(hbad q' hS2 hq').1,(hbad q' hS2 hq').2.1,(hbad q' hS2 hq').2.2⟩⟩⟩
    | some S' =>
     have hS3:=(by rw [stepF,if_pos hu] at hS2;exact hS2)
     refine CallvP.fn _ (SoundFn.of body65 (Sound.hpSh _ (change65 sb d S S' hsm x hS3))) (W.mk ?_)
     (conv=>whnf)
     refine HpcP.mk ⟨_,rfl,k3,hS⟩ (fun v q' G4 hg4 hq=>W.mk ?_)
     obtain ⟨rfl,hS4,hk4⟩:=hq
     dsimp only
     (conv=>whnf)
     (refine ob ?_ ?_;(first | trivial | omega | (simp only [inR];omega) | exact ble (by rfl) | exact SlR.some ‹_› (by omega));(conv=>whnf))
     obtain ⟨m1,m2,m3,m4,m5⟩:=hgood q' S' hS2 hk4
     exact RoundP.of (i + 1,q',S') (HeadP.of [] ⟨rfl,rfl,rfl,rfl,rfl,trivial⟩ ⟨rfl,trivial⟩) ⟨by show i + 1≤n;omega,m1,m2,m3,hS4,m4,m5⟩ (by show n - (i + 1) < n - i;omega)
   ·refine RdhP.h (ds:=[ptr sb]) q4 rfl (W.mk ?_)
    (conv=>whnf)
    cases hS2:stepF d S x with
    | none =>
     have hS3:=(by rw [stepF,if_neg hu] at hS2;exact hS2)
     exact CallvP.pan ⟨88, #[ptr sb], #[],rfl,⟨203,_,_,_,_,rfl,rfl,refuse69 sb d S hsm x hS3,body69,⟨_,rfl,k3,hS⟩,fun q' hq'=>⟨rfl,q',b4,b6,_,_,_,rfl,rfl,rfl,rfl,rfl,(hbad q' hS2 hq').1,(hbad q' hS2 hq').2.1,(hbad q' hS2 hq').2.2⟩⟩⟩
    | some S' =>
     have hS3:=(by rw [stepF,if_neg hu] at hS2;exact hS2)
     refine CallvP.fn _ (SoundFn.of body69 (Sound.hpSh _ (undo69 sb d S S' hsm x hS3))) (W.mk ?_)
     (conv=>whnf)
     refine HpcP.mk ⟨_,rfl,k3,hS⟩ (fun v q' G4 hg4 hq=>W.mk ?_)
     obtain ⟨rfl,hS4,hk4⟩:=hq
     dsimp only
     (conv=>whnf)
     (refine ob ?_ ?_;(first | trivial | omega | (simp only [inR];omega) | exact ble (by rfl) | exact SlR.some ‹_› (by omega));(conv=>whnf))
     obtain ⟨m1,m2,m3,m4,m5⟩:=hgood q' S' hS2 hk4
     exact RoundP.of (i + 1,q',S') (HeadP.of [] ⟨rfl,rfl,rfl,rfl,rfl,trivial⟩ ⟨rfl,trivial⟩) ⟨by show i + 1≤n;omega,m1,m2,m3,hS4,m4,m5⟩ (by show n - (i + 1) < n - i;omega)
  ·have hin:i = n:=by omega
   subst hin
   rw [List.drop_of_length_le (by omega)] at hpl
   (conv=>whnf)
   refine RdhP.h (ds:=[ptr sb]) q4 rfl (W.mk ?_)
   (conv=>whnf)
   refine HpkP.mk ⟨[ptr sb],152,q4,W.mk ?_⟩
   (conv=>whnf)
   refine OblP.mk (Nat.le_of_ble_eq_true rfl) (W.mk ?_)
   (conv=>whnf)
   have q6':(upd q b4 (some (.cells #[ptr sb] 152 (0,0)))) b6 = some (.cells #[I 0] 33 (0,0)):=by rw [upd_id q4];exact q6
   refine HpkP.mk ⟨[I 0],33,q6',W.mk ?_⟩
   (conv=>whnf)
   refine OblP.mk (Nat.le_of_ble_eq_true rfl) (W.mk ?_)
   (conv=>whnf)
   have hqq:upd (upd q b4 (some (.cells #[ptr sb] 152 (0,0)))) b6 (some (.cells #[I 0] 33 (0,0))) = q:=by rw [upd_id q6',upd_id q4]
   refine ⟨rfl,_,b4,b6,ptr sb,I 0,I 0,rfl,rfl,rfl,rfl,rfl,(congrFun hqq b4).trans q4,(congrFun hqq b6).trans q6, ?_⟩
   show playQ d steps p (.tuple #[ptr sb,I 0,I 0]) (upd (upd q b4 (some (.cells #[ptr sb] 152 (0,0)))) b6 (some (.cells #[I 0] 33 (0,0)))) _
   rw [hqq]
   refine ⟨hkq, ?_⟩
   rw [if_neg (by rw [hv];simp),if_neg (by omega),hpl]
   exact ⟨sb,rfl,hS⟩
end Go.Proofs.YtefnikpoimaiiaaGreat
