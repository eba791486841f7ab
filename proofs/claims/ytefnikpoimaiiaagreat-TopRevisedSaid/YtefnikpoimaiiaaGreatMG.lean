/- TopRevised: the reference's numbers, rising. Functions over an own heap whose handles begin at 2000: regions that draw their order make boxes, maps and literals in the own heap. TopRevised: a motion for the program: a copy. TopRevised: slices.SortFunc of few papers, and of none. TopRevised: paper: what amends a paper, in its order. TopRevised: paper: what amends a paper, yielded. TopRevised: paper: the iterator over what amends. TopRevised: paper: how deep papers lie, how much is written at most (plain). Functions to which blocks of an own heap are lent, and which give them back turned, with new ones: contracts over an own heap. TopRevised: paper: words copied. TopRevised: paper: what is written of a paper and of what amends it. A contract over an own heap serves a caller that lends blocks: what is made besides is published. TopRevised: paper: the text of a motion by a choice: it can be said, in good words. TopRevised: words with blanks between. -/
import Derived.Test.YtefnikpoimaiiaaGreatMF
import Derived.Test.YtefnikpoimaiiaaGreatMD
import Derived.Test.YtefnikpoimaiiaaGreatME
set_option linter.unusedSimpArgs false
set_option linter.unusedVariables false
namespace Go.Proofs.YtefnikpoimaiiaaGreat
open Go.Pal Go.RowKit
set_option maxRecDepth 100000
theorem gD {l:List Int} {i:Nat} (h:i < l.length):l.getD i 0 = l[i]:=by simp [h]
theorem gDa {l r:List Int} {i:Nat} (h:i < l.length):(l++r).getD i 0 = l.getD i 0:=by simp [List.getD_eq_getElem?_getD,List.getElem?_append_left h]
structure DnI (l0:List Int) (x:Int) (j:Nat) (l:List Int):Prop where
 p:l.Perm (l0++[x])
 s:InsI l l0.length j
theorem DnI.len {l0:List Int} {x:Int} {j:Nat} {l:List Int} (h:DnI l0 x j l):l.length = l0.length + 1:=by rw [h.p.length_eq,List.length_append];rfl
theorem DnI.start {l0:List Int} (h:Sorted l0) (x:Int):DnI l0 x l0.length (l0++[x]):=⟨List.Perm.refl _,InsI.start fun p q h1 h2=>by
 have:=h p q h1 h2
 rw [gDa (by omega),gDa h2]
 exact this⟩
theorem DnI.step {l0:List Int} {x:Int} {j:Nat} {l:List Int} (h:DnI l0 x j l) (hj:0 < j) (hjl:j < l.length) (hlt:l[j] < l[j - 1]):DnI l0 x (j - 1) ((l.set j l[j - 1]).set (j - 1) l[j]):=by
 have hl:=h.len
 have g1:l.getD j 0 = l[j]:=gD hjl
 have g2:l.getD (j - 1) 0 = l[j - 1]:=gD (by omega)
 refine ⟨(swap_perm hj hjl).trans h.p, ?_⟩
 have:=h.s.step (by omega) (by omega) hj (by rw [g1,g2];exact hlt)
 rwa [g1,g2] at this
theorem DnI.stop {l0:List Int} {x:Int} {j:Nat} {l:List Int} (h:DnI l0 x j l) (hjl:j < l.length) (hd:j = 0∨l[j - 1]≤l[j]):Sorted l:=fun p q h1 h2=>by
 have hl:=h.len
 refine h.s.stop (hd.imp id fun hle=>?_) p q h1 (by omega)
 rw [gD hjl,gD (by omega)]
 exact hle
theorem sorted_inc {l:List Int} (h:Sorted l) (hn:l.Nodup):l.Pairwise (· < ·):=by
 rw [List.pairwise_iff_getElem]
 intro i j hi hj hij
 have h1:=h i j hij hj
 rw [gD hi,gD hj] at h1
 have h2:l[i]≠l[j]:=List.pairwise_iff_getElem.1 hn i j hi hj hij
 omega
def irow (h:Nat):Nat→SV
 | 0=>.v (.slice none 0 0)
 | k + 1=>.c (.row h (k + 1))
def irows (h:Nat):Nat→List Value→List (Nat × OB)
 | 0,_=>[]
 | k + 1,vs=>[(h, .row none (k + 1) vs 3 1)]
def numL (m:Mt) (i:Nat):List Int:=(m.ps.take i).map (·.c.n)
theorem numL_succ {m:Mt} {i:Nat} (h:i < m.ps.length):numL m (i + 1) = numL m i++[m.ps[i].c.n]:=by
 rw [numL,take_snoc (List.getElem?_eq_getElem h),List.map_append];rfl
def NumQ (G:Hp) (v:Value) (m:Mt):Prop:=∃ l,SlV intE G v l∧l.Perm (m.ps.map (·.c.n))∧Sorted l
theorem NumQ.grow {G G':Hp} (hg:Grow G G') {v:Value} {m:Mt} (h:NumQ G v m):NumQ G' v m:=let ⟨l,h1,h2⟩:=h;⟨l,h1.grow hg,h2⟩
theorem den_setR {P:Program} {hid:Nat} {Gr G:Hp} {K:SV→List (Nat × Option OB)→Hp→Prop} {h n:Nat} {vs vs':List Value} {t:TypeId} {k:Nat} {sv:SV} (e:vs = vs') (hk:Res.den P hid Gr G K (.set h (.row none n vs' t k) sv)):Res.den P hid Gr G K (.set h (.row none n vs t k) sv):=by
 subst e;exact hk
theorem numbers34:Sound Tryz.prog 34 id (grel (args1 moRd fun m=>m.ps.length≤12) fun m v G=>NumQ G v m):=by
 refine comp34.grel (Tab.nil _) (ok1 _ _) (fun args G s h=>?_) (fun x v G G' hg h=>h.grow hg) (fun args G m h=>?_)
 ·obtain ⟨v,rfl,_⟩:=h;simp
 ·obtain ⟨v,rfl,⟨w0,a,n,c,rfl,hw,hl,hn,hp⟩,hm12⟩:=h
  have hln:=hl.len
  have hcl:m.cs.length = m.ps.length:=by simp
  obtain ⟨wa,wn,wc,rfl,_⟩:=hw
  (conv=>whnf)
  refine LoopP.of { α:=Nat × Nat × List Int,fr:=fun z=>[(1, .c (.ptr 0 0)),(3,irow 1 z.2.1),(4, .v (I z.1))],H:=fun z=>[(0, .cells .anon [.val (.slice wa wn wc), .val (.slice a n c)] 25)]++irows 1 z.2.1 (flat intE z.2.2),ok:=fun z _=>z.1≤n∧z.2.1 = z.1∧z.2.2.Perm (numL m z.1)∧Sorted z.2.2,m:=fun z=>n - z.1 }
   (0,0,[]) (HeadP.of [] ⟨rfl,rfl,rfl,trivial⟩ ⟨rfl,trivial⟩) ⟨Nat.zero_le _,rfl,List.Perm.refl _,fun p q _ h=>by simp at h⟩ (fun z=>by obtain ⟨_,t,_⟩:=z;cases t<;>exact ⟨rfl,rfl⟩) (fun z G' hG hz=>W.mk ?_)
  obtain ⟨i,t,l⟩:=z
  obtain ⟨k1,k2,k3,k4⟩:=hz
  dsimp only at k1 k2 k3 k4
  replace hl:=SlR.grow (G:=G) (G':=G') (fun _ _ h=>h) hl hG
  have hll:l.length = i:=by rw [k3.length_eq,numL,List.length_map,List.length_take];omega
  cases t with
  | zero =>
   dsimp only [irow,irows]
   (conv=>whnf)
   refine IteP.mk (fun hlt=>W.mk ?_) (fun hge=>W.mk ?_)<;>(conv=>whnf)
   ·have hlt:i < m.ps.length:=by have hlt:(i:Int) < n:=hlt;omega
    have hel:=hl.el (i:=i) (by omega)
    rw [cs_get hlt] at hel
    refine OblP.mk ⟨by omega,by omega⟩ (W.mk ?_)
    (conv=>whnf)
    refine OblP.mk (hl.some (by omega)) (W.mk ?_)
    (conv=>whnf)
    refine RdP.at (cs:=[I m.ps[i].c.n]) (CellsAt.drop (d:=0) (n:=1) hel) rfl (W.mk ?_)
    (conv=>whnf)
    repeat' (refine ob ?_ ?_;(first | trivial | omega | (simp only [inR];omega) | exact ble (by rfl) | exact SlR.some ‹_› (by omega));(conv=>whnf))
    have hx:=numL_succ hlt
    generalize m.ps[i].c.n = x at hx ⊢
    have hl0:l = []:=List.eq_nil_of_length_eq_zero (by omega)
    have hsrt:=k4
    have hlT:l.length = 0:=by omega
    refine LoopP.of { α:=Nat × List Int,fr:=fun z=>[(1, .c (.ptr 0 0)),(3, .c (.row 17 (0 + 1))),(4, .v (I i)),(5, .v (I z.1))],H:=fun z=>[(0, .cells .anon [.val (.slice wa wn wc), .val (.slice a n c)] 25),(17, .row none (0 + 1) (flat intE z.2) 3 1)],ok:=fun z _=>DnI l x z.1 z.2∧z.1≤0,m:=fun z=>z.1 }
     (0,l++[x]) (HeadP.of [] ⟨rfl,rfl,rfl,rfl,trivial⟩ ⟨rfl,(by rw [hl0];rfl),trivial⟩) ⟨by have:=DnI.start hsrt x;rwa [hlT] at this,Nat.le_refl _⟩ (fun _=>⟨rfl,rfl⟩) (fun z G2 hG2 hz=>W.mk ?_)
    obtain ⟨j,l2⟩:=z
    obtain ⟨hd,hj⟩:=hz
    dsimp only at hd hj
    dsimp only
    have hl2:=hd.len
    have e0:(((j:Int) - 1).toNat) = j - 1:=by omega
    (conv=>whnf)
    refine IteP.mk (fun hj0=>W.mk ?_) (fun hj0=>W.mk ?_)<;>(conv=>whnf)
    ·have hj0:0 < j:=by have hj0:(j:Int) > 0:=hj0;omega
     exact absurd hj (by omega)
    ·have hj0:¬ (j:Int) > 0:=hj0
     have hso:=hd.stop (by omega) (.inl (by omega))
     repeat' (refine ob ?_ ?_;(first | trivial | omega | (simp only [inR];omega) | exact ble (by rfl) | exact SlR.some ‹_› (by omega));(conv=>whnf))
     refine RoundP.of (i + 1,0 + 1,l2) (HeadP.of [(1,some 17)] ⟨rfl,rfl,rfl,trivial⟩ ⟨rfl,rfl,trivial⟩) ⟨by show i + 1≤n;omega,by show 0 + 1 = i + 1;omega, ?_,hso⟩ (by show n - (i + 1) < n - i;omega)
     show l2.Perm (numL m (i + 1))
     rw [hx]
     exact hd.p.trans (k3.append_right _)
   ·have hge:¬ (i:Int) < n:=hge
    have hl0:l = []:=List.eq_nil_of_length_eq_zero (by omega)
    subst hl0
    refine FinP.mk ⟨[],SlV.nil, ?_,k4⟩
    rw [numL,List.take_of_length_le (by omega)] at k3
    exact k3
  | succ t =>
   dsimp only [irow,irows]
   (conv=>whnf)
   refine IteP.mk (fun hlt=>W.mk ?_) (fun hge=>W.mk ?_)<;>(conv=>whnf)
   ·have hlt:i < m.ps.length:=by have hlt:(i:Int) < n:=hlt;omega
    have hel:=hl.el (i:=i) (by omega)
    rw [cs_get hlt] at hel
    refine OblP.mk ⟨by omega,by omega⟩ (W.mk ?_)
    (conv=>whnf)
    refine OblP.mk (hl.some (by omega)) (W.mk ?_)
    (conv=>whnf)
    refine RdP.at (cs:=[I m.ps[i].c.n]) (CellsAt.drop (d:=0) (n:=1) hel) rfl (W.mk ?_)
    (conv=>whnf)
    repeat' (refine ob ?_ ?_;(first | trivial | omega | (simp only [inR];omega) | exact ble (by rfl) | exact SlR.some ‹_› (by omega));(conv=>whnf))
    have hx:=numL_succ hlt
    generalize m.ps[i].c.n = x at hx ⊢
    have hsrt:=k4
    have hlT:l.length = t + 1:=by omega
    refine LoopP.of { α:=Nat × List Int,fr:=fun z=>[(1, .c (.ptr 0 0)),(3, .c (.row 17 (t + 1 + 1))),(4, .v (I i)),(5, .v (I z.1))],H:=fun z=>[(0, .cells .anon [.val (.slice wa wn wc), .val (.slice a n c)] 25),(17, .row none ((t + 1) + 1) (flat intE z.2) 3 1)],ok:=fun z _=>DnI l x z.1 z.2∧z.1≤(t + 1),m:=fun z=>z.1 }
     ((t + 1),l++[x]) (HeadP.of [] ⟨rfl,rfl,rfl,(by show SV.v (I _) = SV.v (I _);congr 3;omega),trivial⟩ ⟨rfl,(congrArg (fun v=>OB.row none (t + 1 + 1) v 3 1) (flat_app intE l [x])),trivial⟩) ⟨by have:=DnI.start hsrt x;rwa [hlT] at this,Nat.le_refl _⟩ (fun _=>⟨rfl,rfl⟩) (fun z G2 hG2 hz=>W.mk ?_)
    obtain ⟨j,l2⟩:=z
    obtain ⟨hd,hj⟩:=hz
    dsimp only at hd hj
    dsimp only
    have hl2:=hd.len
    have e0:(((j:Int) - 1).toNat) = j - 1:=by omega
    (conv=>whnf)
    refine IteP.mk (fun hj0=>W.mk ?_) (fun hj0=>W.mk ?_)<;>(conv=>whnf)
    ·have hj0:0 < j:=by have hj0:(j:Int) > 0:=hj0;omega
     have hjl:j < l2.length:=by omega
     have hjl1:j - 1 < l2.length:=by omega
     repeat' (first | (refine OblP.mk rfl (W.mk ?_);(conv=>whnf)) | (refine ob ?_ ?_;(first | trivial | omega | (simp only [inR];omega) | exact ble (by rfl) | exact SlR.some ‹_› (by omega));(conv=>whnf)))
     refine EqP.mk ⟨intE.f l2[j],fl_at (E:=intE) hjl rfl,rfl,W.mk ?_⟩
     (conv=>whnf)
     repeat' (first | (refine OblP.mk rfl (W.mk ?_);(conv=>whnf)) | (refine ob ?_ ?_;(first | trivial | omega | (simp only [inR];omega) | exact ble (by rfl) | exact SlR.some ‹_› (by omega));(conv=>whnf)))
     refine EqP.mk ⟨intE.f l2[j - 1],fl_at (E:=intE) hjl1 (by show ((j:Int) - 1).toNat * 1 = (j - 1) * 1;rw [e0]),rfl,W.mk ?_⟩
     (conv=>whnf)
     refine IteP.mk (fun hc=>W.mk ?_) (fun hc=>W.mk ?_)<;>(conv=>whnf)
     ·have hc:l2[j] < l2[j - 1]:=hc
      repeat' (first | (refine OblP.mk rfl (W.mk ?_);(conv=>whnf)) | (refine ob ?_ ?_;(first | trivial | omega | (simp only [inR];omega) | exact ble (by rfl) | exact SlR.some ‹_› (by omega));(conv=>whnf)))
      refine EqP.mk ⟨intE.f l2[j - 1],fl_at (E:=intE) hjl1 (by show ((j:Int) - 1).toNat * 1 = (j - 1) * 1;rw [e0]),rfl,W.mk ?_⟩
      (conv=>whnf)
      repeat' (first | (refine OblP.mk rfl (W.mk ?_);(conv=>whnf)) | (refine ob ?_ ?_;(first | trivial | omega | (simp only [inR];omega) | exact ble (by rfl) | exact SlR.some ‹_› (by omega));(conv=>whnf)))
      refine EqP.mk ⟨intE.f l2[j],fl_at (E:=intE) hjl rfl,rfl,W.mk ?_⟩
      (conv=>whnf)
      repeat' (first | (refine OblP.mk rfl (W.mk ?_);(conv=>whnf)) | (refine ob ?_ ?_;(first | trivial | omega | (simp only [inR];omega) | exact ble (by rfl) | exact SlR.some ‹_› (by omega));(conv=>whnf)))
      refine OblP.mk (by show (j:Int).toNat * 1 + 1≤_;rw [flat_len,show intE.k = 1 from rfl,Int.toNat_natCast];omega) (W.mk ?_)
      refine den_setR (fl_set (E:=intE) (l:=l2) (i:=j) (off:=(j:Int).toNat * 1) l2[j - 1] hjl rfl) ?_
      (conv=>whnf)
      repeat' (first | (refine OblP.mk rfl (W.mk ?_);(conv=>whnf)) | (refine ob ?_ ?_;(first | trivial | omega | (simp only [inR];omega) | exact ble (by rfl) | exact SlR.some ‹_› (by omega));(conv=>whnf)))
      refine OblP.mk (by show ((j:Int) - 1).toNat * 1 + 1≤_;rw [flat_len,List.length_set,show intE.k = 1 from rfl,e0];omega) (W.mk ?_)
      refine den_setR (fl_set (E:=intE) (l:=l2.set j l2[j - 1]) (i:=j - 1) (off:=((j:Int) - 1).toNat * 1) l2[j] (by rw [List.length_set];omega) (by show ((j:Int) - 1).toNat * 1 = (j - 1) * 1;rw [e0])) ?_
      (conv=>whnf)
      repeat' (refine ob ?_ ?_;(first | trivial | omega | (simp only [inR];omega) | exact ble (by rfl) | exact SlR.some ‹_› (by omega));(conv=>whnf))
      have hji2:SV.v (I ((j - 1:Nat):Int)) = SV.v (I ((j:Int) - 1)):=by rw [show ((j - 1:Nat):Int) = (j:Int) - 1 by omega]
      exact RoundP.of (j - 1,(l2.set j l2[j - 1]).set (j - 1) l2[j]) (HeadP.of [] ⟨rfl,rfl,rfl,hji2,trivial⟩ ⟨rfl,rfl,trivial⟩) ⟨hd.step hj0 hjl hc,by show j - 1≤(t + 1);omega⟩ (by show j - 1 < j;omega)
     ·have hc:¬ l2[j] < l2[j - 1]:=hc
      have hso:=hd.stop hjl (.inr (by omega))
      repeat' (refine ob ?_ ?_;(first | trivial | omega | (simp only [inR];omega) | exact ble (by rfl) | exact SlR.some ‹_› (by omega));(conv=>whnf))
      refine RoundP.of (i + 1,(t + 1) + 1,l2) (HeadP.of [(1,some 17)] ⟨rfl,rfl,rfl,trivial⟩ ⟨rfl,rfl,trivial⟩) ⟨by show i + 1≤n;omega,by show (t + 1) + 1 = i + 1;omega, ?_,hso⟩ (by show n - (i + 1) < n - i;omega)
      show l2.Perm (numL m (i + 1))
      rw [hx]
      exact hd.p.trans (k3.append_right _)
    ·have hj0:¬ (j:Int) > 0:=hj0
     have hso:=hd.stop (by omega) (.inl (by omega))
     repeat' (refine ob ?_ ?_;(first | trivial | omega | (simp only [inR];omega) | exact ble (by rfl) | exact SlR.some ‹_› (by omega));(conv=>whnf))
     refine RoundP.of (i + 1,(t + 1) + 1,l2) (HeadP.of [(1,some 17)] ⟨rfl,rfl,rfl,trivial⟩ ⟨rfl,rfl,trivial⟩) ⟨by show i + 1≤n;omega,by show (t + 1) + 1 = i + 1;omega, ?_,hso⟩ (by show n - (i + 1) < n - i;omega)
     show l2.Perm (numL m (i + 1))
     rw [hx]
     exact hd.p.trans (k3.append_right _)
   ·have hge:¬ (i:Int) < n:=hge
    refine PubP.mk (fun a1 c1 G4 hg4 h4=>W.mk ?_)
    (conv=>whnf)
    refine FinP.mk ⟨l,Row.pub (e:=intE) ⟨by omega,rfl⟩ h4 (by omega), ?_,k4⟩
    ·rw [numL,List.take_of_length_le (by omega)] at k3
     exact k3
theorem shr16 {s:Int} {i:Nat} (h:i≤16):∀ w,((POp.bin .shr 26).sem [U16 s, .int .u64 (i:Nat)]).run Tryz.prog w = .ok (U16 (s / 2 ^ i)) w:=fun w=>by
 have e:(POp.bin .shr 26).sem [U16 s, .int .u64 (i:Nat)] = (do eqGuard .shr 26 (.tmp 0) (.tmp 0) (U16 s) (.int .u64 (i:Nat));Op.shift .shr .u16 s .u64 i):=rfl
 rw [e,shift_shr .u16 .u64 s (i:Nat) (by omega) (by show ((i:Nat):Int)≤16;omega)]
 simp
 rfl
theorem clash_sym (a b:Pc):clashF a b = clashF b a:=by
 unfold clashF
 rw [decide_eq_decide]
 constructor<;>(rintro ⟨h1,h2,h3,h4⟩;exact ⟨Ne.symm h1,h2.symm,h4,h3⟩)
theorem clash_self (a:Pc):clashF a a = false:=by simp [clashF]
theorem chOk_nil (m:Mt):ChOk m []:=⟨List.Pairwise.nil,(fun c h=>by cases h),(fun c h=>by cases h),(fun c h=>by cases h)⟩
theorem chOk_add {m:Mt} {l l2:List Int} {x:Int} {p:Pp} (h:ChOk m l) (hp:pOf m x = some p) (hx:x ∉ l) (hof:p.c.of = 0∨p.c.of∈l) (hc:∀ c∈l, ∀ q,pOf m c = some q→clashF p.c q.c = false) (h2:l2.Perm (l++[x])) (hs:Sorted l2):ChOk m l2:=by
 have hm:∀ c,c∈l2↔c∈l∨c = x:=fun c=>by rw [h2.mem_iff];simp
 have hnd:l2.Nodup:=h2.nodup_iff.2 (List.nodup_append.2 ⟨h.inc.imp fun h=>Int.ne_of_lt h,by simp,fun a ha b hb=>by rw [List.mem_singleton.1 hb];exact fun e=>hx (e ▸ ha)⟩)
 refine ⟨sorted_inc hs hnd,fun c hc=>?_,fun c hc q hq h0=>?_,fun a ha b hb q r hq hr=>?_⟩
 ·rcases (hm c).1 hc with h1 | rfl
  ·exact h.mem c h1
  ·exact ⟨p,hp⟩
 ·rcases (hm c).1 hc with h1 | rfl
  ·exact (hm _).2 (.inl (h.cl c h1 q hq h0))
  ·rw [hp] at hq;cases hq
   exact (hm _).2 (.inl (hof.resolve_left h0))
 ·rcases (hm a).1 ha with h1 | rfl<;>rcases (hm b).1 hb with h3 | rfl
  ·exact h.nc a h1 b h3 q r hq hr
  ·rw [hp] at hr;cases hr
   rw [clash_sym];exact hc a h1 q hq
  ·rw [hp] at hq;cases hq
   exact hc b h3 r hr
  ·rw [hp] at hq hr;cases hq;cases hr
   exact clash_self _
theorem slr_grow {α:Type} {E:El α} {G G':Hp} {a:Option Addr} {n c:Nat} {l:List α} (hg:Grow G G') (h:SlR E.k E.R G a n c l):SlR E.k E.R G' a n c l:=SlR.grow (G:=G) (G':=G') (fun _ _ h=>h) h hg
theorem num_ix {m:Mt} {x:Int} (h:x∈m.ps.map (·.c.n)):∃ j, ∃ h:j < m.ps.length,ixF m.ps x = j∧pOf m x = some m.ps[j]:=by
 rcases ixF_cases m.ps x with ⟨_,h2⟩ | ⟨i,hi,h1,_,h2⟩
 ·obtain ⟨p,hp,e⟩:=List.mem_map.1 h
  have:=List.find?_eq_none.1 h2 p hp
  simp [e] at this
 ·exact ⟨i,hi,h1,h2⟩
def ChQ (G:Hp) (v:Value) (m:Mt):Prop:=∃ l,SlV intE G v l∧ChOk m l
theorem ChQ.grow {G G':Hp} (hg:Grow G G') {v:Value} {m:Mt} (h:ChQ G v m):ChQ G' v m:=let ⟨l,h1,h2⟩:=h;⟨l,h1.grow hg,h2⟩
def u16Rd:Rd Int:=⟨fun _ v x=>v = U16 x,fun {_ _ _ _} h h'=>by rw [h] at h';simpa using h',fun {_ _ _ _} _ h=>h⟩
theorem inc_sorted {l:List Int} (h:l.Pairwise (· < ·)):Sorted l:=fun p q h1 h2=>by
 rw [gD (by omega),gD h2]
 exact Int.le_of_lt (List.pairwise_iff_getElem.1 h p q (by omega) h2 h1)
theorem joinF {G:Hp} {b n0 n cap:Nat} {l:List Int} {rest:List Value} {w:Bool} (hl:l.length = n) (hc:n≤cap) (hb:n≤140737488355328):SlV intE (joinL G [⟨b,w, .row n0 n cap (flat intE l) rest 3 1⟩]) (.slice (some ⟨b,0,none⟩) n cap) l:=by
 refine PubRow.slV (e:=intE) (vs:=flat intE l) ⟨hc,fun _=>rfl,fun j v hj=>?_⟩ rfl hl hb
 have hj2:j < (flat intE l).length:=(List.getElem?_eq_some_iff.1 hj).1
 show rd1 _ b (0 + j) = _
 simp only [rd1,joinL,Nat.beq_refl,cond_true,LB.obj,Nat.zero_add]
 simp only [List.getElem?_toArray,List.getElem?_append_left hj2,hj]
theorem has_mem {l:List Int} {x:Int} (h:hasI l x = true):x∈l:=by
 obtain ⟨y,hy,e⟩:=List.any_eq_true.1 h
 have e:y = x:=by simpa using e
 exact e ▸ hy
theorem has_not {l:List Int} {x:Int} (h:hasI l x = false):x ∉ l:=fun hm=>by rw [hasI_mem hm] at h;cases h
set_option maxHeartbeats 8000000 in
theorem chosen8:Sound Tryz.prog 8 id (grel (args2 moRd u16Rd fun m b=>MtOk m∧0≤b∧b < 65536) fun x v G=>ChQ G v x.1):=by
 refine comp8.grel (Tab.cons 34 _ numbers34 body34 (Tab.cons 12 _ find12 body12 (Tab.cons 35 _ clash35 body35 (Tab.nil _)))) (ok2 _ _ _) (fun args G s h=>?_) (fun x v G G' hg h=>h.grow hg) (fun args G s h=>?_)
 ·obtain ⟨v,w,rfl,_⟩:=h;simp
 ·obtain ⟨m,bits⟩:=s
  obtain ⟨v,w,rfl,hm,rfl,hok,hb1,hb2⟩:=h
  have hm0:=hm
  obtain ⟨w0,a,n,c,rfl,hw,hl,hn,hp⟩:=hm
  dsimp only at hl hw hp hm0 hok hb1 hb2
  have hln:=hl.len
  have hcl:m.cs.length = m.ps.length:=by simp
  have hnp:=hok.np
  obtain ⟨wa,wn,wc,rfl,_⟩:=hw
  (conv=>whnf)
  refine RelP.g (ok1 moRd fun m=>m.ps.length≤12) (x:=m) ⟨_,rfl,hm0,by omega⟩ (Grow.refl _) (fun v G1 hg1 hq=>W.mk ?_)
  obtain ⟨al,hal,halp,hals⟩:=hq
  obtain ⟨aa,an,ac,rfl,hall,halb⟩:=id hal
  have hal12:al.length≤10:=by rw [halp.length_eq,List.length_map];exact hnp
  have haln:=hall.len
  replace hl:=SlR.grow (G:=G) (G':=G1) (fun _ _ h=>h) hl hg1
  replace hm0:=moRd.grow hg1 hm0
  (conv=>whnf)
  refine LoopP.of { α:=Nat × Nat × List Int,fr:=fun z=>[(1, .v (U16 bits)),(2, .c (.ptr 0 0)),(5, .v (.slice aa an ac)),(6,irow 1 z.2.1),(7, .v (I z.1))],H:=fun z=>[(0, .cells .anon [.val (.slice wa wn wc), .val (.slice a n c)] 25)]++irows 1 z.2.1 (flat intE z.2.2),ok:=fun z _=>z.1≤an∧z.2.1 = z.2.2.length∧z.2.2.length≤20 * z.1∧ChOk m z.2.2,m:=fun z=>an - z.1 }
   (0,0,[]) (HeadP.of [] ⟨rfl,rfl,rfl,rfl,rfl,trivial⟩ ⟨rfl,trivial⟩) ⟨Nat.zero_le _,rfl,Nat.le_refl _,chOk_nil m⟩ (fun z=>by obtain ⟨_,t,_⟩:=z;cases t<;>exact ⟨rfl,rfl⟩) (fun z G2 hg2 hz=>W.mk ?_)
  obtain ⟨r,t,l⟩:=z
  obtain ⟨k1,k2,k3,k4⟩:=hz
  dsimp only at k1 k2 k3 k4
  replace hl:=SlR.grow (G:=G1) (G':=G2) (fun _ _ h=>h) hl hg2
  replace hm0:=moRd.grow hg2 hm0
  replace hall:=SlR.grow (G:=G1) (G':=G2) (fun _ _ h=>h) hall hg2
  replace hal:=hal.grow hg2
  clear hg1 hg2
  (conv=>whnf)
  refine IteP.mk (fun hltr=>W.mk ?_) (fun hge=>W.mk ?_)<;>(conv=>whnf)
  ·refine LoopP.of { α:=Nat × Nat × List Int,fr:=fun z=>[(1, .v (U16 bits)),(2, .c (.ptr 0 0)),(5, .v (.slice aa an ac)),(6,irow 1 z.2.1),(7, .v (I r)),(8, .v (I z.1))],H:=fun z=>[(0, .cells .anon [.val (.slice wa wn wc), .val (.slice a n c)] 25)]++irows 1 z.2.1 (flat intE z.2.2),ok:=fun z _=>z.1≤an∧z.2.1 = z.2.2.length∧z.2.2.length≤20 * r + z.1∧ChOk m z.2.2,m:=fun z=>an - z.1 }
    (0,t,l) (by cases t with
    | zero=>exact HeadP.of [] ⟨rfl,rfl,rfl,rfl,rfl,rfl,trivial⟩ ⟨rfl,trivial⟩
    | succ t=>exact HeadP.of [] ⟨rfl,rfl,rfl,rfl,rfl,rfl,trivial⟩ ⟨rfl,rfl,trivial⟩) ⟨Nat.zero_le _,k2,k3,k4⟩ (fun z=>by obtain ⟨_,t,_⟩:=z;cases t<;>exact ⟨rfl,rfl⟩) (fun z G3 hg3 hz=>W.mk ?_)
   obtain ⟨i,t,l⟩:=z
   clear k2 k3 k4
   obtain ⟨k0,k2,k3,k4⟩:=hz
   dsimp only at k0 k2 k3 k4
   replace hl:=SlR.grow (G:=G2) (G':=G3) (fun _ _ h=>h) hl hg3
   replace hm0:=moRd.grow hg3 hm0
   replace hall:=SlR.grow (G:=G2) (G':=G3) (fun _ _ h=>h) hall hg3
   replace hal:=hal.grow hg3
   cases t with
   | zero =>
    dsimp only [irow,irows]
    (conv=>whnf)
    refine IteP.mk (fun hlt=>W.mk ?_) (fun hge=>W.mk ?_)<;>(conv=>whnf)
    ·have hlt:i < al.length:=by have hlt:(i:Int) < an:=hlt;omega
     have hel:=hall.el hlt
     repeat' (refine ob ?_ ?_;(first | trivial | omega | (simp only [inR];omega) | exact ble (by rfl) | exact SlR.some ‹_› (by omega));(conv=>whnf))
     refine PurP.of _ (shr16 (s:=bits) (i:=i) (by omega)) (W.mk ?_)
     (conv=>whnf)
     repeat' (first | (refine ob ?_ ?_;(first | trivial | omega | (simp only [inR];omega) | exact ble (by rfl) | exact SlR.some ‹_› (by omega));(conv=>whnf)) | (first | (refine ra ‹_› (by rfl) ?_;(conv=>whnf)) | (refine rb ‹_› (by rfl) ?_;(conv=>whnf)) | (refine rc ‹_› (by rfl) ?_;(conv=>whnf)) | (refine rd ‹_› (by rfl) ?_;(conv=>whnf))))
     have hsh:=Int.ediv_nonneg (b:=2 ^ i) hb1 (Int.le_of_lt (Int.pow_pos (by decide)))
     generalize bits / 2 ^ i = Q at hsh ⊢
     refine OblP.mk ⟨by decide,hsh⟩ (W.mk ?_)
     (conv=>whnf)
     refine IteP.mk (fun he=>W.mk ?_) (fun he=>W.mk ?_)<;>(conv=>whnf)
     ·repeat' (refine ob ?_ ?_;(first | trivial | omega | (simp only [inR];omega) | exact ble (by rfl) | exact SlR.some ‹_› (by omega));(conv=>whnf))
      exact RoundP.of (i + 1,0,l) (HeadP.of [] ⟨rfl,rfl,rfl,rfl,rfl,rfl,trivial⟩ ⟨rfl,trivial⟩) ⟨by show i + 1≤an;omega,k2,by show l.length≤20 * r + (i + 1);omega,k4⟩ (by show an - (i + 1) < an - i;omega)
     repeat' (first | (refine ob ?_ ?_;(first | trivial | omega | (simp only [inR];omega) | exact ble (by rfl) | exact SlR.some ‹_› (by omega));(conv=>whnf)) | (first | (refine ra ‹_› (by rfl) ?_;(conv=>whnf)) | (refine rb ‹_› (by rfl) ?_;(conv=>whnf)) | (refine rc ‹_› (by rfl) ?_;(conv=>whnf)) | (refine rd ‹_› (by rfl) ?_;(conv=>whnf))))
     refine CallN.mk ⟨_,has13,body13,W.mk ?_⟩
     (conv=>whnf)
     refine ScaP.g (ok2 (slRd intE) intRd fun _ _=>True) (x:=([],al[i])) ⟨_,_,rfl,SlV.nil,rfl,trivial⟩ (fun v hv=>W.mk ?_)
     have hln0:l = []:=List.eq_nil_of_length_eq_zero k2.symm
     rw [← hln0] at hv
     subst hv
     (conv=>whnf)
     refine ForkP.mk (fun hb=>W.mk ?_) (fun hb=>W.mk ?_)
     ·(conv=>whnf)
      repeat' (refine ob ?_ ?_;(first | trivial | omega | (simp only [inR];omega) | exact ble (by rfl) | exact SlR.some ‹_› (by omega));(conv=>whnf))
      exact RoundP.of (i + 1,0,l) (HeadP.of [] ⟨rfl,rfl,rfl,rfl,rfl,rfl,trivial⟩ ⟨rfl,trivial⟩) ⟨by show i + 1≤an;omega,k2,by show l.length≤20 * r + (i + 1);omega,k4⟩ (by show an - (i + 1) < an - i;omega)
     have hni:al[i] ∉ l:=has_not hb
     obtain ⟨ip,hip,hix,hpo⟩:=num_ix (m:=m) (x:=al[i]) (halp.mem_iff.1 (List.getElem_mem hlt))
     have hpe:=hl.el (i:=ip) (by omega)
     rw [cs_get hip] at hpe
     (conv=>whnf)
     repeat' (first | (refine ob ?_ ?_;(first | trivial | omega | (simp only [inR];omega) | exact ble (by rfl) | exact SlR.some ‹_› (by omega));(conv=>whnf)) | (first | (refine ra ‹_› (by rfl) ?_;(conv=>whnf)) | (refine rb ‹_› (by rfl) ?_;(conv=>whnf)) | (refine rc ‹_› (by rfl) ?_;(conv=>whnf)) | (refine rd ‹_› (by rfl) ?_;(conv=>whnf))))
     refine ScaP.g (ok2 moRd intRd fun _ _=>True) (x:=(m,al[i])) ⟨_,_,rfl,hm0,rfl,trivial⟩ (fun v hv=>W.mk ?_)
     rw [show ixF (m,al[i]).1.ps (m,al[i]).2 = (ip:Int) from hix] at hv
     subst hv
     generalize m.ps[ip] = p at hpo hpe
     generalize hxe:al[i] = x at *
     (conv=>whnf)
     repeat' (first | (refine ob ?_ ?_;(first | trivial | omega | (simp only [inR];omega) | exact ble (by rfl) | exact SlR.some ‹_› (by omega));(conv=>whnf)) | (first | (refine ra ‹_› (by rfl) ?_;(conv=>whnf)) | (refine rb ‹_› (by rfl) ?_;(conv=>whnf)) | (refine rc ‹_› (by rfl) ?_;(conv=>whnf)) | (refine rd ‹_› (by rfl) ?_;(conv=>whnf))))
     refine IteP.mk (fun h0=>W.mk ?_) (fun h0=>W.mk ?_)<;>(conv=>whnf)
     ·refine LoopP.of { α:=Nat × Bool,fr:=fun z=>[(1, .v (U16 bits)),(2, .c (.ptr 0 0)),(5, .v (.slice aa an ac)),(6,irow 1 0),(7, .v (I r)),(8, .v (I i)),(9, .c (.ptr 40 0)),(10, .v (.bool z.2)),(11, .v (I z.1))],H:=fun z=>[(0, .cells .anon [.val (.slice wa wn wc), .val (.slice a n c)] 25),(40, .cells .anon ((pcL p.c).map .val) 42)]++irows 1 0 (flat intE l),ok:=fun z _=>z.1≤0∧(z.2 = true→(p.c.of = 0∨p.c.of∈l)∧∀ j (h:j < l.length),j < z.1→∀ q,pOf m l[j] = some q→clashF p.c q.c = false),m:=fun z=>0 - z.1 }
       (0,true) (HeadP.of [] ⟨rfl,rfl,rfl,rfl,rfl,rfl,rfl,rfl,rfl,trivial⟩ ⟨rfl,rfl,trivial⟩) ⟨Nat.zero_le _,fun h=>⟨(.inl h0),fun j _ h=>absurd h (Nat.not_lt_zero _)⟩⟩ (fun _=>⟨rfl,rfl⟩) (fun z G6 hg6 hz=>W.mk ?_)
      obtain ⟨k,fine⟩:=z
      obtain ⟨f1,f2⟩:=hz
      dsimp only at f1 f2
      replace hl:=slr_grow (E:=pcE) hg6 hl
      replace hm0:=moRd.grow hg6 hm0
      replace hel:=hel.grow hg6
      dsimp only [irow,irows]
      cases fine with
      | false =>
       (conv=>whnf)
       refine IteP.mk (fun hlk=>W.mk ?_) (fun hlk=>W.mk ?_)<;>(conv=>whnf)
       ·have hlk:k < 0:=by have hlk:(k:Int) < (0:Nat):=hlk;omega
        repeat' (refine ob ?_ ?_;(first | trivial | omega | (simp only [inR];omega) | exact ble (by rfl) | exact SlR.some ‹_› (by omega));(conv=>whnf))
        exact RoundP.of (k + 1,false) (HeadP.of [] ⟨rfl,rfl,rfl,rfl,rfl,rfl,rfl,rfl,rfl,trivial⟩ ⟨rfl,rfl,trivial⟩) ⟨hlk,fun h=>by cases h⟩ (by show 0 - (k + 1) < 0 - k;omega)
       ·repeat' (refine ob ?_ ?_;(first | trivial | omega | (simp only [inR];omega) | exact ble (by rfl) | exact SlR.some ‹_› (by omega));(conv=>whnf))
        exact RoundP.of (i + 1,0,l) (HeadP.of [] ⟨rfl,rfl,rfl,rfl,rfl,rfl,trivial⟩ ⟨rfl,trivial⟩) ⟨by show i + 1≤an;omega,k2,by show l.length≤20 * r + (i + 1);omega,k4⟩ (by show an - (i + 1) < an - i;omega)
      | true =>
       (conv=>whnf)
       refine IteP.mk (fun hlk=>W.mk ?_) (fun hlk=>W.mk ?_)<;>(conv=>whnf)
       ·exact absurd (show k < l.length by have hlk:(k:Int) < (0:Nat):=hlk;omega) (by omega)
       ·have hlk:¬ (k:Int) < (0:Nat):=hlk
        have hsrt:=inc_sorted k4.inc
        have hlT:l.length = 0:=k2.symm
        obtain ⟨hof,hcl2⟩:=f2 rfl
        have hcl3:∀ c∈l, ∀ q,pOf m c = some q→clashF p.c q.c = false:=fun c hc q hq=>by
         obtain ⟨j,hj,rfl⟩:=List.getElem_of_mem hc
         exact hcl2 j hj (by omega) q hq
        repeat' (first | (refine ob ?_ ?_;(first | trivial | omega | (simp only [inR];omega) | exact ble (by rfl) | exact SlR.some ‹_› (by omega));(conv=>whnf)) | (first | (refine ra ‹_› (by rfl) ?_;(conv=>whnf)) | (refine rb ‹_› (by rfl) ?_;(conv=>whnf)) | (refine rc ‹_› (by rfl) ?_;(conv=>whnf)) | (refine rd ‹_› (by rfl) ?_;(conv=>whnf))))
        refine LoopP.of { α:=Nat × List Int,fr:=fun z=>[(1, .v (U16 bits)),(2, .c (.ptr 0 0)),(5, .v (.slice aa an ac)),(6, .c (.row 85 (0 + 1))),(7, .v (I r)),(8, .v (I i)),(12, .v (I z.1))],H:=fun z=>[(0, .cells .anon [.val (.slice wa wn wc), .val (.slice a n c)] 25),(85, .row none (0 + 1) (flat intE z.2) 3 1)],ok:=fun z _=>DnI l x z.1 z.2∧z.1≤0,m:=fun z=>z.1 }
         (0,l++[x]) (HeadP.of [] ⟨rfl,rfl,rfl,rfl,rfl,rfl,rfl,trivial⟩ ⟨rfl,(by rw [hln0];rfl),trivial⟩) ⟨by have:=DnI.start hsrt x;rwa [hlT] at this,Nat.le_refl _⟩ (fun _=>⟨rfl,rfl⟩) (fun z G2 hG2 hz=>W.mk ?_)
        obtain ⟨j,l2⟩:=z
        obtain ⟨hd,hj⟩:=hz
        dsimp only at hd hj
        dsimp only
        have hl2:=hd.len
        have e0:(((j:Int) - 1).toNat) = j - 1:=by omega
        (conv=>whnf)
        refine IteP.mk (fun hj0=>W.mk ?_) (fun hj0=>W.mk ?_)<;>(conv=>whnf)
        ·have hj0:0 < j:=by have hj0:(j:Int) > 0:=hj0;omega
         exact absurd hj (by omega)
        ·have hj0:¬ (j:Int) > 0:=hj0
         have hso:=hd.stop (by omega) (.inl (by omega))
         repeat' (refine ob ?_ ?_;(first | trivial | omega | (simp only [inR];omega) | exact ble (by rfl) | exact SlR.some ‹_› (by omega));(conv=>whnf))
         exact RoundP.of (i + 1,0 + 1,l2) (HeadP.of [(1,some 85)] ⟨rfl,rfl,rfl,rfl,rfl,rfl,trivial⟩ ⟨rfl,rfl,trivial⟩) ⟨by show i + 1≤an;omega,by show 0 + 1 = l2.length;omega,by show l2.length≤20 * r + (i + 1);omega,chOk_add k4 hpo hni hof hcl3 hd.p hso⟩ (by show an - (i + 1) < an - i;omega)
     refine CallN.mk ⟨_,has13,body13,W.mk ?_⟩
     (conv=>whnf)
     refine ScaP.g (ok2 (slRd intE) intRd fun _ _=>True) (x:=([],p.c.of)) ⟨_,_,rfl,SlV.nil,rfl,trivial⟩ (fun v hv=>W.mk ?_)
     rw [← hln0] at hv
     subst hv
     (conv=>whnf)
     refine ForkP.mk (fun hb2=>W.mk ?_) (fun hb2=>W.mk ?_)
     ·(conv=>whnf)
      refine LoopP.of { α:=Nat × Bool,fr:=fun z=>[(1, .v (U16 bits)),(2, .c (.ptr 0 0)),(5, .v (.slice aa an ac)),(6,irow 1 0),(7, .v (I r)),(8, .v (I i)),(9, .c (.ptr 40 0)),(10, .v (.bool z.2)),(11, .v (I z.1))],H:=fun z=>[(0, .cells .anon [.val (.slice wa wn wc), .val (.slice a n c)] 25),(40, .cells .anon ((pcL p.c).map .val) 42)]++irows 1 0 (flat intE l),ok:=fun z _=>z.1≤0∧(z.2 = true→(p.c.of = 0∨p.c.of∈l)∧∀ j (h:j < l.length),j < z.1→∀ q,pOf m l[j] = some q→clashF p.c q.c = false),m:=fun z=>0 - z.1 }
       (0,true) (HeadP.of [] ⟨rfl,rfl,rfl,rfl,rfl,rfl,rfl,rfl,rfl,trivial⟩ ⟨rfl,rfl,trivial⟩) ⟨Nat.zero_le _,fun h=>⟨(.inr (has_mem hb2)),fun j _ h=>absurd h (Nat.not_lt_zero _)⟩⟩ (fun _=>⟨rfl,rfl⟩) (fun z G6 hg6 hz=>W.mk ?_)
      obtain ⟨k,fine⟩:=z
      obtain ⟨f1,f2⟩:=hz
      dsimp only at f1 f2
      replace hl:=slr_grow (E:=pcE) hg6 hl
      replace hm0:=moRd.grow hg6 hm0
      replace hel:=hel.grow hg6
      dsimp only [irow,irows]
      cases fine with
      | false =>
       (conv=>whnf)
       refine IteP.mk (fun hlk=>W.mk ?_) (fun hlk=>W.mk ?_)<;>(conv=>whnf)
       ·have hlk:k < 0:=by have hlk:(k:Int) < (0:Nat):=hlk;omega
        repeat' (refine ob ?_ ?_;(first | trivial | omega | (simp only [inR];omega) | exact ble (by rfl) | exact SlR.some ‹_› (by omega));(conv=>whnf))
        exact RoundP.of (k + 1,false) (HeadP.of [] ⟨rfl,rfl,rfl,rfl,rfl,rfl,rfl,rfl,rfl,trivial⟩ ⟨rfl,rfl,trivial⟩) ⟨hlk,fun h=>by cases h⟩ (by show 0 - (k + 1) < 0 - k;omega)
       ·repeat' (refine ob ?_ ?_;(first | trivial | omega | (simp only [inR];omega) | exact ble (by rfl) | exact SlR.some ‹_› (by omega));(conv=>whnf))
        exact RoundP.of (i + 1,0,l) (HeadP.of [] ⟨rfl,rfl,rfl,rfl,rfl,rfl,trivial⟩ ⟨rfl,trivial⟩) ⟨by show i + 1≤an;omega,k2,by show l.length≤20 * r + (i + 1);omega,k4⟩ (by show an - (i + 1) < an - i;omega)
      | true =>
       (conv=>whnf)
       refine IteP.mk (fun hlk=>W.mk ?_) (fun hlk=>W.mk ?_)<;>(conv=>whnf)
       ·exact absurd (show k < l.length by have hlk:(k:Int) < (0:Nat):=hlk;omega) (by omega)
       ·have hlk:¬ (k:Int) < (0:Nat):=hlk
        have hsrt:=inc_sorted k4.inc
        have hlT:l.length = 0:=k2.symm
        obtain ⟨hof,hcl2⟩:=f2 rfl
        have hcl3:∀ c∈l, ∀ q,pOf m c = some q→clashF p.c q.c = false:=fun c hc q hq=>by
         obtain ⟨j,hj,rfl⟩:=List.getElem_of_mem hc
         exact hcl2 j hj (by omega) q hq
        repeat' (first | (refine ob ?_ ?_;(first | trivial | omega | (simp only [inR];omega) | exact ble (by rfl) | exact SlR.some ‹_› (by omega));(conv=>whnf)) | (first | (refine ra ‹_› (by rfl) ?_;(conv=>whnf)) | (refine rb ‹_› (by rfl) ?_;(conv=>whnf)) | (refine rc ‹_› (by rfl) ?_;(conv=>whnf)) | (refine rd ‹_› (by rfl) ?_;(conv=>whnf))))
        refine LoopP.of { α:=Nat × List Int,fr:=fun z=>[(1, .v (U16 bits)),(2, .c (.ptr 0 0)),(5, .v (.slice aa an ac)),(6, .c (.row 85 (0 + 1))),(7, .v (I r)),(8, .v (I i)),(12, .v (I z.1))],H:=fun z=>[(0, .cells .anon [.val (.slice wa wn wc), .val (.slice a n c)] 25),(85, .row none (0 + 1) (flat intE z.2) 3 1)],ok:=fun z _=>DnI l x z.1 z.2∧z.1≤0,m:=fun z=>z.1 }
         (0,l++[x]) (HeadP.of [] ⟨rfl,rfl,rfl,rfl,rfl,rfl,rfl,trivial⟩ ⟨rfl,(by rw [hln0];rfl),trivial⟩) ⟨by have:=DnI.start hsrt x;rwa [hlT] at this,Nat.le_refl _⟩ (fun _=>⟨rfl,rfl⟩) (fun z G2 hG2 hz=>W.mk ?_)
        obtain ⟨j,l2⟩:=z
        obtain ⟨hd,hj⟩:=hz
        dsimp only at hd hj
        dsimp only
        have hl2:=hd.len
        have e0:(((j:Int) - 1).toNat) = j - 1:=by omega
        (conv=>whnf)
        refine IteP.mk (fun hj0=>W.mk ?_) (fun hj0=>W.mk ?_)<;>(conv=>whnf)
        ·have hj0:0 < j:=by have hj0:(j:Int) > 0:=hj0;omega
         exact absurd hj (by omega)
        ·have hj0:¬ (j:Int) > 0:=hj0
         have hso:=hd.stop (by omega) (.inl (by omega))
         repeat' (refine ob ?_ ?_;(first | trivial | omega | (simp only [inR];omega) | exact ble (by rfl) | exact SlR.some ‹_› (by omega));(conv=>whnf))
         exact RoundP.of (i + 1,0 + 1,l2) (HeadP.of [(1,some 85)] ⟨rfl,rfl,rfl,rfl,rfl,rfl,trivial⟩ ⟨rfl,rfl,trivial⟩) ⟨by show i + 1≤an;omega,by show 0 + 1 = l2.length;omega,by show l2.length≤20 * r + (i + 1);omega,chOk_add k4 hpo hni hof hcl3 hd.p hso⟩ (by show an - (i + 1) < an - i;omega)
     ·(conv=>whnf)
      refine LoopP.of { α:=Nat × Bool,fr:=fun z=>[(1, .v (U16 bits)),(2, .c (.ptr 0 0)),(5, .v (.slice aa an ac)),(6,irow 1 0),(7, .v (I r)),(8, .v (I i)),(9, .c (.ptr 40 0)),(10, .v (.bool z.2)),(11, .v (I z.1))],H:=fun z=>[(0, .cells .anon [.val (.slice wa wn wc), .val (.slice a n c)] 25),(40, .cells .anon ((pcL p.c).map .val) 42)]++irows 1 0 (flat intE l),ok:=fun z _=>z.1≤0∧(z.2 = true→(p.c.of = 0∨p.c.of∈l)∧∀ j (h:j < l.length),j < z.1→∀ q,pOf m l[j] = some q→clashF p.c q.c = false),m:=fun z=>0 - z.1 }
       (0,false) (HeadP.of [] ⟨rfl,rfl,rfl,rfl,rfl,rfl,rfl,rfl,rfl,trivial⟩ ⟨rfl,rfl,trivial⟩) ⟨Nat.zero_le _,fun h=>⟨(by cases h),fun j _ h=>absurd h (Nat.not_lt_zero _)⟩⟩ (fun _=>⟨rfl,rfl⟩) (fun z G6 hg6 hz=>W.mk ?_)
      obtain ⟨k,fine⟩:=z
      obtain ⟨f1,f2⟩:=hz
      dsimp only at f1 f2
      replace hl:=slr_grow (E:=pcE) hg6 hl
      replace hm0:=moRd.grow hg6 hm0
      replace hel:=hel.grow hg6
      dsimp only [irow,irows]
      cases fine with
      | false =>
       (conv=>whnf)
       refine IteP.mk (fun hlk=>W.mk ?_) (fun hlk=>W.mk ?_)<;>(conv=>whnf)
       ·have hlk:k < 0:=by have hlk:(k:Int) < (0:Nat):=hlk;omega
        repeat' (refine ob ?_ ?_;(first | trivial | omega | (simp only [inR];omega) | exact ble (by rfl) | exact SlR.some ‹_› (by omega));(conv=>whnf))
        exact RoundP.of (k + 1,false) (HeadP.of [] ⟨rfl,rfl,rfl,rfl,rfl,rfl,rfl,rfl,rfl,trivial⟩ ⟨rfl,rfl,trivial⟩) ⟨hlk,fun h=>by cases h⟩ (by show 0 - (k + 1) < 0 - k;omega)
       ·repeat' (refine ob ?_ ?_;(first | trivial | omega | (simp only [inR];omega) | exact ble (by rfl) | exact SlR.some ‹_› (by omega));(conv=>whnf))
        exact RoundP.of (i + 1,0,l) (HeadP.of [] ⟨rfl,rfl,rfl,rfl,rfl,rfl,trivial⟩ ⟨rfl,trivial⟩) ⟨by show i + 1≤an;omega,k2,by show l.length≤20 * r + (i + 1);omega,k4⟩ (by show an - (i + 1) < an - i;omega)
      | true =>
       (conv=>whnf)
       refine IteP.mk (fun hlk=>W.mk ?_) (fun hlk=>W.mk ?_)<;>(conv=>whnf)
       ·exact absurd (show k < l.length by have hlk:(k:Int) < (0:Nat):=hlk;omega) (by omega)
       ·have hlk:¬ (k:Int) < (0:Nat):=hlk
        have hsrt:=inc_sorted k4.inc
        have hlT:l.length = 0:=k2.symm
        obtain ⟨hof,hcl2⟩:=f2 rfl
        have hcl3:∀ c∈l, ∀ q,pOf m c = some q→clashF p.c q.c = false:=fun c hc q hq=>by
         obtain ⟨j,hj,rfl⟩:=List.getElem_of_mem hc
         exact hcl2 j hj (by omega) q hq
        repeat' (first | (refine ob ?_ ?_;(first | trivial | omega | (simp only [inR];omega) | exact ble (by rfl) | exact SlR.some ‹_› (by omega));(conv=>whnf)) | (first | (refine ra ‹_› (by rfl) ?_;(conv=>whnf)) | (refine rb ‹_› (by rfl) ?_;(conv=>whnf)) | (refine rc ‹_› (by rfl) ?_;(conv=>whnf)) | (refine rd ‹_› (by rfl) ?_;(conv=>whnf))))
        refine LoopP.of { α:=Nat × List Int,fr:=fun z=>[(1, .v (U16 bits)),(2, .c (.ptr 0 0)),(5, .v (.slice aa an ac)),(6, .c (.row 85 (0 + 1))),(7, .v (I r)),(8, .v (I i)),(12, .v (I z.1))],H:=fun z=>[(0, .cells .anon [.val (.slice wa wn wc), .val (.slice a n c)] 25),(85, .row none (0 + 1) (flat intE z.2) 3 1)],ok:=fun z _=>DnI l x z.1 z.2∧z.1≤0,m:=fun z=>z.1 }
         (0,l++[x]) (HeadP.of [] ⟨rfl,rfl,rfl,rfl,rfl,rfl,rfl,trivial⟩ ⟨rfl,(by rw [hln0];rfl),trivial⟩) ⟨by have:=DnI.start hsrt x;rwa [hlT] at this,Nat.le_refl _⟩ (fun _=>⟨rfl,rfl⟩) (fun z G2 hG2 hz=>W.mk ?_)
        obtain ⟨j,l2⟩:=z
        obtain ⟨hd,hj⟩:=hz
        dsimp only at hd hj
        dsimp only
        have hl2:=hd.len
        have e0:(((j:Int) - 1).toNat) = j - 1:=by omega
        (conv=>whnf)
        refine IteP.mk (fun hj0=>W.mk ?_) (fun hj0=>W.mk ?_)<;>(conv=>whnf)
        ·have hj0:0 < j:=by have hj0:(j:Int) > 0:=hj0;omega
         exact absurd hj (by omega)
        ·have hj0:¬ (j:Int) > 0:=hj0
         have hso:=hd.stop (by omega) (.inl (by omega))
         repeat' (refine ob ?_ ?_;(first | trivial | omega | (simp only [inR];omega) | exact ble (by rfl) | exact SlR.some ‹_› (by omega));(conv=>whnf))
         exact RoundP.of (i + 1,0 + 1,l2) (HeadP.of [(1,some 85)] ⟨rfl,rfl,rfl,rfl,rfl,rfl,trivial⟩ ⟨rfl,rfl,trivial⟩) ⟨by show i + 1≤an;omega,by show 0 + 1 = l2.length;omega,by show l2.length≤20 * r + (i + 1);omega,chOk_add k4 hpo hni hof hcl3 hd.p hso⟩ (by show an - (i + 1) < an - i;omega)
    ·have hge:¬ (i:Int) < an:=hge
     repeat' (refine ob ?_ ?_;(first | trivial | omega | (simp only [inR];omega) | exact ble (by rfl) | exact SlR.some ‹_› (by omega));(conv=>whnf))
     exact RoundP.of (r + 1,0,l) (HeadP.of [] ⟨rfl,rfl,rfl,rfl,rfl,trivial⟩ ⟨rfl,trivial⟩) ⟨by show r + 1≤an;have:(r:Int) < an:=hltr;omega,k2,by show l.length≤20 * (r + 1);omega,k4⟩ (by show an - (r + 1) < an - r;have:(r:Int) < an:=hltr;omega)
   | succ t =>
    dsimp only [irow,irows]
    (conv=>whnf)
    refine IteP.mk (fun hlt=>W.mk ?_) (fun hge=>W.mk ?_)<;>(conv=>whnf)
    ·have hlt:i < al.length:=by have hlt:(i:Int) < an:=hlt;omega
     have hel:=hall.el hlt
     repeat' (refine ob ?_ ?_;(first | trivial | omega | (simp only [inR];omega) | exact ble (by rfl) | exact SlR.some ‹_› (by omega));(conv=>whnf))
     refine PurP.of _ (shr16 (s:=bits) (i:=i) (by omega)) (W.mk ?_)
     (conv=>whnf)
     have hsh:=Int.ediv_nonneg (b:=2 ^ i) hb1 (Int.le_of_lt (Int.pow_pos (by decide)))
     generalize bits / 2 ^ i = Q at hsh ⊢
     refine OblP.mk ⟨by decide,hsh⟩ (W.mk ?_)
     (conv=>whnf)
     refine IteP.mk (fun he=>W.mk ?_) (fun he=>W.mk ?_)<;>(conv=>whnf)
     ·repeat' (refine ob ?_ ?_;(first | trivial | omega | (simp only [inR];omega) | exact ble (by rfl) | exact SlR.some ‹_› (by omega));(conv=>whnf))
      exact RoundP.of (i + 1,(t + 1),l) (HeadP.of [] ⟨rfl,rfl,rfl,rfl,rfl,rfl,trivial⟩ ⟨rfl,rfl,trivial⟩) ⟨by show i + 1≤an;omega,k2,by show l.length≤20 * r + (i + 1);omega,k4⟩ (by show an - (i + 1) < an - i;omega)
     repeat' (first | (refine ob ?_ ?_;(first | trivial | omega | (simp only [inR];omega) | exact ble (by rfl) | exact SlR.some ‹_› (by omega));(conv=>whnf)) | (first | (refine ra ‹_› (by rfl) ?_;(conv=>whnf)) | (refine rb ‹_› (by rfl) ?_;(conv=>whnf)) | (refine rc ‹_› (by rfl) ?_;(conv=>whnf)) | (refine rd ‹_› (by rfl) ?_;(conv=>whnf))))
     refine PubP.opn (Nat.succ_ne_zero t) (fun b cap rest g1 g2 g3=>W.mk ?_)
     (conv=>whnf)
     refine CallN.mk ⟨_,Sound.lendS has13 (fun v=>v = .bool (hasI l al[i])),body13,W.mk ?_⟩
     (conv=>whnf)
     refine StP.mk ⟨[(1,⟨b,false, .row (t + 1) (t + 1) cap (flat intE l) rest 3 1⟩)],⟨⟨_,_,rfl,rfl,Nat.le_refl _,by rw [flat_len, ← k2];rfl,g3,g1,g2,flat_one _ _⟩,trivial⟩,by simp,⟨fun x hx=>by rw [List.mem_singleton.1 hx],fun _=>⟨⟨(l,al[i]),_,_,rfl,joinF k2.symm g1 (by omega),rfl,trivial⟩,fun v hv=>?_⟩⟩,fun v ns G4 hg4 hpost=>W.mk ?_⟩
     ·obtain ⟨y,hy,e⟩:=hv
      have:y = (l,al[i]):=(ok2 (slRd intE) intRd fun _ _=>True).uniq _ _ _ _ hy ⟨_,_,rfl,joinF k2.symm g1 (by omega),rfl,trivial⟩
      subst this;exact e
     obtain ⟨rfl,rfl⟩:=hpost
     replace hl:=slr_grow (E:=pcE) hg4 hl
     replace hm0:=moRd.grow hg4 hm0
     replace hall:=slr_grow (E:=intE) hg4 hall
     replace hal:=hal.grow hg4
     replace hel:=hel.grow hg4
     clear hg4
     (conv=>whnf)
     refine ForkP.mk (fun hb=>W.mk ?_) (fun hb=>W.mk ?_)
     ·(conv=>whnf)
      repeat' (refine ob ?_ ?_;(first | trivial | omega | (simp only [inR];omega) | exact ble (by rfl) | exact SlR.some ‹_› (by omega));(conv=>whnf))
      exact RoundP.of (i + 1,(t + 1),l) (HeadP.of [] ⟨rfl,rfl,rfl,rfl,rfl,rfl,trivial⟩ ⟨rfl,rfl,trivial⟩) ⟨by show i + 1≤an;omega,k2,by show l.length≤20 * r + (i + 1);omega,k4⟩ (by show an - (i + 1) < an - i;omega)
     have hni:al[i] ∉ l:=has_not hb
     obtain ⟨ip,hip,hix,hpo⟩:=num_ix (m:=m) (x:=al[i]) (halp.mem_iff.1 (List.getElem_mem hlt))
     have hpe:=hl.el (i:=ip) (by omega)
     rw [cs_get hip] at hpe
     (conv=>whnf)
     repeat' (first | (refine ob ?_ ?_;(first | trivial | omega | (simp only [inR];omega) | exact ble (by rfl) | exact SlR.some ‹_› (by omega));(conv=>whnf)) | (first | (refine ra ‹_› (by rfl) ?_;(conv=>whnf)) | (refine rb ‹_› (by rfl) ?_;(conv=>whnf)) | (refine rc ‹_› (by rfl) ?_;(conv=>whnf)) | (refine rd ‹_› (by rfl) ?_;(conv=>whnf))))
     refine ScaP.g (ok2 moRd intRd fun _ _=>True) (x:=(m,al[i])) ⟨_,_,rfl,hm0,rfl,trivial⟩ (fun v hv=>W.mk ?_)
     rw [show ixF (m,al[i]).1.ps (m,al[i]).2 = (ip:Int) from hix] at hv
     subst hv
     generalize m.ps[ip] = p at hpo hpe
     generalize hxe:al[i] = x at *
     (conv=>whnf)
     repeat' (first | (refine ob ?_ ?_;(first | trivial | omega | (simp only [inR];omega) | exact ble (by rfl) | exact SlR.some ‹_› (by omega));(conv=>whnf)) | (first | (refine ra ‹_› (by rfl) ?_;(conv=>whnf)) | (refine rb ‹_› (by rfl) ?_;(conv=>whnf)) | (refine rc ‹_› (by rfl) ?_;(conv=>whnf)) | (refine rd ‹_› (by rfl) ?_;(conv=>whnf))))
     refine IteP.mk (fun h0=>W.mk ?_) (fun h0=>W.mk ?_)<;>(conv=>whnf)
     ·refine LoopP.of { α:=Nat × Bool,fr:=fun z=>[(1, .v (U16 bits)),(2, .c (.ptr 0 0)),(5, .v (.slice aa an ac)),(6,irow 1 (t + 1)),(7, .v (I r)),(8, .v (I i)),(9, .c (.ptr 40 0)),(10, .v (.bool z.2)),(11, .v (I z.1))],H:=fun z=>[(0, .cells .anon [.val (.slice wa wn wc), .val (.slice a n c)] 25),(40, .cells .anon ((pcL p.c).map .val) 42)]++irows 1 (t + 1) (flat intE l),ok:=fun z _=>z.1≤(t + 1)∧(z.2 = true→(p.c.of = 0∨p.c.of∈l)∧∀ j (h:j < l.length),j < z.1→∀ q,pOf m l[j] = some q→clashF p.c q.c = false),m:=fun z=>(t + 1) - z.1 }
       (0,true) (HeadP.of [] ⟨rfl,rfl,rfl,rfl,rfl,rfl,rfl,rfl,rfl,trivial⟩ ⟨rfl,rfl,rfl,trivial⟩) ⟨Nat.zero_le _,fun h=>⟨(.inl h0),fun j _ h=>absurd h (Nat.not_lt_zero _)⟩⟩ (fun _=>⟨rfl,rfl⟩) (fun z G6 hg6 hz=>W.mk ?_)
      obtain ⟨k,fine⟩:=z
      obtain ⟨f1,f2⟩:=hz
      dsimp only at f1 f2
      replace hl:=slr_grow (E:=pcE) hg6 hl
      replace hm0:=moRd.grow hg6 hm0
      replace hel:=hel.grow hg6
      dsimp only [irow,irows]
      cases fine with
      | false =>
       (conv=>whnf)
       refine IteP.mk (fun hlk=>W.mk ?_) (fun hlk=>W.mk ?_)<;>(conv=>whnf)
       ·have hlk:k < (t + 1):=by have hlk:(k:Int) < ((t + 1):Nat):=hlk;omega
        repeat' (refine ob ?_ ?_;(first | trivial | omega | (simp only [inR];omega) | exact ble (by rfl) | exact SlR.some ‹_› (by omega));(conv=>whnf))
        exact RoundP.of (k + 1,false) (HeadP.of [] ⟨rfl,rfl,rfl,rfl,rfl,rfl,rfl,rfl,rfl,trivial⟩ ⟨rfl,rfl,rfl,trivial⟩) ⟨hlk,fun h=>by cases h⟩ (by show (t + 1) - (k + 1) < (t + 1) - k;omega)
       ·repeat' (refine ob ?_ ?_;(first | trivial | omega | (simp only [inR];omega) | exact ble (by rfl) | exact SlR.some ‹_› (by omega));(conv=>whnf))
        exact RoundP.of (i + 1,(t + 1),l) (HeadP.of [] ⟨rfl,rfl,rfl,rfl,rfl,rfl,trivial⟩ ⟨rfl,rfl,trivial⟩) ⟨by show i + 1≤an;omega,k2,by show l.length≤20 * r + (i + 1);omega,k4⟩ (by show an - (i + 1) < an - i;omega)
      | true =>
       (conv=>whnf)
       refine IteP.mk (fun hlk=>W.mk ?_) (fun hlk=>W.mk ?_)<;>(conv=>whnf)
       ·have hlk:k < l.length:=by have hlk:(k:Int) < (t + 1:Nat):=hlk;omega
        obtain ⟨q,hq⟩:=k4.mem _ (List.getElem_mem hlk)
        obtain ⟨iq,hiq,hixq,hpq⟩:=num_ix (m:=m) (x:=l[k]) (List.mem_map.2 ⟨q,(pOf_mem hq).1,(pOf_mem hq).2⟩)
        have hqe:=hl.el (i:=iq) (by omega)
        rw [cs_get hiq] at hqe
        repeat' (first | (refine OblP.mk rfl (W.mk ?_);(conv=>whnf)) | (refine ob ?_ ?_;(first | trivial | omega | (simp only [inR];omega) | exact ble (by rfl) | exact SlR.some ‹_› (by omega));(conv=>whnf)) | (first | (refine ra ‹_› (by rfl) ?_;(conv=>whnf)) | (refine rb ‹_› (by rfl) ?_;(conv=>whnf)) | (refine rc ‹_› (by rfl) ?_;(conv=>whnf)) | (refine rd ‹_› (by rfl) ?_;(conv=>whnf))))
        refine EqP.mk ⟨intE.f l[k],fl_at (E:=intE) hlk rfl,rfl,W.mk ?_⟩
        (conv=>whnf)
        refine ScaP.g (ok2 moRd intRd fun _ _=>True) (x:=(m,l[k])) ⟨_,_,rfl,hm0,rfl,trivial⟩ (fun v hv=>W.mk ?_)
        rw [show ixF (m,l[k]).1.ps (m,l[k]).2 = (iq:Int) from hixq] at hv
        subst hv
        generalize m.ps[iq] = qq at hpq hqe
        (conv=>whnf)
        repeat' (first | (refine ob ?_ ?_;(first | trivial | omega | (simp only [inR];omega) | exact ble (by rfl) | exact SlR.some ‹_› (by omega));(conv=>whnf)) | (first | (refine ra ‹_› (by rfl) ?_;(conv=>whnf)) | (refine rb ‹_› (by rfl) ?_;(conv=>whnf)) | (refine rc ‹_› (by rfl) ?_;(conv=>whnf)) | (refine rd ‹_› (by rfl) ?_;(conv=>whnf))))
        refine ScaP.g (ok2 pcRd pcRd fun _ _=>True) (x:=(p.c,qq.c)) ⟨_,_,rfl,rfl,rfl,trivial⟩ (fun v hv=>W.mk ?_)
        have hv:v = .bool (clashF p.c qq.c):=hv
        have hpq2:q = qq:=Option.some.inj (hq.symm.trans hpq)
        cases hcq:clashF p.c qq.c with
        | true =>
         rw [hcq] at hv
         subst hv
         (conv=>whnf)
         refine ForkP.mk (fun _=>W.mk ?_) (fun h=>by cases h)
         (conv=>whnf)
         repeat' (refine ob ?_ ?_;(first | trivial | omega | (simp only [inR];omega) | exact ble (by rfl) | exact SlR.some ‹_› (by omega));(conv=>whnf))
         exact RoundP.of (k + 1,false) (HeadP.of [] ⟨rfl,rfl,rfl,rfl,rfl,rfl,rfl,rfl,rfl,trivial⟩ ⟨rfl,rfl,rfl,trivial⟩) ⟨by show k + 1≤t + 1;omega,fun h=>by cases h⟩ (by show t + 1 - (k + 1) < t + 1 - k;omega)
        | false =>
         rw [hcq] at hv
         subst hv
         (conv=>whnf)
         refine ForkP.mk (fun h=>by cases h) (fun _=>W.mk ?_)
         (conv=>whnf)
         repeat' (refine ob ?_ ?_;(first | trivial | omega | (simp only [inR];omega) | exact ble (by rfl) | exact SlR.some ‹_› (by omega));(conv=>whnf))
         refine RoundP.of (k + 1,true) (HeadP.of [] ⟨rfl,rfl,rfl,rfl,rfl,rfl,rfl,rfl,rfl,trivial⟩ ⟨rfl,rfl,rfl,trivial⟩) ⟨by show k + 1≤t + 1;omega,fun _=>⟨(f2 rfl).1,fun j hj hjk q' hq'=>?_⟩⟩ (by show t + 1 - (k + 1) < t + 1 - k;omega)
         by_cases e:j = k
         ·subst e
          rw [hq] at hq';cases hq'
          rw [hpq2];exact hcq
         ·exact (f2 rfl).2 j hj (by have hjk:j < k + 1:=hjk;omega) q' hq'
       ·have hlk:¬ (k:Int) < ((t + 1):Nat):=hlk
        have hsrt:=inc_sorted k4.inc
        have hlT:l.length = (t + 1):=k2.symm
        obtain ⟨hof,hcl2⟩:=f2 rfl
        have hcl3:∀ c∈l, ∀ q,pOf m c = some q→clashF p.c q.c = false:=fun c hc q hq=>by
         obtain ⟨j,hj,rfl⟩:=List.getElem_of_mem hc
         exact hcl2 j hj (by omega) q hq
        repeat' (first | (refine ob ?_ ?_;(first | trivial | omega | (simp only [inR];omega) | exact ble (by rfl) | exact SlR.some ‹_› (by omega));(conv=>whnf)) | (first | (refine ra ‹_› (by rfl) ?_;(conv=>whnf)) | (refine rb ‹_› (by rfl) ?_;(conv=>whnf)) | (refine rc ‹_› (by rfl) ?_;(conv=>whnf)) | (refine rd ‹_› (by rfl) ?_;(conv=>whnf))))
        refine LoopP.of { α:=Nat × List Int,fr:=fun z=>[(1, .v (U16 bits)),(2, .c (.ptr 0 0)),(5, .v (.slice aa an ac)),(6, .c (.row 85 ((t + 1) + 1))),(7, .v (I r)),(8, .v (I i)),(12, .v (I z.1))],H:=fun z=>[(0, .cells .anon [.val (.slice wa wn wc), .val (.slice a n c)] 25),(85, .row none ((t + 1) + 1) (flat intE z.2) 3 1)],ok:=fun z _=>DnI l x z.1 z.2∧z.1≤(t + 1),m:=fun z=>z.1 }
         ((t + 1),l++[x]) (HeadP.of [] ⟨rfl,rfl,rfl,rfl,rfl,rfl,(by show SV.v (I _) = SV.v (I _);congr 3;omega),trivial⟩ ⟨rfl,(congrArg (fun v=>OB.row none (t + 1 + 1) v 3 1) (flat_app intE l [x])),trivial⟩) ⟨by have:=DnI.start hsrt x;rwa [hlT] at this,Nat.le_refl _⟩ (fun _=>⟨rfl,rfl⟩) (fun z G2 hG2 hz=>W.mk ?_)
        obtain ⟨j,l2⟩:=z
        obtain ⟨hd,hj⟩:=hz
        dsimp only at hd hj
        dsimp only
        have hl2:=hd.len
        have e0:(((j:Int) - 1).toNat) = j - 1:=by omega
        (conv=>whnf)
        refine IteP.mk (fun hj0=>W.mk ?_) (fun hj0=>W.mk ?_)<;>(conv=>whnf)
        ·have hj0:0 < j:=by have hj0:(j:Int) > 0:=hj0;omega
         have hjl:j < l2.length:=by omega
         have hjl1:j - 1 < l2.length:=by omega
         repeat' (first | (refine OblP.mk rfl (W.mk ?_);(conv=>whnf)) | (refine ob ?_ ?_;(first | trivial | omega | (simp only [inR];omega) | exact ble (by rfl) | exact SlR.some ‹_› (by omega));(conv=>whnf)))
         refine EqP.mk ⟨intE.f l2[j],fl_at (E:=intE) hjl rfl,rfl,W.mk ?_⟩
         (conv=>whnf)
         repeat' (first | (refine OblP.mk rfl (W.mk ?_);(conv=>whnf)) | (refine ob ?_ ?_;(first | trivial | omega | (simp only [inR];omega) | exact ble (by rfl) | exact SlR.some ‹_› (by omega));(conv=>whnf)))
         refine EqP.mk ⟨intE.f l2[j - 1],fl_at (E:=intE) hjl1 (by show ((j:Int) - 1).toNat * 1 = (j - 1) * 1;rw [e0]),rfl,W.mk ?_⟩
         (conv=>whnf)
         refine IteP.mk (fun hc=>W.mk ?_) (fun hc=>W.mk ?_)<;>(conv=>whnf)
         ·have hc:l2[j] < l2[j - 1]:=hc
          repeat' (first | (refine OblP.mk rfl (W.mk ?_);(conv=>whnf)) | (refine ob ?_ ?_;(first | trivial | omega | (simp only [inR];omega) | exact ble (by rfl) | exact SlR.some ‹_› (by omega));(conv=>whnf)))
          refine EqP.mk ⟨intE.f l2[j - 1],fl_at (E:=intE) hjl1 (by show ((j:Int) - 1).toNat * 1 = (j - 1) * 1;rw [e0]),rfl,W.mk ?_⟩
          (conv=>whnf)
          repeat' (first | (refine OblP.mk rfl (W.mk ?_);(conv=>whnf)) | (refine ob ?_ ?_;(first | trivial | omega | (simp only [inR];omega) | exact ble (by rfl) | exact SlR.some ‹_› (by omega));(conv=>whnf)))
          refine EqP.mk ⟨intE.f l2[j],fl_at (E:=intE) hjl rfl,rfl,W.mk ?_⟩
          (conv=>whnf)
          repeat' (first | (refine OblP.mk rfl (W.mk ?_);(conv=>whnf)) | (refine ob ?_ ?_;(first | trivial | omega | (simp only [inR];omega) | exact ble (by rfl) | exact SlR.some ‹_› (by omega));(conv=>whnf)))
          refine OblP.mk (by show (j:Int).toNat * 1 + 1≤_;rw [flat_len,show intE.k = 1 from rfl,Int.toNat_natCast];omega) (W.mk ?_)
          refine den_setR (fl_set (E:=intE) (l:=l2) (i:=j) (off:=(j:Int).toNat * 1) l2[j - 1] hjl rfl) ?_
          (conv=>whnf)
          repeat' (first | (refine OblP.mk rfl (W.mk ?_);(conv=>whnf)) | (refine ob ?_ ?_;(first | trivial | omega | (simp only [inR];omega) | exact ble (by rfl) | exact SlR.some ‹_› (by omega));(conv=>whnf)))
          refine OblP.mk (by show ((j:Int) - 1).toNat * 1 + 1≤_;rw [flat_len,List.length_set,show intE.k = 1 from rfl,e0];omega) (W.mk ?_)
          refine den_setR (fl_set (E:=intE) (l:=l2.set j l2[j - 1]) (i:=j - 1) (off:=((j:Int) - 1).toNat * 1) l2[j] (by rw [List.length_set];omega) (by show ((j:Int) - 1).toNat * 1 = (j - 1) * 1;rw [e0])) ?_
          (conv=>whnf)
          repeat' (refine ob ?_ ?_;(first | trivial | omega | (simp only [inR];omega) | exact ble (by rfl) | exact SlR.some ‹_› (by omega));(conv=>whnf))
          have hji2:SV.v (I ((j - 1:Nat):Int)) = SV.v (I ((j:Int) - 1)):=by rw [show ((j - 1:Nat):Int) = (j:Int) - 1 by omega]
          exact RoundP.of (j - 1,(l2.set j l2[j - 1]).set (j - 1) l2[j]) (HeadP.of [] ⟨rfl,rfl,rfl,rfl,rfl,rfl,hji2,trivial⟩ ⟨rfl,rfl,trivial⟩) ⟨hd.step hj0 hjl hc,by show j - 1≤(t + 1);omega⟩ (by show j - 1 < j;omega)
         ·have hc:¬ l2[j] < l2[j - 1]:=hc
          have hso:=hd.stop hjl (.inr (by omega))
          repeat' (refine ob ?_ ?_;(first | trivial | omega | (simp only [inR];omega) | exact ble (by rfl) | exact SlR.some ‹_› (by omega));(conv=>whnf))
          exact RoundP.of (i + 1,(t + 1) + 1,l2) (HeadP.of [(1,some 85)] ⟨rfl,rfl,rfl,rfl,rfl,rfl,trivial⟩ ⟨rfl,rfl,trivial⟩) ⟨by show i + 1≤an;omega,by show (t + 1) + 1 = l2.length;omega,by show l2.length≤20 * r + (i + 1);omega,chOk_add k4 hpo hni hof hcl3 hd.p hso⟩ (by show an - (i + 1) < an - i;omega)
        ·have hj0:¬ (j:Int) > 0:=hj0
         have hso:=hd.stop (by omega) (.inl (by omega))
         repeat' (refine ob ?_ ?_;(first | trivial | omega | (simp only [inR];omega) | exact ble (by rfl) | exact SlR.some ‹_› (by omega));(conv=>whnf))
         exact RoundP.of (i + 1,(t + 1) + 1,l2) (HeadP.of [(1,some 85)] ⟨rfl,rfl,rfl,rfl,rfl,rfl,trivial⟩ ⟨rfl,rfl,trivial⟩) ⟨by show i + 1≤an;omega,by show (t + 1) + 1 = l2.length;omega,by show l2.length≤20 * r + (i + 1);omega,chOk_add k4 hpo hni hof hcl3 hd.p hso⟩ (by show an - (i + 1) < an - i;omega)
     refine CallN.mk ⟨_,Sound.lendS has13 (fun v=>v = .bool (hasI l p.c.of)),body13,W.mk ?_⟩
     (conv=>whnf)
     refine StP.mk ⟨[(1,⟨b,false, .row (t + 1) (t + 1) cap (flat intE l) rest 3 1⟩)],⟨⟨_,_,rfl,rfl,Nat.le_refl _,by rw [flat_len, ← k2];rfl,g3,g1,g2,flat_one _ _⟩,trivial⟩,by simp,⟨fun x hx=>by rw [List.mem_singleton.1 hx],fun _=>⟨⟨(l,p.c.of),_,_,rfl,joinF k2.symm g1 (by omega),rfl,trivial⟩,fun v hv=>?_⟩⟩,fun v ns G5 hg5 hpost=>W.mk ?_⟩
     ·obtain ⟨y,hy,e⟩:=hv
      have:y = (l,p.c.of):=(ok2 (slRd intE) intRd fun _ _=>True).uniq _ _ _ _ hy ⟨_,_,rfl,joinF k2.symm g1 (by omega),rfl,trivial⟩
      subst this;exact e
     obtain ⟨rfl,rfl⟩:=hpost
     replace hl:=slr_grow (E:=pcE) hg5 hl
     replace hm0:=moRd.grow hg5 hm0
     replace hall:=slr_grow (E:=intE) hg5 hall
     replace hal:=hal.grow hg5
     replace hel:=hel.grow hg5
     clear hg5
     (conv=>whnf)
     refine ForkP.mk (fun hb2=>W.mk ?_) (fun hb2=>W.mk ?_)
     ·(conv=>whnf)
      refine LoopP.of { α:=Nat × Bool,fr:=fun z=>[(1, .v (U16 bits)),(2, .c (.ptr 0 0)),(5, .v (.slice aa an ac)),(6,irow 1 (t + 1)),(7, .v (I r)),(8, .v (I i)),(9, .c (.ptr 40 0)),(10, .v (.bool z.2)),(11, .v (I z.1))],H:=fun z=>[(0, .cells .anon [.val (.slice wa wn wc), .val (.slice a n c)] 25),(40, .cells .anon ((pcL p.c).map .val) 42)]++irows 1 (t + 1) (flat intE l),ok:=fun z _=>z.1≤(t + 1)∧(z.2 = true→(p.c.of = 0∨p.c.of∈l)∧∀ j (h:j < l.length),j < z.1→∀ q,pOf m l[j] = some q→clashF p.c q.c = false),m:=fun z=>(t + 1) - z.1 }
       (0,true) (HeadP.of [] ⟨rfl,rfl,rfl,rfl,rfl,rfl,rfl,rfl,rfl,trivial⟩ ⟨rfl,rfl,rfl,trivial⟩) ⟨Nat.zero_le _,fun h=>⟨(.inr (has_mem hb2)),fun j _ h=>absurd h (Nat.not_lt_zero _)⟩⟩ (fun _=>⟨rfl,rfl⟩) (fun z G6 hg6 hz=>W.mk ?_)
      obtain ⟨k,fine⟩:=z
      obtain ⟨f1,f2⟩:=hz
      dsimp only at f1 f2
      replace hl:=slr_grow (E:=pcE) hg6 hl
      replace hm0:=moRd.grow hg6 hm0
      replace hel:=hel.grow hg6
      dsimp only [irow,irows]
      cases fine with
      | false =>
       (conv=>whnf)
       refine IteP.mk (fun hlk=>W.mk ?_) (fun hlk=>W.mk ?_)<;>(conv=>whnf)
       ·have hlk:k < (t + 1):=by have hlk:(k:Int) < ((t + 1):Nat):=hlk;omega
        repeat' (refine ob ?_ ?_;(first | trivial | omega | (simp only [inR];omega) | exact ble (by rfl) | exact SlR.some ‹_› (by omega));(conv=>whnf))
        exact RoundP.of (k + 1,false) (HeadP.of [] ⟨rfl,rfl,rfl,rfl,rfl,rfl,rfl,rfl,rfl,trivial⟩ ⟨rfl,rfl,rfl,trivial⟩) ⟨hlk,fun h=>by cases h⟩ (by show (t + 1) - (k + 1) < (t + 1) - k;omega)
       ·repeat' (refine ob ?_ ?_;(first | trivial | omega | (simp only [inR];omega) | exact ble (by rfl) | exact SlR.some ‹_› (by omega));(conv=>whnf))
        exact RoundP.of (i + 1,(t + 1),l) (HeadP.of [] ⟨rfl,rfl,rfl,rfl,rfl,rfl,trivial⟩ ⟨rfl,rfl,trivial⟩) ⟨by show i + 1≤an;omega,k2,by show l.length≤20 * r + (i + 1);omega,k4⟩ (by show an - (i + 1) < an - i;omega)
      | true =>
       (conv=>whnf)
       refine IteP.mk (fun hlk=>W.mk ?_) (fun hlk=>W.mk ?_)<;>(conv=>whnf)
       ·have hlk:k < l.length:=by have hlk:(k:Int) < (t + 1:Nat):=hlk;omega
        obtain ⟨q,hq⟩:=k4.mem _ (List.getElem_mem hlk)
        obtain ⟨iq,hiq,hixq,hpq⟩:=num_ix (m:=m) (x:=l[k]) (List.mem_map.2 ⟨q,(pOf_mem hq).1,(pOf_mem hq).2⟩)
        have hqe:=hl.el (i:=iq) (by omega)
        rw [cs_get hiq] at hqe
        repeat' (first | (refine OblP.mk rfl (W.mk ?_);(conv=>whnf)) | (refine ob ?_ ?_;(first | trivial | omega | (simp only [inR];omega) | exact ble (by rfl) | exact SlR.some ‹_› (by omega));(conv=>whnf)) | (first | (refine ra ‹_› (by rfl) ?_;(conv=>whnf)) | (refine rb ‹_› (by rfl) ?_;(conv=>whnf)) | (refine rc ‹_› (by rfl) ?_;(conv=>whnf)) | (refine rd ‹_› (by rfl) ?_;(conv=>whnf))))
        refine EqP.mk ⟨intE.f l[k],fl_at (E:=intE) hlk rfl,rfl,W.mk ?_⟩
        (conv=>whnf)
        refine ScaP.g (ok2 moRd intRd fun _ _=>True) (x:=(m,l[k])) ⟨_,_,rfl,hm0,rfl,trivial⟩ (fun v hv=>W.mk ?_)
        rw [show ixF (m,l[k]).1.ps (m,l[k]).2 = (iq:Int) from hixq] at hv
        subst hv
        generalize m.ps[iq] = qq at hpq hqe
        (conv=>whnf)
        repeat' (first | (refine ob ?_ ?_;(first | trivial | omega | (simp only [inR];omega) | exact ble (by rfl) | exact SlR.some ‹_› (by omega));(conv=>whnf)) | (first | (refine ra ‹_› (by rfl) ?_;(conv=>whnf)) | (refine rb ‹_› (by rfl) ?_;(conv=>whnf)) | (refine rc ‹_› (by rfl) ?_;(conv=>whnf)) | (refine rd ‹_› (by rfl) ?_;(conv=>whnf))))
        refine ScaP.g (ok2 pcRd pcRd fun _ _=>True) (x:=(p.c,qq.c)) ⟨_,_,rfl,rfl,rfl,trivial⟩ (fun v hv=>W.mk ?_)
        have hv:v = .bool (clashF p.c qq.c):=hv
        have hpq2:q = qq:=Option.some.inj (hq.symm.trans hpq)
        cases hcq:clashF p.c qq.c with
        | true =>
         rw [hcq] at hv
         subst hv
         (conv=>whnf)
         refine ForkP.mk (fun _=>W.mk ?_) (fun h=>by cases h)
         (conv=>whnf)
         repeat' (refine ob ?_ ?_;(first | trivial | omega | (simp only [inR];omega) | exact ble (by rfl) | exact SlR.some ‹_› (by omega));(conv=>whnf))
         exact RoundP.of (k + 1,false) (HeadP.of [] ⟨rfl,rfl,rfl,rfl,rfl,rfl,rfl,rfl,rfl,trivial⟩ ⟨rfl,rfl,rfl,trivial⟩) ⟨by show k + 1≤t + 1;omega,fun h=>by cases h⟩ (by show t + 1 - (k + 1) < t + 1 - k;omega)
        | false =>
         rw [hcq] at hv
         subst hv
         (conv=>whnf)
         refine ForkP.mk (fun h=>by cases h) (fun _=>W.mk ?_)
         (conv=>whnf)
         repeat' (refine ob ?_ ?_;(first | trivial | omega | (simp only [inR];omega) | exact ble (by rfl) | exact SlR.some ‹_› (by omega));(conv=>whnf))
         refine RoundP.of (k + 1,true) (HeadP.of [] ⟨rfl,rfl,rfl,rfl,rfl,rfl,rfl,rfl,rfl,trivial⟩ ⟨rfl,rfl,rfl,trivial⟩) ⟨by show k + 1≤t + 1;omega,fun _=>⟨(f2 rfl).1,fun j hj hjk q' hq'=>?_⟩⟩ (by show t + 1 - (k + 1) < t + 1 - k;omega)
         by_cases e:j = k
         ·subst e
          rw [hq] at hq';cases hq'
          rw [hpq2];exact hcq
         ·exact (f2 rfl).2 j hj (by have hjk:j < k + 1:=hjk;omega) q' hq'
       ·have hlk:¬ (k:Int) < ((t + 1):Nat):=hlk
        have hsrt:=inc_sorted k4.inc
        have hlT:l.length = (t + 1):=k2.symm
        obtain ⟨hof,hcl2⟩:=f2 rfl
        have hcl3:∀ c∈l, ∀ q,pOf m c = some q→clashF p.c q.c = false:=fun c hc q hq=>by
         obtain ⟨j,hj,rfl⟩:=List.getElem_of_mem hc
         exact hcl2 j hj (by omega) q hq
        repeat' (first | (refine ob ?_ ?_;(first | trivial | omega | (simp only [inR];omega) | exact ble (by rfl) | exact SlR.some ‹_› (by omega));(conv=>whnf)) | (first | (refine ra ‹_› (by rfl) ?_;(conv=>whnf)) | (refine rb ‹_› (by rfl) ?_;(conv=>whnf)) | (refine rc ‹_› (by rfl) ?_;(conv=>whnf)) | (refine rd ‹_› (by rfl) ?_;(conv=>whnf))))
        refine LoopP.of { α:=Nat × List Int,fr:=fun z=>[(1, .v (U16 bits)),(2, .c (.ptr 0 0)),(5, .v (.slice aa an ac)),(6, .c (.row 85 ((t + 1) + 1))),(7, .v (I r)),(8, .v (I i)),(12, .v (I z.1))],H:=fun z=>[(0, .cells .anon [.val (.slice wa wn wc), .val (.slice a n c)] 25),(85, .row none ((t + 1) + 1) (flat intE z.2) 3 1)],ok:=fun z _=>DnI l x z.1 z.2∧z.1≤(t + 1),m:=fun z=>z.1 }
         ((t + 1),l++[x]) (HeadP.of [] ⟨rfl,rfl,rfl,rfl,rfl,rfl,(by show SV.v (I _) = SV.v (I _);congr 3;omega),trivial⟩ ⟨rfl,(congrArg (fun v=>OB.row none (t + 1 + 1) v 3 1) (flat_app intE l [x])),trivial⟩) ⟨by have:=DnI.start hsrt x;rwa [hlT] at this,Nat.le_refl _⟩ (fun _=>⟨rfl,rfl⟩) (fun z G2 hG2 hz=>W.mk ?_)
        obtain ⟨j,l2⟩:=z
        obtain ⟨hd,hj⟩:=hz
        dsimp only at hd hj
        dsimp only
        have hl2:=hd.len
        have e0:(((j:Int) - 1).toNat) = j - 1:=by omega
        (conv=>whnf)
        refine IteP.mk (fun hj0=>W.mk ?_) (fun hj0=>W.mk ?_)<;>(conv=>whnf)
        ·have hj0:0 < j:=by have hj0:(j:Int) > 0:=hj0;omega
         have hjl:j < l2.length:=by omega
         have hjl1:j - 1 < l2.length:=by omega
         repeat' (first | (refine OblP.mk rfl (W.mk ?_);(conv=>whnf)) | (refine ob ?_ ?_;(first | trivial | omega | (simp only [inR];omega) | exact ble (by rfl) | exact SlR.some ‹_› (by omega));(conv=>whnf)))
         refine EqP.mk ⟨intE.f l2[j],fl_at (E:=intE) hjl rfl,rfl,W.mk ?_⟩
         (conv=>whnf)
         repeat' (first | (refine OblP.mk rfl (W.mk ?_);(conv=>whnf)) | (refine ob ?_ ?_;(first | trivial | omega | (simp only [inR];omega) | exact ble (by rfl) | exact SlR.some ‹_› (by omega));(conv=>whnf)))
         refine EqP.mk ⟨intE.f l2[j - 1],fl_at (E:=intE) hjl1 (by show ((j:Int) - 1).toNat * 1 = (j - 1) * 1;rw [e0]),rfl,W.mk ?_⟩
         (conv=>whnf)
         refine IteP.mk (fun hc=>W.mk ?_) (fun hc=>W.mk ?_)<;>(conv=>whnf)
         ·have hc:l2[j] < l2[j - 1]:=hc
          repeat' (first | (refine OblP.mk rfl (W.mk ?_);(conv=>whnf)) | (refine ob ?_ ?_;(first | trivial | omega | (simp only [inR];omega) | exact ble (by rfl) | exact SlR.some ‹_› (by omega));(conv=>whnf)))
          refine EqP.mk ⟨intE.f l2[j - 1],fl_at (E:=intE) hjl1 (by show ((j:Int) - 1).toNat * 1 = (j - 1) * 1;rw [e0]),rfl,W.mk ?_⟩
          (conv=>whnf)
          repeat' (first | (refine OblP.mk rfl (W.mk ?_);(conv=>whnf)) | (refine ob ?_ ?_;(first | trivial | omega | (simp only [inR];omega) | exact ble (by rfl) | exact SlR.some ‹_› (by omega));(conv=>whnf)))
          refine EqP.mk ⟨intE.f l2[j],fl_at (E:=intE) hjl rfl,rfl,W.mk ?_⟩
          (conv=>whnf)
          repeat' (first | (refine OblP.mk rfl (W.mk ?_);(conv=>whnf)) | (refine ob ?_ ?_;(first | trivial | omega | (simp only [inR];omega) | exact ble (by rfl) | exact SlR.some ‹_› (by omega));(conv=>whnf)))
          refine OblP.mk (by show (j:Int).toNat * 1 + 1≤_;rw [flat_len,show intE.k = 1 from rfl,Int.toNat_natCast];omega) (W.mk ?_)
          refine den_setR (fl_set (E:=intE) (l:=l2) (i:=j) (off:=(j:Int).toNat * 1) l2[j - 1] hjl rfl) ?_
          (conv=>whnf)
          repeat' (first | (refine OblP.mk rfl (W.mk ?_);(conv=>whnf)) | (refine ob ?_ ?_;(first | trivial | omega | (simp only [inR];omega) | exact ble (by rfl) | exact SlR.some ‹_› (by omega));(conv=>whnf)))
          refine OblP.mk (by show ((j:Int) - 1).toNat * 1 + 1≤_;rw [flat_len,List.length_set,show intE.k = 1 from rfl,e0];omega) (W.mk ?_)
          refine den_setR (fl_set (E:=intE) (l:=l2.set j l2[j - 1]) (i:=j - 1) (off:=((j:Int) - 1).toNat * 1) l2[j] (by rw [List.length_set];omega) (by show ((j:Int) - 1).toNat * 1 = (j - 1) * 1;rw [e0])) ?_
          (conv=>whnf)
          repeat' (refine ob ?_ ?_;(first | trivial | omega | (simp only [inR];omega) | exact ble (by rfl) | exact SlR.some ‹_› (by omega));(conv=>whnf))
          have hji2:SV.v (I ((j - 1:Nat):Int)) = SV.v (I ((j:Int) - 1)):=by rw [show ((j - 1:Nat):Int) = (j:Int) - 1 by omega]
          exact RoundP.of (j - 1,(l2.set j l2[j - 1]).set (j - 1) l2[j]) (HeadP.of [] ⟨rfl,rfl,rfl,rfl,rfl,rfl,hji2,trivial⟩ ⟨rfl,rfl,trivial⟩) ⟨hd.step hj0 hjl hc,by show j - 1≤(t + 1);omega⟩ (by show j - 1 < j;omega)
         ·have hc:¬ l2[j] < l2[j - 1]:=hc
          have hso:=hd.stop hjl (.inr (by omega))
          repeat' (refine ob ?_ ?_;(first | trivial | omega | (simp only [inR];omega) | exact ble (by rfl) | exact SlR.some ‹_› (by omega));(conv=>whnf))
          exact RoundP.of (i + 1,(t + 1) + 1,l2) (HeadP.of [(1,some 85)] ⟨rfl,rfl,rfl,rfl,rfl,rfl,trivial⟩ ⟨rfl,rfl,trivial⟩) ⟨by show i + 1≤an;omega,by show (t + 1) + 1 = l2.length;omega,by show l2.length≤20 * r + (i + 1);omega,chOk_add k4 hpo hni hof hcl3 hd.p hso⟩ (by show an - (i + 1) < an - i;omega)
        ·have hj0:¬ (j:Int) > 0:=hj0
         have hso:=hd.stop (by omega) (.inl (by omega))
         repeat' (refine ob ?_ ?_;(first | trivial | omega | (simp only [inR];omega) | exact ble (by rfl) | exact SlR.some ‹_› (by omega));(conv=>whnf))
         exact RoundP.of (i + 1,(t + 1) + 1,l2) (HeadP.of [(1,some 85)] ⟨rfl,rfl,rfl,rfl,rfl,rfl,trivial⟩ ⟨rfl,rfl,trivial⟩) ⟨by show i + 1≤an;omega,by show (t + 1) + 1 = l2.length;omega,by show l2.length≤20 * r + (i + 1);omega,chOk_add k4 hpo hni hof hcl3 hd.p hso⟩ (by show an - (i + 1) < an - i;omega)
     ·(conv=>whnf)
      refine LoopP.of { α:=Nat × Bool,fr:=fun z=>[(1, .v (U16 bits)),(2, .c (.ptr 0 0)),(5, .v (.slice aa an ac)),(6,irow 1 (t + 1)),(7, .v (I r)),(8, .v (I i)),(9, .c (.ptr 40 0)),(10, .v (.bool z.2)),(11, .v (I z.1))],H:=fun z=>[(0, .cells .anon [.val (.slice wa wn wc), .val (.slice a n c)] 25),(40, .cells .anon ((pcL p.c).map .val) 42)]++irows 1 (t + 1) (flat intE l),ok:=fun z _=>z.1≤(t + 1)∧(z.2 = true→(p.c.of = 0∨p.c.of∈l)∧∀ j (h:j < l.length),j < z.1→∀ q,pOf m l[j] = some q→clashF p.c q.c = false),m:=fun z=>(t + 1) - z.1 }
       (0,false) (HeadP.of [] ⟨rfl,rfl,rfl,rfl,rfl,rfl,rfl,rfl,rfl,trivial⟩ ⟨rfl,rfl,rfl,trivial⟩) ⟨Nat.zero_le _,fun h=>⟨(by cases h),fun j _ h=>absurd h (Nat.not_lt_zero _)⟩⟩ (fun _=>⟨rfl,rfl⟩) (fun z G6 hg6 hz=>W.mk ?_)
      obtain ⟨k,fine⟩:=z
      obtain ⟨f1,f2⟩:=hz
      dsimp only at f1 f2
      replace hl:=slr_grow (E:=pcE) hg6 hl
      replace hm0:=moRd.grow hg6 hm0
      replace hel:=hel.grow hg6
      dsimp only [irow,irows]
      cases fine with
      | false =>
       (conv=>whnf)
       refine IteP.mk (fun hlk=>W.mk ?_) (fun hlk=>W.mk ?_)<;>(conv=>whnf)
       ·have hlk:k < (t + 1):=by have hlk:(k:Int) < ((t + 1):Nat):=hlk;omega
        repeat' (refine ob ?_ ?_;(first | trivial | omega | (simp only [inR];omega) | exact ble (by rfl) | exact SlR.some ‹_› (by omega));(conv=>whnf))
        exact RoundP.of (k + 1,false) (HeadP.of [] ⟨rfl,rfl,rfl,rfl,rfl,rfl,rfl,rfl,rfl,trivial⟩ ⟨rfl,rfl,rfl,trivial⟩) ⟨hlk,fun h=>by cases h⟩ (by show (t + 1) - (k + 1) < (t + 1) - k;omega)
       ·repeat' (refine ob ?_ ?_;(first | trivial | omega | (simp only [inR];omega) | exact ble (by rfl) | exact SlR.some ‹_› (by omega));(conv=>whnf))
        exact RoundP.of (i + 1,(t + 1),l) (HeadP.of [] ⟨rfl,rfl,rfl,rfl,rfl,rfl,trivial⟩ ⟨rfl,rfl,trivial⟩) ⟨by show i + 1≤an;omega,k2,by show l.length≤20 * r + (i + 1);omega,k4⟩ (by show an - (i + 1) < an - i;omega)
      | true =>
       (conv=>whnf)
       refine IteP.mk (fun hlk=>W.mk ?_) (fun hlk=>W.mk ?_)<;>(conv=>whnf)
       ·have hlk:k < l.length:=by have hlk:(k:Int) < (t + 1:Nat):=hlk;omega
        obtain ⟨q,hq⟩:=k4.mem _ (List.getElem_mem hlk)
        obtain ⟨iq,hiq,hixq,hpq⟩:=num_ix (m:=m) (x:=l[k]) (List.mem_map.2 ⟨q,(pOf_mem hq).1,(pOf_mem hq).2⟩)
        have hqe:=hl.el (i:=iq) (by omega)
        rw [cs_get hiq] at hqe
        repeat' (first | (refine OblP.mk rfl (W.mk ?_);(conv=>whnf)) | (refine ob ?_ ?_;(first | trivial | omega | (simp only [inR];omega) | exact ble (by rfl) | exact SlR.some ‹_› (by omega));(conv=>whnf)) | (first | (refine ra ‹_› (by rfl) ?_;(conv=>whnf)) | (refine rb ‹_› (by rfl) ?_;(conv=>whnf)) | (refine rc ‹_› (by rfl) ?_;(conv=>whnf)) | (refine rd ‹_› (by rfl) ?_;(conv=>whnf))))
        refine EqP.mk ⟨intE.f l[k],fl_at (E:=intE) hlk rfl,rfl,W.mk ?_⟩
        (conv=>whnf)
        refine ScaP.g (ok2 moRd intRd fun _ _=>True) (x:=(m,l[k])) ⟨_,_,rfl,hm0,rfl,trivial⟩ (fun v hv=>W.mk ?_)
        rw [show ixF (m,l[k]).1.ps (m,l[k]).2 = (iq:Int) from hixq] at hv
        subst hv
        generalize m.ps[iq] = qq at hpq hqe
        (conv=>whnf)
        repeat' (first | (refine ob ?_ ?_;(first | trivial | omega | (simp only [inR];omega) | exact ble (by rfl) | exact SlR.some ‹_› (by omega));(conv=>whnf)) | (first | (refine ra ‹_› (by rfl) ?_;(conv=>whnf)) | (refine rb ‹_› (by rfl) ?_;(conv=>whnf)) | (refine rc ‹_› (by rfl) ?_;(conv=>whnf)) | (refine rd ‹_› (by rfl) ?_;(conv=>whnf))))
        refine ScaP.g (ok2 pcRd pcRd fun _ _=>True) (x:=(p.c,qq.c)) ⟨_,_,rfl,rfl,rfl,trivial⟩ (fun v hv=>W.mk ?_)
        have hv:v = .bool (clashF p.c qq.c):=hv
        have hpq2:q = qq:=Option.some.inj (hq.symm.trans hpq)
        cases hcq:clashF p.c qq.c with
        | true =>
         rw [hcq] at hv
         subst hv
         (conv=>whnf)
         refine ForkP.mk (fun _=>W.mk ?_) (fun h=>by cases h)
         (conv=>whnf)
         repeat' (refine ob ?_ ?_;(first | trivial | omega | (simp only [inR];omega) | exact ble (by rfl) | exact SlR.some ‹_› (by omega));(conv=>whnf))
         exact RoundP.of (k + 1,false) (HeadP.of [] ⟨rfl,rfl,rfl,rfl,rfl,rfl,rfl,rfl,rfl,trivial⟩ ⟨rfl,rfl,rfl,trivial⟩) ⟨by show k + 1≤t + 1;omega,fun h=>by cases h⟩ (by show t + 1 - (k + 1) < t + 1 - k;omega)
        | false =>
         rw [hcq] at hv
         subst hv
         (conv=>whnf)
         refine ForkP.mk (fun h=>by cases h) (fun _=>W.mk ?_)
         (conv=>whnf)
         repeat' (refine ob ?_ ?_;(first | trivial | omega | (simp only [inR];omega) | exact ble (by rfl) | exact SlR.some ‹_› (by omega));(conv=>whnf))
         refine RoundP.of (k + 1,true) (HeadP.of [] ⟨rfl,rfl,rfl,rfl,rfl,rfl,rfl,rfl,rfl,trivial⟩ ⟨rfl,rfl,rfl,trivial⟩) ⟨by show k + 1≤t + 1;omega,fun _=>⟨(f2 rfl).1,fun j hj hjk q' hq'=>?_⟩⟩ (by show t + 1 - (k + 1) < t + 1 - k;omega)
         by_cases e:j = k
         ·subst e
          rw [hq] at hq';cases hq'
          rw [hpq2];exact hcq
         ·exact (f2 rfl).2 j hj (by have hjk:j < k + 1:=hjk;omega) q' hq'
       ·have hlk:¬ (k:Int) < ((t + 1):Nat):=hlk
        have hsrt:=inc_sorted k4.inc
        have hlT:l.length = (t + 1):=k2.symm
        obtain ⟨hof,hcl2⟩:=f2 rfl
        have hcl3:∀ c∈l, ∀ q,pOf m c = some q→clashF p.c q.c = false:=fun c hc q hq=>by
         obtain ⟨j,hj,rfl⟩:=List.getElem_of_mem hc
         exact hcl2 j hj (by omega) q hq
        repeat' (first | (refine ob ?_ ?_;(first | trivial | omega | (simp only [inR];omega) | exact ble (by rfl) | exact SlR.some ‹_› (by omega));(conv=>whnf)) | (first | (refine ra ‹_› (by rfl) ?_;(conv=>whnf)) | (refine rb ‹_› (by rfl) ?_;(conv=>whnf)) | (refine rc ‹_› (by rfl) ?_;(conv=>whnf)) | (refine rd ‹_› (by rfl) ?_;(conv=>whnf))))
        refine LoopP.of { α:=Nat × List Int,fr:=fun z=>[(1, .v (U16 bits)),(2, .c (.ptr 0 0)),(5, .v (.slice aa an ac)),(6, .c (.row 85 ((t + 1) + 1))),(7, .v (I r)),(8, .v (I i)),(12, .v (I z.1))],H:=fun z=>[(0, .cells .anon [.val (.slice wa wn wc), .val (.slice a n c)] 25),(85, .row none ((t + 1) + 1) (flat intE z.2) 3 1)],ok:=fun z _=>DnI l x z.1 z.2∧z.1≤(t + 1),m:=fun z=>z.1 }
         ((t + 1),l++[x]) (HeadP.of [] ⟨rfl,rfl,rfl,rfl,rfl,rfl,(by show SV.v (I _) = SV.v (I _);congr 3;omega),trivial⟩ ⟨rfl,(congrArg (fun v=>OB.row none (t + 1 + 1) v 3 1) (flat_app intE l [x])),trivial⟩) ⟨by have:=DnI.start hsrt x;rwa [hlT] at this,Nat.le_refl _⟩ (fun _=>⟨rfl,rfl⟩) (fun z G2 hG2 hz=>W.mk ?_)
        obtain ⟨j,l2⟩:=z
        obtain ⟨hd,hj⟩:=hz
        dsimp only at hd hj
        dsimp only
        have hl2:=hd.len
        have e0:(((j:Int) - 1).toNat) = j - 1:=by omega
        (conv=>whnf)
        refine IteP.mk (fun hj0=>W.mk ?_) (fun hj0=>W.mk ?_)<;>(conv=>whnf)
        ·have hj0:0 < j:=by have hj0:(j:Int) > 0:=hj0;omega
         have hjl:j < l2.length:=by omega
         have hjl1:j - 1 < l2.length:=by omega
         repeat' (first | (refine OblP.mk rfl (W.mk ?_);(conv=>whnf)) | (refine ob ?_ ?_;(first | trivial | omega | (simp only [inR];omega) | exact ble (by rfl) | exact SlR.some ‹_› (by omega));(conv=>whnf)))
         refine EqP.mk ⟨intE.f l2[j],fl_at (E:=intE) hjl rfl,rfl,W.mk ?_⟩
         (conv=>whnf)
         repeat' (first | (refine OblP.mk rfl (W.mk ?_);(conv=>whnf)) | (refine ob ?_ ?_;(first | trivial | omega | (simp only [inR];omega) | exact ble (by rfl) | exact SlR.some ‹_› (by omega));(conv=>whnf)))
         refine EqP.mk ⟨intE.f l2[j - 1],fl_at (E:=intE) hjl1 (by show ((j:Int) - 1).toNat * 1 = (j - 1) * 1;rw [e0]),rfl,W.mk ?_⟩
         (conv=>whnf)
         refine IteP.mk (fun hc=>W.mk ?_) (fun hc=>W.mk ?_)<;>(conv=>whnf)
         ·have hc:l2[j] < l2[j - 1]:=hc
          repeat' (first | (refine OblP.mk rfl (W.mk ?_);(conv=>whnf)) | (refine ob ?_ ?_;(first | trivial | omega | (simp only [inR];omega) | exact ble (by rfl) | exact SlR.some ‹_› (by omega));(conv=>whnf)))
          refine EqP.mk ⟨intE.f l2[j - 1],fl_at (E:=intE) hjl1 (by show ((j:Int) - 1).toNat * 1 = (j - 1) * 1;rw [e0]),rfl,W.mk ?_⟩
          (conv=>whnf)
          repeat' (first | (refine OblP.mk rfl (W.mk ?_);(conv=>whnf)) | (refine ob ?_ ?_;(first | trivial | omega | (simp only [inR];omega) | exact ble (by rfl) | exact SlR.some ‹_› (by omega));(conv=>whnf)))
          refine EqP.mk ⟨intE.f l2[j],fl_at (E:=intE) hjl rfl,rfl,W.mk ?_⟩
          (conv=>whnf)
          repeat' (first | (refine OblP.mk rfl (W.mk ?_);(conv=>whnf)) | (refine ob ?_ ?_;(first | trivial | omega | (simp only [inR];omega) | exact ble (by rfl) | exact SlR.some ‹_› (by omega));(conv=>whnf)))
          refine OblP.mk (by show (j:Int).toNat * 1 + 1≤_;rw [flat_len,show intE.k = 1 from rfl,Int.toNat_natCast];omega) (W.mk ?_)
          refine den_setR (fl_set (E:=intE) (l:=l2) (i:=j) (off:=(j:Int).toNat * 1) l2[j - 1] hjl rfl) ?_
          (conv=>whnf)
          repeat' (first | (refine OblP.mk rfl (W.mk ?_);(conv=>whnf)) | (refine ob ?_ ?_;(first | trivial | omega | (simp only [inR];omega) | exact ble (by rfl) | exact SlR.some ‹_› (by omega));(conv=>whnf)))
          refine OblP.mk (by show ((j:Int) - 1).toNat * 1 + 1≤_;rw [flat_len,List.length_set,show intE.k = 1 from rfl,e0];omega) (W.mk ?_)
          refine den_setR (fl_set (E:=intE) (l:=l2.set j l2[j - 1]) (i:=j - 1) (off:=((j:Int) - 1).toNat * 1) l2[j] (by rw [List.length_set];omega) (by show ((j:Int) - 1).toNat * 1 = (j - 1) * 1;rw [e0])) ?_
          (conv=>whnf)
          repeat' (refine ob ?_ ?_;(first | trivial | omega | (simp only [inR];omega) | exact ble (by rfl) | exact SlR.some ‹_› (by omega));(conv=>whnf))
          have hji2:SV.v (I ((j - 1:Nat):Int)) = SV.v (I ((j:Int) - 1)):=by rw [show ((j - 1:Nat):Int) = (j:Int) - 1 by omega]
          exact RoundP.of (j - 1,(l2.set j l2[j - 1]).set (j - 1) l2[j]) (HeadP.of [] ⟨rfl,rfl,rfl,rfl,rfl,rfl,hji2,trivial⟩ ⟨rfl,rfl,trivial⟩) ⟨hd.step hj0 hjl hc,by show j - 1≤(t + 1);omega⟩ (by show j - 1 < j;omega)
         ·have hc:¬ l2[j] < l2[j - 1]:=hc
          have hso:=hd.stop hjl (.inr (by omega))
          repeat' (refine ob ?_ ?_;(first | trivial | omega | (simp only [inR];omega) | exact ble (by rfl) | exact SlR.some ‹_› (by omega));(conv=>whnf))
          exact RoundP.of (i + 1,(t + 1) + 1,l2) (HeadP.of [(1,some 85)] ⟨rfl,rfl,rfl,rfl,rfl,rfl,trivial⟩ ⟨rfl,rfl,trivial⟩) ⟨by show i + 1≤an;omega,by show (t + 1) + 1 = l2.length;omega,by show l2.length≤20 * r + (i + 1);omega,chOk_add k4 hpo hni hof hcl3 hd.p hso⟩ (by show an - (i + 1) < an - i;omega)
        ·have hj0:¬ (j:Int) > 0:=hj0
         have hso:=hd.stop (by omega) (.inl (by omega))
         repeat' (refine ob ?_ ?_;(first | trivial | omega | (simp only [inR];omega) | exact ble (by rfl) | exact SlR.some ‹_› (by omega));(conv=>whnf))
         exact RoundP.of (i + 1,(t + 1) + 1,l2) (HeadP.of [(1,some 85)] ⟨rfl,rfl,rfl,rfl,rfl,rfl,trivial⟩ ⟨rfl,rfl,trivial⟩) ⟨by show i + 1≤an;omega,by show (t + 1) + 1 = l2.length;omega,by show l2.length≤20 * r + (i + 1);omega,chOk_add k4 hpo hni hof hcl3 hd.p hso⟩ (by show an - (i + 1) < an - i;omega)
    ·have hge:¬ (i:Int) < an:=hge
     repeat' (refine ob ?_ ?_;(first | trivial | omega | (simp only [inR];omega) | exact ble (by rfl) | exact SlR.some ‹_› (by omega));(conv=>whnf))
     exact RoundP.of (r + 1,(t + 1),l) (HeadP.of [] ⟨rfl,rfl,rfl,rfl,rfl,trivial⟩ ⟨rfl,rfl,trivial⟩) ⟨by show r + 1≤an;have:(r:Int) < an:=hltr;omega,k2,by show l.length≤20 * (r + 1);omega,k4⟩ (by show an - (r + 1) < an - r;have:(r:Int) < an:=hltr;omega)
  ·cases t with
   | zero =>
    dsimp only [irow,irows]
    (conv=>whnf)
    have hln0:l = []:=List.eq_nil_of_length_eq_zero k2.symm
    subst hln0
    exact FinP.mk ⟨[],SlV.nil,k4⟩
   | succ t =>
    dsimp only [irow,irows]
    (conv=>whnf)
    refine PubP.mk (fun a1 c1 G4 hg4 h4=>W.mk ?_)
    (conv=>whnf)
    exact FinP.mk ⟨l,Row.pub (e:=intE) ⟨k2,rfl⟩ h4 (by omega),k4⟩
end Go.Proofs.YtefnikpoimaiiaaGreat

namespace Go.Pal
open Go.RowKit
section
variable {P:Program} {bs:Nat}
theorem sat_startHy (hbs:0 < bs) {n:Nat} {args:List Value} (hn:args.length≤n) {G p:Hp} {W:World} (hsub:Sub G W) (hp:∀ b o,p b = some o→W.heap[b]? = some o∧G b = none):Sat ⟨W,dom p,[]⟩ G n (fun k=>k < bs) (fun _=>undef) ⟨argFr args,heapS p,G⟩ { tmps:=args.toArray++Array.replicate (n - args.toArray.size) undef,defers:=[] } W:=by
 refine ⟨⟨Beneath.refl ⟨W,_,[]⟩,hsub,fun b o h=>.inl h,fun h ob e=>?_,fun h ob v e e2=>?_,fun h ob e _ b hb=>?_,fun h ob h' ob' b e e2 _ _ _=>?_⟩,fun i=>argFr_ment _ args i,fun h ob e=>?_,fun i=>args_frame _ i,by simp;omega,rfl⟩
 ·obtain ⟨_,rfl⟩:=heapS_some e;exact fun b o ho=>⟨.inr ⟨o,ho⟩,(hp b o ho).1⟩
 ·obtain ⟨_,rfl⟩:=heapS_some e;cases e2
 ·obtain ⟨_,rfl⟩:=heapS_some e;obtain ⟨o,ho⟩:=hb;exact (hp b o ho).2
 ·obtain ⟨rfl,_⟩:=heapS_some e;obtain ⟨rfl,_⟩:=heapS_some e2;rfl
 ·obtain ⟨rfl,rfl⟩:=heapS_some e;exact ⟨hbs,trivial⟩
def hyVC (bs:Nat) (P:Program) (tab:FuncId→Option PSpec) (ic:IC) (rs:List IRes) (args:List Value) (p G:Hp) (K:Value→Hp→Hp→Prop):Prop :=
 vc P tab (.no []) ic bs ⟨argFr args,heapS p,G⟩ fun o _ σ=>match o with
  | .norm=>finHp rs σ K
  | .ret=>finHp rs σ K
  | .exit _=>False
theorem CompAt.callsHy (hbs:0 < bs) {f:FuncId} {ic:IC} {rs:List IRes} {nt:Nat} (C:CompAt P f bs ic rs nt) (T:Tab P) {args:List Value} {p G:Hp} {W:World} {K:Value→Hp→Hp→Prop} (hn:args.length≤nt) (hsub:Sub G W) (hp:∀ b o,p b = some o→W.heap[b]? = some o∧G b = none) (h:hyVC bs P T.get ic rs args p G K) :
  Calls P f args.toArray W fun e W'=>∃ v p' G',e = .returned v∧K v p' G'∧(∀ b o,p' b = some o→W'.heap[b]? = some o∧G' b = none∧((∃ o,p b = some o)∨W.heap.size≤b))∧Grow G G'∧Sub G' W'∧(∀ b o,G' b = some o→G b = some o∨(∃ o,p b = some o)∨W.heap.size≤b)∧Beneath ⟨W,dom p,[]⟩ W':=by
 obtain ⟨fn,c,b2,h1,h2,h3,h4,rfl⟩:=C.ex
 have hs:SatE (baseEnv (dom p) G W) [] fn.ntmps bs (fun _=>False) (fun _=>undef) ⟨argFr args,heapS p,G⟩ { tmps:=args.toArray++Array.replicate (fn.ntmps - args.toArray.size) undef,defers:=[] } W :=
  SatE.of (r:=⟨W,dom p,[]⟩) (G0:=G) (fun _ h=>h) (fun _ h=>h.elim) (Agree.refl _ _) ⟨baseEnv_at.2 ⟨Beneath.refl ⟨W,_,[]⟩,fun b o h=>.inl h,fun b h=>h.elim (fun h=>.inr h.1) (fun ⟨d,hd,_⟩=>by cases hd)⟩,fun b ⟨o,hb⟩=>(Array.getElem?_eq_some_iff.1 (hp b o hb).1).1,hsub,marks_start⟩ (Grow.refl _) (sat_startHy hbs hn hsub hp)
 refine body_soundN T baseEnv_ok h1 h2 h3 h4 (K:=fun _ vs H G=>FinHp H fun p=>K (wrapV vs) p G) hs h ?_
 intro σ' W' M E vs H' G' ⟨p',hhp,k1⟩ hg hd
 exact hp_fin hhp k1 hg hd
theorem CompAt.hy {f:FuncId} {ic:IC} {rs:List IRes} {nt:Nat} (C:CompAt P f bs ic rs nt) (T:Tab P) {sh:List Value→List Value} {pre:List Value→Hp→Hp→Prop} {post:List Value→Hp→Value→Hp→Hp→Prop} (hn:∀ args p G,pre args p G→(sh args).length≤nt)
  (hm:∀ args p v p' G G',Grow G G'→post args p v p' G→post args p v p' G') (h:∀ args p G,pre args p G→hyVC bs P T.get ic rs (sh args) p G fun v p' G'=>post args p v p' G') (hbs:0 < bs:=by decide):Sound P f sh (.hp pre post) :=
 ⟨hm,fun args p G W hs hp hpre=>(C.callsHy hbs T (hn args p G hpre) hs hp (h args p G hpre)).mono fun e W' ⟨v,p',G',h1,h2,h3,h4,h5,h6,h7⟩=>⟨v,p',G',h1,h2,h3,h4,h5,h6,h7⟩⟩
end
end Go.Pal

namespace Go.Proofs.YtefnikpoimaiiaaGreat
open Go.Pal Go.RowKit
set_option maxRecDepth 100000
def core (p:Pp):Int × Int × Int × Int × List ByteArray:=(p.c.n,p.c.of,p.c.fr,p.c.to,p.ws)
structure Like (m m':Mt):Prop where
 w:m'.ws = m.ws
 p:m'.ps.map core = m.ps.map core
theorem lk_mem {m m':Mt} (h:Like m m') {p:Pp} (hp:p∈m'.ps):∃ q∈m.ps,core q = core p:=by
 have:core p∈m.ps.map core:=h.p ▸ List.mem_map.2 ⟨p,hp,rfl⟩
 obtain ⟨q,h1,h2⟩:=List.mem_map.1 this
 exact ⟨q,h1,h2⟩
theorem find_core (l:List Pp) (x:Int):(l.find? fun p=>decide (p.c.n = x)).map core = (l.map core).find? fun y=>decide (y.1 = x):=by
 rw [List.find?_map];rfl
theorem lk_pOf {m m':Mt} (h:Like m m') (x:Int):(pOf m' x).map core = (pOf m x).map core:=by
 unfold pOf
 rw [find_core,find_core,h.p]
theorem lk_some {m m':Mt} (h:Like m m') {x:Int} {p:Pp} (hp:pOf m' x = some p):∃ q,pOf m x = some q∧core q = core p:=by
 have:=lk_pOf h x
 rw [hp] at this
 cases hq:pOf m x with
 | none=>rw [hq] at this;cases this
 | some q=>rw [hq] at this;exact ⟨q,rfl,(Option.some.inj this).symm⟩
theorem lk_some' {m m':Mt} (h:Like m m') {x:Int} {p:Pp} (hp:pOf m x = some p):∃ q,pOf m' x = some q∧core q = core p:=by
 have:=lk_pOf h x
 rw [hp] at this
 cases hq:pOf m' x with
 | none=>rw [hq] at this;cases this
 | some q=>rw [hq] at this;exact ⟨q,rfl,Option.some.inj this⟩
theorem core_eq {p q:Pp} (h:core q = core p):q.c.n = p.c.n∧q.c.of = p.c.of∧q.c.fr = p.c.fr∧q.c.to = p.c.to∧q.ws = p.ws:=by
 simpa [core] using h
theorem lk_of {m m':Mt} (h:Like m m') (x:Int):ofOf m' x = ofOf m x:=by
 unfold ofOf
 cases hp:pOf m' x with
 | none =>
  cases hq:pOf m x with
  | none=>rfl
  | some q=>obtain ⟨r,hr,_⟩:=lk_some' h hq;rw [hp] at hr;cases hr
 | some p =>
  obtain ⟨q,hq,e⟩:=lk_some h hp
  rw [hq]
  exact (core_eq e).2.1.symm
theorem lk_w {m m':Mt} (h:Like m m') (x:Int):wOf m' x = wOf m x:=by
 unfold wOf
 split
 ·exact h.w
 ·cases hp:pOf m' x with
  | none =>
   cases hq:pOf m x with
   | none=>rfl
   | some q=>obtain ⟨r,hr,_⟩:=lk_some' h hq;rw [hp] at hr;cases hr
  | some p =>
   obtain ⟨q,hq,e⟩:=lk_some h hp
   rw [hq]
   exact (core_eq e).2.2.2.2.symm
theorem lk_up {m m':Mt} (h:Like m m'):∀ k x,upK m' k x = upK m k x
 | 0,_=>rfl
 | k + 1,x=>by
  unfold upK
  rw [lk_of h,lk_up h k]
theorem lk_len {m m':Mt} (h:Like m m'):m'.ps.length = m.ps.length:=by
 have:=congrArg List.length h.p
 simpa using this
theorem lk_mt {m m':Mt} (h:Like m m') (hok:MtOk m):MtOk m':=by
 have hn:m'.ps.map (·.c.n) = m.ps.map (·.c.n):=by
  have:=congrArg (List.map (·.1)) h.p
  simpa [List.map_map,Function.comp_def,core] using this
 refine ⟨by rw [lk_len h];exact hok.np,by rw [h.w];exact hok.nw,fun p hp=>?_,by rw [h.w];exact hok.gw,fun p hp=>?_,fun p hp=>?_,by rw [hn];exact hok.nd,fun p hp h0=>?_,fun p hp=>?_,fun p hp=>?_⟩
 all_goals (obtain ⟨q,hq,e⟩:=lk_mem h hp;obtain ⟨e1,e2,e3,e4,e5⟩:=core_eq e)
 ·rw [← e5];exact hok.nws q hq
 ·rw [← e5];exact hok.gws q hq
 ·rw [← e1];exact hok.num q hq
 ·rw [← e2] at h0 ⊢
  obtain ⟨r,hr⟩:=hok.of q hq h0
  obtain ⟨s,hs,_⟩:=lk_some' h hr
  exact ⟨s,hs⟩
 ·rw [lk_len h,lk_up h, ← e2];exact hok.ends q hq
 ·rw [← e3, ← e4, ← e2,lk_w h];exact hok.rng q hq
theorem clash_core {p q p' q':Pp} (h:core p' = core p) (h':core q' = core q):clashF p'.c q'.c = clashF p.c q.c:=by
 obtain ⟨e1,e2,e3,e4,_⟩:=core_eq h
 obtain ⟨f1,f2,f3,f4,_⟩:=core_eq h'
 simp only [clashF,e1,e2,e3,e4,f1,f2,f3,f4]
theorem lk_ch {m m':Mt} (h:Like m m') {l:List Int} (hc:ChOk m l):ChOk m' l:=by
 refine ⟨hc.inc,fun c hcm=>?_,fun c hcm p hp h0=>?_,fun a ha b hb p q hp hq=>?_⟩
 ·obtain ⟨p,hp⟩:=hc.mem c hcm
  obtain ⟨q,hq,_⟩:=lk_some' h hp
  exact ⟨q,hq⟩
 ·obtain ⟨q,hq,e⟩:=lk_some h hp
  obtain ⟨_,e2,_⟩:=core_eq e
  rw [← e2] at h0 ⊢
  exact hc.cl c hcm q hq h0
 ·obtain ⟨p',hp',e⟩:=lk_some h hp
  obtain ⟨q',hq',e'⟩:=lk_some h hq
  rw [← clash_core e e']
  exact hc.nc a ha b hb p' q' hp' hq'
def MoC (G:Hp) (v:Value) (m:Mt):Prop:=∃ m',MoV G v m'∧Like m m'
theorem MoC.grow {G G':Hp} (hg:Grow G G') {v:Value} {m:Mt} (h:MoC G v m):MoC G' v m:=let ⟨m',h1,h2⟩:=h;⟨m',moRd.grow hg h1,h2⟩
structure MoI (p:Hp) (pv:Value) (out:List Pp):Prop where
 r:RowH pcE 119 p pv (out.map (·.c))
 w:∀ q∈out,RowH strE 9 p q.c.sl q.ws
def MoHp (m:Mt) (v:Value) (p G:Hp):Prop:=∃ w pv out,v = .agg #[w,pv]∧SlV strE G w m.ws∧MoI p pv out∧out.map core = m.ps.map core
theorem none_of {p:Hp} {b b':Nat} {o:Obj} (h:upd p b' (some o) b = none):p b = none:=by
 by_cases e:b = b'
 ·subst e;rw [upd_same] at h;cases h
 ·rw [upd_other _ _ e] at h;exact h
theorem h24_new {P2:Hp} {b3 b4:Nat} {o3 o4:Obj} (h3:P2 b3 = none) (h4:upd P2 b3 (some o3) b4 = none):∀ b cs,P2 b = some (.cells cs 9 (0,0))→upd (upd P2 b3 (some o3)) b4 (some o4) b = some (.cells cs 9 (0,0)):=fun b cs e=>by
 rw [upd_other _ _ (fun e'=>by subst e';rw [none_of h4] at e;cases e),upd_other _ _ (fun e'=>by subst e';rw [h3] at e;cases e)];exact e
theorem h24_in {P2:Hp} {b3 bo:Nat} {o3 o4:Obj} {x:Array Value} (h3:P2 b3 = none) (h4:P2 bo = some (.cells x 119 (0,0))):∀ b cs,P2 b = some (.cells cs 9 (0,0))→upd (upd P2 b3 (some o3)) bo (some o4) b = some (.cells cs 9 (0,0)):=fun b cs e=>by
 rw [upd_other _ _ (fun e'=>by subst e';rw [h4] at e;cases e),upd_other _ _ (fun e'=>by subst e';rw [h3] at e;cases e)];exact e
theorem rowH9 {P P':Hp} {v:Value} {l:List ByteArray} (h:RowH strE 9 P v l) (hk:∀ b cs,P b = some (.cells cs 9 (0,0))→P' b = some (.cells cs 9 (0,0))):RowH strE 9 P' v l:=by
 rcases h with h | ⟨b,c,r,h1,h2,h3⟩
 ·exact .inl h
 ·exact .inr ⟨b,c,r,h1,hk _ _ h2,h3⟩
abbrev ncOf (q:Pp) (bx cx:Nat):Pc:=⟨q.c.n,q.c.of,q.c.fr,q.c.to,some ⟨bx,0,none⟩,0 + q.c.k,cx⟩
abbrev outN (out:List Pp) (q:Pp) (bx cx:Nat):List Pp:=out++[⟨ncOf q bx cx,q.ws⟩]
theorem outN_c (out:List Pp) (q:Pp) (bx cx:Nat):(outN out q bx cx).map (·.c) = out.map (·.c)++[ncOf q bx cx]:=by rw [outN,List.map_append];rfl
theorem row_new {p:Hp} {b c:Nat} {l us:List Pc} {vs rest':List Value} (_:p b = none) (hv:vs = flat pcE l) (hr:rest'.length = (c - (l.length + us.length)) * pcE.k) (hc:l.length + us.length≤c) (hm:c≤maxLen) :
  RowH pcE 119 (upd p b (some (.cells (vs++flat pcE us++rest').toArray 119 (0,0)))) (.slice (some ⟨b,0,none⟩) (l.length + us.length) c) (l++us):=RowH.appNew hv hr hc hm
theorem row_in {p:Hp} {b c:Nat} {l us:List Pc} {rest:List Value} {x:Array Value} (_:p b = some (.cells x 119 (0,0))) (hr:rest.length = (c - l.length) * pcE.k) (hc:l.length + us.length≤c) (hm:c≤maxLen) :
  RowH pcE 119 (upd p b (some (.cells ((flat pcE l++rest).take (l.length * pcE.k)++flat pcE us++(flat pcE l++rest).drop ((l.length + us.length) * pcE.k)).toArray 119 (0,0)))) (.slice (some ⟨b,0,none⟩) (l.length + us.length) c) (l++us):=RowH.appIn hr hc hm
set_option maxHeartbeats 4000000 in
theorem motion10h {m:Mt} (hok:MtOk m):Sound Tryz.prog 10 id (.hp (fun args p G=>(∃ v,args = [v]∧MoV G v m)∧p = fun _=>none) fun _ _ v p' G'=>MoHp m v p' G'):=by
 refine comp10.hy (Tab.nil _) (fun args p G h=>?_) (fun args p v p' G G' hg h=>?_) (fun args p G h=>?_)
 ·obtain ⟨⟨v,rfl,_⟩,_⟩:=h;simp
 ·obtain ⟨w,pv,out,h1,h2,h3⟩:=h
  exact ⟨w,pv,out,h1,h2.grow hg,h3⟩
 ·obtain ⟨⟨v,rfl,⟨w0,a,n,c,rfl,hw,hl,hn,hp⟩⟩,rfl⟩:=h
  have hln:=hl.len
  have hcl:m.cs.length = m.ps.length:=by simp
  have hnp:=hok.np
  obtain ⟨wa,wn,wc,rfl,hwl,hwn⟩:=id hw
  have hwln:=hwl.len
  have hnw:=hok.nw
  obtain ⟨e1,e2,e3⟩:=hwl.all
  (conv=>whnf)
  repeat' (first | (refine ob ?_ ?_;(first | trivial | omega | (simp only [inR];omega) | exact ble (by rfl) | exact SlR.some ‹_› (by omega));(conv=>whnf)) | (first | (refine ra ‹_› (by rfl) ?_;(conv=>whnf)) | (refine rb ‹_› (by rfl) ?_;(conv=>whnf)) | (refine rc ‹_› (by rfl) ?_;(conv=>whnf)) | (refine rd ‹_› (by rfl) ?_;(conv=>whnf))))
  refine OblP.mk hwl.some (W.mk ?_)
  (conv=>whnf)
  refine RdhP.g e1 e2 (W.mk ?_)
  (conv=>whnf)
  refine OblP.mk e3 (W.mk ?_)
  (conv=>whnf)
  repeat' (first | (refine OblP.mk rfl (W.mk ?_);(conv=>whnf)) | (refine ob ?_ ?_;(first | trivial | omega | (simp only [inR];omega) | exact ble (by rfl) | exact SlR.some ‹_› (by omega));(conv=>whnf)))
  refine LoopP.of { α:=Nat × (Nat × List Value) × Hp × Value × List Pp,fr:=fun z=>[(1, .c (.ptr 2500 0)),(2, .c (.ptr 2501 0)),(3, .c (.ptr 2507 0)),(4, .v (I z.1))],H:=fun z=>[(0, .heap z.2.2.1),(2500, .cells .anon [.val (.slice wa wn wc), .val (.slice a n c)] 25),(2501, .cells .anon [.val (.slice none 0 0), .val (.slice none 0 0)] 38),(2505, .row none z.2.1.1 z.2.1.2 9 1),(2507, .cells .anon [.row 2505 z.2.1.1, .val z.2.2.2.1] 38)],ok:=fun z _=>z.1≤n∧Row strE m.ws z.2.1.1 z.2.1.2∧MoI z.2.2.1 z.2.2.2.1 z.2.2.2.2∧z.2.2.2.2.map core = (m.ps.take z.1).map core,m:=fun z=>n - z.1 }
   (0,(0 + wn,_),(fun _=>none), .slice none 0 0,[]) (HeadP.of [] ⟨rfl,rfl,rfl,rfl,trivial⟩ ⟨rfl,rfl,rfl,rfl,rfl,trivial⟩) ⟨Nat.zero_le _,by rw [Nat.zero_add];exact Row.of_all _ hwln,⟨RowH.nil,fun q hq=>by cases hq⟩,rfl⟩ (fun _=>⟨rfl,rfl⟩) (fun z G' hG hz=>W.mk ?_)
  obtain ⟨i,⟨w1,w2⟩,p,pv,out⟩:=z
  obtain ⟨k1,k3,k4,k6⟩:=hz
  dsimp only at k1 k3 k4 k6
  dsimp only
  replace hl:=slr_grow (E:=pcE) hG hl
  rcases id k4.r with ⟨rfl,h0⟩ | ⟨bo,co,ro,rfl,hbo,ho1,ho2,ho3⟩
  ·(conv=>whnf)
   refine IteP.mk (fun hlt=>W.mk ?_) (fun hge=>W.mk ?_)<;>(conv=>whnf)
   ·have hlt:i < m.ps.length:=by have hlt:(i:Int) < n:=hlt;omega
    have hel:=hl.el (i:=i) (by omega)
    rw [cs_get hlt] at hel
    have hpi:=hp _ (List.getElem_mem hlt)
    have hwb:=hok.nws _ (List.getElem_mem hlt)
    have htk:(m.ps.take (i + 1)).map core = (m.ps.take i).map core++[core m.ps[i]]:=by rw [take_snoc (List.getElem?_eq_getElem hlt),List.map_append];rfl
    generalize m.ps[i] = q at hel hpi htk hwb
    obtain ⟨pa,pn,pk,hpe,hpl,hpb⟩:=id hpi
    simp only [Value.slice.injEq] at hpe
    obtain ⟨rfl,rfl,rfl⟩:=hpe
    obtain ⟨f1,f2,f3⟩:=hpl.all
    have hpln:=hpl.len
    repeat' (first | (refine ob ?_ ?_;(first | trivial | omega | (simp only [inR];omega) | exact ble (by rfl) | exact SlR.some ‹_› (by omega));(conv=>whnf)) | (first | (refine ra ‹_› (by rfl) ?_;(conv=>whnf)) | (refine rb ‹_› (by rfl) ?_;(conv=>whnf)) | (refine rc ‹_› (by rfl) ?_;(conv=>whnf)) | (refine rd ‹_› (by rfl) ?_;(conv=>whnf))))
    refine RdhP.g (cs:=pcL q.c) hel rfl (W.mk ?_)
    (conv=>whnf)
    refine DrawP.mk monoT_nil rfl (W.mk ?_)
    (conv=>whnf)
    refine NewhP.mk (fun b1 hb1=>W.mk ?_)
    (conv=>whnf)
    refine HpkP.mk ⟨[],9,upd_same _ _ _,W.mk ?_⟩
    (conv=>whnf)
    refine OblP.mk ⟨rfl,rfl,rfl,Nat.le_refl _,Nat.zero_le _,fun u hu=>by simp at hu⟩ (W.mk ?_)
    (conv=>whnf)
    refine OblP.mk hpl.some (W.mk ?_)
    (conv=>whnf)
    refine RdhP.g (f1.grow hG) f2 (W.mk ?_)
    (conv=>whnf)
    refine OblP.mk f3 (W.mk ?_)
    (conv=>whnf)
    refine OblP.mk ⟨by omega, .inr (Nat.le_refl _)⟩ (W.mk ?_)
    (conv=>whnf)
    refine IteP.mk (fun hc0=>W.mk ?_) (fun hc0=>W.mk ?_)
    ·(conv=>whnf)
     refine NewhP.mk (fun b3 hb3=>W.mk ?_)
     have hk0:q.c.k = 0:=by have hc0:((0 + q.c.k:Nat):Int)≤(0:Nat):=hc0;omega
     have hws0:q.ws = []:=List.eq_nil_of_length_eq_zero (by omega)
     have hfl:(List.map strE.f q.ws).flatten = []:=by rw [hws0];rfl
     have hup:∀ b o,p b = some o→upd (upd p b1 (some (.cells #[] 9 (0,0)))) b1 (some (.cells (([]:List Value).take (0 * 1)++(List.map strE.f q.ws).flatten++([]:List Value).drop ((0 + q.c.k) * 1)).toArray 9 (0,0))) b = some o:=fun b o e=>by
      rw [upd_other _ _ (fun e'=>by subst e';rw [hb1] at e;cases e),upd_other _ _ (fun e'=>by subst e';rw [hb1] at e;cases e)];exact e
     have hW:RowH strE 9 (upd (upd p b1 (some (.cells #[] 9 (0,0)))) b1 (some (.cells (([]:List Value).take (0 * 1)++(List.map strE.f q.ws).flatten++([]:List Value).drop ((0 + q.c.k) * 1)).toArray 9 (0,0)))) (.slice (some ⟨b1,0,none⟩) (0 + q.c.k) 0) q.ws:=by
      rw [hk0,hfl,hws0]
      exact .inr ⟨b1,0,[],rfl,upd_same _ _ _,rfl,Nat.le_refl _,Nat.zero_le _⟩
     (conv=>whnf)
     refine OblP.mk (fun _=>rfl) (W.mk ?_)
     (conv=>whnf)
     refine RdhP.h (ds:=pcL (ncOf q b1 0)) (t:=119) (upd_same _ _ _) rfl (W.mk ?_)
     (conv=>whnf)
     refine OblP.mk (fun u hu=>flat_one pcE [ncOf q b1 0] u hu) (W.mk ?_)
     (conv=>whnf)
     refine OblP.mk ⟨by decide,by decide⟩ (W.mk ?_)
     (conv=>whnf)
     refine AppnP.mk (fun b4 cap4 rest4 y1 y2 y3 y4=>W.mk ?_)
     have hrow:=row_new (l:=[]) (us:=[ncOf q b1 0]) (vs:=[]) (rest':=rest4) y1 rfl y4 y2 y3
     rw [← show (outN out q b1 0).map (·.c) = []++[ncOf q b1 0] from by rw [outN_c,h0]] at hrow
     (conv=>whnf)
     (refine ob ?_ ?_;(first | trivial | omega | (simp only [inR];omega) | exact ble (by rfl) | exact SlR.some ‹_› (by omega));(conv=>whnf))
     refine RoundP.of (i + 1,(w1,w2),_,_,outN out q b1 0) (HeadP.of [] ⟨rfl,rfl,rfl,rfl,trivial⟩ ⟨rfl,rfl,rfl,rfl,rfl,trivial⟩) ⟨by show i + 1≤n;omega,k3,⟨hrow,fun q' hq'=>?_⟩,by rw [List.map_append,k6];exact htk.symm⟩ (by show n - (i + 1) < n - i;omega)
     rcases List.mem_append.1 hq' with hq' | hq'
     ·exact rowH9 (rowH9 (k4.w q' hq') (fun b cs=>hup b _)) (h24_new hb3 y1)
     ·rw [List.mem_singleton] at hq'
      subst hq'
      exact rowH9 hW (h24_new hb3 y1)
    ·(conv=>whnf)
     refine AppnP.mk (fun b2 cap2 rest2 g1 g2 g3 g4=>W.mk ?_)
     (conv=>whnf)
     refine NewhP.mk (fun b3 hb3=>W.mk ?_)
     have hb3p:p b3 = none:=none_of (none_of hb3)
     have hb2p:p b2 = none:=none_of g1
     have hup:∀ b o,p b = some o→upd (upd p b1 (some (.cells #[] 9 (0,0)))) b2 (some (.cells (([]:List Value).take (0 * 1)++flat strE q.ws++rest2).toArray 9 (0,0))) b = some o:=fun b o e=>by
      rw [upd_other _ _ (fun e'=>by subst e';rw [hb2p] at e;cases e),upd_other _ _ (fun e'=>by subst e';rw [hb1] at e;cases e)];exact e
     have hW:RowH strE 9 (upd (upd p b1 (some (.cells #[] 9 (0,0)))) b2 (some (.cells (([]:List Value).take (0 * 1)++flat strE q.ws++rest2).toArray 9 (0,0)))) (.slice (some ⟨b2,0,none⟩) (0 + q.c.k) cap2) q.ws:=by
      rw [← hpln,Nat.zero_add] at g2 g4 ⊢
      exact .inr ⟨b2,cap2,rest2,rfl,upd_same _ _ _,g4,g2,g3⟩
     (conv=>whnf)
     refine OblP.mk (fun _=>rfl) (W.mk ?_)
     (conv=>whnf)
     refine RdhP.h (ds:=pcL (ncOf q b2 cap2)) (t:=119) (upd_same _ _ _) rfl (W.mk ?_)
     (conv=>whnf)
     refine OblP.mk (fun u hu=>flat_one pcE [ncOf q b2 cap2] u hu) (W.mk ?_)
     (conv=>whnf)
     refine OblP.mk ⟨by decide,by decide⟩ (W.mk ?_)
     (conv=>whnf)
     refine AppnP.mk (fun b4 cap4 rest4 y1 y2 y3 y4=>W.mk ?_)
     have hrow:=row_new (l:=[]) (us:=[ncOf q b2 cap2]) (vs:=[]) (rest':=rest4) y1 rfl y4 y2 y3
     rw [← show (outN out q b2 cap2).map (·.c) = []++[ncOf q b2 cap2] from by rw [outN_c,h0]] at hrow
     (conv=>whnf)
     (refine ob ?_ ?_;(first | trivial | omega | (simp only [inR];omega) | exact ble (by rfl) | exact SlR.some ‹_› (by omega));(conv=>whnf))
     refine RoundP.of (i + 1,(w1,w2),_,_,outN out q b2 cap2) (HeadP.of [] ⟨rfl,rfl,rfl,rfl,trivial⟩ ⟨rfl,rfl,rfl,rfl,rfl,trivial⟩) ⟨by show i + 1≤n;omega,k3,⟨hrow,fun q' hq'=>?_⟩,by rw [List.map_append,k6];exact htk.symm⟩ (by show n - (i + 1) < n - i;omega)
     rcases List.mem_append.1 hq' with hq' | hq'
     ·exact rowH9 (rowH9 (k4.w q' hq') (fun b cs=>hup b _)) (h24_new hb3 y1)
     ·rw [List.mem_singleton] at hq'
      subst hq'
      exact rowH9 hW (h24_new hb3 y1)
   ·refine NmP.mk ⟨[],W.mk ?_⟩
    (conv=>whnf)
    refine PubP.mk (fun a1 c1 G3 hg3 h3=>W.mk ?_)
    (conv=>whnf)
    have hin:m.ps.length≤i:=by have hge:¬ (i:Int) < n:=hge;omega
    rw [List.take_of_length_le hin] at k6
    exact FinHp.of rfl ⟨_,_,out,rfl,k3.pub h3 (by have:=k3.n;omega),k4,k6⟩
  ·(conv=>whnf)
   refine IteP.mk (fun hlt=>W.mk ?_) (fun hge=>W.mk ?_)<;>(conv=>whnf)
   ·have hlt:i < m.ps.length:=by have hlt:(i:Int) < n:=hlt;omega
    have hel:=hl.el (i:=i) (by omega)
    rw [cs_get hlt] at hel
    have hpi:=hp _ (List.getElem_mem hlt)
    have hwb:=hok.nws _ (List.getElem_mem hlt)
    have htk:(m.ps.take (i + 1)).map core = (m.ps.take i).map core++[core m.ps[i]]:=by rw [take_snoc (List.getElem?_eq_getElem hlt),List.map_append];rfl
    generalize m.ps[i] = q at hel hpi htk hwb
    obtain ⟨pa,pn,pk,hpe,hpl,hpb⟩:=id hpi
    simp only [Value.slice.injEq] at hpe
    obtain ⟨rfl,rfl,rfl⟩:=hpe
    obtain ⟨f1,f2,f3⟩:=hpl.all
    have hpln:=hpl.len
    repeat' (first | (refine ob ?_ ?_;(first | trivial | omega | (simp only [inR];omega) | exact ble (by rfl) | exact SlR.some ‹_› (by omega));(conv=>whnf)) | (first | (refine ra ‹_› (by rfl) ?_;(conv=>whnf)) | (refine rb ‹_› (by rfl) ?_;(conv=>whnf)) | (refine rc ‹_› (by rfl) ?_;(conv=>whnf)) | (refine rd ‹_› (by rfl) ?_;(conv=>whnf))))
    refine RdhP.g (cs:=pcL q.c) hel rfl (W.mk ?_)
    (conv=>whnf)
    refine DrawP.mk monoT_nil rfl (W.mk ?_)
    (conv=>whnf)
    refine NewhP.mk (fun b1 hb1=>W.mk ?_)
    (conv=>whnf)
    refine HpkP.mk ⟨[],9,upd_same _ _ _,W.mk ?_⟩
    (conv=>whnf)
    refine OblP.mk ⟨rfl,rfl,rfl,Nat.le_refl _,Nat.zero_le _,fun u hu=>by simp at hu⟩ (W.mk ?_)
    (conv=>whnf)
    refine OblP.mk hpl.some (W.mk ?_)
    (conv=>whnf)
    refine RdhP.g (f1.grow hG) f2 (W.mk ?_)
    (conv=>whnf)
    refine OblP.mk f3 (W.mk ?_)
    (conv=>whnf)
    refine OblP.mk ⟨by omega, .inr (Nat.le_refl _)⟩ (W.mk ?_)
    (conv=>whnf)
    refine IteP.mk (fun hc0=>W.mk ?_) (fun hc0=>W.mk ?_)
    ·(conv=>whnf)
     refine NewhP.mk (fun b3 hb3=>W.mk ?_)
     have hk0:q.c.k = 0:=by have hc0:((0 + q.c.k:Nat):Int)≤(0:Nat):=hc0;omega
     have hws0:q.ws = []:=List.eq_nil_of_length_eq_zero (by omega)
     have hfl:(List.map strE.f q.ws).flatten = []:=by rw [hws0];rfl
     have hup:∀ b o,p b = some o→upd (upd p b1 (some (.cells #[] 9 (0,0)))) b1 (some (.cells (([]:List Value).take (0 * 1)++(List.map strE.f q.ws).flatten++([]:List Value).drop ((0 + q.c.k) * 1)).toArray 9 (0,0))) b = some o:=fun b o e=>by
      rw [upd_other _ _ (fun e'=>by subst e';rw [hb1] at e;cases e),upd_other _ _ (fun e'=>by subst e';rw [hb1] at e;cases e)];exact e
     have hW:RowH strE 9 (upd (upd p b1 (some (.cells #[] 9 (0,0)))) b1 (some (.cells (([]:List Value).take (0 * 1)++(List.map strE.f q.ws).flatten++([]:List Value).drop ((0 + q.c.k) * 1)).toArray 9 (0,0)))) (.slice (some ⟨b1,0,none⟩) (0 + q.c.k) 0) q.ws:=by
      rw [hk0,hfl,hws0]
      exact .inr ⟨b1,0,[],rfl,upd_same _ _ _,rfl,Nat.le_refl _,Nat.zero_le _⟩
     have hbo2:=hup _ _ hbo
     have hbo3:=(upd_other _ (some (Obj.cells (pcL (ncOf q b1 0)).toArray 119 (0,0))) (fun e:bo = b3=>absurd (hb3.symm.trans (e ▸ hbo2)) (fun h=>by cases h))).trans hbo2
     (conv=>whnf)
     have hon:(flat pcE (out.map (·.c))++ro).length = co * 5:=by rw [List.length_append,flat_len,ho1,show pcE.k = 5 from rfl];omega
     have hone:∀ u∈(flat pcE (out.map (·.c))++ro).take ((out.map (·.c)).length * 5),u.oneCell' = true:=by
      have e:=take_flat (E:=pcE) (l:=out.map (·.c)) (rest:=ro)
      rw [show (out.map (·.c)).length * pcE.k = (out.map (·.c)).length * 5 from rfl] at e
      rw [e];exact flat_one _ _
     refine HpkP.mk ⟨_,119,hbo3,W.mk ?_⟩
     (conv=>whnf)
     refine OblP.mk ⟨rfl,rfl,hon,ho2,ho3,hone⟩ (W.mk ?_)
     (conv=>whnf)
     refine OblP.mk (fun _=>rfl) (W.mk ?_)
     (conv=>whnf)
     refine RdhP.h (ds:=pcL (ncOf q b1 0)) (t:=119) (upd_same _ _ _) rfl (W.mk ?_)
     (conv=>whnf)
     refine OblP.mk (fun u hu=>flat_one pcE [ncOf q b1 0] u hu) (W.mk ?_)
     (conv=>whnf)
     refine OblP.mk ⟨by have:=congrArg List.length k6;simp only [List.length_map,List.length_take] at this ⊢;omega, .inl (by decide)⟩ (W.mk ?_)
     (conv=>whnf)
     refine IteP.mk (fun hcap=>W.mk ?_) (fun hcap=>W.mk ?_)
     ·have hcap:(((out.map (·.c)).length + 1:Nat):Int)≤co:=hcap
      have hrow:=row_in (l:=out.map (·.c)) (us:=[ncOf q b1 0]) hbo3 ho1 (by simp only [List.length_singleton];omega) ho3
      rw [← outN_c] at hrow
      (conv=>whnf)
      (refine ob ?_ ?_;(first | trivial | omega | (simp only [inR];omega) | exact ble (by rfl) | exact SlR.some ‹_› (by omega));(conv=>whnf))
      refine RoundP.of (i + 1,(w1,w2),_,_,outN out q b1 0) (HeadP.of [] ⟨rfl,rfl,rfl,rfl,trivial⟩ ⟨rfl,rfl,rfl,rfl,rfl,trivial⟩) ⟨by show i + 1≤n;omega,k3,⟨hrow,fun q' hq'=>?_⟩,by rw [List.map_append,k6];exact htk.symm⟩ (by show n - (i + 1) < n - i;omega)
      rcases List.mem_append.1 hq' with hq' | hq'
      ·exact rowH9 (rowH9 (k4.w q' hq') (fun b cs=>hup b _)) (h24_in hb3 hbo2)
      ·rw [List.mem_singleton] at hq'
       subst hq'
       exact rowH9 hW (h24_in hb3 hbo2)
     ·(conv=>whnf)
      refine AppnP.mk (fun b4 cap4 rest4 y1 y2 y3 y4=>W.mk ?_)
      have hrow:=row_new (l:=out.map (·.c)) (us:=[ncOf q b1 0]) (vs:=(flat pcE (out.map (·.c))++ro).take ((out.map (·.c)).length * pcE.k)) (rest':=rest4) y1 take_flat y4 y2 y3
      rw [← outN_c] at hrow
      (conv=>whnf)
      (refine ob ?_ ?_;(first | trivial | omega | (simp only [inR];omega) | exact ble (by rfl) | exact SlR.some ‹_› (by omega));(conv=>whnf))
      refine RoundP.of (i + 1,(w1,w2),_,_,outN out q b1 0) (HeadP.of [] ⟨rfl,rfl,rfl,rfl,trivial⟩ ⟨rfl,rfl,rfl,rfl,rfl,trivial⟩) ⟨by show i + 1≤n;omega,k3,⟨hrow,fun q' hq'=>?_⟩,by rw [List.map_append,k6];exact htk.symm⟩ (by show n - (i + 1) < n - i;omega)
      rcases List.mem_append.1 hq' with hq' | hq'
      ·exact rowH9 (rowH9 (k4.w q' hq') (fun b cs=>hup b _)) (h24_new hb3 y1)
      ·rw [List.mem_singleton] at hq'
       subst hq'
       exact rowH9 hW (h24_new hb3 y1)
    ·(conv=>whnf)
     refine AppnP.mk (fun b2 cap2 rest2 g1 g2 g3 g4=>W.mk ?_)
     (conv=>whnf)
     refine NewhP.mk (fun b3 hb3=>W.mk ?_)
     have hb3p:p b3 = none:=none_of (none_of hb3)
     have hb2p:p b2 = none:=none_of g1
     have hup:∀ b o,p b = some o→upd (upd p b1 (some (.cells #[] 9 (0,0)))) b2 (some (.cells (([]:List Value).take (0 * 1)++flat strE q.ws++rest2).toArray 9 (0,0))) b = some o:=fun b o e=>by
      rw [upd_other _ _ (fun e'=>by subst e';rw [hb2p] at e;cases e),upd_other _ _ (fun e'=>by subst e';rw [hb1] at e;cases e)];exact e
     have hW:RowH strE 9 (upd (upd p b1 (some (.cells #[] 9 (0,0)))) b2 (some (.cells (([]:List Value).take (0 * 1)++flat strE q.ws++rest2).toArray 9 (0,0)))) (.slice (some ⟨b2,0,none⟩) (0 + q.c.k) cap2) q.ws:=by
      rw [← hpln,Nat.zero_add] at g2 g4 ⊢
      exact .inr ⟨b2,cap2,rest2,rfl,upd_same _ _ _,g4,g2,g3⟩
     have hbo2:=hup _ _ hbo
     have hbo3:=(upd_other _ (some (Obj.cells (pcL (ncOf q b2 cap2)).toArray 119 (0,0))) (fun e:bo = b3=>absurd (hb3.symm.trans (e ▸ hbo2)) (fun h=>by cases h))).trans hbo2
     (conv=>whnf)
     have hon:(flat pcE (out.map (·.c))++ro).length = co * 5:=by rw [List.length_append,flat_len,ho1,show pcE.k = 5 from rfl];omega
     have hone:∀ u∈(flat pcE (out.map (·.c))++ro).take ((out.map (·.c)).length * 5),u.oneCell' = true:=by
      have e:=take_flat (E:=pcE) (l:=out.map (·.c)) (rest:=ro)
      rw [show (out.map (·.c)).length * pcE.k = (out.map (·.c)).length * 5 from rfl] at e
      rw [e];exact flat_one _ _
     refine HpkP.mk ⟨_,119,hbo3,W.mk ?_⟩
     (conv=>whnf)
     refine OblP.mk ⟨rfl,rfl,hon,ho2,ho3,hone⟩ (W.mk ?_)
     (conv=>whnf)
     refine OblP.mk (fun _=>rfl) (W.mk ?_)
     (conv=>whnf)
     refine RdhP.h (ds:=pcL (ncOf q b2 cap2)) (t:=119) (upd_same _ _ _) rfl (W.mk ?_)
     (conv=>whnf)
     refine OblP.mk (fun u hu=>flat_one pcE [ncOf q b2 cap2] u hu) (W.mk ?_)
     (conv=>whnf)
     refine OblP.mk ⟨by have:=congrArg List.length k6;simp only [List.length_map,List.length_take] at this ⊢;omega, .inl (by decide)⟩ (W.mk ?_)
     (conv=>whnf)
     refine IteP.mk (fun hcap=>W.mk ?_) (fun hcap=>W.mk ?_)
     ·have hcap:(((out.map (·.c)).length + 1:Nat):Int)≤co:=hcap
      have hrow:=row_in (l:=out.map (·.c)) (us:=[ncOf q b2 cap2]) hbo3 ho1 (by simp only [List.length_singleton];omega) ho3
      rw [← outN_c] at hrow
      (conv=>whnf)
      (refine ob ?_ ?_;(first | trivial | omega | (simp only [inR];omega) | exact ble (by rfl) | exact SlR.some ‹_› (by omega));(conv=>whnf))
      refine RoundP.of (i + 1,(w1,w2),_,_,outN out q b2 cap2) (HeadP.of [] ⟨rfl,rfl,rfl,rfl,trivial⟩ ⟨rfl,rfl,rfl,rfl,rfl,trivial⟩) ⟨by show i + 1≤n;omega,k3,⟨hrow,fun q' hq'=>?_⟩,by rw [List.map_append,k6];exact htk.symm⟩ (by show n - (i + 1) < n - i;omega)
      rcases List.mem_append.1 hq' with hq' | hq'
      ·exact rowH9 (rowH9 (k4.w q' hq') (fun b cs=>hup b _)) (h24_in hb3 hbo2)
      ·rw [List.mem_singleton] at hq'
       subst hq'
       exact rowH9 hW (h24_in hb3 hbo2)
     ·(conv=>whnf)
      refine AppnP.mk (fun b4 cap4 rest4 y1 y2 y3 y4=>W.mk ?_)
      have hrow:=row_new (l:=out.map (·.c)) (us:=[ncOf q b2 cap2]) (vs:=(flat pcE (out.map (·.c))++ro).take ((out.map (·.c)).length * pcE.k)) (rest':=rest4) y1 take_flat y4 y2 y3
      rw [← outN_c] at hrow
      (conv=>whnf)
      (refine ob ?_ ?_;(first | trivial | omega | (simp only [inR];omega) | exact ble (by rfl) | exact SlR.some ‹_› (by omega));(conv=>whnf))
      refine RoundP.of (i + 1,(w1,w2),_,_,outN out q b2 cap2) (HeadP.of [] ⟨rfl,rfl,rfl,rfl,trivial⟩ ⟨rfl,rfl,rfl,rfl,rfl,trivial⟩) ⟨by show i + 1≤n;omega,k3,⟨hrow,fun q' hq'=>?_⟩,by rw [List.map_append,k6];exact htk.symm⟩ (by show n - (i + 1) < n - i;omega)
      rcases List.mem_append.1 hq' with hq' | hq'
      ·exact rowH9 (rowH9 (k4.w q' hq') (fun b cs=>hup b _)) (h24_new hb3 y1)
      ·rw [List.mem_singleton] at hq'
       subst hq'
       exact rowH9 hW (h24_new hb3 y1)
   ·refine NmP.mk ⟨[],W.mk ?_⟩
    (conv=>whnf)
    refine PubP.mk (fun a1 c1 G3 hg3 h3=>W.mk ?_)
    (conv=>whnf)
    have hin:m.ps.length≤i:=by have hge:¬ (i:Int) < n:=hge;omega
    rw [List.take_of_length_le hin] at k6
    exact FinHp.of rfl ⟨_,_,out,rfl,k3.pub h3 (by have:=k3.n;omega),k4,k6⟩
theorem Sound.relG {P:Program} {α:Type} {f:FuncId} {sh:List Value→List Value} {R:GRel α} {q:α→Value→Hp→Prop} (ok:GOk R) (hm:∀ x v G G',Grow G G'→q x v G→q x v G') (h:∀ x,Sound P f sh (.rel (fun args G=>R args G x) fun _ v G=>q x v G)):Sound P f sh (grel R q) :=
 ⟨fun args v G G' hg ⟨x,h1,h2⟩=>⟨x,ok.grow _ _ _ _ hg h1,hm _ _ _ _ hg h2⟩,fun args G W hsub ⟨x,hx⟩=>((h x).2 args G W hsub hx).mono fun e W' ⟨v,G',h1,h2,h3,h4⟩=>⟨v,G',h1,⟨x,ok.grow _ _ _ _ h3 hx,h2⟩,h3,h4⟩⟩
theorem motion10:Sound Tryz.prog 10 id (grel (args1 moRd MtOk) fun m v G=>MoC G v m):=by
 refine Sound.relG (ok1 _ _) (fun x v G G' hg h=>h.grow hg) fun m=>?_
 by_cases hok:MtOk m
 ·refine (motion10h hok).hpRel (fun args G h=>?_) (fun args v p' G' G'' hg hp h=>?_) (fun args v G G' hg h=>h.grow hg)
  ·obtain ⟨v,h1,h2,_⟩:=h
   exact ⟨⟨v,h1,h2⟩,rfl⟩
  ·obtain ⟨w,pv,out,rfl,h2,⟨h3,h4⟩,h5⟩:=h
   have hlen:out.length≤10:=by have:=congrArg List.length h5;simp only [List.length_map] at this;have:=hok.np;omega
   obtain ⟨a,k,c,rfl,h6,h7⟩:=h3.slV (G:=G'') hp (by rw [List.length_map];omega)
   refine ⟨⟨m.ws,out⟩,⟨w,a,k,c,rfl,h2.grow hg,h6,h7,fun q hq=>?_⟩,⟨rfl,h5⟩⟩
   have hc:core q∈m.ps.map core:=h5 ▸ List.mem_map.2 ⟨q,hq,rfl⟩
   obtain ⟨r,hr,e⟩:=List.mem_map.1 hc
   have hb:=hok.nws r hr
   rw [(core_eq e).2.2.2.2] at hb
   exact (h4 q hq).slV hp (by omega)
 ·refine ⟨fun args v G G' hg h=>h.grow hg,fun args G W hsub h=>?_⟩
  obtain ⟨v,_,_,h3⟩:=h
  exact absurd h3 hok
end Go.Proofs.YtefnikpoimaiiaaGreat

namespace Go.Proofs.YtefnikpoimaiiaaGreat
open Go.Pal Go.RowKit
set_option maxRecDepth 100000
theorem rowP_inj {b n0 n cap b' n0' n' cap':Nat} {l l':List Pc} {rest rest':List Value} (h:[rowP b n0 n cap l rest] = [rowP b' n0' n' cap' l' rest']):b' = b∧n0' = n0∧n' = n∧cap' = cap∧l' = l∧rest' = rest:=by
 simp only [List.cons.injEq,LE.mk.injEq,LB.row.injEq,and_true,true_and] at h
 obtain ⟨h1,h2,h3,h4,h5,h6⟩:=h
 exact ⟨h1.symm,h2.symm,h3.symm,h4.symm,(fl_inj (E:=pcE) (by decide) h5).symm,h6.symm⟩
theorem pdq99 (k:Int):Sound Tryz.prog 99 id (sortS fun s n=>[s,I 0,I n,I k,fnV 70]):=by
 refine ⟨fun args ls v ns G G' hg h=>h,fun args ls G Wd hsub hls hnd hpre=>?_⟩
 obtain ⟨b,n0,n,cap,l,rest,rfl,rfl,hn1,hn3,hll,hsm⟩:=hpre
 have hone:=(hls (rowP b n0 n cap l rest) (by simp)).2.2
 obtain ⟨z1,z2,z3,z4,z5,z6⟩:=id hone
 refine st_sound (Tab.cons 149 _ isort149 body149 (Tab.nil _)) comp99 (svs:=[.c (.row 0 n), .v (I 0), .v (I n), .v (I k), .v (fnV 70)]) (obs:=[.xrow b n cap (flat pcE l) rest 119 5]) (by simp) hsub hls hnd (Nat.le_refl _) ?_ ?_ ?_
 ·exact ⟨⟨rfl,_,_,rfl⟩,(Nat.le_of_ble_eq_true rfl:0 < 1),rfl,trivial,rfl,trivial,rfl,trivial,rfl,trivial,trivial⟩
 ·exact ⟨rfl,trivial⟩
 ·(conv=>whnf)
  refine LoopP.of { α:=Unit,fr:=fun _=>[(0, .c (.row 0 n)),(1, .v (I 0)),(2, .v (I n)),(3, .v (I k)),(4, .v (fnV 70))],H:=fun _=>[(0, .xrow b n cap (flat pcE l) rest 119 5)],ok:=fun _ _=>True,m:=fun _=>0 }
   () (HeadP.of [] ⟨rfl,rfl,rfl,rfl,rfl,trivial⟩ ⟨rfl,trivial⟩) trivial (fun _=>⟨rfl,rfl⟩) (fun x G1 hG1 hx=>W.mk ?_)
  (conv=>whnf)
  repeat' (refine ob ?_ ?_;(first | trivial | omega | (simp only [inR];omega) | exact ble (by rfl) | exact SlR.some ‹_› (by omega));(conv=>whnf))
  refine IteP.mk (fun hlt=>W.mk ?_) (fun hge=>by exfalso;omega)
  (conv=>whnf)
  refine StP.mk ⟨[(0,rowP b n n cap l rest)],⟨⟨_,_,rfl,rfl,Nat.le_refl _,z2,z3,z4,z5,z6⟩,trivial⟩,by simp,⟨b,n,n,cap,l,rest,rfl,rfl,hn1,hn3,hll,hsm⟩,fun v ns G3 hg3 hpost=>W.mk ?_⟩
  obtain ⟨b',n0',n',cap',l',rest',l2,q1,q2,rfl,rfl,hp,hs⟩:=hpost
  obtain ⟨rfl,rfl,rfl,rfl,rfl,rfl⟩:=rowP_inj q2
  have hl2:(flat pcE l2).length = n' * 5:=by rw [flat_len,hp.length_eq,hll];rfl
  have e1:(flat pcE l2++rest').take (n' * 5) = flat pcE l2:=List.take_left' hl2
  have e2:(flat pcE l2++rest').drop (n' * 5) = rest':=List.drop_left' hl2
  (conv=>whnf)
  refine FinS.mk ⟨[_],⟨.row n0 n' cap' _ _ 119 5,⟨rfl,z1⟩,⟨rfl,rfl,rfl,rfl,rfl⟩,[],rfl,rfl⟩,b',n0,n',cap',l',rest',l2,rfl,rfl,rfl, ?_,hp,hs⟩
  rw [e1,e2]
theorem sort69:Sound Tryz.prog 69 id (sortS fun s _=>[s,fnV 70]):=by
 refine ⟨fun args ls v ns G G' hg h=>h,fun args ls G Wd hsub hls hnd hpre=>?_⟩
 obtain ⟨b,n0,n,cap,l,rest,rfl,rfl,hn1,hn3,hll,hsm⟩:=hpre
 have hone:=(hls (rowP b n0 n cap l rest) (by simp)).2.2
 obtain ⟨z1,z2,z3,z4,z5,z6⟩:=id hone
 refine st_sound (Tab.cons 100 _ len100 body100 (Tab.nil _)) comp69 (svs:=[.c (.row 0 n), .v (fnV 70)]) (obs:=[.xrow b n cap (flat pcE l) rest 119 5]) (by simp) hsub hls hnd (Nat.le_refl _) ?_ ?_ ?_
 ·exact ⟨⟨rfl,_,_,rfl⟩,(Nat.le_of_ble_eq_true rfl:0 < 1),rfl,trivial,trivial⟩
 ·exact ⟨rfl,trivial⟩
 ·(conv=>whnf)
  repeat' (refine ob ?_ ?_;(first | trivial | omega | (simp only [inR];omega) | exact ble (by rfl) | exact SlR.some ‹_› (by omega));(conv=>whnf))
  refine ScaP.mk ⟨n,rfl,hn3⟩ (fun v hv=>W.mk ?_)
  obtain ⟨_,_,k,rfl⟩:=hv
  (conv=>whnf)
  refine CallN.mk ⟨_,pdq99 k,body99,W.mk ?_⟩
  (conv=>whnf)
  refine StP.mk ⟨[(0,rowP b n n cap l rest)],⟨⟨_,_,rfl,rfl,Nat.le_refl _,z2,z3,z4,z5,z6⟩,trivial⟩,by simp,⟨b,n,n,cap,l,rest,rfl,rfl,hn1,hn3,hll,hsm⟩,fun v ns G3 hg3 hpost=>W.mk ?_⟩
  obtain ⟨b',n0',n',cap',l',rest',l2,q1,q2,rfl,rfl,hp,hs⟩:=hpost
  obtain ⟨rfl,rfl,rfl,rfl,rfl,rfl⟩:=rowP_inj q2
  have hl2:(flat pcE l2).length = n' * 5:=by rw [flat_len,hp.length_eq,hll];rfl
  have e1:(flat pcE l2++rest').take (n' * 5) = flat pcE l2:=List.take_left' hl2
  have e2:(flat pcE l2++rest').drop (n' * 5) = rest':=List.drop_left' hl2
  (conv=>whnf)
  refine FinS.mk ⟨[_],⟨.row n0 n' cap' _ _ 119 5,⟨rfl,z1⟩,⟨rfl,rfl,rfl,rfl,rfl⟩,[],rfl,rfl⟩,b',n0,n',cap',l',rest',l2,rfl,rfl,rfl, ?_,hp,hs⟩
  rw [e1,e2]
/-! ### Of none -/
abbrev nl:Value:=.slice none 0 0
def noneS (args0:List Value):PSpec:=.st (fun args ls _=>args = args0∧ls = []) (fun _ _ v ns _=>v = .tuple #[]∧ns = [])
theorem isort149n:Sound Tryz.prog 149 id (noneS [nl,I 0,I 0,fnV 70]):=by
 refine ⟨fun args ls v ns G G' hg h=>h,fun args ls G Wd hsub hls hnd hpre=>?_⟩
 obtain ⟨rfl,rfl⟩:=hpre
 refine st_sound (Tab.nil _) comp149 (svs:=[.v nl, .v (I 0), .v (I 0), .v (fnV 70)]) (obs:=[]) (by simp) hsub hls hnd (Nat.le_of_ble_eq_true rfl) ?_ ?_ ?_
 ·exact ⟨rfl,trivial,rfl,trivial,rfl,trivial,rfl,trivial,trivial⟩
 ·trivial
 ·(conv=>whnf)
  repeat' (refine ob ?_ ?_;(first | trivial | omega | (simp only [inR];omega) | exact ble (by rfl) | exact SlR.some ‹_› (by omega));(conv=>whnf))
  refine LoopP.of { α:=Unit,fr:=fun x=>[(2, .v (I 0)),(8, .v (I 1))],H:=fun _=>[],ok:=fun x _=>True,m:=fun x=>0 }
   () (HeadP.of [] ⟨rfl,rfl,trivial⟩ trivial) trivial (fun _=>⟨rfl,rfl⟩) (fun x G1 hg1 hx=>W.mk ?_)
  (conv=>whnf)
  refine IteP.mk (fun h=>absurd h (by decide)) (fun _=>W.mk ?_)
  (conv=>whnf)
  exact FinS.mk ⟨[],rfl,rfl,rfl⟩
theorem pdq99n (k:Int):Sound Tryz.prog 99 id (noneS [nl,I 0,I 0,I k,fnV 70]):=by
 refine ⟨fun args ls v ns G G' hg h=>h,fun args ls G Wd hsub hls hnd hpre=>?_⟩
 obtain ⟨rfl,rfl⟩:=hpre
 refine st_sound (Tab.cons 149 _ isort149n body149 (Tab.nil _)) comp99 (svs:=[.v nl, .v (I 0), .v (I 0), .v (I k), .v (fnV 70)]) (obs:=[]) (by simp) hsub hls hnd (Nat.le_of_ble_eq_true rfl) ?_ ?_ ?_
 ·exact ⟨rfl,trivial,rfl,trivial,rfl,trivial,rfl,trivial,rfl,trivial,trivial⟩
 ·trivial
 ·(conv=>whnf)
  refine LoopP.of { α:=Unit,fr:=fun x=>[(0, .v nl),(1, .v (I 0)),(2, .v (I 0)),(3, .v (I k)),(4, .v (fnV 70))],H:=fun _=>[],ok:=fun x _=>True,m:=fun x=>0 }
   () (HeadP.of [] ⟨rfl,rfl,rfl,rfl,rfl,trivial⟩ trivial) trivial (fun _=>⟨rfl,rfl⟩) (fun x G1 hg1 hx=>W.mk ?_)
  (conv=>whnf)
  repeat' (refine ob ?_ ?_;(first | trivial | omega | (simp only [inR];omega) | exact ble (by rfl) | exact SlR.some ‹_› (by omega));(conv=>whnf))
  refine IteP.mk (fun _=>W.mk ?_) (fun h=>absurd h (by decide))
  (conv=>whnf)
  refine StP.mk ⟨[],trivial,List.nodup_nil,⟨rfl,rfl⟩,fun v ns G3 hg3 hpost=>W.mk ?_⟩
  obtain ⟨rfl,rfl⟩:=hpost
  (conv=>whnf)
  exact FinS.mk ⟨[],rfl,rfl,rfl⟩
theorem sort69n:Sound Tryz.prog 69 id (noneS [nl,fnV 70]):=by
 refine ⟨fun args ls v ns G G' hg h=>h,fun args ls G Wd hsub hls hnd hpre=>?_⟩
 obtain ⟨rfl,rfl⟩:=hpre
 refine st_sound (Tab.cons 100 _ len100 body100 (Tab.nil _)) comp69 (svs:=[.v nl, .v (fnV 70)]) (obs:=[]) (by simp) hsub hls hnd (Nat.le_of_ble_eq_true rfl) ?_ ?_ ?_
 ·exact ⟨rfl,trivial,rfl,trivial,trivial⟩
 ·trivial
 ·(conv=>whnf)
  repeat' (refine ob ?_ ?_;(first | trivial | omega | (simp only [inR];omega) | exact ble (by rfl) | exact SlR.some ‹_› (by omega));(conv=>whnf))
  refine ScaP.mk ⟨0,rfl,by decide⟩ (fun v hv=>W.mk ?_)
  obtain ⟨_,_,k,rfl⟩:=hv
  (conv=>whnf)
  refine CallN.mk ⟨_,pdq99n k,body99,W.mk ?_⟩
  (conv=>whnf)
  refine StP.mk ⟨[],trivial,List.nodup_nil,⟨rfl,rfl⟩,fun v ns G3 hg3 hpost=>W.mk ?_⟩
  obtain ⟨rfl,rfl⟩:=hpost
  (conv=>whnf)
  exact FinS.mk ⟨[],rfl,rfl,rfl⟩
end Go.Proofs.YtefnikpoimaiiaaGreat

namespace Go.Proofs.YtefnikpoimaiiaaGreat
open Go.Pal Go.RowKit
set_option maxRecDepth 100000
theorem sm_of {m:Mt} (h:MtOk m) {p:Pp} (hp:p∈m.ps):SmP p.c:=by
 have h1:=h.rng p hp
 have h2:(wOf m p.c.of).length≤60:=by
  unfold wOf
  split
  ·exact h.nw
  ·cases hq:pOf m p.c.of with
   | none=>exact Nat.zero_le _
   | some q=>exact h.nws q (pOf_mem hq).1
 exact ⟨⟨h1.1,by omega⟩,⟨by omega,by omega⟩,h.num p hp⟩
theorem key_n {x y:Pc} (hx:SmP x) (hy:SmP y) (h:keyP x = keyP y):x.n = y.n:=by
 have:=hx.f;have:=hx.t;have:=hx.n;have:=hy.f;have:=hy.t;have:=hy.n
 simp only [keyP] at h
 omega
structure AmL (m:Mt) (x:Int) (L:List Pc):Prop where
 mem:∀ c,c∈L↔∃ p∈m.ps,p.c.of = x∧c = p.c
 srt:L.Pairwise (fun a b=>keyP a < keyP b)
theorem strict_uniq {α:Type} {K:α→Int}:∀ {l l':List α},l.Pairwise (fun a b=>K a < K b)→l'.Pairwise (fun a b=>K a < K b)→(∀ x,x∈l↔x∈l')→l = l'
 | [],[],_,_,_=>rfl
 | [],y :: l',_,_,h=>by have:=(h y).2 List.mem_cons_self;cases this
 | x :: l,[],_,_,h=>by have:=(h x).1 List.mem_cons_self;cases this
 | x :: l,y :: l',h1,h2,h=>by
  obtain ⟨a1,a2⟩:=List.pairwise_cons.1 h1
  obtain ⟨b1,b2⟩:=List.pairwise_cons.1 h2
  have hxy:x = y:=by
   rcases List.mem_cons.1 ((h x).1 List.mem_cons_self) with e | e
   ·exact e
   ·rcases List.mem_cons.1 ((h y).2 List.mem_cons_self) with e2 | e2
    ·exact e2.symm
    ·have:=b1 x e;have:=a1 y e2;omega
  subst hxy
  rw [strict_uniq a2 b2 fun z=>?_]
  constructor
  ·intro hz
   rcases List.mem_cons.1 ((h z).1 (List.mem_cons_of_mem _ hz)) with e | e
   ·subst e;have:=a1 z hz;omega
   ·exact e
  ·intro hz
   rcases List.mem_cons.1 ((h z).2 (List.mem_cons_of_mem _ hz)) with e | e
   ·subst e;have:=b1 z hz;omega
   ·exact e
theorem strict_of {α:Type} {K:α→Int} {l:List α} (hs:Sorted (l.map K)) (hn:∀ i j (hi:i < l.length) (hj:j < l.length),i < j→K l[i]≠K l[j]):l.Pairwise (fun a b=>K a < K b):=by
 rw [List.pairwise_iff_getElem]
 intro i j hi hj hij
 have h:=hs i j hij (by rw [List.length_map];exact hj)
 rw [keyD hi,keyD hj] at h
 have:=hn i j hi hj hij
 omega
def amC (m:Mt) (x:Int):List Pc:=(m.ps.filter fun p=>decide (p.c.of = x)).map (·.c)
theorem amC_nodup {m:Mt} (h:MtOk m) (x:Int):((amC m x).map (·.n)).Nodup:=by
 have:(amC m x).map (·.n) = (m.ps.filter fun p=>decide (p.c.of = x)).map (·.c.n):=by simp [amC,List.map_map,Function.comp_def]
 rw [this]
 exact h.nd.sublist (List.filter_sublist.map _)
theorem amC_mem {m:Mt} {x:Int} {c:Pc}:c∈amC m x↔∃ p∈m.ps,p.c.of = x∧c = p.c:=by
 simp only [amC,List.mem_map,List.mem_filter,decide_eq_true_eq]
 constructor
 ·rintro ⟨p,⟨h1,h2⟩,rfl⟩;exact ⟨p,h1,h2,rfl⟩
 ·rintro ⟨p,h1,h2,rfl⟩;exact ⟨p,⟨h1,h2⟩,rfl⟩
theorem amL_of {m:Mt} (h:MtOk m) {x:Int} {L:List Pc} (hp:L.Perm (amC m x)) (hs:Sorted (L.map keyP)):AmL m x L:=by
 have hmem:∀ c,c∈L↔∃ p∈m.ps,p.c.of = x∧c = p.c:=fun c=>(hp.mem_iff).trans amC_mem
 refine ⟨hmem,strict_of hs fun i j hi hj hij e=>?_⟩
 obtain ⟨p,hp1,_,e1⟩:=(hmem _).1 (List.getElem_mem hi)
 obtain ⟨q,hq1,_,e2⟩:=(hmem _).1 (List.getElem_mem hj)
 have hn:=key_n (e1 ▸ sm_of h hp1) (e2 ▸ sm_of h hq1) e
 have hnd:(L.map (·.n)).Nodup:=((hp.map _).nodup_iff).2 (amC_nodup h x)
 exact List.pairwise_iff_getElem.1 hnd i j (by simpa using hi) (by simpa using hj) hij (by simpa using hn)
theorem amL_uniq {m:Mt} {x:Int} {L L':List Pc} (h:AmL m x L) (h':AmL m x L'):L = L':=strict_uniq h.srt h'.srt fun c=>(h.mem c).trans (h'.mem c).symm
theorem amC_len {m:Mt} (h:MtOk m) (x:Int):(amC m x).length≤10:=by
 have h1:(amC m x).length≤m.ps.length:=by rw [amC,List.length_map];exact List.length_filter_le _ _
 have:=h.np
 omega
end Go.Proofs.YtefnikpoimaiiaaGreat

namespace Go.Proofs.YtefnikpoimaiiaaGreat
open Go.Pal Go.RowKit
set_option maxRecDepth 100000
theorem amL_ex {m:Mt} (h:MtOk m) (x:Int):∃ L,AmL m x L:=by
 refine ⟨(amC m x).mergeSort (fun a b=>decide (keyP a≤keyP b)),amL_of h (List.mergeSort_perm _ _) ?_⟩
 have hp:((amC m x).mergeSort (fun a b=>decide (keyP a≤keyP b))).Pairwise (fun a b=>decide (keyP a≤keyP b) = true) :=
  List.pairwise_mergeSort (fun a b c h1 h2=>by simp only [decide_eq_true_eq] at h1 h2 ⊢;omega) (fun a b=>by simp only [Bool.or_eq_true,decide_eq_true_eq];omega) _
 generalize (amC m x).mergeSort (fun a b=>decide (keyP a≤keyP b)) = L at hp
 intro p q hpq hq
 rw [List.length_map] at hq
 rw [keyD (by omega),keyD hq]
 simpa using List.pairwise_iff_getElem.1 hp p q (by omega) hq hpq
def soV:Nat→SV
 | 0=>.v (.slice none 0 0)
 | k + 1=>.c (.row 1 (k + 1))
def soH:Nat→List Value→List (Nat × OB)
 | 0,_=>[]
 | k + 1,vs=>[(1, .row none (k + 1) vs 119 5)]
theorem amC_take {m:Mt} {x:Int} {i:Nat} {p:Pp} (h:m.ps[i]? = some p):((m.ps.take (i + 1)).filter fun p=>decide (p.c.of = x)).map (·.c) = ((m.ps.take i).filter fun p=>decide (p.c.of = x)).map (·.c)++(if p.c.of = x then [p.c] else []):=by
 rw [take_snoc h,List.filter_append,List.map_append]
 congr 1
 by_cases hx:p.c.of = x
 ·simp [hx]
 ·simp [hx]
def AmIs (G:Hp) (bm bn:Nat) (m:Mt) (x:Int):Prop:=∃ w pv,CellsAt G bm 0 [w,pv]∧MoV G (.agg #[w,pv]) m∧CellsAt G bn 0 [I x]
theorem AmIs.grow {G G':Hp} (hg:Grow G G') {bm bn:Nat} {m:Mt} {x:Int} (h:AmIs G bm bn m x):AmIs G' bm bn m x:=by
 obtain ⟨w,pv,h1,h2,h3⟩:=h
 exact ⟨w,pv,h1.grow hg,h2.grow hg,h3.grow hg⟩
def amS (bm bn:Nat):PSpec:=.seq (fun l args G Ys=>args = [.func (.yield l) #[] #[]]∧∃ m x L,MtOk m∧AmIs G bm bn m x∧AmL m x L∧Ys = L.map fun c=>[pcV c]) (fun _ _=>True)
set_option maxHeartbeats 2000000 in
theorem am68 (bm bn:Nat):Sound Tryz.prog 68 (fun args=>(#[]:Array Value).toList++args++(#[bptr bm,bptr bn]:Array Value).toList) (amS bm bn):=by
 refine comp68.seq (Tab.nil _) (fun l args G Ys h=>?_) (fun l Y k args G Ys h hseg=>?_)
 ·obtain ⟨rfl,_⟩:=h;simp
 ·obtain ⟨rfl,m,x,L,hok,⟨w,pv,hc1,hm,hc2⟩,hL,rfl⟩:=h
  obtain ⟨w',a,n,c,e,hw,hl,hn,hp⟩:=id hm
  simp only [Value.agg.injEq,Array.mk.injEq,List.cons.injEq,and_true] at e
  obtain ⟨rfl,rfl⟩:=e
  have hln:=hl.len
  have hcl:m.cs.length = m.ps.length:=by simp
  have hnp:=hok.np
  (conv=>whnf)
  refine RdP.at (cs:=[.slice a n c]) (CellsAt.drop (d:=1) (n:=1) hc1) rfl (W.mk ?_)
  (conv=>whnf)
  refine LoopP.of { α:=Nat × Nat × List Value,fr:=fun z=>[(0, .v (.func (.yield l) #[] #[])),(1, .v (bptr bm)),(2, .v (bptr bn)),(4,soV z.2.1),(10, .v (.slice a n c)),(11, .v (I n)),(12, .v (I z.1)),(POS, .c (.pos k false))],H:=fun z=>soH z.2.1 z.2.2,ok:=fun z _=>z.1≤n∧Row pcE (((m.ps.take z.1).filter fun p=>decide (p.c.of = x)).map (·.c)) z.2.1 z.2.2,m:=fun z=>n - z.1 }
   (0,0,[]) (HeadP.of [] ⟨rfl,rfl,rfl,rfl,rfl,rfl,rfl,rfl,trivial⟩ trivial) ⟨Nat.zero_le _,Row.nil⟩ (fun z=>by obtain ⟨_,t,_⟩:=z;cases t<;>exact ⟨rfl,rfl⟩) (fun z G1 hG hz=>W.mk ?_)
  obtain ⟨i,t,vs⟩:=z
  obtain ⟨k1,k2⟩:=hz
  dsimp only at k1 k2
  replace hl:=SlR.grow (G:=G) (G':=G1) (fun _ _ h=>h) hl hG
  replace hc2:=hc2.grow hG
  clear hG
  cases t with
  | zero =>
   have hv0:vs = []:=List.eq_nil_of_length_eq_zero (by rw [k2.len];exact Nat.zero_mul _)
   subst hv0
   dsimp only [soV,soH]
   (conv=>whnf)
   refine IteP.mk (fun hlt=>W.mk ?_) (fun hge=>W.mk ?_)<;>(conv=>whnf)
   ·have hlt:i < m.ps.length:=by have hlt:(i:Int) < n:=hlt;omega
    have hel:=hl.el (i:=i) (by omega)
    rw [cs_get hlt] at hel
    have htk:=amC_take (x:=x) (List.getElem?_eq_getElem hlt)
    refine OblP.mk ⟨by omega,by omega⟩ (W.mk ?_)
    (conv=>whnf)
    refine OblP.mk (hl.some (by omega)) (W.mk ?_)
    (conv=>whnf)
    refine RdP.at (cs:=pcL m.ps[i].c) hel rfl (W.mk ?_)
    (conv=>whnf)
    refine RdP.at (cs:=[I x]) hc2 rfl (W.mk ?_)
    (conv=>whnf)
    refine IteP.mk (fun he=>W.mk ?_) (fun he=>W.mk ?_)<;>(conv=>whnf)
    ·have he:m.ps[i].c.of = x:=he
     rw [if_pos he] at htk
     repeat' (refine ob ?_ ?_;(first | trivial | omega | (simp only [inR];omega) | exact ble (by rfl) | exact SlR.some ‹_› (by omega));(conv=>whnf))
     exact RoundP.of (i + 1,0 + 1,_) (HeadP.of [(1,some 17)] ⟨rfl,rfl,rfl,rfl,rfl,rfl,rfl,rfl,trivial⟩ ⟨rfl,trivial⟩) ⟨by show i + 1≤n;omega,by show Row pcE _ _ _;rw [htk];exact k2.snoc m.ps[i].c⟩ (by show n - (i + 1) < n - i;omega)
    ·have he:¬ m.ps[i].c.of = x:=he
     rw [if_neg he,List.append_nil] at htk
     repeat' (refine ob ?_ ?_;(first | trivial | omega | (simp only [inR];omega) | exact ble (by rfl) | exact SlR.some ‹_› (by omega));(conv=>whnf))
     exact RoundP.of (i + 1,0,[]) (HeadP.of [] ⟨rfl,rfl,rfl,rfl,rfl,rfl,rfl,rfl,trivial⟩ trivial) ⟨by show i + 1≤n;omega,by show Row pcE _ _ _;rw [htk];exact k2⟩ (by show n - (i + 1) < n - i;omega)
   ·have hge:¬ (i:Int) < n:=hge
    have hin:m.ps.length≤i:=by omega
    rw [List.take_of_length_le hin] at k2
    have hce:amC m x = []:=List.eq_nil_of_length_eq_zero k2.n.symm
    have hL0:L = []:=amL_uniq hL (amL_of hok (by rw [hce]) (fun p q _ hq=>by simp at hq))
    subst hL0
    refine CallN.mk ⟨_,sort69n,body69,W.mk ?_⟩
    (conv=>whnf)
    refine StP.mk ⟨[],trivial,List.nodup_nil,⟨rfl,rfl⟩,fun v ns G3 hg3 hpost=>W.mk ?_⟩
    obtain ⟨rfl,rfl⟩:=hpost
    (conv=>whnf)
    refine LoopP.of { α:=Unit,fr:=fun x=>[(28, .v (I 0)),(29, .v (I 0)),(POS, .c (.pos k false))],H:=fun _=>[],ok:=fun x _=>True,m:=fun x=>0 }
     () (HeadP.of [] ⟨rfl,rfl,rfl,trivial⟩ trivial) trivial (fun _=>⟨rfl,rfl⟩) (fun x G1 hg1 hx=>W.mk ?_)
    (conv=>whnf)
    refine IteP.mk (fun h=>absurd h (by decide)) (fun _=>W.mk ?_)
    (conv=>whnf)
    exact FinP.mk ⟨trivial,fun _=>rfl⟩
  | succ t =>
   have ht10:t + 1≤10:=by
    have h1:=k2.n
    rw [List.length_map] at h1
    have h2:=List.length_filter_le (fun p:Pp=>decide (p.c.of = x)) (m.ps.take i)
    rw [List.length_take] at h2
    omega
   dsimp only [soV,soH]
   (conv=>whnf)
   refine IteP.mk (fun hlt=>W.mk ?_) (fun hge=>W.mk ?_)<;>(conv=>whnf)
   ·have hlt:i < m.ps.length:=by have hlt:(i:Int) < n:=hlt;omega
    have hel:=hl.el (i:=i) (by omega)
    rw [cs_get hlt] at hel
    have htk:=amC_take (x:=x) (List.getElem?_eq_getElem hlt)
    refine OblP.mk ⟨by omega,by omega⟩ (W.mk ?_)
    (conv=>whnf)
    refine OblP.mk (hl.some (by omega)) (W.mk ?_)
    (conv=>whnf)
    refine RdP.at (cs:=pcL m.ps[i].c) hel rfl (W.mk ?_)
    (conv=>whnf)
    refine RdP.at (cs:=[I x]) hc2 rfl (W.mk ?_)
    (conv=>whnf)
    refine IteP.mk (fun he=>W.mk ?_) (fun he=>W.mk ?_)<;>(conv=>whnf)
    ·have he:m.ps[i].c.of = x:=he
     rw [if_pos he] at htk
     repeat' (refine ob ?_ ?_;(first | trivial | omega | (simp only [inR];omega) | exact ble (by rfl) | exact SlR.some ‹_› (by omega));(conv=>whnf))
     exact RoundP.of (i + 1,(t + 1) + 1,_) (HeadP.of [(1,some 17)] ⟨rfl,rfl,rfl,rfl,rfl,rfl,rfl,rfl,trivial⟩ ⟨rfl,trivial⟩) ⟨by show i + 1≤n;omega,by show Row pcE _ _ _;rw [htk];exact k2.snoc m.ps[i].c⟩ (by show n - (i + 1) < n - i;omega)
    ·have he:¬ m.ps[i].c.of = x:=he
     rw [if_neg he,List.append_nil] at htk
     repeat' (refine ob ?_ ?_;(first | trivial | omega | (simp only [inR];omega) | exact ble (by rfl) | exact SlR.some ‹_› (by omega));(conv=>whnf))
     exact RoundP.of (i + 1,(t + 1),vs) (HeadP.of [] ⟨rfl,rfl,rfl,rfl,rfl,rfl,rfl,rfl,trivial⟩ ⟨rfl,trivial⟩) ⟨by show i + 1≤n;omega,by show Row pcE _ _ _;rw [htk];exact k2⟩ (by show n - (i + 1) < n - i;omega)
   ·have hge:¬ (i:Int) < n:=hge
    have hin:m.ps.length≤i:=by omega
    rw [List.take_of_length_le hin] at k2
    have k2:Row pcE (amC m x) (t + 1) vs:=k2
    have hsm:∀ c∈amC m x,SmP c:=fun c hc=>by
     obtain ⟨p,hp1,_,rfl⟩:=amC_mem.1 hc
     exact sm_of hok hp1
    have hvf:vs = flat pcE (amC m x):=k2.vs
    refine PubP.opn (Nat.succ_ne_zero t) (fun b cap rest g1 g2 g3=>W.mk ?_)
    (conv=>whnf)
    refine CallN.mk ⟨_,sort69,body69,W.mk ?_⟩
    (conv=>whnf)
    subst hvf
    refine StP.mk ⟨[(1,rowP b (t + 1) (t + 1) cap (amC m x) rest)],⟨⟨_,_,rfl,rfl,Nat.le_refl _,k2.len,g3,g1,g2,flat_one _ _⟩,trivial⟩,by simp,⟨b,t + 1,t + 1,cap,amC m x,rest,rfl,rfl,by omega,by omega,k2.n.symm,hsm⟩,fun v ns G3 hg3 hpost=>W.mk ?_⟩
    obtain ⟨b',n0',n',cap',l',rest',l2,q1,q2,rfl,rfl,hpm,hst⟩:=hpost
    obtain ⟨rfl,rfl,rfl,rfl,rfl,rfl⟩:=rowP_inj q2
    have hL2:L = l2:=amL_uniq hL (amL_of hok hpm hst)
    subst hL2
    (conv=>whnf)
    have hLl:L.length = t + 1:=by rw [hpm.length_eq, ← k2.n]
    have e1:(flat pcE L++rest').take ((t + 1) * 5) = flat pcE L:=List.take_left' (by rw [flat_len,hLl];rfl)
    refine LoopP.of { α:=Nat × Unit,fr:=fun z=>[(0, .v (.func (.yield l) #[] #[])),(27, .c (.row 1 (t + 1))),(28, .v (I (t + 1:Nat))),(29, .v (I z.1)),(POS, .c (.pos (k + z.1) false))],H:=fun _=>[(1, .xrow b' (t + 1) cap' ((flat pcE L++rest').take ((t + 1) * 5)) ((flat pcE L++rest').drop ((t + 1) * 5)) 119 5)],ok:=fun z _=>z.1≤t + 1,m:=fun z=>t + 1 - z.1 }
     (0,()) (HeadP.of [] ⟨rfl,rfl,rfl,rfl,rfl,trivial⟩ ⟨rfl,trivial⟩) (Nat.zero_le _) (fun _=>⟨rfl,rfl⟩) (fun z G4 hG4 hz=>W.mk ?_)
    obtain ⟨j,_⟩:=z
    have hj:j≤t + 1:=hz
    clear hz
    dsimp only
    (conv=>whnf)
    refine IteP.mk (fun hlt=>W.mk ?_) (fun hge=>W.mk ?_)<;>(conv=>whnf)
    ·have hlt:j < L.length:=by have hlt:(j:Int) < (t + 1:Nat):=hlt;omega
     refine OblP.mk ⟨by omega,by omega⟩ (W.mk ?_)
     (conv=>whnf)
     refine OblP.mk rfl (W.mk ?_)
     (conv=>whnf)
     refine EqP.mk ⟨pcE.f L[j],by rw [e1];exact fl_at (E:=pcE) hlt rfl,rfl,W.mk ?_⟩
     (conv=>whnf)
     refine CallvP.yl rfl (W.mk ?_)
     (conv=>whnf)
     refine YieldP.mk ?_ (fun G5 hg5=>W.mk ?_) (fun G5 hg5=>W.mk ?_)
     ·rw [seg_get hseg (by rw [List.length_map];exact hlt),List.getElem?_map,List.getElem?_eq_getElem hlt]
      rfl
     ·(conv=>whnf)
      (refine ob ?_ ?_;(first | trivial | omega | (simp only [inR];omega) | exact ble (by rfl) | exact SlR.some ‹_› (by omega));(conv=>whnf))
      exact RoundP.of (j + 1,()) (HeadP.of [] ⟨rfl,rfl,rfl,rfl,rfl,trivial⟩ ⟨rfl,trivial⟩) (by show j + 1≤t + 1;omega) (by show t + 1 - (j + 1) < t + 1 - j;omega)
     ·(conv=>whnf)
      exact FinP.mk ⟨trivial,fun h=>by cases h⟩
    ·have hge:¬ (j:Int) < (t + 1:Nat):=hge
     obtain rfl:j = t + 1:=by omega
     refine FinP.mk ⟨trivial,fun _=>?_⟩
     rw [List.length_map,hLl]
end Go.Proofs.YtefnikpoimaiiaaGreat

namespace Go.Proofs.YtefnikpoimaiiaaGreat
open Go.Pal Go.RowKit
set_option maxRecDepth 100000
def AmV (G:Hp) (v:Value) (m:Mt) (x:Int):Prop:=∃ bm bn,v = .func (.func 68) #[] #[bptr bm,bptr bn]∧AmIs G bm bn m x
theorem AmV.grow {G G':Hp} (hg:Grow G G') {v:Value} {m:Mt} {x:Int} (h:AmV G v m x):AmV G' v m x:=let ⟨bm,bn,h1,h2⟩:=h;⟨bm,bn,h1,h2.grow hg⟩
theorem am40:Sound Tryz.prog 40 id (grel (args2 moRd intRd fun m _=>MtOk m) fun x v G=>AmV G v x.1 x.2):=by
 refine comp40.grel (Tab.nil _) (ok2 _ _ _) (fun args G s h=>?_) (fun x v G G' hg h=>h.grow hg) (fun args G s h=>?_)
 ·obtain ⟨v,w,rfl,_⟩:=h;simp
 ·obtain ⟨m,x⟩:=s
  obtain ⟨v,w,rfl,hm,rfl,hok⟩:=h
  have hm0:=hm
  obtain ⟨w0,a,n,c,rfl,⟨wa,wn,wc,rfl,_⟩,_⟩:=hm
  dsimp only at hm0
  (conv=>whnf)
  refine NameP.mk (fun b0=>W.mk ?_)
  (conv=>whnf)
  refine NameP.mk (fun b1=>W.mk ?_)
  (conv=>whnf)
  refine PubAnyP.mk ⟨[0,1], ?_⟩
  (conv=>whnf)
  intro G1 hg1 _ h1
  (conv=>whnf)
  intro G2 hg2 _ h2
  refine W.mk ?_
  (conv=>whnf)
  exact FinP.mk ⟨b0,b1,rfl, .slice wa wn wc, .slice a n c,h1.grow hg2,moRd.grow (hg1.trans hg2) hm0,h2⟩
end Go.Proofs.YtefnikpoimaiiaaGreat

namespace Go.Proofs.YtefnikpoimaiiaaGreat
open Go.Pal
def AtK (m:Mt):Nat→Int→Prop
 | 0,x=>x = 0
 | k + 1,x=>x≠0∧∃ p∈m.ps,p.c.n = x∧AtK m k p.c.of
theorem of_self {m:Mt} (h:MtOk m) {p:Pp} (hp:p∈m.ps):ofOf m p.c.n = p.c.of:=by rw [ofOf,pOf_self h.nd hp]
theorem atK_up {m:Mt} (h:MtOk m):∀ {k:Nat} {x:Int},AtK m k x→∀ j,j < k→upK m j x≠0
 | k + 1,x,⟨h0,p,hp,e,hk⟩,0,_=>h0
 | k + 1,x,⟨h0,p,hp,e,hk⟩,j + 1,hj=>by
  rw [upK,if_neg h0, ← e,of_self h hp]
  exact atK_up h hk j (by omega)
theorem atK_zero {m:Mt} (h:MtOk m):∀ {k:Nat} {x:Int},AtK m k x→upK m k x = 0
 | 0,_,e=>e
 | k + 1,x,⟨h0,p,hp,e,hk⟩=>by
  rw [upK,if_neg h0, ← e,of_self h hp]
  exact atK_zero h hk
theorem atK_le {m:Mt} (h:MtOk m) {k:Nat} {x:Int} (hk:AtK m k x):k≤11:=by
 cases k with
 | zero=>exact Nat.zero_le _
 | succ k =>
  obtain ⟨h0,p,hp,e,hk⟩:=hk
  have h1:=h.ends p hp
  have h2:=h.np
  have:¬ m.ps.length < k:=fun hlt=>atK_up h hk _ hlt h1
  omega
theorem atK_child {m:Mt} (h:MtOk m) {k:Nat} {x:Int} (hk:AtK m k x) {p:Pp} (hp:p∈m.ps) (e:p.c.of = x):AtK m (k + 1) p.c.n:=by
 have:=h.num p hp
 exact ⟨by omega,p,hp,rfl,by rw [e];exact hk⟩
def chB (k:Nat):Nat:=if k = 0 then 10 else if k = 11 then 0 else 9
theorem amL_len {m:Mt} (h:MtOk m) {x:Int} {L:List Pc} (hL:AmL m x L):L.length = (amC m x).length:=by
 have hn:∀ {l:List Pc},l.Pairwise (fun a b=>keyP a < keyP b)→l.Nodup:=fun hl=>hl.imp fun h e=>by subst e;omega
 have hp:L.Perm (amC m x):=(List.perm_ext_iff_of_nodup (hn hL.srt) (List.Pairwise.of_map (·.n) (fun a b hne e=>hne (congrArg (·.n) e)) (amC_nodup h x))).2 fun c=>(hL.mem c).trans amC_mem.symm
 exact hp.length_eq
theorem amL_ch {m:Mt} (h:MtOk m) {k:Nat} {x:Int} (hk:AtK m k x) {L:List Pc} (hL:AmL m x L):L.length≤chB k:=by
 rw [amL_len h hL]
 unfold chB
 split
 ·exact amC_len h x
 ·rename_i h0
  split
  ·rename_i h11
   subst h11
   have:amC m x = []:=List.eq_nil_iff_forall_not_mem.2 fun c hc=>by
    obtain ⟨p,hp,e,_⟩:=amC_mem.1 hc
    have:=atK_le h (atK_child h hk hp e)
    omega
   rw [this];exact Nat.le_refl _
  ·obtain ⟨k,rfl⟩:∃ j,k = j + 1:=⟨k - 1,by omega⟩
   obtain ⟨_,q,hq,eq,hk'⟩:=id hk
   have hne:q.c.of≠x:=fun e=>atK_up h hk k (Nat.lt_succ_self k) (by rw [e] at hk';exact atK_zero h hk')
   have h1:(m.ps.filter fun p=>decide (p.c.of = x)).length < m.ps.length:=List.length_filter_lt_length_iff_exists.2 ⟨q,hq,by simpa using hne⟩
   have h2:=h.np
   rw [amC,List.length_map]
   omega
def wB:Nat→Nat
 | 0=>0
 | f + 1=>60 + chB (11 - f) * (60 + wB f)
theorem wB_top:wB 12≤8000000000000:=by decide +kernel
theorem wOf_len {m:Mt} (h:MtOk m) (x:Int):(wOf m x).length≤60:=by
 unfold wOf
 split
 ·exact h.nw
 ·cases hq:pOf m x with
  | none=>exact Nat.zero_le _
  | some q=>exact h.nws q (pOf_mem hq).1
theorem wOf_good {m:Mt} (h:MtOk m) (x:Int):∀ s∈wOf m x,GoodW s:=by
 unfold wOf
 split
 ·exact h.gw
 ·cases hq:pOf m x with
  | none=>exact fun s hs=>by cases hs
  | some q=>exact h.gws q (pOf_mem hq).1
end Go.Proofs.YtefnikpoimaiiaaGreat

namespace Go.Pal
open Go.RowKit
section
variable {P:Program} {W:World} {G:Hp} {ls:List LE}
def lentHp (ls:List LE):Hp:=fun b=>(ls.find? fun x=>decide (x.b = b)).map fun x=>x.lb.obj
theorem lentHp_dom (ls:List LE):(fun b=>∃ x∈ls,x.b = b) = dom (lentHp ls):=by
 funext b
 refine propext ⟨fun ⟨x,hx,e⟩=>?_,fun ⟨o,h⟩=>?_⟩
 ·unfold lentHp
  cases hf:ls.find? (fun x=>decide (x.b = b)) with
  | none=>exact absurd (List.find?_eq_none.1 hf x hx) (by simp [e])
  | some y=>exact ⟨y.lb.obj,by show Option.map _ (ls.find? _) = _;rw [hf];rfl⟩
 ·unfold lentHp at h
  obtain ⟨y,hy,_⟩:=Option.map_eq_some_iff.1 h
  exact ⟨y,List.mem_of_find?_eq_some hy,by simpa using List.find?_some hy⟩
def ovl (p:Hp) (ls:List LE) (p1:Hp):Hp:=fun b=>if (ls.any fun x=>decide (x.b = b)) = true then p1 b else (p1 b).or (p b)
def tellB (H:Nat→Option OB) (h:Nat):Option (Nat × Obj):=match H h with
 | some (.cells (.named b) cs t)=>match toValsH H cs with
  | some vs=>some (b, .cells vs.toArray t (0,0))
  | none=>none
 | some (.xrow b _ _ vs rest t _)=>some (b, .cells (vs++rest).toArray t (0,0))
 | _=>none
def tellBs (H:Nat→Option OB):List Nat→List (Nat × Obj)→Prop
 | [],bs=>bs = []
 | h :: r,bs=>match tellB H h with
  | some x=>∃ bs',bs = x :: bs'∧tellBs H r bs'
  | none=>False
def blH (bs:List (Nat × Obj)):Hp:=fun b=>(bs.find? fun x=>decide (x.1 = b)).map (·.2)
theorem blH_some {bs:List (Nat × Obj)} {b:Nat} {o:Obj} (h:blH bs b = some o):(b,o)∈bs:=by
 unfold blH at h
 obtain ⟨x,hx,rfl⟩:=Option.map_eq_some_iff.1 h
 have e:x.1 = b:=by simpa using List.find?_some hx
 subst e
 exact List.mem_of_find?_eq_some hx
theorem blH_mem:∀ {bs:List (Nat × Obj)} {b:Nat} {o:Obj},(bs.map (·.1)).Nodup→(b,o)∈bs→blH bs b = some o
 | [],_,_,_,h=>by cases h
 | x :: r,b,o,hn,h=>by
  obtain ⟨h1,h2⟩:=List.nodup_cons.1 hn
  rcases List.mem_cons.1 h with e | e
  ·subst e;simp [blH]
  ·have hne:x.1≠b:=fun e'=>h1 (List.mem_map.2 ⟨_,e,e'.symm⟩)
   have:=blH_mem h2 e
   unfold blH at this ⊢
   rw [List.find?_cons_of_neg (by simpa using hne)]
   exact this
theorem blH_none {bs:List (Nat × Obj)} {b:Nat} (h:∀ x∈bs,x.1≠b):blH bs b = none:=by
 cases e:blH bs b with
 | none=>rfl
 | some o=>exact absurd rfl (h _ (blH_some e))
theorem tellBs_mem {H:Nat→Option OB}:∀ {hs:List Nat} {bs:List (Nat × Obj)},tellBs H hs bs→∀ x∈bs, ∃ h∈hs,tellB H h = some x
 | [],bs,e,x,hx=>by subst e;cases hx
 | h :: r,bs,e,x,hx=>by
  simp only [tellBs] at e
  split at e
  ·rename_i y hy
   obtain ⟨bs',rfl,e'⟩:=e
   rcases List.mem_cons.1 hx with rfl | hx
   ·exact ⟨h,List.mem_cons_self,hy⟩
   ·obtain ⟨h',h1,h2⟩:=tellBs_mem e' x hx
    exact ⟨h',List.mem_cons_of_mem _ h1,h2⟩
  ·exact e.elim
theorem tellB_has {w0:Root} {G0:Hp} {E:Nat→Value} {H:Nat→Option OB} {G:Hp} {W:World} (hs:Sim w0 G0 E H G W) {h:Nat} {x:Nat × Obj} (e:tellB H h = some x):∃ ob,H h = some ob∧ob.pub = none∧ob.has (E h) x.1:=by
 unfold tellB at e
 split at e
 ·rename_i b cs t e1
  split at e
  ·cases e
   obtain ⟨b',vs',f1,_,_,_,_,f6⟩:=hs.own h _ e1
   have f6:b = b':=f6
   subst f6
   exact ⟨_,e1,rfl,show blkOf (E h) = _ by rw [f1];rfl⟩
  ·cases e
 ·rename_i b n c vs rest t k e1
  cases e
  obtain ⟨f1,_⟩:=hs.own h _ e1
  exact ⟨_,e1,rfl,show blkOf (E h) = _ by rw [f1];rfl⟩
 ·cases e
theorem tellBs_nodup {w0:Root} {G0:Hp} {E:Nat→Value} {H:Nat→Option OB} {G:Hp} {W:World} (hs:Sim w0 G0 E H G W):∀ {l:List Nat} {bs:List (Nat × Obj)},l.Nodup→tellBs H l bs→(bs.map (·.1)).Nodup
 | [],bs,_,e=>by subst e;exact List.nodup_nil
 | h :: r,bs,hn,e=>by
  obtain ⟨n1,n2⟩:=List.nodup_cons.1 hn
  simp only [tellBs] at e
  split at e
  ·rename_i y hy
   obtain ⟨bs',rfl,e'⟩:=e
   refine List.nodup_cons.2 ⟨fun hm=>?_,tellBs_nodup hs n2 e'⟩
   obtain ⟨z,hz,ez⟩:=List.mem_map.1 hm
   obtain ⟨h',hh',e2⟩:=tellBs_mem e' z hz
   obtain ⟨ob,q1,q2,q3⟩:=tellB_has hs hy
   obtain ⟨ob',q1',_,q3'⟩:=tellB_has hs e2
   have ez:z.1 = y.1:=ez
   rw [ez] at q3'
   have:=hs.inj h ob h' ob' y.1 q1 q1' q2 q3 q3'
   subst this
   exact n1 hh'
  ·exact e.elim
theorem tellBs_has {H:Nat→Option OB} {hs:List Nat} {bs:List (Nat × Obj)} (h:tellBs H hs bs):HasHp H (blH bs):=fun b o e=>by
 obtain ⟨h',_,e2⟩:=tellBs_mem h _ (blH_some e)
 unfold tellB at e2
 split at e2
 ·rename_i b' cs t e1
  split at e2
  ·rename_i vs e3
   cases e2
   exact .inr (.inl ⟨h',cs,t,vs,e1,e3,rfl⟩)
  ·cases e2
 ·rename_i b' n c vs rest t k e1
  cases e2
  exact .inr (.inr ⟨h',n,c,vs,rest,t,k,e1,rfl⟩)
 ·cases e2
structure FinHl (H:Nat→Option OB) (A:List (Nat × Obj)→Prop):Prop where
 ex:∃ hs bs,hs.Nodup∧tellBs H hs bs∧((bs.map (·.1)).Nodup→A bs)
def finHl (rs:List IRes) (σ:St) (K:Value→List (Nat × Obj)→Hp→Prop):Prop:=resN rs σ fun vs H G=>FinHl H fun bs=>K (wrapV vs) bs G
theorem tellBs.nil {H:Nat→Option OB}:tellBs H [] []:=rfl
theorem tellBs.cons {H:Nat→Option OB} {h:Nat} {r:List Nat} {x:Nat × Obj} {bs:List (Nat × Obj)} (e:tellB H h = some x) (k:tellBs H r bs):tellBs H (h :: r) (x :: bs):=by
 simp only [tellBs,e]
 exact ⟨bs,rfl,k⟩
theorem ovl_some {p p1:Hp} {ls:List LE} {b:Nat} {o:Obj} (h:p1 b = some o):ovl p ls p1 b = some o:=by
 unfold ovl
 split
 ·exact h
 ·rw [h];rfl
theorem ovl_off {p p1:Hp} {ls:List LE} {b:Nat} (h:¬ ∃ x∈ls,x.b = b) (h1:p1 b = none):ovl p ls p1 b = p b:=by
 unfold ovl
 rw [if_neg (by simpa [List.any_eq_true] using h),h1];rfl
theorem ovl_keep {p:Hp} {bs:List (Nat × Obj)} {ls:List LE} {b:Nat} {o:Obj} (hf:∀ x∈bs,(∃ y∈ls,y.b = x.1)∨p x.1 = none) (h:¬ ∃ x∈ls,x.b = b) (hb:p b = some o):ovl p ls (blH bs) b = some o:=by
 rw [ovl_off h (blH_none fun x hx e=>?_)]
 ·exact hb
 ·subst e
  rcases hf x hx with h1 | h1
  ·exact h h1
  ·rw [hb] at h1;cases h1
theorem hl_sound (T:Tab P) {f:FuncId} {m:Nat} {ic:IC} {rs:List IRes} {nt:Nat} (C:CompAt P f m ic rs nt) {args:List Value} (hn:args.length≤nt) (hsub:Sub G W) (hls:∀ x∈ls,W.heap[x.b]? = some x.lb.obj∧G x.b = none∧x.lb.one) (hnd:(ls.map (·.b)).Nodup) (hm:ls.length≤m)
  {svs:List SV} {obs:List OB} (ha:relArgs (lentE ls) m svs args) (ho:obsOk (lentE ls) m ls obs) {K:Value→List (Nat × Obj)→Hp→Prop}
  (h:vc P T.get (.no []) ic m ⟨lookSV svs,lookOB obs,G⟩ fun o _ σ=>match o with
   | .norm=>finHl rs σ K
   | .ret=>finHl rs σ K
   | .exit _=>False) :
  Calls P f args.toArray W fun e W'=>∃ v p' G',e = .returned v∧(∃ bs,p' = blH bs∧(bs.map (·.1)).Nodup∧K v bs G')∧(∀ b o,p' b = some o→W'.heap[b]? = some o∧G' b = none∧(dom (lentHp ls) b∨W.heap.size≤b))∧Grow G G'∧Sub G' W'∧(∀ b o,G' b = some o→G b = some o∨dom (lentHp ls) b∨W.heap.size≤b)∧Beneath ⟨W,dom (lentHp ls),[]⟩ W':=by
 obtain ⟨fn,c,b2,hf,hb,hc,hr,hnt⟩:=C.ex
 subst hnt
 have hE:∀ i x,ls[i]? = some x→lentE ls i = x.val:=fun i x e=>by simp [lentE,e]
 have hval:∀ x:LE,blkOf x.val = some x.b:=fun x=>by cases x with | mk b w lb=>cases lb<;>rfl
 have hmem:∀ i x,ls[i]? = some x→x∈ls:=fun i x e=>List.mem_of_getElem? e
 have hok:∀ i ob,lookOB obs i = some ob→∃ x,ls[i]? = some x∧obOk (lentE ls) m x ob:=obsOk_look ho
 have hlow:∀ b,(∃ x∈ls,x.b = b)→b < W.heap.size∧G b = none:=fun b ⟨x,hx,e⟩=>by
  obtain ⟨k1,k2,_⟩:=hls x hx
  subst e
  exact ⟨(Array.getElem?_eq_some_iff.1 k1).1,k2⟩
 have hsat:Sat ⟨W,fun b=>∃ x∈ls,x.b = b,[]⟩ G fn.ntmps (fun k=>k < m) (lentE ls) ⟨lookSV svs,lookOB obs,G⟩ { tmps:=args.toArray++Array.replicate (fn.ntmps - args.toArray.size) undef,defers:=[] } W:=by
  refine ⟨⟨Beneath.refl _,hsub,fun b o h=>.inl h, ?_, ?_, ?_, ?_⟩,fun i=>(relArgs_look ha i).2, ?_, ?_,by simp;omega,rfl⟩
  ·intro i ob e
   obtain ⟨x,hx,hob⟩:=hok i ob e
   obtain ⟨k1,k2,k3⟩:=hls x (hmem i x hx)
   obtain ⟨b,w,lb⟩:=x
   cases lb with
   | cells vs t =>
    obtain ⟨cs,rfl,h1,h2⟩:=hob
    exact ⟨b,vs,hE i _ hx, .inr ⟨_,hmem i _ hx,rfl⟩,k1,h1,k3,rfl⟩
   | map es c =>
    have hob:ob = .map (.named b) es c:=hob
    subst hob
    exact ⟨b,hE i _ hx, .inr ⟨_,hmem i _ hx,rfl⟩,k1,rfl⟩
   | row n0 n cap vs rest t k =>
    have hob:ob = .xrow b n cap vs rest t k:=hob
    subst hob
    obtain ⟨o1,o2,o3,o4,o5,o6⟩:=k3
    exact ⟨hE i _ hx, .inr ⟨_,hmem i _ hx,rfl⟩,k1,o2,o3,o4,o5,o6⟩
  ·intro i ob v e e2
   obtain ⟨x,hx,hob⟩:=hok i ob e
   obtain ⟨b,w,lb⟩:=x
   cases lb with
   | cells vs t=>obtain ⟨cs,rfl,_⟩:=hob;cases e2
   | map es c=>have hob:ob = .map (.named b) es c:=hob;subst hob;cases e2
   | row n0 n cap vs rest t k=>have hob:ob = .xrow b n cap vs rest t k:=hob;subst hob;cases e2
  ·intro i ob e e2 b hb
   obtain ⟨x,hx,hob⟩:=hok i ob e
   replace hb:=obOk_has hob hb
   rw [hE i x hx,hval x] at hb
   cases hb
   exact (hls x (hmem i x hx)).2.1
  ·intro i ob i' ob' b e e2 e3 e4 e5
   obtain ⟨x,hx,hob⟩:=hok i ob e
   obtain ⟨x',hx',hob'⟩:=hok i' ob' e2
   replace e4:=obOk_has hob e4
   replace e5:=obOk_has hob' e5
   rw [hE i x hx,hval x] at e4
   rw [hE i' x' hx',hval x'] at e5
   have h1:(ls.map (·.b))[i]? = some b:=by simp [hx];simpa using e4
   have h2:(ls.map (·.b))[i']? = some b:=by simp [hx'];simpa using e5
   have l1:=(List.getElem?_eq_some_iff.1 h1).1
   exact (List.getElem?_inj l1 hnd).1 (h1.trans h2.symm)
  ·intro i ob e
   obtain ⟨x,hx,hob⟩:=hok i ob e
   refine ⟨Nat.lt_of_lt_of_le (List.getElem?_eq_some_iff.1 hx).1 hm, ?_⟩
   obtain ⟨b,w,lb⟩:=x
   cases lb with
   | cells vs t=>obtain ⟨cs,rfl,_,h2⟩:=hob;exact h2
   | map es c=>have hob:ob = .map (.named b) es c:=hob;subst hob;trivial
   | row n0 n cap vs rest t k=>have hob:ob = .xrow b n cap vs rest t k:=hob;subst hob;trivial
  ·intro i
   have h1:=(relArgs_look ha i).1
   have:(args.toArray++Array.replicate (fn.ntmps - args.toArray.size) undef).getD i undef = args[i]?.getD undef:=by
    rw [Array.getD_eq_getD_getElem?,Array.getElem?_append]
    split
    ·simp
    ·rename_i hlt
     have:args[i]? = none:=List.getElem?_eq_none_iff.2 (by simpa using hlt)
     rw [this,Array.getElem?_replicate]
     split<;>rfl
   rw [this];exact h1
 have hs:SatE (baseEnv (fun b=>∃ x∈ls,x.b = b) G W) [] fn.ntmps m (fun _=>False) (lentE ls) ⟨lookSV svs,lookOB obs,G⟩ { tmps:=args.toArray++Array.replicate (fn.ntmps - args.toArray.size) undef,defers:=[] } W :=
  SatE.of (r:=⟨W,fun b=>∃ x∈ls,x.b = b,[]⟩) (G0:=G) (fun _ h=>h) (fun _ h=>h.elim) (Agree.refl _ _) ⟨baseEnv_at.2 ⟨Beneath.refl ⟨W,_,[]⟩,fun b o h=>.inl h,fun b h=>h.elim (fun h=>.inr h.1) (fun ⟨d,hd,_⟩=>by cases hd)⟩,fun b hb=>(hlow b hb).1,hsub,marks_start⟩ (Grow.refl _) hsat
 rw [lentHp_dom ls] at hs
 refine body_soundN T baseEnv_ok hf hb hc hr (K:=fun _ vs H G=>FinHl H fun bs=>K (wrapV vs) bs G) hs h ?_
 intro σ' W' M E vs H' G' ⟨hs,bs,hnd',ht,k1⟩ hg hd
 have hn:=tellBs_nodup hd.sim hnd' ht
 exact hp_fin (K:=fun v p G=>∃ bs,p = blH bs∧(bs.map (·.1)).Nodup∧K v bs G) (tellBs_has ht) ⟨bs,rfl,hn,k1 hn⟩ hg hd
theorem CompAt.hpl {f:FuncId} {m:Nat} {ic:IC} {rs:List IRes} {nt:Nat} (C:CompAt P f m ic rs nt) (T:Tab P) {sh:List Value→List Value} {pre:List Value→Hp→Hp→Prop} {post:List Value→Hp→Value→Hp→Hp→Prop}
  (hmo:∀ args p v p' G G',Grow G G'→post args p v p' G→post args p v p' G')
  (h:∀ args p G,pre args p G→∃ (ls:List LE) (svs:List SV) (obs:List OB),(∀ x∈ls,p x.b = some x.lb.obj∧x.lb.one)∧(ls.map (·.b)).Nodup∧ls.length≤m∧(sh args).length≤nt∧relArgs (lentE ls) m svs (sh args)∧obsOk (lentE ls) m ls obs ∧
   vc P T.get (.no []) ic m ⟨lookSV svs,lookOB obs,G⟩ fun o _ σ=>match o with
    | .norm=>finHl rs σ fun v bs G'=>(∀ x∈bs,(∃ y∈ls,y.b = x.1)∨p x.1 = none)→post args p v (ovl p ls (blH bs)) G'
    | .ret=>finHl rs σ fun v bs G'=>(∀ x∈bs,(∃ y∈ls,y.b = x.1)∨p x.1 = none)→post args p v (ovl p ls (blH bs)) G'
    | .exit _=>False):Sound P f sh (.hp pre post):=by
 refine ⟨hmo,fun args p G W hsub hp hpre=>?_⟩
 obtain ⟨ls,svs,obs,h1,h2,h3,h4,h5,h6,h7⟩:=h args p G hpre
 refine (hl_sound T C h4 hsub (fun x hx=>⟨(hp _ _ (h1 x hx).1).1,(hp _ _ (h1 x hx).1).2,(h1 x hx).2⟩) h2 h3 h5 h6 h7).mono ?_
 rintro e W' ⟨v,p1,G',rfl,⟨bs,hp1,hbn,k1⟩,k2,k3,k4,k5,k6⟩
 replace k1:=k1 fun x hx=>by
  obtain ⟨_,_,q⟩:=k2 x.1 x.2 (by rw [hp1];exact blH_mem hbn hx)
  rcases q with q | q
  ·rw [← lentHp_dom ls] at q;exact .inl q
  ·refine .inr ?_
   cases e:p x.1 with
   | none=>rfl
   | some o=>have:=(Array.getElem?_eq_some_iff.1 (hp _ _ e).1).1;omega
 rw [← hp1] at k1
 have hin:∀ b,dom (lentHp ls) b→∃ o,p b = some o:=fun b hb=>by
  rw [← lentHp_dom ls] at hb
  obtain ⟨x,hx,rfl⟩:=hb
  exact ⟨_,(h1 x hx).1⟩
 have hany:∀ b,(ls.any fun x=>decide (x.b = b)) = true↔dom (lentHp ls) b:=fun b=>by
  rw [← lentHp_dom ls]
  simp [List.any_eq_true]
 refine ⟨v,ovl p ls p1,G',rfl,k1,fun b o e=>?_,k3,k4,fun b o e=>(k5 b o e).imp id fun h=>h.imp (hin b) id, ?_⟩
 ·unfold ovl at e
  split at e
  ·obtain ⟨a1,a2,a3⟩:=k2 b o e
   exact ⟨a1,a2,a3.imp (hin b) id⟩
  ·rename_i hno
   have hno:¬ dom (lentHp ls) b:=fun h=>hno ((hany b).2 h)
   cases h1b:p1 b with
   | some o' =>
    rw [h1b] at e
    have e:some o' = some o:=e
    cases e
    obtain ⟨a1,a2,a3⟩:=k2 b o h1b
    exact ⟨a1,a2,a3.imp (hin b) id⟩
   | none =>
    rw [h1b,Option.none_or] at e
    obtain ⟨c1,c2⟩:=hp b o e
    have hlt:=(Array.getElem?_eq_some_iff.1 c1).1
    refine ⟨?_, ?_, .inl ⟨o,e⟩⟩
    ·rw [k6.block b hlt hno];exact c1
    ·cases hg:G' b with
     | none=>rfl
     | some o' =>
      rcases k5 b o' hg with h | h | h
      ·rw [c2] at h;cases h
      ·exact absurd h hno
      ·omega
 ·exact ⟨k6.os,k6.tape,k6.output,k6.size,fun k hk hnk=>k6.block k hk fun h=>hnk (hin k h)⟩
end
end Go.Pal

namespace Go.Proofs.YtefnikpoimaiiaaGreat
open Go.Pal Go.RowKit
set_option maxRecDepth 100000
def orE:El (Int × Int):=⟨2,fun x=>[I x.1,I x.2],fun {x y} h=>by obtain ⟨_,_⟩:=x;obtain ⟨_,_⟩:=y;simp at h;simp [h],fun _=>rfl,fun _ v hv=>by simp at hv;rcases hv with rfl | rfl<;>rfl⟩
structure Wr (p:Hp) (bw bo:Nat) (ws:List ByteArray) (os:List (Int × Int)):Prop where
 n:os.length = ws.length
 x:(ws = []∧p bw = some (.cells #[.slice none 0 0] 22 (0,0))∧p bo = some (.cells #[.slice none 0 0] 32 (0,0))) ∨
  ∃ b c r b' c' r',ws≠[]∧p bw = some (.cells #[.slice (some ⟨b,0,none⟩) ws.length c] 22 (0,0))∧p bo = some (.cells #[.slice (some ⟨b',0,none⟩) ws.length c'] 32 (0,0)) ∧
   p b = some (.cells (flat strE ws++r).toArray 9 (0,0))∧r.length = (c - ws.length) * 1∧ws.length≤c∧c≤maxLen ∧
   p b' = some (.cells (flat orE os++r').toArray 115 (0,0))∧r'.length = (c' - ws.length) * 2∧ws.length≤c'∧c'≤maxLen
def FW (p:Hp) (bat bw bo:Nat) (b:Nat):Prop:=b = bat∨b = bw∨b = bo∨∃ cs t,p b = some (.cells cs t (0,0))∧(t = 9∨t = 115)
structure CpP (p G:Hp) (bat bw bown bo bnum:Nat) (at_ num:Int) (oa:Option Addr) (on oc:Nat) (own:List ByteArray) (ws:List ByteArray) (os:List (Int × Int)):Prop where
 a:p bat = some (.cells #[I at_] 3 (0,0))
 n:p bnum = some (.cells #[I num] 3 (0,0))
 o:p bown = some (.cells #[.slice oa on oc] 22 (0,0))
 l:SlR strE.k strE.R G oa on oc own
 w:Wr p bw bo ws os
theorem ne_ty {p:Hp} {a b:Nat} {x y:Array Value} {t t':TypeId} (h1:p a = some (.cells x t (0,0))) (h2:p b = some (.cells y t' (0,0))) (h:t≠t'):a≠b:=fun e=>by
 subst e
 rw [h1] at h2
 simp only [Option.some.injEq,Obj.cells.injEq] at h2
 exact h h2.2.1
def lrow (h:Nat):Nat→S1
 | 0=>.val (.slice none 0 0)
 | k + 1=>.row h (k + 1)
def lrows:Nat→List Value→List Value→List (Nat × OB)
 | 0,_,_=>[]
 | k + 1,vs,us=>[(5, .row none (k + 1) vs 9 1),(6, .row none (k + 1) us 115 2)]
abbrev cpLs (bat bw bown bo bnum:Nat) (at_ num:Int) (w o own:Value):List LE:=[⟨bat,true, .cells [I at_] 3⟩,⟨bw,true, .cells [w] 22⟩,⟨bown,true, .cells [own] 22⟩,⟨bo,true, .cells [o] 32⟩,⟨bnum,true, .cells [I num] 3⟩]
abbrev cpOb (bat bw bown bo bnum:Nat) (at_ num:Int) (w o:S1) (own:Value):List OB:=[.cells (.named bat) [.val (I at_)] 3, .cells (.named bw) [w] 22, .cells (.named bown) [.val own] 22, .cells (.named bo) [o] 32, .cells (.named bnum) [.val (I num)] 3]
abbrev cpSv (to:Int):List SV:=[.v (I to), .c (.ptr 0 0), .c (.ptr 1 0), .c (.ptr 2 0), .c (.ptr 3 0), .c (.ptr 4 0)]
def CpQ (bat bw bown bo bnum:Nat) (own ws0:List ByteArray) (p p':Hp):Prop:=∃ at' ws os,p' bat = some (.cells #[I at'] 3 (0,0))∧(0≤at'∧at'≤own.length)∧Wr p' bw bo ws os∧ws.length≤ws0.length + 60∧(∀ s∈ws,s∈ws0∨s∈own)∧KeepHp (FW p bat bw bo) p p'
structure CpI (G:Hp) (to at0:Int) (own ws0:List ByteArray) (t:Nat) (at_:Int) (ws:List ByteArray) (os:List (Int × Int)) (vs us:List Value):Prop where
 w:Row strE ws t vs
 o:Row orE os t us
 a:at0≤at_∧at_≤own.length
 n:(t:Int)≤ws0.length + (at_ - at0)
 g:∀ s∈ws,s∈ws0∨s∈own
theorem cp_at {p:Hp} {ls:List LE} {bs:List (Nat × Obj)} {b:Nat} {o:Obj} (hnd:(bs.map (·.1)).Nodup) (h:(b,o)∈bs):ovl p ls (blH bs) b = some o:=ovl_some (blH_mem hnd h)
theorem cp_keep {p:Hp} {ls:List LE} {bs:List (Nat × Obj)} {F:Nat→Prop} (hnd:(bs.map (·.1)).Nodup) (hf:∀ x∈bs,(∃ y∈ls,y.b = x.1)∨p x.1 = none) (hls:∀ x∈ls,F x.b∨∃ o,p x.b = some o∧(x.b,o)∈bs):KeepHp F p (ovl p ls (blH bs)):=fun b o hF hb=>by
 by_cases h:∃ x∈ls,x.b = b
 ·obtain ⟨x,hx,rfl⟩:=h
  rcases hls x hx with h1 | ⟨o',h1,h2⟩
  ·exact absurd h1 hF
  ·rw [hb] at h1
   cases h1
   exact cp_at hnd h2
 ·exact ovl_keep hf h hb
set_option maxHeartbeats 4000000 in
theorem copied39 (bat bw bown bo bnum:Nat) (h1:bat≠bnum) (h2:bw≠bown) (to at0 num:Int) (oa:Option Addr) (on oc:Nat) (own ws0:List ByteArray) (os0:List (Int × Int)) (hat:0≤at0∧at0≤own.length) (hto:to≤own.length) (hown:own.length≤60) (hws:ws0.length + 60≤8000000000000) :
    Sound Tryz.prog 39 (fun args=>(#[]:Array Value).toList++args++(#[bptr bat,bptr bw,bptr bown,bptr bo,bptr bnum]:Array Value).toList)
      (.hp (fun args p G=>args = [I to]∧CpP p G bat bw bown bo bnum at0 num oa on oc own ws0 os0)
        fun _ p v p' _=>v = .tuple #[]∧CpQ bat bw bown bo bnum own ws0 p p'):=by
  refine comp39.hpl (Tab.nil _) (fun args p v p' G G' hg h=>h) (fun args p G h=>?_)
  obtain ⟨rfl,ca,cn,co,cl,cw,cx⟩:=h
  have hln:=cl.len
  rcases cx with ⟨hw0,cw1,cw2⟩ | ⟨b,c,r,b',c',r',q0,q1,q2,q3,q4,q5,q6,q7,q8,q9,q10⟩
  · have ho:os0 = []:=List.eq_nil_of_length_eq_zero (by rw [cw,hw0];rfl)
    refine ⟨cpLs bat bw bown bo bnum at0 num (.slice none 0 0) (.slice none 0 0) (.slice oa on oc),cpSv to,cpOb bat bw bown bo bnum at0 num (.val (.slice none 0 0)) (.val (.slice none 0 0)) (.slice oa on oc), ?_, ?_,by simp,by simp, ?_, ?_, ?_⟩
    · intro x hx
      simp only [List.mem_cons,List.not_mem_nil,or_false] at hx
      rcases hx with rfl | rfl | rfl | rfl | rfl
      · exact ⟨ca,fun v hv=>by rw [List.mem_singleton.1 hv];rfl⟩
      · exact ⟨cw1,fun v hv=>by rw [List.mem_singleton.1 hv];rfl⟩
      · exact ⟨co,fun v hv=>by rw [List.mem_singleton.1 hv];rfl⟩
      · exact ⟨cw2,fun v hv=>by rw [List.mem_singleton.1 hv];rfl⟩
      · exact ⟨cn,fun v hv=>by rw [List.mem_singleton.1 hv];rfl⟩
    · simp [ne_ty ca cw1 (by decide),ne_ty ca co (by decide),ne_ty ca cw2 (by decide),h1,h2,ne_ty cw1 cw2 (by decide),ne_ty cw1 cn (by decide),ne_ty co cw2 (by decide),ne_ty co cn (by decide),ne_ty cw2 cn (by decide)]
    · exact ⟨rfl,trivial,⟨_,rfl,rfl⟩,Nat.le_of_ble_eq_true rfl,⟨_,rfl,rfl⟩,Nat.le_of_ble_eq_true rfl,⟨_,rfl,rfl⟩,Nat.le_of_ble_eq_true rfl,⟨_,rfl,rfl⟩,Nat.le_of_ble_eq_true rfl,⟨_,rfl,rfl⟩,Nat.le_of_ble_eq_true rfl,trivial⟩
    · refine ⟨⟨_,rfl,⟨rfl,trivial⟩, ?_⟩,⟨_,rfl,⟨rfl,trivial⟩, ?_⟩,⟨_,rfl,⟨rfl,trivial⟩, ?_⟩,⟨_,rfl,⟨rfl,trivial⟩, ?_⟩,⟨_,rfl,⟨rfl,trivial⟩, ?_⟩,trivial⟩<;>(intro c hc;rw [List.mem_singleton.1 hc];trivial)
    · (conv=>whnf)
      refine LoopP.of { α:=Nat × Int × List ByteArray × List (Int × Int) × List Value × List Value,fr:=fun z=>[(0, .v (I to)),(1, .c (.ptr 0 0)),(2, .c (.ptr 1 0)),(3, .c (.ptr 2 0)),(4, .c (.ptr 3 0)),(5, .c (.ptr 4 0))],H:=fun z=>[(0, .cells (.named bat) [.val (I z.2.1)] 3),(1, .cells (.named bw) [lrow 5 z.1] 22),(2, .cells (.named bown) [.val (.slice oa on oc)] 22),(3, .cells (.named bo) [lrow 6 z.1] 32),(4, .cells (.named bnum) [.val (I num)] 3)]++lrows z.1 z.2.2.2.2.1 z.2.2.2.2.2,ok:=fun z G'=>CpI G' to at0 own ws0 z.1 z.2.1 z.2.2.1 z.2.2.2.1 z.2.2.2.2.1 z.2.2.2.2.2,m:=fun z=>(to - z.2.1).toNat }
        (0,at0,[],[],[],[]) ?_ ?_ (fun z=>by obtain ⟨t,_⟩:=z;cases t<;>exact ⟨rfl,rfl⟩) (fun z G' hG hz=>W.mk ?_)
      rotate_left 2
      obtain ⟨t,at1,ws,os,vs,us⟩:=z
      obtain ⟨k1,k2,k3,k4,k5⟩:=hz
      dsimp only at k1 k2 k3 k4 k5
      replace cl:=SlR.grow (G:=G) (G':=G') (fun _ _ h=>h) cl hG
      cases t with
      | zero =>
        dsimp only [lrow,lrows]
        (conv=>whnf)
        refine IteP.mk (fun hlt=>W.mk ?_) (fun hge=>W.mk ?_)<;>(conv=>whnf)
        · have hlt:at1 < to:=hlt
          have hel:=cl.el (i:=at1.toNat) (by omega)
          refine DrawP.mk monoT_nil rfl (W.mk ?_)
          (conv=>whnf)
          repeat' (first | (refine ob ?_ ?_;(first | trivial | omega | (simp only [inR];omega) | exact ble (by rfl) | exact SlR.some ‹_› (by omega));(conv=>whnf)) | (first | (refine ra ‹_› (by rfl) ?_;(conv=>whnf)) | (refine rb ‹_› (by rfl) ?_;(conv=>whnf)) | (refine rc ‹_› (by rfl) ?_;(conv=>whnf)) | (refine rd ‹_› (by rfl) ?_;(conv=>whnf))))
          obtain ⟨t,ht⟩:∃ t,t = 0:=⟨0,rfl⟩
          rw [← ht] at k1 k2 k4
          have hv0:vs = []:=List.eq_nil_of_length_eq_zero (by rw [k1.len,ht];exact Nat.zero_mul _)
          have hu0:us = []:=List.eq_nil_of_length_eq_zero (by rw [k2.len,ht];exact Nat.zero_mul _)
          subst ht hv0 hu0
          refine RoundP.of (0 + 1,at1 + 1,ws++[own[at1.toNat]'(by omega)],os++[(num,at1)],_,_) (HeadP.of [(5,some 16),(6,some 22)] ⟨rfl,rfl,rfl,rfl,rfl,rfl,trivial⟩ ⟨rfl,rfl,rfl,rfl,rfl,rfl,rfl,trivial⟩) ⟨k1.snoc _,k2.snoc (num,at1),⟨by show at0≤at1 + 1;omega,by show at1 + 1≤_;omega⟩,by show ((0 + 1:Nat):Int)≤ws0.length + (at1 + 1 - at0);omega,fun s hs=>?_⟩ (by show (to - (at1 + 1)).toNat < (to - at1).toNat;omega)
          rcases List.mem_append.1 hs with hs | hs
          · exact k5 s hs
          · rw [List.mem_singleton] at hs
            subst hs
            exact .inr (List.getElem_mem _)
        · refine NmP.mk ⟨[],W.mk ?_⟩
          (conv=>whnf)
          refine FinHl.mk ⟨[0,1,2,3,4],_,by decide, .cons rfl (.cons rfl (.cons rfl (.cons rfl (.cons rfl .nil)))),fun hnd hf=>⟨rfl,at1,ws,os,cp_at hnd (by simp),⟨by omega,k3.2⟩,⟨by rw [← k1.n, ← k2.n], .inl ⟨List.eq_nil_of_length_eq_zero k1.n.symm,cp_at hnd (by simp),cp_at hnd (by simp)⟩⟩,by have:=k1.n;omega,k5,cp_keep hnd hf ?_⟩⟩
          intro x hx
          simp only [cpLs,List.cons_append,List.nil_append,List.mem_cons,List.not_mem_nil,or_false] at hx
          first
            | (rcases hx with rfl | rfl | rfl | rfl | rfl | rfl | rfl
               · exact .inl (.inl rfl)
               · exact .inl (.inr (.inl rfl))
               · exact .inr ⟨_,co,by simp⟩
               · exact .inl (.inr (.inr (.inl rfl)))
               · exact .inr ⟨_,cn,by simp⟩
               · exact .inl (.inr (.inr (.inr ⟨_,_,q3, .inl rfl⟩)))
               · exact .inl (.inr (.inr (.inr ⟨_,_,q7, .inr rfl⟩))))
            | (rcases hx with rfl | rfl | rfl | rfl | rfl
               · exact .inl (.inl rfl)
               · exact .inl (.inr (.inl rfl))
               · exact .inr ⟨_,co,by simp⟩
               · exact .inl (.inr (.inr (.inl rfl)))
               · exact .inr ⟨_,cn,by simp⟩)
      | succ t =>
        dsimp only [lrow,lrows]
        (conv=>whnf)
        refine IteP.mk (fun hlt=>W.mk ?_) (fun hge=>W.mk ?_)<;>(conv=>whnf)
        · have hlt:at1 < to:=hlt
          have hel:=cl.el (i:=at1.toNat) (by omega)
          refine DrawP.mk monoT_nil rfl (W.mk ?_)
          (conv=>whnf)
          repeat' (first | (refine ob ?_ ?_;(first | trivial | omega | (simp only [inR];omega) | exact ble (by rfl) | exact SlR.some ‹_› (by omega));(conv=>whnf)) | (first | (refine ra ‹_› (by rfl) ?_;(conv=>whnf)) | (refine rb ‹_› (by rfl) ?_;(conv=>whnf)) | (refine rc ‹_› (by rfl) ?_;(conv=>whnf)) | (refine rd ‹_› (by rfl) ?_;(conv=>whnf))))
          refine RoundP.of (t + 1 + 1,at1 + 1,ws++[own[at1.toNat]'(by omega)],os++[(num,at1)],_,_) (HeadP.of [(5,some 16),(6,some 22)] ⟨rfl,rfl,rfl,rfl,rfl,rfl,trivial⟩ ⟨rfl,rfl,rfl,rfl,rfl,rfl,rfl,trivial⟩) ⟨k1.snoc _,k2.snoc (num,at1),⟨by show at0≤at1 + 1;omega,by show at1 + 1≤_;omega⟩,by show ((t + 1 + 1:Nat):Int)≤ws0.length + (at1 + 1 - at0);omega,fun s hs=>?_⟩ (by show (to - (at1 + 1)).toNat < (to - at1).toNat;omega)
          rcases List.mem_append.1 hs with hs | hs
          · exact k5 s hs
          · rw [List.mem_singleton] at hs
            subst hs
            exact .inr (List.getElem_mem _)
        · refine NmP.mk ⟨[5,6],PubP.opn (Nat.succ_ne_zero t) (fun b5 c5 r5 g1 g2 g3=>W.mk (PubP.opn (Nat.succ_ne_zero t) (fun b6 c6 r6 g4 g5 g6=>W.mk (W.mk ?_))))⟩
          (conv=>whnf)
          have hkn:=k1.n
          refine FinHl.mk ⟨[0,1,2,3,4,5,6],_,by decide, .cons rfl (.cons rfl (.cons rfl (.cons rfl (.cons rfl (.cons rfl (.cons rfl .nil)))))),fun hnd hf=>⟨rfl,at1,ws,os,cp_at hnd (by simp),⟨by omega,k3.2⟩,⟨by rw [← k1.n, ← k2.n], .inr ⟨b5,c5,r5,b6,c6,r6,(fun e=>by rw [e] at hkn;cases hkn), ?_, ?_, ?_, ?_, ?_,g2, ?_, ?_, ?_,g5⟩⟩,by omega,k5,cp_keep hnd hf ?_⟩⟩
          · rw [← hkn];exact cp_at hnd (by simp)
          · rw [← hkn];exact cp_at hnd (by simp)
          · rw [← show vs = flat strE ws from k1.vs];exact cp_at hnd (by simp)
          · rw [← hkn];exact g3
          · rw [← hkn];exact g1
          · rw [← show us = flat orE os from k2.vs];exact cp_at hnd (by simp)
          · rw [← hkn];exact g6
          · rw [← hkn];exact g4
          intro x hx
          simp only [cpLs,List.cons_append,List.nil_append,List.mem_cons,List.not_mem_nil,or_false] at hx
          first
            | (rcases hx with rfl | rfl | rfl | rfl | rfl | rfl | rfl
               · exact .inl (.inl rfl)
               · exact .inl (.inr (.inl rfl))
               · exact .inr ⟨_,co,by simp⟩
               · exact .inl (.inr (.inr (.inl rfl)))
               · exact .inr ⟨_,cn,by simp⟩
               · exact .inl (.inr (.inr (.inr ⟨_,_,q3, .inl rfl⟩)))
               · exact .inl (.inr (.inr (.inr ⟨_,_,q7, .inr rfl⟩))))
            | (rcases hx with rfl | rfl | rfl | rfl | rfl
               · exact .inl (.inl rfl)
               · exact .inl (.inr (.inl rfl))
               · exact .inr ⟨_,co,by simp⟩
               · exact .inl (.inr (.inr (.inl rfl)))
               · exact .inr ⟨_,cn,by simp⟩)
      · exact HeadP.of [] ⟨rfl,rfl,rfl,rfl,rfl,rfl,trivial⟩ ⟨rfl,rfl,rfl,rfl,rfl,trivial⟩
      · exact ⟨Row.nil,Row.nil,⟨Int.le_refl _,hat.2⟩,by show ((0:Nat):Int)≤ws0.length + (at0 - at0);omega,fun s hs=>by cases hs⟩
  · obtain ⟨t,ht⟩ | h0:(∃ t,ws0.length = t + 1)∨ws0.length = 0:=by
      cases ws0.length with
      | zero=>exact .inr rfl
      | succ t=>exact .inl ⟨t,rfl⟩
    · have hos:os0.length = t + 1:=by rw [cw,ht]
      rw [ht] at q1 q2 q4 q5 q8 q9
      refine ⟨cpLs bat bw bown bo bnum at0 num (.slice (some ⟨b,0,none⟩) (t + 1) c) (.slice (some ⟨b',0,none⟩) (t + 1) c') (.slice oa on oc)++[⟨b,true, .row (t + 1) (t + 1) c (flat strE ws0) r 9 1⟩,⟨b',true, .row (t + 1) (t + 1) c' (flat orE os0) r' 115 2⟩],cpSv to,
        cpOb bat bw bown bo bnum at0 num (.row 5 (t + 1)) (.row 6 (t + 1)) (.slice oa on oc)++[.xrow b (t + 1) c (flat strE ws0) r 9 1, .xrow b' (t + 1) c' (flat orE os0) r' 115 2], ?_, ?_,by simp,by simp, ?_, ?_, ?_⟩
      · intro x hx
        simp only [List.mem_append,List.mem_cons,List.not_mem_nil,or_false] at hx
        rcases hx with (rfl | rfl | rfl | rfl | rfl) | rfl | rfl
        · exact ⟨ca,fun v hv=>by rw [List.mem_singleton.1 hv];rfl⟩
        · exact ⟨q1,fun v hv=>by rw [List.mem_singleton.1 hv];rfl⟩
        · exact ⟨co,fun v hv=>by rw [List.mem_singleton.1 hv];rfl⟩
        · exact ⟨q2,fun v hv=>by rw [List.mem_singleton.1 hv];rfl⟩
        · exact ⟨cn,fun v hv=>by rw [List.mem_singleton.1 hv];rfl⟩
        · exact ⟨q3,Nat.le_refl _,by rw [flat_len,ht];rfl,q4,q5,q6,flat_one _ _⟩
        · exact ⟨q7,Nat.le_refl _,by rw [flat_len,hos];rfl,q8,q9,q10,flat_one _ _⟩
      · simp [ne_ty ca q1 (by decide),ne_ty ca co (by decide),ne_ty ca q2 (by decide),h1,h2,ne_ty q1 q2 (by decide),ne_ty q1 cn (by decide),ne_ty co q2 (by decide),ne_ty co cn (by decide),ne_ty q2 cn (by decide),ne_ty ca q3 (by decide),ne_ty ca q7 (by decide),ne_ty q1 q3 (by decide),ne_ty q1 q7 (by decide),ne_ty co q3 (by decide),ne_ty co q7 (by decide),ne_ty q2 q3 (by decide),ne_ty q2 q7 (by decide),ne_ty cn q3 (by decide),ne_ty cn q7 (by decide),ne_ty q3 q7 (by decide)]
      · exact ⟨rfl,trivial,⟨_,rfl,rfl⟩,Nat.le_of_ble_eq_true rfl,⟨_,rfl,rfl⟩,Nat.le_of_ble_eq_true rfl,⟨_,rfl,rfl⟩,Nat.le_of_ble_eq_true rfl,⟨_,rfl,rfl⟩,Nat.le_of_ble_eq_true rfl,⟨_,rfl,rfl⟩,Nat.le_of_ble_eq_true rfl,trivial⟩
      · refine ⟨⟨_,rfl,⟨rfl,trivial⟩, ?_⟩,⟨_,rfl,⟨⟨rfl,_,_,rfl⟩,trivial⟩, ?_⟩,⟨_,rfl,⟨rfl,trivial⟩, ?_⟩,⟨_,rfl,⟨⟨rfl,_,_,rfl⟩,trivial⟩, ?_⟩,⟨_,rfl,⟨rfl,trivial⟩, ?_⟩,rfl,rfl,trivial⟩<;>(intro c hc;rw [List.mem_singleton.1 hc];first | trivial | exact Nat.le_of_ble_eq_true rfl)
      · (conv=>whnf)
        refine LoopP.of { α:=Nat × Int × List ByteArray × List (Int × Int) × List Value × List Value,fr:=fun z=>[(0, .v (I to)),(1, .c (.ptr 0 0)),(2, .c (.ptr 1 0)),(3, .c (.ptr 2 0)),(4, .c (.ptr 3 0)),(5, .c (.ptr 4 0))],H:=fun z=>[(0, .cells (.named bat) [.val (I z.2.1)] 3),(1, .cells (.named bw) [lrow 5 z.1] 22),(2, .cells (.named bown) [.val (.slice oa on oc)] 22),(3, .cells (.named bo) [lrow 6 z.1] 32),(4, .cells (.named bnum) [.val (I num)] 3)]++lrows z.1 z.2.2.2.2.1 z.2.2.2.2.2,ok:=fun z G'=>CpI G' to at0 own ws0 z.1 z.2.1 z.2.2.1 z.2.2.2.1 z.2.2.2.2.1 z.2.2.2.2.2,m:=fun z=>(to - z.2.1).toNat }
          ((t + 1),at0,ws0,os0,(flat strE ws0),(flat orE os0)) ?_ ?_ (fun z=>by obtain ⟨t,_⟩:=z;cases t<;>exact ⟨rfl,rfl⟩) (fun z G' hG hz=>W.mk ?_)
        rotate_left 2
        obtain ⟨t,at1,ws,os,vs,us⟩:=z
        obtain ⟨k1,k2,k3,k4,k5⟩:=hz
        dsimp only at k1 k2 k3 k4 k5
        replace cl:=SlR.grow (G:=G) (G':=G') (fun _ _ h=>h) cl hG
        cases t with
        | zero =>
          dsimp only [lrow,lrows]
          (conv=>whnf)
          refine IteP.mk (fun hlt=>W.mk ?_) (fun hge=>W.mk ?_)<;>(conv=>whnf)
          · have hlt:at1 < to:=hlt
            have hel:=cl.el (i:=at1.toNat) (by omega)
            refine DrawP.mk monoT_nil rfl (W.mk ?_)
            (conv=>whnf)
            repeat' (first | (refine ob ?_ ?_;(first | trivial | omega | (simp only [inR];omega) | exact ble (by rfl) | exact SlR.some ‹_› (by omega));(conv=>whnf)) | (first | (refine ra ‹_› (by rfl) ?_;(conv=>whnf)) | (refine rb ‹_› (by rfl) ?_;(conv=>whnf)) | (refine rc ‹_› (by rfl) ?_;(conv=>whnf)) | (refine rd ‹_› (by rfl) ?_;(conv=>whnf))))
            obtain ⟨t,ht⟩:∃ t,t = 0:=⟨0,rfl⟩
            rw [← ht] at k1 k2 k4
            have hv0:vs = []:=List.eq_nil_of_length_eq_zero (by rw [k1.len,ht];exact Nat.zero_mul _)
            have hu0:us = []:=List.eq_nil_of_length_eq_zero (by rw [k2.len,ht];exact Nat.zero_mul _)
            subst ht hv0 hu0
            refine RoundP.of (0 + 1,at1 + 1,ws++[own[at1.toNat]'(by omega)],os++[(num,at1)],_,_) (HeadP.of [(5,some 16),(6,some 22)] ⟨rfl,rfl,rfl,rfl,rfl,rfl,trivial⟩ ⟨rfl,rfl,rfl,rfl,rfl,rfl,rfl,trivial⟩) ⟨k1.snoc _,k2.snoc (num,at1),⟨by show at0≤at1 + 1;omega,by show at1 + 1≤_;omega⟩,by show ((0 + 1:Nat):Int)≤ws0.length + (at1 + 1 - at0);omega,fun s hs=>?_⟩ (by show (to - (at1 + 1)).toNat < (to - at1).toNat;omega)
            rcases List.mem_append.1 hs with hs | hs
            · exact k5 s hs
            · rw [List.mem_singleton] at hs
              subst hs
              exact .inr (List.getElem_mem _)
          · refine NmP.mk ⟨[],W.mk ?_⟩
            (conv=>whnf)
            refine FinHl.mk ⟨[0,1,2,3,4],_,by decide, .cons rfl (.cons rfl (.cons rfl (.cons rfl (.cons rfl .nil)))),fun hnd hf=>⟨rfl,at1,ws,os,cp_at hnd (by simp),⟨by omega,k3.2⟩,⟨by rw [← k1.n, ← k2.n], .inl ⟨List.eq_nil_of_length_eq_zero k1.n.symm,cp_at hnd (by simp),cp_at hnd (by simp)⟩⟩,by have:=k1.n;omega,k5,cp_keep hnd hf ?_⟩⟩
            intro x hx
            simp only [cpLs,List.cons_append,List.nil_append,List.mem_cons,List.not_mem_nil,or_false] at hx
            first
              | (rcases hx with rfl | rfl | rfl | rfl | rfl | rfl | rfl
                 · exact .inl (.inl rfl)
                 · exact .inl (.inr (.inl rfl))
                 · exact .inr ⟨_,co,by simp⟩
                 · exact .inl (.inr (.inr (.inl rfl)))
                 · exact .inr ⟨_,cn,by simp⟩
                 · exact .inl (.inr (.inr (.inr ⟨_,_,q3, .inl rfl⟩)))
                 · exact .inl (.inr (.inr (.inr ⟨_,_,q7, .inr rfl⟩))))
              | (rcases hx with rfl | rfl | rfl | rfl | rfl
                 · exact .inl (.inl rfl)
                 · exact .inl (.inr (.inl rfl))
                 · exact .inr ⟨_,co,by simp⟩
                 · exact .inl (.inr (.inr (.inl rfl)))
                 · exact .inr ⟨_,cn,by simp⟩)
        | succ t =>
          dsimp only [lrow,lrows]
          (conv=>whnf)
          refine IteP.mk (fun hlt=>W.mk ?_) (fun hge=>W.mk ?_)<;>(conv=>whnf)
          · have hlt:at1 < to:=hlt
            have hel:=cl.el (i:=at1.toNat) (by omega)
            refine DrawP.mk monoT_nil rfl (W.mk ?_)
            (conv=>whnf)
            repeat' (first | (refine ob ?_ ?_;(first | trivial | omega | (simp only [inR];omega) | exact ble (by rfl) | exact SlR.some ‹_› (by omega));(conv=>whnf)) | (first | (refine ra ‹_› (by rfl) ?_;(conv=>whnf)) | (refine rb ‹_› (by rfl) ?_;(conv=>whnf)) | (refine rc ‹_› (by rfl) ?_;(conv=>whnf)) | (refine rd ‹_› (by rfl) ?_;(conv=>whnf))))
            refine RoundP.of (t + 1 + 1,at1 + 1,ws++[own[at1.toNat]'(by omega)],os++[(num,at1)],_,_) (HeadP.of [(5,some 16),(6,some 22)] ⟨rfl,rfl,rfl,rfl,rfl,rfl,trivial⟩ ⟨rfl,rfl,rfl,rfl,rfl,rfl,rfl,trivial⟩) ⟨k1.snoc _,k2.snoc (num,at1),⟨by show at0≤at1 + 1;omega,by show at1 + 1≤_;omega⟩,by show ((t + 1 + 1:Nat):Int)≤ws0.length + (at1 + 1 - at0);omega,fun s hs=>?_⟩ (by show (to - (at1 + 1)).toNat < (to - at1).toNat;omega)
            rcases List.mem_append.1 hs with hs | hs
            · exact k5 s hs
            · rw [List.mem_singleton] at hs
              subst hs
              exact .inr (List.getElem_mem _)
          · refine NmP.mk ⟨[5,6],PubP.opn (Nat.succ_ne_zero t) (fun b5 c5 r5 g1 g2 g3=>W.mk (PubP.opn (Nat.succ_ne_zero t) (fun b6 c6 r6 g4 g5 g6=>W.mk (W.mk ?_))))⟩
            (conv=>whnf)
            have hkn:=k1.n
            refine FinHl.mk ⟨[0,1,2,3,4,5,6],_,by decide, .cons rfl (.cons rfl (.cons rfl (.cons rfl (.cons rfl (.cons rfl (.cons rfl .nil)))))),fun hnd hf=>⟨rfl,at1,ws,os,cp_at hnd (by simp),⟨by omega,k3.2⟩,⟨by rw [← k1.n, ← k2.n], .inr ⟨b5,c5,r5,b6,c6,r6,(fun e=>by rw [e] at hkn;cases hkn), ?_, ?_, ?_, ?_, ?_,g2, ?_, ?_, ?_,g5⟩⟩,by omega,k5,cp_keep hnd hf ?_⟩⟩
            · rw [← hkn];exact cp_at hnd (by simp)
            · rw [← hkn];exact cp_at hnd (by simp)
            · rw [← show vs = flat strE ws from k1.vs];exact cp_at hnd (by simp)
            · rw [← hkn];exact g3
            · rw [← hkn];exact g1
            · rw [← show us = flat orE os from k2.vs];exact cp_at hnd (by simp)
            · rw [← hkn];exact g6
            · rw [← hkn];exact g4
            intro x hx
            simp only [cpLs,List.cons_append,List.nil_append,List.mem_cons,List.not_mem_nil,or_false] at hx
            first
              | (rcases hx with rfl | rfl | rfl | rfl | rfl | rfl | rfl
                 · exact .inl (.inl rfl)
                 · exact .inl (.inr (.inl rfl))
                 · exact .inr ⟨_,co,by simp⟩
                 · exact .inl (.inr (.inr (.inl rfl)))
                 · exact .inr ⟨_,cn,by simp⟩
                 · exact .inl (.inr (.inr (.inr ⟨_,_,q3, .inl rfl⟩)))
                 · exact .inl (.inr (.inr (.inr ⟨_,_,q7, .inr rfl⟩))))
              | (rcases hx with rfl | rfl | rfl | rfl | rfl
                 · exact .inl (.inl rfl)
                 · exact .inl (.inr (.inl rfl))
                 · exact .inr ⟨_,co,by simp⟩
                 · exact .inl (.inr (.inr (.inl rfl)))
                 · exact .inr ⟨_,cn,by simp⟩)
        · exact HeadP.of [] ⟨rfl,rfl,rfl,rfl,rfl,rfl,trivial⟩ ⟨rfl,rfl,rfl,rfl,rfl,rfl,rfl,trivial⟩
        · exact ⟨⟨ht.symm,rfl⟩,⟨hos.symm,rfl⟩,⟨Int.le_refl _,hat.2⟩,by show ((t + 1:Nat):Int)≤ws0.length + (at0 - at0);omega,fun s hs=>.inl hs⟩
    · exact absurd (List.eq_nil_of_length_eq_zero h0) q0
end Go.Proofs.YtefnikpoimaiiaaGreat

namespace Go.Proofs.YtefnikpoimaiiaaGreat
open Go.Pal Go.RowKit
set_option maxRecDepth 100000
abbrev wrFn (bm bw bo bc bwr:Nat):Value:=.func (.func 37) #[] #[bptr bm,bptr bw,bptr bo,bptr bc,bptr bwr]
structure WrC (p G:Hp) (bm bw bo bc bwr:Nat) (m:Mt) (l:List Int) (ws:List ByteArray) (os:List (Int × Int)):Prop where
 m:∃ w pv,p bm = some (.cells #[w,pv] 38 (0,0))∧MoV G (.agg #[w,pv]) m
 c:∃ cv,p bc = some (.cells #[cv] 30 (0,0))∧SlV intE G cv l
 f:p bwr = some (.cells #[wrFn bm bw bo bc bwr] 112 (0,0))
 w:Wr p bw bo ws os
def FW2 (p:Hp) (bw bo:Nat) (b:Nat):Prop:=b = bw∨b = bo∨∃ cs t,p b = some (.cells cs t (0,0))∧(t = 9∨t = 115)
def WrQ (bw bo:Nat) (ws0:List ByteArray) (D:Nat) (p p':Hp):Prop:=∃ ws os,Wr p' bw bo ws os∧ws.length≤ws0.length + D∧(∀ s∈ws,GoodW s)∧KeepHp (FW2 p bw bo) p p'
theorem keep_trans {p p' p'':Hp} {bw bo:Nat} (h:KeepHp (FW2 p bw bo) p p') (h':KeepHp (FW2 p' bw bo) p' p''):KeepHp (FW2 p bw bo) p p'':=fun b o hf e=>by
 have e1:=h b o hf e
 refine h' b o (fun hf'=>hf ?_) e1
 rcases hf' with h1 | h1 | ⟨cs,t,h1,h2⟩
 ·exact .inl h1
 ·exact .inr (.inl h1)
 ·rw [e1] at h1;cases h1
  exact .inr (.inr ⟨cs,t,e,h2⟩)
theorem fw_off {p p':Hp} {bat bw bo:Nat} {x y z:Array Value} (ha:p bat = some (.cells x 3 (0,0))) (hw:p bw = some (.cells y 22 (0,0))) (ho:p bo = some (.cells z 32 (0,0))) (hk:KeepHp (FW p bat bw bo) p p') {b:Nat} {cs:Array Value} {t:TypeId} (hb:p b = some (.cells cs t (0,0))) (h1:b≠bat) (h2:b≠bw) (h3:t≠32) (h4:t≠9) (h5:t≠115):p' b = some (.cells cs t (0,0)) :=
 hk b _ (fun h=>by
  rcases h with h | h | h | ⟨cs',t',e,h⟩
  ·exact h1 h
  ·exact h2 h
  ·exact ne_ty hb ho h3 h
  ·rw [hb] at e;cases e
   exact h.elim h4 h5) hb
theorem fw2_off {p p':Hp} {bw bo:Nat} {z:Array Value} (ho:p bo = some (.cells z 32 (0,0))) (hk:KeepHp (FW2 p bw bo) p p') {b:Nat} {cs:Array Value} {t:TypeId} (hb:p b = some (.cells cs t (0,0))) (h2:b≠bw) (h3:t≠32) (h4:t≠9) (h5:t≠115):p' b = some (.cells cs t (0,0)) :=
 hk b _ (fun h=>by
  rcases h with h | h | ⟨cs',t',e,h⟩
  ·exact h2 h
  ·exact ne_ty hb ho h3 h
  ·rw [hb] at e;cases e
   exact h.elim h4 h5) hb
theorem Wr.bw {p:Hp} {bw bo:Nat} {ws:List ByteArray} {os:List (Int × Int)} (h:Wr p bw bo ws os):∃ y,p bw = some (.cells y 22 (0,0)):=by
 rcases h.x with ⟨_,h,_⟩ | ⟨_,_,_,_,_,_,_,h,_⟩<;>exact ⟨_,h⟩
theorem Wr.bo {p:Hp} {bw bo:Nat} {ws:List ByteArray} {os:List (Int × Int)} (h:Wr p bw bo ws os):∃ y,p bo = some (.cells y 32 (0,0)):=by
 rcases h.x with ⟨_,_,h⟩ | ⟨_,_,_,_,_,_,_,_,h,_⟩<;>exact ⟨_,h⟩
theorem Wr.imp {p p':Hp} {bw bo:Nat} {ws:List ByteArray} {os:List (Int × Int)} (h:Wr p bw bo ws os) (hk:∀ b cs t,t≠3→p b = some (.cells cs t (0,0))→p' b = some (.cells cs t (0,0))):Wr p' bw bo ws os:=by
 refine ⟨h.n,h.x.imp (fun ⟨a,b,c⟩=>⟨a,hk _ _ _ (by decide) b,hk _ _ _ (by decide) c⟩) ?_⟩
 rintro ⟨b,c,r,b',c',r',q0,q1,q2,q3,q4,q5,q6,q7,q8,q9,q10⟩
 exact ⟨b,c,r,b',c',r',q0,hk _ _ _ (by decide) q1,hk _ _ _ (by decide) q2,hk _ _ _ (by decide) q3,q4,q5,q6,hk _ _ _ (by decide) q7,q8,q9,q10⟩
theorem WrC.grow {p G G':Hp} (hg:Grow G G') {bm bw bo bc bwr:Nat} {m:Mt} {l:List Int} {ws:List ByteArray} {os:List (Int × Int)} (h:WrC p G bm bw bo bc bwr m l ws os):WrC p G' bm bw bo bc bwr m l ws os:=by
 obtain ⟨⟨w,pv,h1,h2⟩,⟨cv,h3,h4⟩,h5,h6⟩:=h
 exact ⟨⟨w,pv,h1,moRd.grow hg h2⟩,⟨cv,h3,h4.grow hg⟩,h5,h6⟩
structure WrI (p0 p G:Hp) (bm bw bo bc bwr b1 b2 b3:Nat) (m:Mt) (l:List Int) (at_ num:Int) (oa:Option Addr) (on oc:Nat) (ws:List ByteArray) (os:List (Int × Int)):Prop where
 c:WrC p G bm bw bo bc bwr m l ws os
 a:p b1 = some (.cells #[I at_] 3 (0,0))
 n:p b3 = some (.cells #[I num] 3 (0,0))
 o:p b2 = some (.cells #[.slice oa on oc] 22 (0,0))
 l:SlR strE.k strE.R G oa on oc (wOf m num)
 r:0≤at_∧at_≤(wOf m num).length
 g:∀ s∈ws,GoodW s
 k:KeepHp (FW2 p0 bw bo) p0 p
theorem WrI.grow {p0 p G G':Hp} (hg:Grow G G') {bm bw bo bc bwr b1 b2 b3:Nat} {m:Mt} {l:List Int} {at_ num:Int} {oa:Option Addr} {on oc:Nat} {ws:List ByteArray} {os:List (Int × Int)} (h:WrI p0 p G bm bw bo bc bwr b1 b2 b3 m l at_ num oa on oc ws os):WrI p0 p G' bm bw bo bc bwr b1 b2 b3 m l at_ num oa on oc ws os :=
 ⟨h.c.grow hg,h.a,h.n,h.o,SlR.grow (G:=G) (G':=G') (fun _ _ h=>h) h.l hg,h.r,h.g,h.k⟩
theorem WrI.cp {p0 p G p':Hp} {bm bw bo bc bwr b1 b2 b3:Nat} {m:Mt} {l:List Int} {at_ num:Int} {oa:Option Addr} {on oc:Nat} {ws:List ByteArray} {os:List (Int × Int)} (h:WrI p0 p G bm bw bo bc bwr b1 b2 b3 m l at_ num oa on oc ws os) (hok:MtOk m) (d1:b1≠b3) (d2:bw≠b2) (hn:p0 b1 = none)
  (hq:CpQ b1 bw b2 bo b3 (wOf m num) ws p p'):∃ at' ws' os',WrI p0 p' G bm bw bo bc bwr b1 b2 b3 m l at' num oa on oc ws' os'∧ws'.length≤ws.length + 60:=by
 obtain ⟨at',ws',os',e1,e2,e3,e4,e5,e6⟩:=hq
 obtain ⟨⟨w,pv,h1,h2⟩,⟨cv,h3,h4⟩,h5,h6⟩:=h.c
 obtain ⟨yw,hyw⟩:=h6.bw
 obtain ⟨yo,hyo⟩:=h6.bo
 refine ⟨at',ws',os',⟨⟨⟨w,pv, ?_,h2⟩,⟨cv, ?_,h4⟩, ?_,e3⟩,e1, ?_, ?_,h.l,e2,fun s hs=>(e5 s hs).elim (h.g s) (wOf_good hok num s),fun b o hf e=>?_⟩,e4⟩
 ·exact fw_off h.a hyw hyo e6 h1 (ne_ty h1 h.a (by decide)) (ne_ty h1 hyw (by decide)) (by decide) (by decide) (by decide)
 ·exact fw_off h.a hyw hyo e6 h3 (ne_ty h3 h.a (by decide)) (ne_ty h3 hyw (by decide)) (by decide) (by decide) (by decide)
 ·exact fw_off h.a hyw hyo e6 h5 (ne_ty h5 h.a (by decide)) (ne_ty h5 hyw (by decide)) (by decide) (by decide) (by decide)
 ·exact fw_off h.a hyw hyo e6 h.n d1.symm (ne_ty h.n hyw (by decide)) (by decide) (by decide) (by decide)
 ·exact fw_off h.a hyw hyo e6 h.o (ne_ty h.o h.a (by decide)) d2.symm (by decide) (by decide) (by decide)
 ·have e1:=h.k b o hf e
  refine e6 b o (fun hf'=>hf ?_) e1
  rcases hf' with q | q | q | ⟨cs,t,q1,q2⟩
  ·subst q;rw [hn] at e;cases e
  ·exact .inl q
  ·exact .inr (.inl q)
  ·rw [e1] at q1;cases q1
   exact .inr (.inr ⟨cs,t,e,q2⟩)
theorem WrI.wr {p0 p G p':Hp} {bm bw bo bc bwr b1 b2 b3:Nat} {m:Mt} {l:List Int} {at_ num:Int} {oa:Option Addr} {on oc:Nat} {ws:List ByteArray} {os:List (Int × Int)} (h:WrI p0 p G bm bw bo bc bwr b1 b2 b3 m l at_ num oa on oc ws os) (d2:bw≠b2) {D:Nat}
  (hq:WrQ bw bo ws D p p'):∃ ws' os',WrI p0 p' G bm bw bo bc bwr b1 b2 b3 m l at_ num oa on oc ws' os'∧ws'.length≤ws.length + D:=by
 obtain ⟨ws',os',e3,e4,e5,e6⟩:=hq
 obtain ⟨⟨w,pv,h1,h2⟩,⟨cv,h3,h4⟩,h5,h6⟩:=h.c
 obtain ⟨yw,hyw⟩:=h6.bw
 obtain ⟨yo,hyo⟩:=h6.bo
 refine ⟨ws',os',⟨⟨⟨w,pv, ?_,h2⟩,⟨cv, ?_,h4⟩, ?_,e3⟩, ?_, ?_, ?_,h.l,h.r,e5,keep_trans h.k e6⟩,e4⟩
 ·exact fw2_off hyo e6 h1 (ne_ty h1 hyw (by decide)) (by decide) (by decide) (by decide)
 ·exact fw2_off hyo e6 h3 (ne_ty h3 hyw (by decide)) (by decide) (by decide) (by decide)
 ·exact fw2_off hyo e6 h5 (ne_ty h5 hyw (by decide)) (by decide) (by decide) (by decide)
 ·exact fw2_off hyo e6 h.a (ne_ty h.a hyw (by decide)) (by decide) (by decide) (by decide)
 ·exact fw2_off hyo e6 h.n (ne_ty h.n hyw (by decide)) (by decide) (by decide) (by decide)
 ·exact fw2_off hyo e6 h.o d2.symm (by decide) (by decide) (by decide)
theorem WrI.at {p0 p G:Hp} {bm bw bo bc bwr b1 b2 b3:Nat} {m:Mt} {l:List Int} {at_ num:Int} {oa:Option Addr} {on oc:Nat} {ws:List ByteArray} {os:List (Int × Int)} (h:WrI p0 p G bm bw bo bc bwr b1 b2 b3 m l at_ num oa on oc ws os) (d1:b1≠b3) (hn:p0 b1 = none) {at':Int} (hr:0≤at'∧at'≤(wOf m num).length) :
  WrI p0 (upd p b1 (some (.cells #[I at'] 3 (0,0)))) G bm bw bo bc bwr b1 b2 b3 m l at' num oa on oc ws os:=by
 have hk:∀ b cs t,t≠3→p b = some (.cells cs t (0,0))→upd p b1 (some (.cells #[I at'] 3 (0,0))) b = some (.cells cs t (0,0)):=fun b cs t ht e=>by
  rw [upd_other _ _ (ne_ty e h.a ht)];exact e
 obtain ⟨⟨w,pv,h1,h2⟩,⟨cv,h3,h4⟩,h5,h6⟩:=h.c
 exact ⟨⟨⟨w,pv,hk _ _ _ (by decide) h1,h2⟩,⟨cv,hk _ _ _ (by decide) h3,h4⟩,hk _ _ _ (by decide) h5,h6.imp hk⟩,upd_same _ _ _,by rw [upd_other _ _ d1.symm];exact h.n,hk _ _ _ (by decide) h.o,h.l,hr,h.g,
  fun b o hf e=>by rw [upd_other _ _ (fun e'=>by subst e';rw [hn] at e;cases e)];exact h.k b o hf e⟩
abbrev wrS (bm bw bo bc bwr:Nat) (m:Mt) (l:List Int) (num:Int) (ws0:List ByteArray) (os0:List (Int × Int)) (D:Nat):PSpec:=.hp (fun args p G=>args = [I num]∧WrC p G bm bw bo bc bwr m l ws0 os0) (fun _ p v p' _=>v = .tuple #[]∧WrQ bw bo ws0 D p p')
set_option maxHeartbeats 4000000 in
theorem write37 {m:Mt} {l:List Int} (hok:MtOk m) (bm bw bo bc bwr:Nat):∀ (f k:Nat),f + k = 12→∀ (num:Int),AtK m k num→∀ (ws0:List ByteArray) (os0:List (Int × Int)),ws0.length + wB f≤8000000000000→(∀ s∈ws0,GoodW s) →
  Sound Tryz.prog 37 (fun args=>(#[]:Array Value).toList++args++(#[bptr bm,bptr bw,bptr bo,bptr bc,bptr bwr]:Array Value).toList) (wrS bm bw bo bc bwr m l num ws0 os0 (wB f))
 | 0,k,hk,num,hat,_,_,_,_=>absurd (atK_le hok hat) (by omega)
 | f + 1,k,hk,num,hat,ws0,os0,hlen,hgw=>by
  have ih:=write37 (l:=l) hok bm bw bo bc bwr f (k + 1) (by omega)
  have hnr:inR .i64 num:=by
   cases k with
   | zero=>rw [show num = 0 from hat];simp only [inR];omega
   | succ k =>
    obtain ⟨_,p,hp,e,_⟩:=id hat
    have:=hok.num p hp
    simp only [inR];omega
  refine comp37.hp (Tab.nil _) (fun args p G h=>?_) (fun args p v p' G G' hg h=>h) (fun args p0 G h=>?_)
  ·obtain ⟨rfl,_⟩:=h;simp
  ·obtain ⟨rfl,⟨w,pv,cm,hm⟩,⟨cv,cc,hcv⟩,cf,cw⟩:=h
   obtain ⟨w',a,n,c,e,hw,hl,hn,hp⟩:=id hm
   simp only [Value.agg.injEq,Array.mk.injEq,List.cons.injEq,and_true] at e
   obtain ⟨rfl,rfl⟩:=e
   obtain ⟨wa,wn,wc,rfl,_⟩:=id hw
   obtain ⟨ca,cn,cc',rfl,_⟩:=id hcv
   (conv=>whnf)
   refine RdhP.h (ds:=[.slice wa wn wc, .slice a n c]) cm rfl (W.mk ?_)
   (conv=>whnf)
   refine CallH.mk _ words38 body38 (W.mk ?_)
   (conv=>whnf)
   refine RelP.g (ok2 moRd intRd fun m x=>numOk m∧inR .i64 x) (x:=(m,num)) ⟨_,_,rfl,hm,rfl,numOk' m hok,hnr⟩ (Grow.refl _) (fun v G1 hg1 hq=>W.mk ?_)
   obtain ⟨oa,on,oc,rfl,hol,hob⟩:=id hq
   (conv=>whnf)
   refine NewP.mk (fun b1 hb1=>W.mk ?_)
   (conv=>whnf)
   refine NewP.mk (fun b2 hb2=>W.mk ?_)
   (conv=>whnf)
   refine NewP.mk (fun b3 hb3=>W.mk ?_)
   (conv=>whnf)
   obtain ⟨p1,hp1⟩:∃ p1,p1 = upd (upd (upd p0 b1 (some (.cells #[I 0] 3 (0,0)))) b2 (some (.cells #[.slice oa on oc] 22 (0,0)))) b3 (some (.cells #[I num] 3 (0,0))):=⟨_,rfl⟩
   have d21:b2≠b1:=fun e=>by rw [e,upd_same] at hb2;cases hb2
   have d32:b3≠b2:=fun e=>by rw [e,upd_same] at hb3;cases hb3
   have d31:b3≠b1:=fun e=>by rw [e,upd_other _ _ d21.symm,upd_same] at hb3;cases hb3
   rw [upd_other _ _ d21] at hb2
   rw [upd_other _ _ d32,upd_other _ _ d31] at hb3
   have hup:∀ b o,p0 b = some o→p1 b = some o:=fun b o e=>by
    rw [hp1,upd_other _ _ (fun e'=>by subst e';rw [hb3] at e;cases e),upd_other _ _ (fun e'=>by subst e';rw [hb2] at e;cases e),upd_other _ _ (fun e'=>by subst e';rw [hb1] at e;cases e)];exact e
   have dw:bw≠b2:=fun e=>by
    obtain ⟨y,hy⟩:=cw.bw
    rw [e,hb2] at hy;cases hy
   have hWI:WrI p0 p1 G1 bm bw bo bc bwr b1 b2 b3 m l 0 num oa on oc ws0 os0:=by
    refine ⟨⟨⟨_,_,hup _ _ cm,moRd.grow hg1 hm⟩,⟨_,hup _ _ cc,hcv.grow hg1⟩,hup _ _ cf,cw.imp fun b cs t _ e=>hup _ _ e⟩, ?_, ?_, ?_,hol,⟨Int.le_refl _,by omega⟩,hgw,fun b o _ e=>hup b o e⟩
    ·rw [hp1,upd_other _ _ d31.symm,upd_other _ _ d21.symm,upd_same]
    ·rw [hp1,upd_same]
    ·rw [hp1,upd_other _ _ d32.symm,upd_same]
   refine RdhP.h (ds:=[.slice wa wn wc, .slice a n c]) (t:=38) (by rw [← hp1];exact hup _ _ cm) rfl (W.mk ?_)
   (conv=>whnf)
   refine RdhP.h (ds:=[I num]) (t:=3) (by rw [← hp1];exact hWI.n) rfl (W.mk ?_)
   (conv=>whnf)
   refine CallH.mk _ am40 body40 (W.mk ?_)
   (conv=>whnf)
   refine RelP.g (ok2 moRd intRd fun m _=>MtOk m) (x:=(m,num)) ⟨_,_,rfl,moRd.grow hg1 hm,rfl,hok⟩ (Grow.refl _) (fun v G2 hg2 hq2=>W.mk ?_)
   obtain ⟨bm',bn',rfl,hai⟩:=hq2
   obtain ⟨L,hL⟩:=amL_ex hok num
   have hLc:=amL_ch hok hat hL
   (conv=>whnf)
   refine RangeP.of (L.map fun c=>[pcV c]) { α:=Nat × Hp × Int × List ByteArray × List (Int × Int),fr:=[(1, .v (bptr bm)),(2, .v (bptr bw)),(3, .v (bptr bo)),(4, .v (bptr bc)),(5, .v (bptr bwr)),(6, .v (bptr b3)),(7, .v (bptr b2)),(8, .v (bptr b1)),(9, .c (.ptr 1009 0))],k:=fun z=>z.1,H:=fun z=>[(0, .heap z.2.1),(1009, .cells .anon [.val (.func (.func 39) #[] #[bptr b1,bptr bw,bptr b2,bptr bo,bptr b3])] 112)],ok:=fun z G'=>z.1≤L.length∧WrI p0 z.2.1 G' bm bw bo bc bwr b1 b2 b3 m l z.2.2.1 num oa on oc z.2.2.2.1 z.2.2.2.2∧z.2.2.2.1.length≤ws0.length + z.1 * (60 + wB f) }
    (0,p1,0,ws0,os0) (SoundFn.of body68 (am68 bm' bn')) (fun l'=>⟨rfl,m,num,L,hok,hai,hL,rfl⟩) (fun y hy=>by obtain ⟨c,_,rfl⟩:=List.mem_map.1 hy;rfl) rfl (HeadP.of [] ⟨rfl,rfl,rfl,rfl,rfl,rfl,rfl,rfl,rfl,trivial⟩ ⟨by rw [hp1];rfl,rfl,trivial⟩) ⟨Nat.zero_le _,hWI.grow hg2,by simp⟩ ⟨rfl,fun _=>rfl⟩
    (fun z G' G'' hg' hz=>⟨hz.1,hz.2.1.grow hg',hz.2.2⟩) (fun z y G3 hg3 hz hy=>W.mk ?_) (fun z G3 hg3 hz hk3=>W.mk ?_)
   ·obtain ⟨i,p,at1,ws,os⟩:=z
    obtain ⟨z1,z2,z3⟩:=hz
    dsimp only at z1 z2 z3 hy
    rw [List.getElem?_map] at hy
    obtain ⟨c,hc,hce⟩:=Option.map_eq_some_iff.1 hy
    subst hce
    clear hy
    dsimp only
    have hci:=(List.getElem?_eq_some_iff.1 hc).1
    obtain ⟨q,hqm,hqo,hqc⟩:=(hL.mem c).1 (List.mem_of_getElem? hc)
    have hcr:=hok.rng q hqm
    have hcn:=hok.num q hqm
    have hch:=atK_child hok hat hqm hqo
    rw [hqo, ← hqc] at hcr
    rw [← hqc] at hcn hch
    have hstep:(i + 1) * (60 + wB f)≤chB k * (60 + wB f):=Nat.mul_le_mul_right _ (by omega)
    have hwb:wB (f + 1) = 60 + chB k * (60 + wB f):=by rw [wB,show 11 - f = k by omega]
    have hsm:(i + 1) * (60 + wB f) = i * (60 + wB f) + (60 + wB f):=Nat.succ_mul i (60 + wB f)
    have hownl:=wOf_len hok num
    obtain ⟨ka,kn,kc,hcc,hccv⟩:∃ a n c',p bc = some (.cells #[.slice a n c'] 30 (0,0))∧SlV intE G3 (.slice a n c') l:=by
     obtain ⟨cv,e1,e2⟩:=z2.c.c
     obtain ⟨a,n,c',rfl,e3⟩:=id e2
     exact ⟨a,n,c',e1,e2⟩
    (conv=>whnf)
    refine RdhP.h (ds:=[.slice ka kn kc]) hcc rfl (W.mk ?_)
    (conv=>whnf)
    refine CallH.mk _ contains41 body41 (W.mk ?_)
    (conv=>whnf)
    refine ScaP.g (ok2 (slRd intE) intRd fun _ _=>True) (x:=(l,c.n)) ⟨_,_,rfl,hccv,rfl,trivial⟩ (fun v hv=>W.mk ?_)
    subst hv
    (conv=>whnf)
    refine ForkP.mk (fun hb=>W.mk ?_) (fun hb=>W.mk ?_)<;>(conv=>whnf)
    ·refine CallvP.fn _ (SoundFn.of body39 (copied39 b1 bw b2 bo b3 d31.symm dw c.fr at1 num oa on oc (wOf m num) ws os z2.r (by omega) hownl (by omega))) (W.mk ?_)
     (conv=>whnf)
     refine HpcP.mk ⟨rfl,z2.a,z2.n,z2.o,z2.l,z2.c.w⟩ (fun v p2 G4 hg4 hq4=>W.mk ?_)
     obtain ⟨rfl,hq4⟩:=hq4
     obtain ⟨at2,ws2,os2,y2,y3⟩:=z2.cp hok d31.symm dw hb1 hq4
     replace y2:=y2.grow hg4
     (conv=>whnf)
     refine RdhP.h (ds:=[wrFn bm bw bo bc bwr]) y2.c.f rfl (W.mk ?_)
     (conv=>whnf)
     refine CallvP.fn _ (SoundFn.of body37 (ih c.n hch ws2 os2 (by omega) y2.g)) (W.mk ?_)
     (conv=>whnf)
     refine HpcP.mk ⟨rfl,y2.c⟩ (fun v p3 G5 hg5 hq5=>W.mk ?_)
     obtain ⟨rfl,hq5⟩:=hq5
     obtain ⟨ws3,os3,x2,x3⟩:=y2.wr dw hq5
     replace x2:=x2.grow hg5
     (conv=>whnf)
     refine HpkP.mk ⟨_,3,x2.a,W.mk ?_⟩
     (conv=>whnf)
     refine OblP.mk (Nat.le_refl 1) (W.mk ?_)
     (conv=>whnf)
     exact RoundR.of (i + 1,_,c.to,ws3,os3) [] ⟨rfl,rfl,trivial⟩ ⟨hci,x2.at d31.symm hb1 (by omega),by show ws3.length≤ws0.length + (i + 1) * (60 + wB f);omega⟩ rfl
    ·exact RoundR.of (i + 1,p,at1,ws,os) [] ⟨rfl,rfl,trivial⟩ ⟨hci,z2,by show ws.length≤ws0.length + (i + 1) * (60 + wB f);omega⟩ rfl
   ·obtain ⟨i,p,at1,ws,os⟩:=z
    obtain ⟨z1,z2,z3⟩:=hz
    dsimp only at z1 z2 z3 hk3
    dsimp only
    rw [List.length_map] at hk3
    have hstep:i * (60 + wB f)≤chB k * (60 + wB f):=Nat.mul_le_mul_right _ (by omega)
    have hwb:wB (f + 1) = 60 + chB k * (60 + wB f):=by rw [wB,show 11 - f = k by omega]
    have hownl:=wOf_len hok num
    (conv=>whnf)
    refine RdhP.h (ds:=[.slice oa on oc]) z2.o rfl (W.mk ?_)
    (conv=>whnf)
    refine CallvP.fn _ (SoundFn.of body39 (copied39 b1 bw b2 bo b3 d31.symm dw on at1 num oa on oc (wOf m num) ws os z2.r (by have:=z2.l.len;omega) hownl (by omega))) (W.mk ?_)
    (conv=>whnf)
    refine HpcP.mk ⟨rfl,z2.a,z2.n,z2.o,z2.l,z2.c.w⟩ (fun v p2 G4 hg4 hq4=>W.mk ?_)
    obtain ⟨rfl,hq4⟩:=hq4
    obtain ⟨at2,ws2,os2,y2,y3⟩:=z2.cp hok d31.symm dw hb1 hq4
    (conv=>whnf)
    refine NmP.mk ⟨[],W.mk ?_⟩
    (conv=>whnf)
    exact FinHp.of rfl ⟨rfl,ws2,os2,y2.c.w,by omega,y2.g,y2.k⟩
end Go.Proofs.YtefnikpoimaiiaaGreat

namespace Go.Pal
open Go.RowKit
section
variable {P:Program}
def LentNs (p:Hp):List LE→List LB→Prop
 | [],ns=>ns = []
 | x :: r,ns=>match ns with
  | n :: ns'=>p x.b = some n.obj∧n.one∧x.lb.alike n∧LentNs p r ns'
  | []=>False
theorem lentNs_in {p:Hp}:∀ {ls:List LE} {ns:List LB},LentNs p ls ns→∀ x∈ls, ∃ n,p x.b = some (LB.obj n)
 | [],_,_,x,hx=>by cases hx
 | y :: r,[],h,x,hx=>h.elim
 | y :: r,n :: ns,h,x,hx=>by
  obtain ⟨h1,_,_,h4⟩:=h
  rcases List.mem_cons.1 hx with rfl | hx
  ·exact ⟨n,h1⟩
  ·exact lentNs_in h4 x hx
theorem lentTo_of {p:Hp} {W':World} (hp:∀ b o,p b = some o→W'.heap[b]? = some o):∀ {ls:List LE} {ns:List LB},(∀ x∈ls,x.w = true)→LentNs p ls ns→LentTo W' ls ns
 | [],_,_,h=>h
 | y :: r,[],_,h=>h.elim
 | y :: r,n :: ns,hw,h=>by
  obtain ⟨h1,h2,h3,h4⟩:=h
  simp only [LentTo,hw y List.mem_cons_self]
  exact ⟨hp _ _ h1,h2,h3,lentTo_of hp (fun x hx=>hw x (List.mem_cons_of_mem _ hx)) h4⟩
theorem lentHp_some {ls:List LE} {b:Nat} {o:Obj} (h:lentHp ls b = some o):∃ x∈ls,x.b = b∧o = x.lb.obj:=by
 unfold lentHp at h
 obtain ⟨x,hx,rfl⟩:=Option.map_eq_some_iff.1 h
 exact ⟨x,List.mem_of_find?_eq_some hx,by simpa using List.find?_some hx,rfl⟩
theorem lentHp_at:∀ {ls:List LE},(ls.map (·.b)).Nodup→∀ x∈ls,lentHp ls x.b = some x.lb.obj
 | y :: r,hn,x,hx=>by
  obtain ⟨h1,h2⟩:=List.nodup_cons.1 hn
  rcases List.mem_cons.1 hx with rfl | hx
  ·simp [lentHp]
  ·have hne:y.b≠x.b:=fun e=>h1 (List.mem_map.2 ⟨x,hx,e.symm⟩)
   have:=lentHp_at h2 x hx
   unfold lentHp at this ⊢
   rw [List.find?_cons_of_neg (by simpa using hne)]
   exact this
theorem Sound.hpSt {f:FuncId} {sh:List Value→List Value} {pre:List Value→Hp→Hp→Prop} {post:List Value→Hp→Value→Hp→Hp→Prop} {pre':List Value→List LE→Hp→Prop} {post':List Value→List LE→Value→List LB→Hp→Prop} (hs:Sound P f sh (.hp pre post))
  (h1:∀ args ls G,(ls.map (·.b)).Nodup→pre' args ls G→(∀ x∈ls,x.w = true)∧pre args (lentHp ls) G)
  (h2:∀ args ls G v p' G' G'',(ls.map (·.b)).Nodup→pre' args ls G→post args (lentHp ls) v p' G'→Grow G G'→Grow G' G''→(∀ b o,(¬ ∃ x∈ls,x.b = b)→p' b = some o→G'' b = some o)→∃ ns,LentNs p' ls ns∧post' args ls v ns G'')
  (hm:∀ args ls v ns G G',Grow G G'→post' args ls v ns G→post' args ls v ns G'):Sound P f sh (.st pre' post'):=by
 refine ⟨hm,fun args ls G W hsub hls hnd hpre=>?_⟩
 obtain ⟨hw,hpre1⟩:=h1 args ls G hnd hpre
 have hdom:∀ b,(∃ o,lentHp ls b = some o)↔∃ x∈ls,x.b = b:=fun b=>⟨fun ⟨o,h⟩=>let ⟨x,h1,h2,_⟩:=lentHp_some h;⟨x,h1,h2⟩,fun ⟨x,h1,h2⟩=>⟨_,h2 ▸ lentHp_at hnd x h1⟩⟩
 refine (hs.2 args (lentHp ls) G W hsub (fun b o h=>?_) hpre1).mono ?_
 ·obtain ⟨x,hx,rfl,rfl⟩:=lentHp_some h
  exact ⟨(hls x hx).1,(hls x hx).2.1⟩
 rintro e W' ⟨v,p',G',rfl,hq,hp',hg,hs',hn,hB⟩
 let p2:Hp:=fun b=>if (ls.any fun x=>decide (x.b = b)) = true then none else p' b
 have hp2:∀ b o,p2 b = some o→p' b = some o∧¬ ∃ x∈ls,x.b = b:=fun b o h=>by
  by_cases hc:(ls.any fun x=>decide (x.b = b)) = true
  ·have:p2 b = none:=if_pos hc
   rw [this] at h;cases h
  ·have:p2 b = p' b:=if_neg hc
   rw [this] at h
   exact ⟨h,by simpa [List.any_eq_true] using hc⟩
 have hp2i:∀ b o,(¬ ∃ x∈ls,x.b = b)→p' b = some o→p2 b = some o:=fun b o h e=>by
  have:p2 b = p' b:=if_neg (by simpa [List.any_eq_true] using h)
  rw [this];exact e
 have d:Disj p2 G':=fun b o e=>(hp' b o (hp2 b o e).1).2.1
 have ho:=over_union d
 obtain ⟨ns,hns,hpost⟩:=h2 args ls G v p' G' (unionHp p2 G') hnd hpre hq hg ho.1 (fun b o h1 h2=>ho.2.1 b o (hp2i b o h1 h2))
 refine ⟨v,ns,unionHp p2 G',rfl,hpost,lentTo_of (fun b o e=>(hp' b o e).1) hw hns,hg.trans ho.1,ho.sub hs' (fun b o e=>(hp' b o (hp2 b o e).1).1),fun b o e=>?_,⟨hB.os,hB.tape,hB.output,hB.size,fun k hk hnk=>hB.block k hk fun h=>hnk ?_⟩⟩
 ·rcases ho.2.2 b o e with h | h
  ·rcases hn b o h with h | h | h
   ·exact .inl h
   ·obtain ⟨x,hx,rfl⟩:=(hdom b).1 h
    obtain ⟨n,hn'⟩:=lentNs_in hns x hx
    have:=(hp' _ _ hn').2.1
    rename_i h0
    rw [this] at h0;cases h0
   ·exact .inr h
  ·obtain ⟨h3,h4⟩:=hp2 b o h
   rcases (hp' b o h3).2.2 with h | h
   ·exact absurd ((hdom b).1 h) h4
   ·exact .inr h
 ·obtain ⟨x,hx,e⟩:=(hdom k).1 h
  exact ⟨x,hx,hw x hx,e⟩
end
end Go.Pal

namespace Go.Proofs.YtefnikpoimaiiaaGreat
open Go.Pal Go.RowKit
set_option maxRecDepth 100000
abbrev wrLs (bm bw bo bc bwr:Nat) (w pv cv:Value):List LE:=[⟨bm,true, .cells [w,pv] 38⟩,⟨bw,true, .cells [.slice none 0 0] 22⟩,⟨bo,true, .cells [.slice none 0 0] 32⟩,⟨bc,true, .cells [cv] 30⟩,⟨bwr,true, .cells [wrFn bm bw bo bc bwr] 112⟩]
def TxQ (G:Hp) (sw:Value):Prop:=∃ ws,SlV strE G sw ws∧(∀ s∈ws,GoodW s)∧ws.length≤8000000000000
theorem TxQ.grow {G G':Hp} (hg:Grow G G') {sw:Value} (h:TxQ G sw):TxQ G' sw:=let ⟨ws,h1,h2⟩:=h;⟨ws,h1.grow hg,h2⟩
theorem Wr.tx {p G:Hp} {bw bo:Nat} {ws:List ByteArray} {os:List (Int × Int)} (h:Wr p bw bo ws os) (hg:∀ s∈ws,GoodW s) (hn:ws.length≤8000000000000) (hG:∀ b cs,p b = some (.cells cs 9 (0,0))→G b = some (.cells cs 9 (0,0))) :
  ∃ sw oa on oc,p bw = some (.cells #[sw] 22 (0,0))∧p bo = some (.cells #[.slice oa on oc] 32 (0,0))∧sw.oneCell' = true∧TxQ G sw:=by
 rcases h.x with ⟨rfl,h1,h2⟩ | ⟨b,c,r,b',c',r',q0,q1,q2,q3,q4,q5,q6,q7,q8,q9,q10⟩
 ·exact ⟨_,_,_,_,h1,h2,rfl,[],SlV.nil,(fun s hs=>by cases hs),Nat.zero_le _⟩
 ·refine ⟨_,_,_,_,q1,q2,rfl,ws, ?_,hg,hn⟩
  have hr:RowH strE 9 (upd (fun _=>none) b (some (.cells (flat strE ws++r).toArray 9 (0,0)))) (.slice (some ⟨b,0,none⟩) ws.length c) ws:=.inr ⟨b,c,r,rfl,upd_same _ _ _,q4,q5,q6⟩
  refine hr.slV (fun k o e=>?_) (by omega)
  by_cases hk:k = b
  ·subst hk
   rw [upd_same] at e;cases e
   exact hG _ _ q3
  ·rw [upd_other _ _ hk] at e;cases e
theorem write37s {m:Mt} {l:List Int} (hok:MtOk m) (bm bw bo bc bwr:Nat) :
  Sound Tryz.prog 37 (fun args=>(#[]:Array Value).toList++args++(#[bptr bm,bptr bw,bptr bo,bptr bc,bptr bwr]:Array Value).toList)
   (.st (fun args ls G=>args = [I 0]∧∃ w pv cv,ls = wrLs bm bw bo bc bwr w pv cv∧MoV G (.agg #[w,pv]) m∧SlV intE G cv l)
    fun _ ls v ns G=>v = .tuple #[]∧∃ w pv cv sw oa on oc,ls = wrLs bm bw bo bc bwr w pv cv∧ns = [.cells [w,pv] 38, .cells [sw] 22, .cells [.slice oa on oc] 32, .cells [cv] 30, .cells [wrFn bm bw bo bc bwr] 112]∧TxQ G sw):=by
 refine (write37 (l:=l) hok bm bw bo bc bwr 12 0 rfl 0 rfl [] [] (by have:=wB_top;simp only [List.length_nil];omega) (fun s hs=>by cases hs)).hpSt ?_ ?_ ?_
 ·rintro args ls G hnd ⟨rfl,w,pv,cv,rfl,hm,hc⟩
  have at_:=fun x hx=>lentHp_at hnd x hx
  refine ⟨by simp,rfl,⟨w,pv,at_ ⟨bm,true, .cells [w,pv] 38⟩ (by simp),hm⟩,⟨cv,at_ ⟨bc,true, .cells [cv] 30⟩ (by simp),hc⟩,at_ ⟨bwr,true, .cells [wrFn bm bw bo bc bwr] 112⟩ (by simp),rfl, .inl ⟨rfl,at_ ⟨bw,true, .cells [.slice none 0 0] 22⟩ (by simp),at_ ⟨bo,true, .cells [.slice none 0 0] 32⟩ (by simp)⟩⟩
 ·rintro args ls G v p' G' G'' hnd ⟨_,w,pv,cv,hls,hm,hc⟩ ⟨rfl,ws,os,hw,hlen,hgood,hk⟩ hg hg' hnew
  subst hls
  have at_:=fun x hx=>lentHp_at hnd x hx
  have k1:=at_ ⟨bm,true, .cells [w,pv] 38⟩ (by simp)
  have k2:=at_ ⟨bw,true, .cells [.slice none 0 0] 22⟩ (by simp)
  have k3:=at_ ⟨bo,true, .cells [.slice none 0 0] 32⟩ (by simp)
  have k4:=at_ ⟨bc,true, .cells [cv] 30⟩ (by simp)
  have k5:=at_ ⟨bwr,true, .cells [wrFn bm bw bo bc bwr] 112⟩ (by simp)
  have j1:=fw2_off k3 hk k1 (ne_ty k1 k2 (by decide)) (by decide) (by decide) (by decide)
  have j4:=fw2_off k3 hk k4 (ne_ty k4 k2 (by decide)) (by decide) (by decide) (by decide)
  have j5:=fw2_off k3 hk k5 (ne_ty k5 k2 (by decide)) (by decide) (by decide) (by decide)
  obtain ⟨y2,hy2⟩:=hw.bw
  obtain ⟨y3,hy3⟩:=hw.bo
  obtain ⟨sw,oa,on,oc,e1,e2,e3,e5⟩:=hw.tx (G:=G'') hgood (by have:=wB_top;simp only [List.length_nil] at hlen;omega) (fun b cs e=>hnew b _ (fun ⟨x,hx,hb⟩=>by
   subst hb
   simp only [wrLs,List.mem_cons,List.not_mem_nil,or_false] at hx
   rcases hx with rfl | rfl | rfl | rfl | rfl
   ·exact ne_ty e j1 (by decide) rfl
   ·exact ne_ty e hy2 (by decide) rfl
   ·exact ne_ty e hy3 (by decide) rfl
   ·exact ne_ty e j4 (by decide) rfl
   ·exact ne_ty e j5 (by decide) rfl) e)
  obtain ⟨wa,a,wn,c,e,⟨xa,xn,xc,rfl,_⟩,_⟩:=id hm
  simp only [Value.agg.injEq,Array.mk.injEq,List.cons.injEq,and_true] at e
  obtain ⟨rfl,rfl⟩:=e
  obtain ⟨ca,cn,cc,rfl,_⟩:=id hc
  refine ⟨[.cells [.slice xa xn xc, .slice a wn c] 38, .cells [sw] 22, .cells [.slice oa on oc] 32, .cells [.slice ca cn cc] 30, .cells [wrFn bm bw bo bc bwr] 112],⟨j1, ?_,trivial,e1, ?_,trivial,e2, ?_,trivial,j4, ?_,trivial,j5, ?_,trivial,rfl⟩,rfl,_,_,_,sw,oa,on,oc,rfl,rfl,e5⟩
  ·intro u hu;simp only [List.mem_cons,List.not_mem_nil,or_false] at hu;rcases hu with rfl | rfl<;>rfl
  ·intro u hu;rw [List.mem_singleton.1 hu];exact e3
  ·intro u hu;rw [List.mem_singleton.1 hu];rfl
  ·intro u hu;rw [List.mem_singleton.1 hu];rfl
  ·intro u hu;rw [List.mem_singleton.1 hu];rfl
 ·rintro args ls v ns G G' hg ⟨h1,w,pv,cv,sw,oa,on,oc,h2,h3,h4⟩
  exact ⟨h1,w,pv,cv,sw,oa,on,oc,h2,h3,h4.grow hg⟩
theorem Text9:Sound Tryz.prog 9 id (grel chR fun x v G=>∃ sw oa on oc,v = .tuple #[sw, .slice oa on oc,I 0]∧TxQ G sw):=by
 refine comp9.grel (Tab.cons 36 _ check36 body36 (Tab.nil _)) (ok2 _ _ _) (fun args G s h=>?_) (fun x v G G' hg ⟨sw,oa,on,oc,h1,h2⟩=>⟨sw,oa,on,oc,h1,h2.grow hg⟩) (fun args G s h=>?_)
 ·obtain ⟨v,w,rfl,_⟩:=h;simp
 ·obtain ⟨m,l⟩:=s
  obtain ⟨v,w,rfl,hm,hl,hok,hch⟩:=h
  have hm0:=hm
  obtain ⟨w0,a,n,c,rfl,hw,hls,hn,hp⟩:=hm
  obtain ⟨wa,wn,wc,rfl,hwl,hwn⟩:=hw
  obtain ⟨la,ln,lc,rfl,hll,hlb⟩:=id hl
  dsimp only at hm0 hl hll hok hch
  (conv=>whnf)
  refine ScaP.g (ok2 moRd (slRd intE) fun m l=>MtOk m∧ChOk m l) (x:=(m,l)) ⟨_,_,rfl,hm0,hl,hok,hch⟩ (fun v hv=>W.mk ?_)
  subst hv
  (conv=>whnf)
  refine IteP.mk (fun _=>W.mk ?_) (fun h=>absurd rfl h)
  (conv=>whnf)
  refine NameP.mk (fun bm=>W.mk ?_)
  (conv=>whnf)
  refine NameP.mk (fun bw=>W.mk ?_)
  (conv=>whnf)
  refine NameP.mk (fun bo=>W.mk ?_)
  (conv=>whnf)
  refine NameP.mk (fun bc=>W.mk ?_)
  (conv=>whnf)
  refine NameP.mk (fun bwr=>W.mk ?_)
  (conv=>whnf)
  refine CallvP.fn _ (SoundFn.of body37 (write37s (l:=l) hok bm bw bo bc bwr)) (W.mk ?_)
  (conv=>whnf)
  refine StP.mk ⟨[(0,⟨bm,true, .cells [.slice wa wn wc, .slice a n c] 38⟩),(2,⟨bw,true, .cells [.slice none 0 0] 22⟩),(3,⟨bo,true, .cells [.slice none 0 0] 32⟩),(1,⟨bc,true, .cells [.slice la ln lc] 30⟩),(15,⟨bwr,true, .cells [wrFn bm bw bo bc bwr] 112⟩)],
   ⟨⟨_,rfl,rfl⟩,⟨_,rfl,rfl⟩,⟨_,rfl,rfl⟩,⟨_,rfl,rfl⟩,⟨_,rfl,rfl⟩,trivial⟩,by simp,⟨rfl,_,_,_,rfl,hm0,hl⟩,fun v ns G1 hg1 hpost=>W.mk ?_⟩
  obtain ⟨rfl,w,pv,cv,sw,oa,on,oc,e1,rfl,htx⟩:=hpost
  obtain ⟨ws,⟨sa,sn,sc,rfl,hsl⟩,hws⟩:=htx
  simp only [List.map_cons,List.map_nil,wrLs,List.cons.injEq,LE.mk.injEq,LB.cells.injEq,true_and,and_true] at e1
  obtain ⟨⟨rfl,rfl⟩,rfl⟩:=e1
  (conv=>whnf)
  refine DrawP.mk monoT_nil rfl (W.mk ?_)
  (conv=>whnf)
  repeat' (first | (refine ob ?_ ?_;(first | trivial | omega | (simp only [inR];omega) | exact ble (by rfl) | exact SlR.some ‹_› (by omega));(conv=>whnf)) | (first | (refine ra ‹_› (by rfl) ?_;(conv=>whnf)) | (refine rb ‹_› (by rfl) ?_;(conv=>whnf)) | (refine rc ‹_› (by rfl) ?_;(conv=>whnf)) | (refine rd ‹_› (by rfl) ?_;(conv=>whnf))))
  exact FinP.mk ⟨_,_,_,_,rfl,ws,⟨sa,sn,sc,rfl,hsl⟩,hws⟩
end Go.Proofs.YtefnikpoimaiiaaGreat

namespace Go.Proofs.YtefnikpoimaiiaaGreat
open Go.Pal Go.RowKit
set_option maxRecDepth 100000
theorem pur_catS (a b:ByteArray) (h:a.size + b.size≤9223372036854775807):∀ w,((POp.bin .add 9).sem [.string a, .string b]).run Tryz.prog w = .ok (.string (a++b)) w:=fun w=>by
 have e1:(POp.bin .add 9).sem [.string a, .string b] = (do eqGuard .add 9 (.tmp 0) (.tmp 0) (.string a) (.string b);binOp .add 9 (.string a) (.string b)):=rfl
 rw [e1]
 simp only [Sem.run_bind,binOp_string_add]
 have h0:(eqGuard .add 9 (.tmp 0) (.tmp 0) (.string a) (.string b)).run Tryz.prog w = .ok () w:=by simp [eqGuard]
 rw [h0]
 exact run_string_add_sum (P:=Tryz.prog) w a b h
theorem bytes_app (a b:ByteArray):bytesL (a++b) = bytesL a++bytesL b:=by
 simp [bytesL,ByteArray.data_append]
def Plain (s:ByteArray):Prop:=∀ c∈bytesL s,32≤c∧c≤126
theorem Plain.app {a b:ByteArray} (h:Plain a) (h':Plain b):Plain (a++b):=fun c hc=>by
 rw [bytes_app] at hc
 exact (List.mem_append.1 hc).elim (h c) (h' c)
theorem GoodW.plain {s:ByteArray} (h:GoodW s):Plain s:=fun c hc=>by have:=h.b c hc;omega
theorem size_app (a b:ByteArray):(a++b).size = a.size + b.size:=by simp
theorem spaced11:Sound Tryz.prog 11 id (gsca (args1 (slRd strE) fun l=>(∀ s∈l,GoodW s)∧l.length≤8000000000000) fun _ v=>∃ s,v = .string s∧Plain s):=by
 refine comp11.gsca (Tab.nil _) (fun args G s h=>?_) (fun args G l h=>?_)
 ·obtain ⟨v,rfl,_⟩:=h;simp
 ·obtain ⟨v,rfl,⟨a,n,c,rfl,hl,hn⟩,hg,hlen⟩:=h
  have hln:=hl.len
  (conv=>whnf)
  refine LoopP.of { α:=Nat × ByteArray,fr:=fun z=>[(0, .v (.slice a n c)),(3, .v (.string z.2)),(4, .v (I z.1))],H:=fun _=>[],ok:=fun z _=>z.1≤n∧Plain z.2∧z.2.size≤21 * z.1,m:=fun z=>n - z.1 }
   (0,ByteArray.mk (Array.mk [])) (HeadP.of [] ⟨rfl,rfl,rfl,trivial⟩ trivial) ⟨Nat.zero_le _,fun c hc=>by simp [bytesL] at hc,Nat.zero_le _⟩ (fun _=>⟨rfl,rfl⟩) (fun z G' hG hz=>W.mk ?_)
  obtain ⟨i,s⟩:=z
  obtain ⟨k1,k2,k3⟩:=hz
  dsimp only at k1 k2 k3
  dsimp only
  replace hl:=SlR.grow (G:=G) (G':=G') (fun _ _ h=>h) hl hG
  (conv=>whnf)
  refine IteP.mk (fun hlt=>W.mk ?_) (fun hge=>W.mk ?_)<;>(conv=>whnf)
  ·have hlt:i < l.length:=by have hlt:(i:Int) < n:=hlt;omega
   have hel:=hl.el hlt
   have hgi:=hg _ (List.getElem_mem hlt)
   have hgn:=hgi.n
   have hb1:Plain (ByteArray.mk (Array.mk [32])):=fun c hc=>by
    have:c = 32:=by simpa [bytesL] using hc
    omega
   refine IteP.mk (fun h0=>W.mk ?_) (fun h0=>W.mk ?_)<;>(conv=>whnf)
   ·refine PurP.of _ (pur_catS s _ (by show s.size + 1≤_;omega)) (W.mk ?_)
    (conv=>whnf)
    repeat' (first | (refine ob ?_ ?_;(first | trivial | omega | (simp only [inR];omega) | exact ble (by rfl) | exact SlR.some ‹_› (by omega));(conv=>whnf)) | (first | (refine ra ‹_› (by rfl) ?_;(conv=>whnf)) | (refine rb ‹_› (by rfl) ?_;(conv=>whnf)) | (refine rc ‹_› (by rfl) ?_;(conv=>whnf)) | (refine rd ‹_› (by rfl) ?_;(conv=>whnf))))
    refine PurP.of _ (pur_catS _ l[i] (by rw [size_app];show s.size + 1 + _≤_;omega)) (W.mk ?_)
    (conv=>whnf)
    (refine ob ?_ ?_;(first | trivial | omega | (simp only [inR];omega) | exact ble (by rfl) | exact SlR.some ‹_› (by omega));(conv=>whnf))
    exact RoundP.of (i + 1,_) (HeadP.of [] ⟨rfl,rfl,rfl,trivial⟩ trivial) ⟨by show i + 1≤n;omega,(k2.app hb1).app hgi.plain,by show (_:ByteArray).size≤21 * (i + 1);rw [size_app,size_app];show s.size + 1 + _≤_;omega⟩ (by show n - (i + 1) < n - i;omega)
   ·repeat' (first | (refine ob ?_ ?_;(first | trivial | omega | (simp only [inR];omega) | exact ble (by rfl) | exact SlR.some ‹_› (by omega));(conv=>whnf)) | (first | (refine ra ‹_› (by rfl) ?_;(conv=>whnf)) | (refine rb ‹_› (by rfl) ?_;(conv=>whnf)) | (refine rc ‹_› (by rfl) ?_;(conv=>whnf)) | (refine rd ‹_› (by rfl) ?_;(conv=>whnf))))
    refine PurP.of _ (pur_catS s l[i] (by omega)) (W.mk ?_)
    (conv=>whnf)
    (refine ob ?_ ?_;(first | trivial | omega | (simp only [inR];omega) | exact ble (by rfl) | exact SlR.some ‹_› (by omega));(conv=>whnf))
    exact RoundP.of (i + 1,_) (HeadP.of [] ⟨rfl,rfl,rfl,trivial⟩ trivial) ⟨by show i + 1≤n;omega,k2.app hgi.plain,by show (_:ByteArray).size≤21 * (i + 1);rw [size_app];omega⟩ (by show n - (i + 1) < n - i;omega)
  ·exact FinP.mk ⟨s,rfl,k2⟩
end Go.Proofs.YtefnikpoimaiiaaGreat
