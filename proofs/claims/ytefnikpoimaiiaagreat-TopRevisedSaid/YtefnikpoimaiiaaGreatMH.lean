/- TopRevised: the reference's fault of a motion. TopRevised: the law: papers are adopted, one a day. TopRevised: all, ContainsFunc, IndexFunc of errata, paragraphs and bytes, for any test. (printed by a program of mine) TopRevised: volume's tests, where all is right; a volume of one part; its paragraphs; its error: none. TopRevised: errata that rise are issued in their order. TopRevised: errata are right; their anchors are there; no error. TopRevised: an edition in the own heap: found, changed. TopRevised: the edition after errata. TopRevised: the edition published; Read. TopRevised: what is printed; Print. TopRevised: Print; a page. TopRevised: that it binds. -/
import Derived.Test.YtefnikpoimaiiaaGreatMF
import Derived.Test.YtefnikpoimaiiaaGreatMG
import Derived.Test.YtefnikpoimaiiaaGreatME
set_option linter.unusedSimpArgs false
set_option linter.unusedVariables false
namespace Go.Proofs.YtefnikpoimaiiaaGreat
open Go.Pal Go.RowKit
set_option maxRecDepth 100000
def GoodL (l:List ByteArray):Prop:=∀ s∈l,GoodW s
def OfOk (m:Mt) (x:Int):Prop:=x = 0∨∃ q,pOf m x = some q
theorem ofOk_ix {m:Mt} {x:Int} (h:¬ ixF m.ps x < 0):OfOk m x:=by
 rcases ixF_cases m.ps x with ⟨h1,_⟩ | ⟨i,hi,_,_,h3⟩
 ·rw [h1] at h;exact absurd (by decide) h
 ·exact .inr ⟨_,h3⟩
def tabF6:Tab Tryz.prog:=Tab.cons 30 _ words30 body30 (Tab.cons 31 _ in31 body31 (Tab.cons 12 _ find12 body12 (Tab.cons 32 _ of32 body32 (Tab.nil _))))
set_option maxHeartbeats 4000000 in
theorem fault6:Sound Tryz.prog 6 id (gsca (args1 moRd fun _=>True) fun m v=>∃ e,v = I e∧(e = 0→MtOk m)):=by
 refine comp6.gsca tabF6 (fun args G s h=>?_) (fun args G m h=>?_)
 ·obtain ⟨v,rfl,_⟩:=h;simp
 ·obtain ⟨v,rfl,hm,_⟩:=h
  have hm0:=hm
  obtain ⟨w0,a,n,c,rfl,hw,hl,hn,hp⟩:=hm0
  have hln:=hl.len
  have hcl:m.cs.length = m.ps.length:=by simp
  obtain ⟨wa,wn,wc,rfl,hwl,hwn⟩:=id hw
  have hwln:=hwl.len
  clear hwl
  change MoV G _ m at hm
  (conv=>whnf)
  refine IteP.mk (fun h10=>W.mk ?_) (fun h10=>W.mk ?_)<;>(conv=>whnf)
  ·exact FinP.mk ⟨_,rfl,fun h=>absurd h (by decide)⟩
  have h10:¬ (n:Int) > 10:=h10
  refine IteP.mk (fun h60=>W.mk ?_) (fun h60=>W.mk ?_)<;>(conv=>whnf)
  ·exact FinP.mk ⟨_,rfl,fun h=>absurd h (by decide)⟩
  have h60:¬ (wn:Int) > 60:=h60
  refine LoopP.of { α:=Nat × Unit,fr:=fun z=>[(1, .c (.ptr 0 0)),(3, .v (I n)),(4, .v (I z.1))],H:=fun _=>[(0, .cells .anon [.val (.slice wa wn wc), .val (.slice a n c)] 25)],ok:=fun z _=>z.1≤n∧∀ j (h:j < m.ps.length),j < z.1→m.ps[j].ws.length≤60,m:=fun z=>n - z.1 }
   (0,()) (HeadP.of [] ⟨rfl,rfl,rfl,trivial⟩ ⟨rfl,trivial⟩) ⟨Nat.zero_le _,fun j _ h=>absurd h (Nat.not_lt_zero _)⟩ (fun _=>⟨rfl,rfl⟩) (fun z G1 hG hz=>W.mk ?_)
  obtain ⟨i,_⟩:=z
  obtain ⟨k1,k2⟩:=hz
  dsimp only at k1 k2
  dsimp only
  replace hm:=hm.grow hG
  replace hl:=SlR.grow (G:=G) (G':=G1) (fun _ _ h=>h) hl hG
  replace hw:=hw.grow hG
  replace hp:=fun p hpm=>SlV.grow hG (hp p hpm)
  clear hG
  (conv=>whnf)
  refine IteP.mk (fun hlt=>W.mk ?_) (fun hge=>W.mk ?_)<;>(conv=>whnf)
  ·have hlt:i < m.ps.length:=by have hlt:(i:Int) < n:=hlt;omega
   have hel:=hl.el (i:=i) (by omega)
   rw [cs_get hlt] at hel
   refine OblP.mk ⟨by omega,by omega⟩ (W.mk ?_)
   (conv=>whnf)
   refine OblP.mk (hl.some (by omega)) (W.mk ?_)
   (conv=>whnf)
   refine RdP.at (cs:=[m.ps[i].c.sl]) (CellsAt.drop (d:=4) (n:=1) hel) rfl (W.mk ?_)
   (conv=>whnf)
   refine IteP.mk (fun h1=>W.mk ?_) (fun h1=>W.mk ?_)<;>(conv=>whnf)
   ·exact FinP.mk ⟨_,rfl,fun h=>absurd h (by decide)⟩
   have h1:¬ (m.ps[i].c.k:Int) > 60:=h1
   have hk:m.ps[i].ws.length = m.ps[i].c.k:=by
    obtain ⟨_,_,_,e,hs,_⟩:=hp _ (List.getElem_mem hlt)
    cases e;exact hs.len
   (refine ob ?_ ?_;(first | trivial | omega | (simp only [inR];omega) | exact ble (by rfl) | exact SlR.some ‹_› (by omega));(conv=>whnf))
   refine RoundP.of (i + 1,()) (HeadP.of [] ⟨rfl,rfl,rfl,trivial⟩ ⟨rfl,trivial⟩) ⟨by show i + 1≤n;omega,fun j h6 h7=>?_⟩ (by show n - (i + 1) < n - i;omega)
   by_cases e:j = i
   ·subst e;omega
   ·exact k2 j h6 (by have h7:j < i + 1:=h7;omega)
  have hge:¬ (i:Int) < n:=hge
  have hin:∀ j,j < m.ps.length→j < i:=fun j hj=>by omega
  have f1:∀ (j:Nat) (h:j < m.ps.length),m.ps[j].ws.length≤60:=fun j hj=>k2 j hj (hin j hj)
  clear k1 k2 hin
  refine ScaP.g (ok1 (slRd strE) fun _=>True) (x:=m.ws) ⟨_,rfl,hw,trivial⟩ (fun v hv=>W.mk ?_)
  obtain ⟨b,rfl,f2⟩:=hv
  (conv=>whnf)
  refine ForkP.mk (fun h=>W.mk ?_) (fun h=>W.mk ?_)<;>(conv=>whnf)
  rotate_left
  ·exact FinP.mk ⟨_,rfl,fun h=>absurd h (by decide)⟩
  have f2:=f2 h
  refine LoopP.of { α:=Nat × Unit,fr:=fun z=>[(1, .c (.ptr 0 0)),(3, .v (I n)),(5, .v (I z.1))],H:=fun _=>[(0, .cells .anon [.val (.slice wa wn wc), .val (.slice a n c)] 25)],ok:=fun z _=>z.1≤n∧∀ j (h:j < m.ps.length),j < z.1→GoodL m.ps[j].ws,m:=fun z=>n - z.1 }
   (0,()) (HeadP.of [] ⟨rfl,rfl,rfl,trivial⟩ ⟨rfl,trivial⟩) ⟨Nat.zero_le _,fun j _ h=>absurd h (Nat.not_lt_zero _)⟩ (fun _=>⟨rfl,rfl⟩) (fun z G2 hG hz=>W.mk ?_)
  obtain ⟨i,_⟩:=z
  obtain ⟨k1,k2⟩:=hz
  dsimp only at k1 k2
  dsimp only
  replace hm:=hm.grow hG
  replace hl:=SlR.grow (G:=G1) (G':=G2) (fun _ _ h=>h) hl hG
  replace hw:=hw.grow hG
  replace hp:=fun p hpm=>SlV.grow hG (hp p hpm)
  clear hG
  (conv=>whnf)
  refine IteP.mk (fun hlt=>W.mk ?_) (fun hge=>W.mk ?_)<;>(conv=>whnf)
  ·have hlt:i < m.ps.length:=by have hlt:(i:Int) < n:=hlt;omega
   have hel:=hl.el (i:=i) (by omega)
   rw [cs_get hlt] at hel
   refine OblP.mk ⟨by omega,by omega⟩ (W.mk ?_)
   (conv=>whnf)
   refine OblP.mk (hl.some (by omega)) (W.mk ?_)
   (conv=>whnf)
   refine RdP.at (cs:=[m.ps[i].c.sl]) (CellsAt.drop (d:=4) (n:=1) hel) rfl (W.mk ?_)
   (conv=>whnf)
   refine ScaP.g (ok1 (slRd strE) fun _=>True) (x:=m.ps[i].ws) ⟨_,rfl,hp _ (List.getElem_mem hlt),trivial⟩ (fun v hv=>W.mk ?_)
   obtain ⟨b,rfl,hb⟩:=hv
   (conv=>whnf)
   refine ForkP.mk (fun h=>W.mk ?_) (fun h=>W.mk ?_)<;>(conv=>whnf)
   rotate_left
   ·exact FinP.mk ⟨_,rfl,fun h=>absurd h (by decide)⟩
   (refine ob ?_ ?_;(first | trivial | omega | (simp only [inR];omega) | exact ble (by rfl) | exact SlR.some ‹_› (by omega));(conv=>whnf))
   refine RoundP.of (i + 1,()) (HeadP.of [] ⟨rfl,rfl,rfl,trivial⟩ ⟨rfl,trivial⟩) ⟨by show i + 1≤n;omega,fun j h6 h7=>?_⟩ (by show n - (i + 1) < n - i;omega)
   by_cases e:j = i
   ·subst e;exact hb h
   ·exact k2 j h6 (by have h7:j < i + 1:=h7;omega)
  have hge:¬ (i:Int) < n:=hge
  have hin:∀ j,j < m.ps.length→j < i:=fun j hj=>by omega
  have f3:∀ (j:Nat) (h:j < m.ps.length),GoodL m.ps[j].ws:=fun j hj=>k2 j hj (hin j hj)
  clear k1 k2 hin
  refine LoopP.of { α:=Nat × Unit,fr:=fun z=>[(1, .c (.ptr 0 0)),(3, .v (I n)),(6, .v (I z.1))],H:=fun _=>[(0, .cells .anon [.val (.slice wa wn wc), .val (.slice a n c)] 25)],ok:=fun z _=>z.1≤n∧∀ j (h:j < m.ps.length),j < z.1→1≤m.ps[j].c.n∧m.ps[j].c.n≤999,m:=fun z=>n - z.1 }
   (0,()) (HeadP.of [] ⟨rfl,rfl,rfl,trivial⟩ ⟨rfl,trivial⟩) ⟨Nat.zero_le _,fun j _ h=>absurd h (Nat.not_lt_zero _)⟩ (fun _=>⟨rfl,rfl⟩) (fun z G3 hG hz=>W.mk ?_)
  obtain ⟨i,_⟩:=z
  obtain ⟨k1,k2⟩:=hz
  dsimp only at k1 k2
  dsimp only
  replace hm:=hm.grow hG
  replace hl:=SlR.grow (G:=G2) (G':=G3) (fun _ _ h=>h) hl hG
  replace hw:=hw.grow hG
  replace hp:=fun p hpm=>SlV.grow hG (hp p hpm)
  clear hG
  (conv=>whnf)
  refine IteP.mk (fun hlt=>W.mk ?_) (fun hge=>W.mk ?_)<;>(conv=>whnf)
  ·have hlt:i < m.ps.length:=by have hlt:(i:Int) < n:=hlt;omega
   have hel:=hl.el (i:=i) (by omega)
   rw [cs_get hlt] at hel
   refine OblP.mk ⟨by omega,by omega⟩ (W.mk ?_)
   (conv=>whnf)
   refine OblP.mk (hl.some (by omega)) (W.mk ?_)
   (conv=>whnf)
   refine RdP.at (cs:=[I m.ps[i].c.n]) (CellsAt.drop (d:=0) (n:=1) hel) rfl (W.mk ?_)
   (conv=>whnf)
   refine OblP.mk ⟨_,_,_,rfl⟩ (W.mk ?_)
   (conv=>whnf)
   refine ForkP.mk (fun h=>W.mk ?_) (fun h=>W.mk ?_)<;>(conv=>whnf)
   rotate_left
   ·exact FinP.mk ⟨_,rfl,fun h=>absurd h (by decide)⟩
   have h:inF m.ps[i].c.n 1 999 = true:=h
   simp only [inF,decide_eq_true_eq] at h
   (refine ob ?_ ?_;(first | trivial | omega | (simp only [inR];omega) | exact ble (by rfl) | exact SlR.some ‹_› (by omega));(conv=>whnf))
   refine RoundP.of (i + 1,()) (HeadP.of [] ⟨rfl,rfl,rfl,trivial⟩ ⟨rfl,trivial⟩) ⟨by show i + 1≤n;omega,fun j h6 h7=>?_⟩ (by show n - (i + 1) < n - i;omega)
   by_cases e:j = i
   ·subst e;exact h
   ·exact k2 j h6 (by have h7:j < i + 1:=h7;omega)
  have hge:¬ (i:Int) < n:=hge
  have hin:∀ j,j < m.ps.length→j < i:=fun j hj=>by omega
  have f4:∀ (j:Nat) (h:j < m.ps.length),1≤m.ps[j].c.n∧m.ps[j].c.n≤999:=fun j hj=>k2 j hj (hin j hj)
  clear k1 k2 hin
  refine LoopP.of { α:=Nat × Unit,fr:=fun z=>[(1, .c (.ptr 0 0)),(3, .v (I n)),(7, .v (I z.1))],H:=fun _=>[(0, .cells .anon [.val (.slice wa wn wc), .val (.slice a n c)] 25)],ok:=fun z _=>z.1≤n∧∀ j (h:j < m.ps.length),j < z.1→ixF m.ps m.ps[j].c.n = j,m:=fun z=>n - z.1 }
   (0,()) (HeadP.of [] ⟨rfl,rfl,rfl,trivial⟩ ⟨rfl,trivial⟩) ⟨Nat.zero_le _,fun j _ h=>absurd h (Nat.not_lt_zero _)⟩ (fun _=>⟨rfl,rfl⟩) (fun z G4 hG hz=>W.mk ?_)
  obtain ⟨i,_⟩:=z
  obtain ⟨k1,k2⟩:=hz
  dsimp only at k1 k2
  dsimp only
  replace hm:=hm.grow hG
  replace hl:=SlR.grow (G:=G3) (G':=G4) (fun _ _ h=>h) hl hG
  replace hw:=hw.grow hG
  replace hp:=fun p hpm=>SlV.grow hG (hp p hpm)
  clear hG
  (conv=>whnf)
  refine IteP.mk (fun hlt=>W.mk ?_) (fun hge=>W.mk ?_)<;>(conv=>whnf)
  ·have hlt:i < m.ps.length:=by have hlt:(i:Int) < n:=hlt;omega
   have hel:=hl.el (i:=i) (by omega)
   rw [cs_get hlt] at hel
   refine OblP.mk ⟨by omega,by omega⟩ (W.mk ?_)
   (conv=>whnf)
   refine OblP.mk (hl.some (by omega)) (W.mk ?_)
   (conv=>whnf)
   refine RdP.at (cs:=[I m.ps[i].c.n]) (CellsAt.drop (d:=0) (n:=1) hel) rfl (W.mk ?_)
   (conv=>whnf)
   refine ScaP.g (ok2 moRd intRd fun _ _=>True) (x:=(m,m.ps[i].c.n)) ⟨_,_,rfl,hm,rfl,trivial⟩ (fun v hv=>W.mk ?_)
   subst hv
   (conv=>whnf)
   refine IteP.mk (fun h=>W.mk ?_) (fun h=>W.mk ?_)<;>(conv=>whnf)
   rotate_left
   ·exact FinP.mk ⟨_,rfl,fun h=>absurd h (by decide)⟩
   (refine ob ?_ ?_;(first | trivial | omega | (simp only [inR];omega) | exact ble (by rfl) | exact SlR.some ‹_› (by omega));(conv=>whnf))
   refine RoundP.of (i + 1,()) (HeadP.of [] ⟨rfl,rfl,rfl,trivial⟩ ⟨rfl,trivial⟩) ⟨by show i + 1≤n;omega,fun j h6 h7=>?_⟩ (by show n - (i + 1) < n - i;omega)
   by_cases e:j = i
   ·subst e;exact h
   ·exact k2 j h6 (by have h7:j < i + 1:=h7;omega)
  have hge:¬ (i:Int) < n:=hge
  have hin:∀ j,j < m.ps.length→j < i:=fun j hj=>by omega
  have f5:∀ (j:Nat) (h:j < m.ps.length),ixF m.ps m.ps[j].c.n = j:=fun j hj=>k2 j hj (hin j hj)
  clear k1 k2 hin
  refine LoopP.of { α:=Nat × Unit,fr:=fun z=>[(1, .c (.ptr 0 0)),(3, .v (I n)),(8, .v (I z.1))],H:=fun _=>[(0, .cells .anon [.val (.slice wa wn wc), .val (.slice a n c)] 25)],ok:=fun z _=>z.1≤n∧∀ j (h:j < m.ps.length),j < z.1→OfOk m m.ps[j].c.of,m:=fun z=>n - z.1 }
   (0,()) (HeadP.of [] ⟨rfl,rfl,rfl,trivial⟩ ⟨rfl,trivial⟩) ⟨Nat.zero_le _,fun j _ h=>absurd h (Nat.not_lt_zero _)⟩ (fun _=>⟨rfl,rfl⟩) (fun z G5 hG hz=>W.mk ?_)
  obtain ⟨i,_⟩:=z
  obtain ⟨k1,k2⟩:=hz
  dsimp only at k1 k2
  dsimp only
  replace hm:=hm.grow hG
  replace hl:=SlR.grow (G:=G4) (G':=G5) (fun _ _ h=>h) hl hG
  replace hw:=hw.grow hG
  replace hp:=fun p hpm=>SlV.grow hG (hp p hpm)
  clear hG
  (conv=>whnf)
  refine IteP.mk (fun hlt=>W.mk ?_) (fun hge=>W.mk ?_)<;>(conv=>whnf)
  ·have hlt:i < m.ps.length:=by have hlt:(i:Int) < n:=hlt;omega
   have hel:=hl.el (i:=i) (by omega)
   rw [cs_get hlt] at hel
   refine OblP.mk ⟨by omega,by omega⟩ (W.mk ?_)
   (conv=>whnf)
   refine OblP.mk (hl.some (by omega)) (W.mk ?_)
   (conv=>whnf)
   refine RdP.at (cs:=[I m.ps[i].c.of]) (CellsAt.drop (d:=1) (n:=1) hel) rfl (W.mk ?_)
   (conv=>whnf)
   refine IteP.mk (fun h=>W.mk ?_) (fun h=>W.mk ?_)<;>(conv=>whnf)
   ·have h:m.ps[i].c.of = 0:=h
    (refine ob ?_ ?_;(first | trivial | omega | (simp only [inR];omega) | exact ble (by rfl) | exact SlR.some ‹_› (by omega));(conv=>whnf))
    refine RoundP.of (i + 1,()) (HeadP.of [] ⟨rfl,rfl,rfl,trivial⟩ ⟨rfl,trivial⟩) ⟨by show i + 1≤n;omega,fun j h6 h7=>?_⟩ (by show n - (i + 1) < n - i;omega)
    by_cases e:j = i
    ·subst e;exact .inl h
    ·exact k2 j h6 (by have h7:j < i + 1:=h7;omega)
   have h:¬ m.ps[i].c.of = 0:=h
   refine OblP.mk ⟨by omega,by omega⟩ (W.mk ?_)
   (conv=>whnf)
   refine OblP.mk (hl.some (by omega)) (W.mk ?_)
   (conv=>whnf)
   refine RdP.at (cs:=[I m.ps[i].c.of]) (CellsAt.drop (d:=1) (n:=1) hel) rfl (W.mk ?_)
   (conv=>whnf)
   refine ScaP.g (ok2 moRd intRd fun _ _=>True) (x:=(m,m.ps[i].c.of)) ⟨_,_,rfl,hm,rfl,trivial⟩ (fun v hv=>W.mk ?_)
   subst hv
   (conv=>whnf)
   refine IteP.mk (fun h2=>W.mk ?_) (fun h2=>W.mk ?_)<;>(conv=>whnf)
   ·exact FinP.mk ⟨_,rfl,fun h=>absurd h (by decide)⟩
   have h2:¬ ixF m.ps m.ps[i].c.of < 0:=h2
   (refine ob ?_ ?_;(first | trivial | omega | (simp only [inR];omega) | exact ble (by rfl) | exact SlR.some ‹_› (by omega));(conv=>whnf))
   refine RoundP.of (i + 1,()) (HeadP.of [] ⟨rfl,rfl,rfl,trivial⟩ ⟨rfl,trivial⟩) ⟨by show i + 1≤n;omega,fun j h6 h7=>?_⟩ (by show n - (i + 1) < n - i;omega)
   by_cases e:j = i
   ·subst e;exact ofOk_ix h2
   ·exact k2 j h6 (by have h7:j < i + 1:=h7;omega)
  have hge:¬ (i:Int) < n:=hge
  have hin:∀ j,j < m.ps.length→j < i:=fun j hj=>by omega
  have f6:∀ (j:Nat) (h:j < m.ps.length),OfOk m m.ps[j].c.of:=fun j hj=>k2 j hj (hin j hj)
  clear k1 k2 hin
  refine LoopP.of { α:=Nat × Unit,fr:=fun z=>[(1, .c (.ptr 0 0)),(3, .v (I n)),(9, .v (I z.1))],H:=fun _=>[(0, .cells .anon [.val (.slice wa wn wc), .val (.slice a n c)] 25)],ok:=fun z _=>z.1≤n∧∀ j (h:j < m.ps.length),j < z.1→upK m n m.ps[j].c.of = 0,m:=fun z=>n - z.1 }
   (0,()) (HeadP.of [] ⟨rfl,rfl,rfl,trivial⟩ ⟨rfl,trivial⟩) ⟨Nat.zero_le _,fun j _ h=>absurd h (Nat.not_lt_zero _)⟩ (fun _=>⟨rfl,rfl⟩) (fun z G6 hG hz=>W.mk ?_)
  obtain ⟨i,_⟩:=z
  obtain ⟨k1,k2⟩:=hz
  dsimp only at k1 k2
  dsimp only
  replace hm:=hm.grow hG
  replace hl:=SlR.grow (G:=G5) (G':=G6) (fun _ _ h=>h) hl hG
  replace hw:=hw.grow hG
  replace hp:=fun p hpm=>SlV.grow hG (hp p hpm)
  clear hG
  (conv=>whnf)
  refine IteP.mk (fun hlt=>W.mk ?_) (fun hge=>W.mk ?_)<;>(conv=>whnf)
  ·have hlt:i < m.ps.length:=by have hlt:(i:Int) < n:=hlt;omega
   have hel:=hl.el (i:=i) (by omega)
   rw [cs_get hlt] at hel
   refine OblP.mk ⟨by omega,by omega⟩ (W.mk ?_)
   (conv=>whnf)
   refine OblP.mk (hl.some (by omega)) (W.mk ?_)
   (conv=>whnf)
   refine RdP.at (cs:=[I m.ps[i].c.of]) (CellsAt.drop (d:=1) (n:=1) hel) rfl (W.mk ?_)
   (conv=>whnf)
   refine LoopP.of { α:=Nat × Int,fr:=fun z=>[(1, .c (.ptr 0 0)),(3, .v (I n)),(9, .v (I i)),(10, .v (I z.2)),(11, .v (I z.1))],H:=fun _=>[(0, .cells .anon [.val (.slice wa wn wc), .val (.slice a n c)] 25)],ok:=fun z _=>z.1≤n∧OfOk m z.2∧upK m n m.ps[i].c.of = upK m (n - z.1) z.2,m:=fun z=>n - z.1 }
    (0,m.ps[i].c.of) (HeadP.of [] ⟨rfl,rfl,rfl,rfl,rfl,trivial⟩ ⟨rfl,trivial⟩) ⟨Nat.zero_le _,f6 i hlt,rfl⟩ (fun _=>⟨rfl,rfl⟩) (fun z G7 hG hz=>W.mk ?_)
   obtain ⟨k,x⟩:=z
   obtain ⟨q1,q2,q3⟩:=hz
   dsimp only at q1 q2 q3
   dsimp only
   replace hm:=hm.grow hG
   replace hl:=SlR.grow (G:=G6) (G':=G7) (fun _ _ h=>h) hl hG
   replace hw:=hw.grow hG
   replace hp:=fun p hpm=>SlV.grow hG (hp p hpm)
   clear hG hel
   (conv=>whnf)
   refine IteP.mk (fun h=>W.mk ?_) (fun h=>W.mk ?_)<;>(conv=>whnf)
   rotate_left
   ·have h:¬ (k:Int) < n:=h
    have hkn:n - k = 0:=by omega
    rw [hkn] at q3
    refine IteP.mk (fun h2=>W.mk ?_) (fun h2=>W.mk ?_)<;>(conv=>whnf)
    rotate_left
    ·exact FinP.mk ⟨_,rfl,fun h=>absurd h (by decide)⟩
    ·have h2:x = 0:=h2
     (refine ob ?_ ?_;(first | trivial | omega | (simp only [inR];omega) | exact ble (by rfl) | exact SlR.some ‹_› (by omega));(conv=>whnf))
     refine RoundP.of (i + 1,()) (HeadP.of [] ⟨rfl,rfl,rfl,trivial⟩ ⟨rfl,trivial⟩) ⟨by show i + 1≤n;omega,fun j h6 h7=>?_⟩ (by show n - (i + 1) < n - i;omega)
     by_cases e:j = i
     ·subst e;rw [q3];exact h2
     ·exact k2 j h6 (by have h7:j < i + 1:=h7;omega)
   have h:(k:Int) < n:=h
   refine IteP.mk (fun h2=>W.mk ?_) (fun h2=>W.mk ?_)<;>(conv=>whnf)
   ·have h2:x = 0:=h2
    refine IteP.mk (fun h3=>W.mk ?_) (fun h3=>absurd h2 h3)
    (conv=>whnf)
    (refine ob ?_ ?_;(first | trivial | omega | (simp only [inR];omega) | exact ble (by rfl) | exact SlR.some ‹_› (by omega));(conv=>whnf))
    refine RoundP.of (i + 1,()) (HeadP.of [] ⟨rfl,rfl,rfl,trivial⟩ ⟨rfl,trivial⟩) ⟨by show i + 1≤n;omega,fun j h6 h7=>?_⟩ (by show n - (i + 1) < n - i;omega)
    by_cases e:j = i
    ·subst e;rw [q3,h2,upK_zero]
    ·exact k2 j h6 (by have h7:j < i + 1:=h7;omega)
   have h2:¬ x = 0:=h2
   refine ScaP.g (ok2 moRd intRd fun _ _=>True) (x:=(m,x)) ⟨_,_,rfl,hm,rfl,trivial⟩ (fun v hv=>W.mk ?_)
   subst hv
   dsimp only
   rcases ixF_cases m.ps x with ⟨h3,h4⟩ | ⟨t,ht,h3,h4,h5⟩
   ·rcases q2 with q2 | ⟨q,q2⟩
    ·exact absurd q2 h2
    ·rw [pOf,h4] at q2;cases q2
   rw [h3]
   have hel:=hl.el (i:=t) (by omega)
   rw [cs_get ht] at hel
   (conv=>whnf)
   refine OblP.mk ⟨by omega,by omega⟩ (W.mk ?_)
   (conv=>whnf)
   refine OblP.mk (hl.some (by omega)) (W.mk ?_)
   (conv=>whnf)
   refine RdP.at (cs:=[I m.ps[t].c.of]) (CellsAt.drop (d:=1) (n:=1) hel) rfl (W.mk ?_)
   (conv=>whnf)
   (refine ob ?_ ?_;(first | trivial | omega | (simp only [inR];omega) | exact ble (by rfl) | exact SlR.some ‹_› (by omega));(conv=>whnf))
   refine RoundP.of (k + 1,m.ps[t].c.of) (HeadP.of [] ⟨rfl,rfl,rfl,rfl,rfl,trivial⟩ ⟨rfl,trivial⟩) ⟨by show k + 1≤n;omega,f6 t ht, ?_⟩ (by show n - (k + 1) < n - k;omega)
   show upK m n m.ps[i].c.of = upK m (n - (k + 1)) m.ps[t].c.of
   rw [q3,show n - k = (n - (k + 1)) + 1 by omega,upK,if_neg h2,ofOf,pOf,h5]
  have hge:¬ (i:Int) < n:=hge
  have hin:∀ j,j < m.ps.length→j < i:=fun j hj=>by omega
  have f7:∀ (j:Nat) (h:j < m.ps.length),upK m n m.ps[j].c.of = 0:=fun j hj=>k2 j hj (hin j hj)
  clear k1 k2 hin
  refine LoopP.of { α:=Nat × Unit,fr:=fun z=>[(1, .c (.ptr 0 0)),(3, .v (I n)),(12, .v (I z.1))],H:=fun _=>[(0, .cells .anon [.val (.slice wa wn wc), .val (.slice a n c)] 25)],ok:=fun z _=>z.1≤n∧∀ j (h:j < m.ps.length),j < z.1→0≤m.ps[j].c.fr∧m.ps[j].c.fr≤m.ps[j].c.to∧m.ps[j].c.to≤(wOf m m.ps[j].c.of).length,m:=fun z=>n - z.1 }
   (0,()) (HeadP.of [] ⟨rfl,rfl,rfl,trivial⟩ ⟨rfl,trivial⟩) ⟨Nat.zero_le _,fun j _ h=>absurd h (Nat.not_lt_zero _)⟩ (fun _=>⟨rfl,rfl⟩) (fun z G8 hG hz=>W.mk ?_)
  obtain ⟨i,_⟩:=z
  obtain ⟨k1,k2⟩:=hz
  dsimp only at k1 k2
  dsimp only
  replace hm:=hm.grow hG
  replace hl:=SlR.grow (G:=G6) (G':=G8) (fun _ _ h=>h) hl hG
  replace hw:=hw.grow hG
  replace hp:=fun p hpm=>SlV.grow hG (hp p hpm)
  clear hG
  (conv=>whnf)
  refine IteP.mk (fun hlt=>W.mk ?_) (fun hge=>W.mk ?_)<;>(conv=>whnf)
  ·have hlt:i < m.ps.length:=by have hlt:(i:Int) < n:=hlt;omega
   have hel:=hl.el (i:=i) (by omega)
   rw [cs_get hlt] at hel
   refine OblP.mk ⟨by omega,by omega⟩ (W.mk ?_)
   (conv=>whnf)
   refine OblP.mk (hl.some (by omega)) (W.mk ?_)
   (conv=>whnf)
   refine RdP.at (cs:=pcL m.ps[i].c) hel rfl (W.mk ?_)
   (conv=>whnf)
   refine RelP.g (ok2 moRd intRd fun m x=>x = 0∨∃ q,pOf m x = some q) (x:=(m,m.ps[i].c.of)) ⟨_,_,rfl,hm,rfl,f6 i hlt⟩ (Grow.refl _) (fun v G9 hg9 hq=>W.mk ?_)
   obtain ⟨va,vn,vc,rfl,hvl,hvn⟩:=hq
   have hvln:(wOf m m.ps[i].c.of).length = vn:=hvl.len
   replace hm:=hm.grow hg9
   replace hl:=SlR.grow (G:=G8) (G':=G9) (fun _ _ h=>h) hl hg9
   (conv=>whnf)
   refine OblP.mk ⟨_,_,_,rfl⟩ (W.mk ?_)
   (conv=>whnf)
   refine ForkP.mk (fun h=>W.mk ?_) (fun h=>W.mk ?_)<;>(conv=>whnf)
   rotate_left
   ·exact FinP.mk ⟨_,rfl,fun h=>absurd h (by decide)⟩
   have h:inF m.ps[i].c.to 0 vn = true:=h
   refine OblP.mk ⟨_,_,_,rfl⟩ (W.mk ?_)
   (conv=>whnf)
   refine ForkP.mk (fun h2=>W.mk ?_) (fun h2=>W.mk ?_)<;>(conv=>whnf)
   rotate_left
   ·exact FinP.mk ⟨_,rfl,fun h=>absurd h (by decide)⟩
   have h2:inF m.ps[i].c.fr 0 m.ps[i].c.to = true:=h2
   simp only [inF,decide_eq_true_eq] at h h2
   have h3:0≤m.ps[i].c.fr∧m.ps[i].c.fr≤m.ps[i].c.to∧m.ps[i].c.to≤(wOf m m.ps[i].c.of).length:=⟨h2.1,h2.2,by omega⟩
   (refine ob ?_ ?_;(first | trivial | omega | (simp only [inR];omega) | exact ble (by rfl) | exact SlR.some ‹_› (by omega));(conv=>whnf))
   refine RoundP.of (i + 1,()) (HeadP.of [] ⟨rfl,rfl,rfl,trivial⟩ ⟨rfl,trivial⟩) ⟨by show i + 1≤n;omega,fun j h6 h7=>?_⟩ (by show n - (i + 1) < n - i;omega)
   by_cases e:j = i
   ·subst e;exact h3
   ·exact k2 j h6 (by have h7:j < i + 1:=h7;omega)
  have hge:¬ (i:Int) < n:=hge
  have hin:∀ j,j < m.ps.length→j < i:=fun j hj=>by omega
  have f8:∀ (j:Nat) (h:j < m.ps.length),0≤m.ps[j].c.fr∧m.ps[j].c.fr≤m.ps[j].c.to∧m.ps[j].c.to≤(wOf m m.ps[j].c.of).length:=fun j hj=>k2 j hj (hin j hj)
  clear k1 k2 hin
  have all:∀ {Q:Pp→Prop},(∀ (j:Nat) (h:j < m.ps.length),Q m.ps[j])→∀ p∈m.ps,Q p:=fun hq p hp=>by
   obtain ⟨j,hj,rfl⟩:=List.getElem_of_mem hp
   exact hq j hj
  refine FinP.mk ⟨0,rfl,fun _=>⟨by omega,by omega,all f1,f2,all f3,all f4, ?_,fun p hp h0=>?_,all fun j hj=>?_,all f8⟩⟩
  ·refine List.pairwise_iff_getElem.2 fun i j hi hj hij=>?_
   simp only [List.length_map] at hi hj
   simp only [List.getElem_map]
   intro e
   have h1:=f5 i hi
   rw [e,f5 j hj] at h1
   omega
  ·obtain ⟨j,hj,rfl⟩:=List.getElem_of_mem hp
   exact (f6 j hj).resolve_left h0
  ·have:=f7 j hj
   rw [show m.ps.length = n by omega];exact this
end Go.Proofs.YtefnikpoimaiiaaGreat

namespace Go.Proofs.YtefnikpoimaiiaaGreat
open Go.Pal Go.RowKit
set_option maxRecDepth 100000
structure Er where
 n:Int
 d:Int
 k:Int
 a:Int
 t:ByteArray
 w:Int
def erE:El Er:=⟨6,fun x=>[I x.n,I x.d,U8 x.k,I x.a, .string x.t,I x.w],fun {x y} h=>by cases x;cases y;simp at h;simp [h],fun _=>rfl,fun _ v hv=>by simp at hv;rcases hv with rfl | rfl | rfl | rfl | rfl | rfl<;>rfl⟩
structure TxOk (s:ByteArray):Prop where
 n:1≤s.size∧s.size≤200
 b:Plain s
def errF:Nat→List ByteArray→List Er
 | _,[]=>[]
 | i,s :: r=>⟨i,i,0,1,s,0⟩ :: errF (i + 1) r
theorem errF_app:∀ (l:List ByteArray) (i:Nat) (s:ByteArray),errF i (l++[s]) = errF i l++[⟨((i + l.length:Nat):Int),((i + l.length:Nat):Int),0,1,s,0⟩]
 | [],i,s=>rfl
 | x :: r,i,s=>by
  rw [List.cons_append,errF,errF_app r (i + 1) s,errF,List.cons_append,List.length_cons,show i + 1 + r.length = i + (r.length + 1) by omega]
theorem errF_len:∀ (l:List ByteArray) (i:Nat),(errF i l).length = l.length
 | [],_=>rfl
 | x :: r,i=>by rw [errF,List.length_cons,errF_len r,List.length_cons]
structure SayOk (l:List ByteArray):Prop where
 n:l≠[]∧l.length≤11
 t:∀ s∈l,TxOk s
def toldR:GRel (List ByteArray):=fun args G l=>∃ v w,args = [v,w]∧SlV strE G v l∧SlV erE G w (errF 1 l.tail)∧SayOk l
abbrev toldS:PSpec:=gsca toldR fun _ v=>v = .bool true
abbrev bindS:PSpec:=gsca (fun args _ (_:Unit)=>args = []) fun _ v=>v = .bool true
def elig (m:Mt) (now:List Int) (d:Int):Prop:=d ∉ now∧(ofOf m d = 0∨ofOf m d∈now)
def nextF (choice now:List Int) (d:Int):List Int:=choice.filter fun x=>decide (x∈now) || decide (x = d)
def NxI (m:Mt) (choice now:List Int) (i:Nat) (X:List Int):Prop:=(X = []∧∀ j (h:j < choice.length),j < i→¬ elig m now choice[j])∨∃ d∈choice,elig m now d∧X = nextF choice now d
structure NowI (m:Mt) (choice now:List Int) (S:List ByteArray):Prop where
 ok:ChOk m now
 sub:∀ x∈now,x∈choice
 n:S.length = now.length + 1
 p:∀ s∈S,Plain s
theorem chOk_len {m:Mt} (hok:MtOk m) {l:List Int} (h:ChOk m l):l.length≤10:=by
 have hn:l.Nodup:=h.inc.imp fun h=>Int.ne_of_lt h
 have hp:((m.ps.map (·.c.n)).filter fun x=>decide (x∈l)).Perm l:=by
  refine (List.perm_ext_iff_of_nodup (hok.nd.sublist List.filter_sublist) hn).2 fun x=>?_
  simp only [List.mem_filter,decide_eq_true_eq]
  refine ⟨fun h=>h.2,fun hx=>⟨?_,hx⟩⟩
  obtain ⟨p,hp⟩:=h.mem x hx
  exact List.mem_map.2 ⟨p,(pOf_mem hp).1,(pOf_mem hp).2⟩
 have h1:=List.length_filter_le (fun x=>decide (x∈l)) (m.ps.map (·.c.n))
 rw [hp.length_eq,List.length_map] at h1
 have:=hok.np
 omega
theorem err_step {S:List ByteArray} {k:Nat} (hk:k < S.length) (h0:0 < k):errF 1 (S.take (k + 1)).tail = errF 1 (S.take k).tail++[⟨k,k,0,1,S[k],0⟩]:=by
 have e:(S.take (k + 1)).tail = (S.take k).tail++[S[k]]:=by
  rw [take_snoc (List.getElem?_eq_getElem hk)]
  cases S with
  | nil=>simp at hk
  | cons x r =>
   obtain ⟨j,rfl⟩:∃ j,k = j + 1:=⟨k - 1,by omega⟩
   rfl
 rw [e,errF_app,show 1 + (S.take k).tail.length = k by rw [List.length_tail,List.length_take];omega]
theorem err_zero {S:List ByteArray} {k:Nat} (hk:k < S.length) (h0:k = 0):errF 1 (S.take (k + 1)).tail = errF 1 (S.take k).tail:=by
 subst h0
 cases S with
 | nil=>simp at hk
 | cons x r=>rfl
theorem filt_snoc {p:Int→Bool} {l:List Int} {k:Nat} (h:k < l.length):(l.take (k + 1)).filter p = (l.take k).filter p++(if p l[k] = true then [l[k]] else []):=by
 rw [take_snoc (List.getElem?_eq_getElem h),List.filter_append]
 congr 1
 by_cases hp:p l[k] = true
 ·simp [hp]
 ·simp [hp]
set_option maxHeartbeats 8000000 in
theorem law3 (hT:Sound Tryz.prog 14 id toldS) (hB:Sound Tryz.prog 7 id bindS):Sound Tryz.prog 3 id (gsca (args2 muRd u16Rd fun _ b=>0≤b∧b < 65536) fun _ v=>v = .bool true):=by
 refine comp3.gsca (Tab.cons 5 _ few5 body5 (Tab.cons 6 _ fault6 body6 (Tab.cons 7 _ hB body7 (Tab.cons 8 _ chosen8 body8 (Tab.cons 10 _ motion10 body10 (Tab.cons 9 _ Text9 body9 (Tab.cons 11 _ spaced11 body11 (Tab.cons 12 _ find12 body12 (Tab.cons 14 _ hT body14 (Tab.nil _)))))))))) (fun args G s h=>?_) (fun args G s h=>?_)
 ·obtain ⟨v,w,rfl,_⟩:=h;simp
 ·obtain ⟨m,bits⟩:=s
  obtain ⟨v,w,rfl,hm,rfl,hb1,hb2⟩:=h
  dsimp only at hm hb1 hb2
  have hmu:=hm
  obtain ⟨w0,a,n,c,rfl,⟨wa,wn,wc,rfl,_⟩,_⟩:=hm
  (conv=>whnf)
  refine ScaP.g (ok1 muRd fun _=>True) (x:=m) ⟨_,rfl,hmu,trivial⟩ (fun v hv=>W.mk ?_)
  obtain ⟨b,rfl,hfew⟩:=hv
  (conv=>whnf)
  refine ForkP.mk (fun hb=>W.mk ?_) (fun hb=>W.mk ?_)
  rotate_left
  ·(conv=>whnf)
   refine ScaP.mk ⟨(),rfl⟩ (fun v hv=>W.mk ?_)
   obtain ⟨_,_,rfl⟩:=hv
   (conv=>whnf)
   refine ForkP.mk (fun _=>W.mk ?_) (fun h=>by cases h)
   (conv=>whnf)
   exact FinP.mk rfl
  have hf:=hfew hb
  have hm:MoV G (.agg #[.slice wa wn wc, .slice a n c]) m:=MoU.bd hmu (by have:=hf.w;omega) (by have:=hf.n;omega) (fun p hp=>by have:=hf.p p hp;omega)
  (conv=>whnf)
  refine ScaP.g (ok1 moRd fun _=>True) (x:=m) ⟨_,rfl,hm,trivial⟩ (fun v hv=>W.mk ?_)
  obtain ⟨e,rfl,hok⟩:=hv
  (conv=>whnf)
  refine IteP.mk (fun he=>W.mk ?_) (fun he=>W.mk ?_)
  rotate_left
  ·(conv=>whnf)
   refine ScaP.mk ⟨(),rfl⟩ (fun v hv=>W.mk ?_)
   obtain ⟨_,_,rfl⟩:=hv
   (conv=>whnf)
   refine ForkP.mk (fun _=>W.mk ?_) (fun h=>by cases h)
   (conv=>whnf)
   exact FinP.mk rfl
  have hok:MtOk m:=hok he
  (conv=>whnf)
  refine RelP.g (ok2 moRd u16Rd fun m b=>MtOk m∧0≤b∧b < 65536) (x:=(m,bits)) ⟨_,_,rfl,hm,rfl,hok,hb1,hb2⟩ (Grow.refl _) (fun v G1 hg1 hq=>W.mk ?_)
  obtain ⟨choice,hcv,hch⟩:=hq
  dsimp only at hch
  obtain ⟨ca,cn,cc,rfl,hcl,hcb⟩:=id hcv
  have hcln:=hcl.len
  replace hm:=moRd.grow hg1 hm
  obtain ⟨hl,hnb⟩:SlR pcE.k pcE.R G1 a n c m.cs∧n≤140737488355328:=by
   obtain ⟨w',a',k',c',e,_,h1,h2,_⟩:=hm
   simp only [Value.agg.injEq,Array.mk.injEq,List.cons.injEq,Value.slice.injEq,and_true] at e
   obtain ⟨_,rfl,rfl,rfl⟩:=e
   exact ⟨h1,h2⟩
  have hln:=hl.len
  have hcsl:m.cs.length = m.ps.length:=by simp
  have hchl:=chOk_len hok hch
  have hchn:choice.Nodup:=hch.inc.imp fun h=>Int.ne_of_lt h
  (conv=>whnf)
  refine RelP.g (ok1 moRd MtOk) (x:=m) ⟨_,rfl,hm,hok⟩ (Grow.refl _) (fun v G2 hg2 hq=>W.mk ?_)
  obtain ⟨m',hm',hlk⟩:=hq
  obtain ⟨mw,ma,mn,mc,rfl,⟨xa,xn,xc,rfl,_⟩,_⟩:=id hm'
  replace hm:=moRd.grow hg2 hm
  replace hl:=slr_grow (E:=pcE) hg2 hl;replace hcl:=slr_grow (E:=intE) hg2 hcl
  replace hcv:=hcv.grow hg2
  (conv=>whnf)
  refine RelP.g (ok2 moRd (slRd intE) fun m l=>MtOk m∧ChOk m l) (x:=(m',[])) ⟨_,_,rfl,hm',SlV.nil,lk_mt hlk hok,lk_ch hlk (chOk_nil m)⟩ (Grow.refl _) (fun v G4 hg4 hq=>W.mk ?_)
  obtain ⟨sw,oa,on,oc,rfl,ws,hws,hgw,hwn⟩:=hq
  obtain ⟨sa,sn,sc,rfl,hsl⟩:=id hws
  (conv=>whnf)
  refine IteP.mk (fun _=>W.mk ?_) (fun h=>absurd rfl h)
  (conv=>whnf)
  refine ScaP.g (ok1 (slRd strE) fun l=>(∀ s∈l,GoodW s)∧l.length≤8000000000000) (x:=ws) ⟨_,rfl,hws,hgw,hwn⟩ (fun v hv=>W.mk ?_)
  obtain ⟨s0,rfl,hpl⟩:=hv
  (conv=>whnf)
  replace hm:=moRd.grow hg4 hm
  replace hl:=slr_grow (E:=pcE) hg4 hl;replace hcl:=slr_grow (E:=intE) hg4 hcl
  replace hcv:=hcv.grow hg4
  clear hg1 hg2 hg4
  refine LoopP.of { α:=Nat × List Int × List ByteArray × List Value,fr:=fun z=>[(2, .c (.ptr 0 0)),(5, .v (.slice ca cn cc)),(9, .c (.row 31 (z.1 + 1))),(10,irow 1 z.1)],H:=fun z=>[(0, .cells .anon [.val (.slice wa wn wc), .val (.slice a n c)] 25),(31, .row none (z.1 + 1) z.2.2.2 9 1)]++irows 1 z.1 (flat intE z.2.1),ok:=fun z _=>NowI m choice z.2.1 z.2.2.1∧z.1 = z.2.1.length∧Row strE z.2.2.1 (z.1 + 1) z.2.2.2,m:=fun z=>choice.length - z.2.1.length }
   (0,[],[s0],_) (HeadP.of [] ⟨rfl,rfl,rfl,rfl,trivial⟩ ⟨rfl,rfl,trivial⟩) ⟨⟨chOk_nil m,(fun x hx=>by cases hx),rfl,fun s hs=>by rw [List.mem_singleton.1 hs];exact hpl⟩,rfl,⟨rfl,rfl⟩⟩ (fun z=>by obtain ⟨t,_⟩:=z;cases t<;>exact ⟨rfl,rfl⟩) (fun z G5 hg5 hz=>W.mk ?_)
  obtain ⟨t,N,S,sv⟩:=z
  obtain ⟨hI,hN,hS⟩:=hz
  dsimp only at hI hN hS
  replace hm:=moRd.grow hg5 hm
  replace hl:=slr_grow (E:=pcE) hg5 hl;replace hcl:=slr_grow (E:=intE) hg5 hcl
  replace hcv:=hcv.grow hg5
  clear hg5
  cases t with
  | zero =>
   have hN0:N = []:=List.eq_nil_of_length_eq_zero hN.symm
   dsimp only [irow,irows]
   (conv=>whnf)
   refine IteP.mk (fun hlt=>W.mk ?_) (fun hge=>W.mk ?_)<;>(conv=>whnf)
   ·refine LoopP.of { α:=Nat × Nat × List Int,fr:=fun z=>[(2, .c (.ptr 0 0)),(5, .v (.slice ca cn cc)),(9, .c (.row 31 (0 + 1))),(10,irow 1 0),(11, .c (.row 2 z.2.1)),(12, .v (I z.1))],H:=fun z=>[(0, .cells .anon [.val (.slice wa wn wc), .val (.slice a n c)] 25),(31, .row none (0 + 1) sv 9 1),(2, .row none z.2.1 (flat intE z.2.2) 3 1)]++irows 1 0 (flat intE N),ok:=fun z _=>z.1≤cn∧z.2.1 = z.2.2.length∧NxI m choice N z.1 z.2.2,m:=fun z=>cn - z.1 }
     (0,0,[]) (HeadP.of [(2,none)] ⟨rfl,rfl,rfl,rfl,rfl,rfl,trivial⟩ ⟨rfl,rfl,rfl,trivial⟩) ⟨Nat.zero_le _,rfl, .inl ⟨rfl,fun j _ h=>absurd h (Nat.not_lt_zero _)⟩⟩ (fun _=>⟨rfl,rfl⟩) (fun z G6 hg6 hz=>W.mk ?_)
    obtain ⟨i,nx,X⟩:=z
    obtain ⟨hi,hnx,hX⟩:=hz
    dsimp only at hi hnx hX
    replace hm:=moRd.grow hg6 hm
    replace hl:=slr_grow (E:=pcE) hg6 hl;replace hcl:=slr_grow (E:=intE) hg6 hcl
    replace hcv:=hcv.grow hg6
    clear hg6
    dsimp only [irow,irows]
    (conv=>whnf)
    refine IteP.mk (fun hi2=>W.mk ?_) (fun hi2=>W.mk ?_)
    ·(conv=>whnf)
     refine IteP.mk (fun hx0=>W.mk ?_) (fun hx0=>W.mk ?_)
     ·have hx0:(nx:Int) = 0:=hx0
      have hi3:i < choice.length:=by have hi2:(i:Int) < cn:=hi2;omega
      have hX0:X = []:=List.eq_nil_of_length_eq_zero (by omega)
      have hnone:∀ j (h:j < choice.length),j < i→¬ elig m N choice[j]:=by
       rcases hX with ⟨_,h⟩ | ⟨d,hd,hel,hXe⟩
       ·exact h
       ·have:d∈X:=by rw [hXe];simp [nextF,hd]
        rw [hX0] at this;cases this
      obtain ⟨p,hpo⟩:=hch.mem _ (List.getElem_mem hi3)
      obtain ⟨ip,hip,hix,hpo2⟩:=num_ix (m:=m) (x:=choice[i]) (List.mem_map.2 ⟨p,(pOf_mem hpo).1,(pOf_mem hpo).2⟩)
      have hpe:=hl.el (i:=ip) (by omega)
      rw [cs_get hip] at hpe
      rw [Option.some.inj (hpo2.symm.trans hpo)] at hpe
      have hof:ofOf m choice[i] = p.c.of:=by rw [ofOf,hpo]
      have hel:=hcl.el hi3
      have hxm:=List.getElem_mem hi3
      have hniN:(elig m N choice[i]→False)→∀ j (h:j < choice.length),j < i + 1→¬ elig m N choice[j]:=fun hne j h hj=>by
       by_cases e:j = i
       ·subst e;exact hne
       ·exact hnone j h (by omega)
      (conv=>whnf)
      repeat' (first | (refine ob ?_ ?_;(first | trivial | omega | (simp only [inR];omega) | exact ble (by rfl) | exact SlR.some ‹_› (by omega));(conv=>whnf)) | (first | (refine ra ‹_› (by rfl) ?_;(conv=>whnf)) | (refine rb ‹_› (by rfl) ?_;(conv=>whnf)) | (refine rc ‹_› (by rfl) ?_;(conv=>whnf)) | (refine rd ‹_› (by rfl) ?_;(conv=>whnf))))
      refine ScaP.g (ok2 moRd intRd fun _ _=>True) (x:=(m,choice[i])) ⟨_,_,rfl,hm,rfl,trivial⟩ (fun v hv=>W.mk ?_)
      rw [show ixF (m,choice[i]).1.ps (m,choice[i]).2 = (ip:Int) from hix] at hv
      subst hv
      (conv=>whnf)
      repeat' (first | (refine ob ?_ ?_;(first | trivial | omega | (simp only [inR];omega) | exact ble (by rfl) | exact SlR.some ‹_› (by omega));(conv=>whnf)) | (first | (refine ra ‹_› (by rfl) ?_;(conv=>whnf)) | (refine rb ‹_› (by rfl) ?_;(conv=>whnf)) | (refine rc ‹_› (by rfl) ?_;(conv=>whnf)) | (refine rd ‹_› (by rfl) ?_;(conv=>whnf))))
      generalize hxe:choice[i] = x at *
      refine CallN.mk ⟨_,has13,body13,W.mk ?_⟩
      (conv=>whnf)
      refine ScaP.g (ok2 (slRd intE) intRd fun _ _=>True) (x:=([],x)) ⟨_,_,rfl,SlV.nil,rfl,trivial⟩ (fun v hv=>W.mk ?_)
      rw [← hN0] at hv
      subst hv
      (conv=>whnf)
      refine ForkP.mk (fun hb=>W.mk ?_) (fun hb=>W.mk ?_)
      ·have hbx:x∈N:=has_mem hb
       (conv=>whnf)
       repeat' (refine ob ?_ ?_;(first | trivial | omega | (simp only [inR];omega) | exact ble (by rfl) | exact SlR.some ‹_› (by omega));(conv=>whnf))
       exact RoundP.of (i + 1,nx,X) (HeadP.of [] ⟨rfl,rfl,rfl,rfl,rfl,rfl,trivial⟩ ⟨rfl,rfl,rfl,trivial⟩) ⟨by show i + 1≤cn;omega,hnx, .inl ⟨hX0,hniN fun h=>h.1 hbx⟩⟩ (by show cn - (i + 1) < cn - i;omega)
      have hbx:x ∉ N:=has_not hb
      (conv=>whnf)
      refine IteP.mk (fun h0=>W.mk ?_) (fun h0=>W.mk ?_)
      ·have hlg:elig m N x:=⟨hbx, .inl (by rw [hof];exact h0)⟩
       (conv=>whnf)
       refine LoopP.of { α:=Nat × Nat × List Int,fr:=fun z=>[(2, .c (.ptr 0 0)),(5, .v (.slice ca cn cc)),(9, .c (.row 31 (0 + 1))),(10,irow 1 0),(11, .c (.row 2 z.2.1)),(12, .v (I i)),(14, .v (I z.1))],H:=fun z=>[(0, .cells .anon [.val (.slice wa wn wc), .val (.slice a n c)] 25),(31, .row none (0 + 1) sv 9 1),(2, .row none z.2.1 (flat intE z.2.2) 3 1)]++irows 1 0 (flat intE N),ok:=fun z _=>z.1≤cn∧z.2.1 = z.2.2.length∧z.2.2 = (choice.take z.1).filter (fun y=>decide (y∈N) || decide (y = x)),m:=fun z=>cn - z.1 }
        (0,nx,X) (HeadP.of [] ⟨rfl,rfl,rfl,rfl,rfl,rfl,rfl,trivial⟩ ⟨rfl,rfl,rfl,trivial⟩) ⟨Nat.zero_le _,hnx,by rw [hX0];rfl⟩ (fun _=>⟨rfl,rfl⟩) (fun z G7 hg7 hz=>W.mk ?_)
       obtain ⟨k,kx,Y⟩:=z
       obtain ⟨hk,hkx,hY⟩:=hz
       dsimp only at hk hkx hY
       have hYl:Y.length≤10:=by
        rw [hY]
        have:=List.length_filter_le (fun y=>decide (y∈N) || decide (y = x)) (choice.take k)
        rw [List.length_take] at this
        omega
       replace hm:=moRd.grow hg7 hm
       replace hl:=slr_grow (E:=pcE) hg7 hl;replace hcl:=slr_grow (E:=intE) hg7 hcl
       replace hcv:=hcv.grow hg7
       clear hg7
       dsimp only [irow,irows]
       (conv=>whnf)
       refine IteP.mk (fun hk2=>W.mk ?_) (fun hk2=>W.mk ?_)
       ·have hk3:k < choice.length:=by have hk2:(k:Int) < cn:=hk2;omega
        have hkel:=hcl.el hk3
        have hsn:=filt_snoc (p:=fun y=>decide (y∈N) || decide (y = x)) hk3
        have hki:k≠i→choice[k]≠x:=fun hne e=>hne ((List.getElem_inj hchn).1 (e.trans hxe.symm))
        have hki2:k = i→choice[k] = x:=fun e=>by subst e;exact hxe
        rw [← hY] at hsn
        generalize choice[k] = y at hkel hsn hki hki2
        (conv=>whnf)
        repeat' (first | (refine ob ?_ ?_;(first | trivial | omega | (simp only [inR];omega) | exact ble (by rfl) | exact SlR.some ‹_› (by omega));(conv=>whnf)) | (first | (refine ra ‹_› (by rfl) ?_;(conv=>whnf)) | (refine rb ‹_› (by rfl) ?_;(conv=>whnf)) | (refine rc ‹_› (by rfl) ?_;(conv=>whnf)) | (refine rd ‹_› (by rfl) ?_;(conv=>whnf))))
        refine CallN.mk ⟨_,has13,body13,W.mk ?_⟩
        (conv=>whnf)
        refine ScaP.g (ok2 (slRd intE) intRd fun _ _=>True) (x:=([],y)) ⟨_,_,rfl,SlV.nil,rfl,trivial⟩ (fun v hv=>W.mk ?_)
        rw [← hN0] at hv
        subst hv
        (conv=>whnf)
        refine ForkP.mk (fun hb=>W.mk ?_) (fun hb=>W.mk ?_)
        ·have hyy:Y++[y] = (choice.take (k + 1)).filter (fun y=>decide (y∈N) || decide (y = x)):=by rw [hsn,if_pos (by simp [has_mem hb])]
         (conv=>whnf)
         repeat' (first | (refine ob ?_ ?_;(first | trivial | omega | (simp only [inR];omega) | exact ble (by rfl) | exact SlR.some ‹_› (by omega));(conv=>whnf)) | (first | (refine ra ‹_› (by rfl) ?_;(conv=>whnf)) | (refine rb ‹_› (by rfl) ?_;(conv=>whnf)) | (refine rc ‹_› (by rfl) ?_;(conv=>whnf)) | (refine rd ‹_› (by rfl) ?_;(conv=>whnf))))
         exact RoundP.of (k + 1,kx + 1,Y++[y]) (HeadP.of [(2,some 100)] ⟨rfl,rfl,rfl,rfl,rfl,rfl,rfl,trivial⟩ ⟨rfl,rfl,(congrArg (fun v=>OB.row none (kx + 1) v 3 1) (flat_app intE Y [y])),trivial⟩) ⟨by show k + 1≤cn;omega,by rw [List.length_append];show kx + 1 = Y.length + 1;omega,hyy⟩ (by show cn - (k + 1) < cn - k;omega)
        ·have hyn:y ∉ N:=has_not hb
         (conv=>whnf)
         refine IteP.mk (fun hke=>W.mk ?_) (fun hke=>W.mk ?_)
         ·have hke:(k:Int) = i:=hke
          have hyy:Y++[y] = (choice.take (k + 1)).filter (fun y=>decide (y∈N) || decide (y = x)):=by rw [hsn,if_pos (by simp [hki2 (by omega)])]
          (conv=>whnf)
          repeat' (first | (refine ob ?_ ?_;(first | trivial | omega | (simp only [inR];omega) | exact ble (by rfl) | exact SlR.some ‹_› (by omega));(conv=>whnf)) | (first | (refine ra ‹_› (by rfl) ?_;(conv=>whnf)) | (refine rb ‹_› (by rfl) ?_;(conv=>whnf)) | (refine rc ‹_› (by rfl) ?_;(conv=>whnf)) | (refine rd ‹_› (by rfl) ?_;(conv=>whnf))))
          exact RoundP.of (k + 1,kx + 1,Y++[y]) (HeadP.of [(2,some 100)] ⟨rfl,rfl,rfl,rfl,rfl,rfl,rfl,trivial⟩ ⟨rfl,rfl,(congrArg (fun v=>OB.row none (kx + 1) v 3 1) (flat_app intE Y [y])),trivial⟩) ⟨by show k + 1≤cn;omega,by rw [List.length_append];show kx + 1 = Y.length + 1;omega,hyy⟩ (by show cn - (k + 1) < cn - k;omega)
         ·have hke:¬ (k:Int) = i:=hke
          have hyy:Y = (choice.take (k + 1)).filter (fun y=>decide (y∈N) || decide (y = x)):=by rw [hsn,if_neg (by simp [hyn,hki (by omega)]),List.append_nil]
          (conv=>whnf)
          repeat' (refine ob ?_ ?_;(first | trivial | omega | (simp only [inR];omega) | exact ble (by rfl) | exact SlR.some ‹_› (by omega));(conv=>whnf))
          exact RoundP.of (k + 1,kx,Y) (HeadP.of [] ⟨rfl,rfl,rfl,rfl,rfl,rfl,rfl,trivial⟩ ⟨rfl,rfl,rfl,trivial⟩) ⟨by show k + 1≤cn;omega,hkx,hyy⟩ (by show cn - (k + 1) < cn - k;omega)
       ·have hk2:¬ (k:Int) < cn:=hk2
        rw [List.take_of_length_le (by omega)] at hY
        (conv=>whnf)
        repeat' (refine ob ?_ ?_;(first | trivial | omega | (simp only [inR];omega) | exact ble (by rfl) | exact SlR.some ‹_› (by omega));(conv=>whnf))
        exact RoundP.of (i + 1,kx,Y) (HeadP.of [] ⟨rfl,rfl,rfl,rfl,rfl,rfl,trivial⟩ ⟨rfl,rfl,rfl,trivial⟩) ⟨by show i + 1≤cn;omega,hkx, .inr ⟨x,hxm,hlg,hY⟩⟩ (by show cn - (i + 1) < cn - i;omega)
      clear hb
      (conv=>whnf)
      refine CallN.mk ⟨_,has13,body13,W.mk ?_⟩
      (conv=>whnf)
      refine ScaP.g (ok2 (slRd intE) intRd fun _ _=>True) (x:=([],p.c.of)) ⟨_,_,rfl,SlV.nil,rfl,trivial⟩ (fun v hv=>W.mk ?_)
      rw [← hN0] at hv
      subst hv
      (conv=>whnf)
      refine ForkP.mk (fun hb=>W.mk ?_) (fun hb=>W.mk ?_)
      ·have hlg:elig m N x:=⟨hbx, .inr (by rw [hof];exact has_mem hb)⟩
       (conv=>whnf)
       refine LoopP.of { α:=Nat × Nat × List Int,fr:=fun z=>[(2, .c (.ptr 0 0)),(5, .v (.slice ca cn cc)),(9, .c (.row 31 (0 + 1))),(10,irow 1 0),(11, .c (.row 2 z.2.1)),(12, .v (I i)),(14, .v (I z.1))],H:=fun z=>[(0, .cells .anon [.val (.slice wa wn wc), .val (.slice a n c)] 25),(31, .row none (0 + 1) sv 9 1),(2, .row none z.2.1 (flat intE z.2.2) 3 1)]++irows 1 0 (flat intE N),ok:=fun z _=>z.1≤cn∧z.2.1 = z.2.2.length∧z.2.2 = (choice.take z.1).filter (fun y=>decide (y∈N) || decide (y = x)),m:=fun z=>cn - z.1 }
        (0,nx,X) (HeadP.of [] ⟨rfl,rfl,rfl,rfl,rfl,rfl,rfl,trivial⟩ ⟨rfl,rfl,rfl,trivial⟩) ⟨Nat.zero_le _,hnx,by rw [hX0];rfl⟩ (fun _=>⟨rfl,rfl⟩) (fun z G7 hg7 hz=>W.mk ?_)
       obtain ⟨k,kx,Y⟩:=z
       obtain ⟨hk,hkx,hY⟩:=hz
       dsimp only at hk hkx hY
       have hYl:Y.length≤10:=by
        rw [hY]
        have:=List.length_filter_le (fun y=>decide (y∈N) || decide (y = x)) (choice.take k)
        rw [List.length_take] at this
        omega
       replace hm:=moRd.grow hg7 hm
       replace hl:=slr_grow (E:=pcE) hg7 hl;replace hcl:=slr_grow (E:=intE) hg7 hcl
       replace hcv:=hcv.grow hg7
       clear hg7
       dsimp only [irow,irows]
       (conv=>whnf)
       refine IteP.mk (fun hk2=>W.mk ?_) (fun hk2=>W.mk ?_)
       ·have hk3:k < choice.length:=by have hk2:(k:Int) < cn:=hk2;omega
        have hkel:=hcl.el hk3
        have hsn:=filt_snoc (p:=fun y=>decide (y∈N) || decide (y = x)) hk3
        have hki:k≠i→choice[k]≠x:=fun hne e=>hne ((List.getElem_inj hchn).1 (e.trans hxe.symm))
        have hki2:k = i→choice[k] = x:=fun e=>by subst e;exact hxe
        rw [← hY] at hsn
        generalize choice[k] = y at hkel hsn hki hki2
        (conv=>whnf)
        repeat' (first | (refine ob ?_ ?_;(first | trivial | omega | (simp only [inR];omega) | exact ble (by rfl) | exact SlR.some ‹_› (by omega));(conv=>whnf)) | (first | (refine ra ‹_› (by rfl) ?_;(conv=>whnf)) | (refine rb ‹_› (by rfl) ?_;(conv=>whnf)) | (refine rc ‹_› (by rfl) ?_;(conv=>whnf)) | (refine rd ‹_› (by rfl) ?_;(conv=>whnf))))
        refine CallN.mk ⟨_,has13,body13,W.mk ?_⟩
        (conv=>whnf)
        refine ScaP.g (ok2 (slRd intE) intRd fun _ _=>True) (x:=([],y)) ⟨_,_,rfl,SlV.nil,rfl,trivial⟩ (fun v hv=>W.mk ?_)
        rw [← hN0] at hv
        subst hv
        (conv=>whnf)
        refine ForkP.mk (fun hb=>W.mk ?_) (fun hb=>W.mk ?_)
        ·have hyy:Y++[y] = (choice.take (k + 1)).filter (fun y=>decide (y∈N) || decide (y = x)):=by rw [hsn,if_pos (by simp [has_mem hb])]
         (conv=>whnf)
         repeat' (first | (refine ob ?_ ?_;(first | trivial | omega | (simp only [inR];omega) | exact ble (by rfl) | exact SlR.some ‹_› (by omega));(conv=>whnf)) | (first | (refine ra ‹_› (by rfl) ?_;(conv=>whnf)) | (refine rb ‹_› (by rfl) ?_;(conv=>whnf)) | (refine rc ‹_› (by rfl) ?_;(conv=>whnf)) | (refine rd ‹_› (by rfl) ?_;(conv=>whnf))))
         exact RoundP.of (k + 1,kx + 1,Y++[y]) (HeadP.of [(2,some 100)] ⟨rfl,rfl,rfl,rfl,rfl,rfl,rfl,trivial⟩ ⟨rfl,rfl,(congrArg (fun v=>OB.row none (kx + 1) v 3 1) (flat_app intE Y [y])),trivial⟩) ⟨by show k + 1≤cn;omega,by rw [List.length_append];show kx + 1 = Y.length + 1;omega,hyy⟩ (by show cn - (k + 1) < cn - k;omega)
        ·have hyn:y ∉ N:=has_not hb
         (conv=>whnf)
         refine IteP.mk (fun hke=>W.mk ?_) (fun hke=>W.mk ?_)
         ·have hke:(k:Int) = i:=hke
          have hyy:Y++[y] = (choice.take (k + 1)).filter (fun y=>decide (y∈N) || decide (y = x)):=by rw [hsn,if_pos (by simp [hki2 (by omega)])]
          (conv=>whnf)
          repeat' (first | (refine ob ?_ ?_;(first | trivial | omega | (simp only [inR];omega) | exact ble (by rfl) | exact SlR.some ‹_› (by omega));(conv=>whnf)) | (first | (refine ra ‹_› (by rfl) ?_;(conv=>whnf)) | (refine rb ‹_› (by rfl) ?_;(conv=>whnf)) | (refine rc ‹_› (by rfl) ?_;(conv=>whnf)) | (refine rd ‹_› (by rfl) ?_;(conv=>whnf))))
          exact RoundP.of (k + 1,kx + 1,Y++[y]) (HeadP.of [(2,some 100)] ⟨rfl,rfl,rfl,rfl,rfl,rfl,rfl,trivial⟩ ⟨rfl,rfl,(congrArg (fun v=>OB.row none (kx + 1) v 3 1) (flat_app intE Y [y])),trivial⟩) ⟨by show k + 1≤cn;omega,by rw [List.length_append];show kx + 1 = Y.length + 1;omega,hyy⟩ (by show cn - (k + 1) < cn - k;omega)
         ·have hke:¬ (k:Int) = i:=hke
          have hyy:Y = (choice.take (k + 1)).filter (fun y=>decide (y∈N) || decide (y = x)):=by rw [hsn,if_neg (by simp [hyn,hki (by omega)]),List.append_nil]
          (conv=>whnf)
          repeat' (refine ob ?_ ?_;(first | trivial | omega | (simp only [inR];omega) | exact ble (by rfl) | exact SlR.some ‹_› (by omega));(conv=>whnf))
          exact RoundP.of (k + 1,kx,Y) (HeadP.of [] ⟨rfl,rfl,rfl,rfl,rfl,rfl,rfl,trivial⟩ ⟨rfl,rfl,rfl,trivial⟩) ⟨by show k + 1≤cn;omega,hkx,hyy⟩ (by show cn - (k + 1) < cn - k;omega)
       ·have hk2:¬ (k:Int) < cn:=hk2
        rw [List.take_of_length_le (by omega)] at hY
        (conv=>whnf)
        repeat' (refine ob ?_ ?_;(first | trivial | omega | (simp only [inR];omega) | exact ble (by rfl) | exact SlR.some ‹_› (by omega));(conv=>whnf))
        exact RoundP.of (i + 1,kx,Y) (HeadP.of [] ⟨rfl,rfl,rfl,rfl,rfl,rfl,trivial⟩ ⟨rfl,rfl,rfl,trivial⟩) ⟨by show i + 1≤cn;omega,hkx, .inr ⟨x,hxm,hlg,hY⟩⟩ (by show cn - (i + 1) < cn - i;omega)
      ·have hbo:=has_not hb
       (conv=>whnf)
       repeat' (refine ob ?_ ?_;(first | trivial | omega | (simp only [inR];omega) | exact ble (by rfl) | exact SlR.some ‹_› (by omega));(conv=>whnf))
       exact RoundP.of (i + 1,nx,X) (HeadP.of [] ⟨rfl,rfl,rfl,rfl,rfl,rfl,trivial⟩ ⟨rfl,rfl,rfl,trivial⟩) ⟨by show i + 1≤cn;omega,hnx, .inl ⟨hX0,hniN fun h=>h.2.elim (fun h=>h0 (by rw [← hof];exact h)) (fun h=>hbo (by rw [← hof];exact h))⟩⟩ (by show cn - (i + 1) < cn - i;omega)
     ·(conv=>whnf)
      refine IteP.mk (fun h0=>W.mk ?_) (fun h0=>W.mk ?_)
      ·exfalso
       have h0:(nx:Int) = 0:=h0
       have hX0:X = []:=List.eq_nil_of_length_eq_zero (by omega)
       rcases hX with ⟨_,hno⟩ | ⟨d,hd,_,hXe⟩
       ·obtain ⟨d0,hd0,hd1⟩:∃ d∈choice,d ∉ N:=by
         apply Classical.byContradiction
         intro hc
         have hsub:∀ x∈choice,x∈N:=fun x hx=>Classical.byContradiction fun hxn=>hc ⟨x,hx,hxn⟩
         have hNn:N.Nodup:=hI.ok.inc.imp fun h=>Int.ne_of_lt h
         have:=((List.perm_ext_iff_of_nodup hchn hNn).2 fun x=>⟨hsub x,hI.sub x⟩).length_eq
         have hlt':((0:Nat):Int) < cn:=hlt
         omega
        obtain ⟨d,hd,hel⟩:=next_ex hok hch hd0 hd1
        obtain ⟨j,hj,rfl⟩:=List.getElem_of_mem hd
        exact hno j hj (by (exact absurd h0 (by omega))) hel
       ·have:d∈X:=by rw [hXe];simp [nextF,hd]
        rw [hX0] at this;cases this
      ·have h0:¬ (nx:Int) = 0:=h0
       obtain ⟨d,hd,hel,hXe⟩:∃ d∈choice,elig m N d∧X = nextF choice N d:=by
        rcases hX with ⟨h,_⟩ | h
        ·exact absurd (by rw [hnx,h];rfl) h0
        ·exact h
       have hXok:ChOk m X:=by rw [hXe];exact next_ok hch hI.sub hI.ok hd hel.2
       have hXl:X.length = N.length + 1:=by rw [hXe];exact next_more hchn hI.sub (hI.ok.inc.imp fun h=>Int.ne_of_lt h) hd hel.1
       have hXs:∀ x∈X,x∈choice:=fun x hx=>by rw [hXe] at hx;exact (List.mem_filter.1 hx).1
       have hXT:nx = 0 + 1:=by omega
       subst hXT
       (conv=>whnf)
       refine RelP.g (ok1 moRd MtOk) (x:=m) ⟨_,rfl,hm,hok⟩ (Grow.refl _) (fun v G7 hg7 hq=>W.mk ?_)
       obtain ⟨m',hm',hlk⟩:=hq
       obtain ⟨mw,ma,mn,mc,rfl,⟨xa,xn,xc,rfl,_⟩,_⟩:=id hm'
       replace hm:=moRd.grow hg7 hm
       replace hl:=slr_grow (E:=pcE) hg7 hl;replace hcl:=slr_grow (E:=intE) hg7 hcl
       replace hcv:=hcv.grow hg7
       (conv=>whnf)
       repeat' (first | (refine OblP.mk rfl (W.mk ?_);(conv=>whnf)) | (refine ob ?_ ?_;(first | trivial | omega | (simp only [inR];omega) | exact ble (by rfl) | exact SlR.some ‹_› (by omega));(conv=>whnf)))
       refine PubP.mk (fun pa pc G8 hg8 h8=>W.mk ?_)
       have hX8:SlV intE G8 (.slice pa (0 + (0 + 1)) pc) X:=h8.slV (e:=intE) rfl (by omega) (by omega)
       replace hm:=moRd.grow hg8 hm
       replace hl:=slr_grow (E:=pcE) hg8 hl;replace hcl:=slr_grow (E:=intE) hg8 hcl
       replace hcv:=hcv.grow hg8
       replace hm':=moRd.grow hg8 hm'
       (conv=>whnf)
       refine RelP.g (ok2 moRd (slRd intE) fun m l=>MtOk m∧ChOk m l) (x:=(m',X)) ⟨_,_,rfl,hm',hX8,lk_mt hlk hok,lk_ch hlk hXok⟩ (Grow.refl _) (fun v G4 hg4 hq=>W.mk ?_)
       obtain ⟨sw,oa,on,oc,rfl,ws,hws,hgw,hwn⟩:=hq
       obtain ⟨sa,sn,sc,rfl,hsl⟩:=id hws
       (conv=>whnf)
       refine IteP.mk (fun _=>W.mk ?_) (fun h=>absurd rfl h)
       (conv=>whnf)
       refine ScaP.g (ok1 (slRd strE) fun l=>(∀ s∈l,GoodW s)∧l.length≤8000000000000) (x:=ws) ⟨_,rfl,hws,hgw,hwn⟩ (fun v hv=>W.mk ?_)
       obtain ⟨s0,rfl,hpl⟩:=hv
       (conv=>whnf)
       have hSn:=hS.n
       repeat' (first | (refine OblP.mk rfl (W.mk ?_);(conv=>whnf)) | (refine ob ?_ ?_;(first | trivial | omega | (simp only [inR];omega) | exact ble (by rfl) | exact SlR.some ‹_› (by omega));(conv=>whnf)))
       exact RoundP.of (0 + 1,X,S++[s0],_) (HeadP.of [(1,some 2),(31,some 133)] ⟨rfl,rfl,rfl,rfl,trivial⟩ ⟨rfl,rfl,rfl,trivial⟩) ⟨⟨hXok,hXs,by rw [List.length_append,hI.n];show N.length + 1 + 1 = X.length + 1;omega,fun s hs=>(List.mem_append.1 hs).elim (hI.p s) (fun h=>by rw [List.mem_singleton.1 h];exact hpl)⟩,by show 0 + 1 = X.length;omega,hS.snoc s0⟩ (by show choice.length - X.length < choice.length - N.length;omega)
    ·(conv=>whnf)
     refine IteP.mk (fun h0=>W.mk ?_) (fun h0=>W.mk ?_)
     ·exfalso
      have h0:(nx:Int) = 0:=h0
      have hX0:X = []:=List.eq_nil_of_length_eq_zero (by omega)
      rcases hX with ⟨_,hno⟩ | ⟨d,hd,_,hXe⟩
      ·obtain ⟨d0,hd0,hd1⟩:∃ d∈choice,d ∉ N:=by
        apply Classical.byContradiction
        intro hc
        have hsub:∀ x∈choice,x∈N:=fun x hx=>Classical.byContradiction fun hxn=>hc ⟨x,hx,hxn⟩
        have hNn:N.Nodup:=hI.ok.inc.imp fun h=>Int.ne_of_lt h
        have:=((List.perm_ext_iff_of_nodup hchn hNn).2 fun x=>⟨hsub x,hI.sub x⟩).length_eq
        have hlt':((0:Nat):Int) < cn:=hlt
        omega
       obtain ⟨d,hd,hel⟩:=next_ex hok hch hd0 hd1
       obtain ⟨j,hj,rfl⟩:=List.getElem_of_mem hd
       exact hno j hj (by (omega)) hel
      ·have:d∈X:=by rw [hXe];simp [nextF,hd]
       rw [hX0] at this;cases this
     ·have h0:¬ (nx:Int) = 0:=h0
      obtain ⟨d,hd,hel,hXe⟩:∃ d∈choice,elig m N d∧X = nextF choice N d:=by
       rcases hX with ⟨h,_⟩ | h
       ·exact absurd (by rw [hnx,h];rfl) h0
       ·exact h
      have hXok:ChOk m X:=by rw [hXe];exact next_ok hch hI.sub hI.ok hd hel.2
      have hXl:X.length = N.length + 1:=by rw [hXe];exact next_more hchn hI.sub (hI.ok.inc.imp fun h=>Int.ne_of_lt h) hd hel.1
      have hXs:∀ x∈X,x∈choice:=fun x hx=>by rw [hXe] at hx;exact (List.mem_filter.1 hx).1
      have hXT:nx = 0 + 1:=by omega
      subst hXT
      (conv=>whnf)
      refine RelP.g (ok1 moRd MtOk) (x:=m) ⟨_,rfl,hm,hok⟩ (Grow.refl _) (fun v G7 hg7 hq=>W.mk ?_)
      obtain ⟨m',hm',hlk⟩:=hq
      obtain ⟨mw,ma,mn,mc,rfl,⟨xa,xn,xc,rfl,_⟩,_⟩:=id hm'
      replace hm:=moRd.grow hg7 hm
      replace hl:=slr_grow (E:=pcE) hg7 hl;replace hcl:=slr_grow (E:=intE) hg7 hcl
      replace hcv:=hcv.grow hg7
      (conv=>whnf)
      repeat' (first | (refine OblP.mk rfl (W.mk ?_);(conv=>whnf)) | (refine ob ?_ ?_;(first | trivial | omega | (simp only [inR];omega) | exact ble (by rfl) | exact SlR.some ‹_› (by omega));(conv=>whnf)))
      refine PubP.mk (fun pa pc G8 hg8 h8=>W.mk ?_)
      have hX8:SlV intE G8 (.slice pa (0 + (0 + 1)) pc) X:=h8.slV (e:=intE) rfl (by omega) (by omega)
      replace hm:=moRd.grow hg8 hm
      replace hl:=slr_grow (E:=pcE) hg8 hl;replace hcl:=slr_grow (E:=intE) hg8 hcl
      replace hcv:=hcv.grow hg8
      replace hm':=moRd.grow hg8 hm'
      (conv=>whnf)
      refine RelP.g (ok2 moRd (slRd intE) fun m l=>MtOk m∧ChOk m l) (x:=(m',X)) ⟨_,_,rfl,hm',hX8,lk_mt hlk hok,lk_ch hlk hXok⟩ (Grow.refl _) (fun v G4 hg4 hq=>W.mk ?_)
      obtain ⟨sw,oa,on,oc,rfl,ws,hws,hgw,hwn⟩:=hq
      obtain ⟨sa,sn,sc,rfl,hsl⟩:=id hws
      (conv=>whnf)
      refine IteP.mk (fun _=>W.mk ?_) (fun h=>absurd rfl h)
      (conv=>whnf)
      refine ScaP.g (ok1 (slRd strE) fun l=>(∀ s∈l,GoodW s)∧l.length≤8000000000000) (x:=ws) ⟨_,rfl,hws,hgw,hwn⟩ (fun v hv=>W.mk ?_)
      obtain ⟨s0,rfl,hpl⟩:=hv
      (conv=>whnf)
      have hSn:=hS.n
      repeat' (first | (refine OblP.mk rfl (W.mk ?_);(conv=>whnf)) | (refine ob ?_ ?_;(first | trivial | omega | (simp only [inR];omega) | exact ble (by rfl) | exact SlR.some ‹_› (by omega));(conv=>whnf)))
      exact RoundP.of (0 + 1,X,S++[s0],_) (HeadP.of [(1,some 2),(31,some 133)] ⟨rfl,rfl,rfl,rfl,trivial⟩ ⟨rfl,rfl,rfl,trivial⟩) ⟨⟨hXok,hXs,by rw [List.length_append,hI.n];show N.length + 1 + 1 = X.length + 1;omega,fun s hs=>(List.mem_append.1 hs).elim (hI.p s) (fun h=>by rw [List.mem_singleton.1 h];exact hpl)⟩,by show 0 + 1 = X.length;omega,hS.snoc s0⟩ (by show choice.length - X.length < choice.length - N.length;omega)
   ·have hSn:=hS.n
    have hNle:N.length≤choice.length:=by
     have hNn:N.Nodup:=hI.ok.inc.imp fun h=>Int.ne_of_lt h
     have hp:(choice.filter fun x=>decide (x∈N)).Perm N:=(List.perm_ext_iff_of_nodup (hchn.sublist List.filter_sublist) hNn).2 fun x=>by
      simp only [List.mem_filter,decide_eq_true_eq]
      exact ⟨fun h=>h.2,fun h=>⟨hI.sub x h,h⟩⟩
     have:=List.length_filter_le (fun x=>decide (x∈N)) choice
     rw [hp.length_eq] at this
     exact this
    refine LoopP.of { α:=Nat × Nat × List Value,fr:=fun z=>[(9, .c (.row 31 (0 + 1))),(15, .c (.row 3 z.2.1)),(16, .v (I z.1))],H:=fun z=>[(31, .row none (0 + 1) sv 9 1),(3, .row none z.2.1 z.2.2 47 6)],ok:=fun z _=>z.1≤0 + 1∧Row erE (errF 1 (S.take z.1).tail) z.2.1 z.2.2∧∀ j (h:j < S.length),j < z.1→TxOk S[j],m:=fun z=>0 + 1 - z.1 }
     (0,0,[]) (HeadP.of [(3,none)] ⟨rfl,rfl,rfl,trivial⟩ ⟨rfl,rfl,trivial⟩) ⟨Nat.zero_le _,Row.nil,fun j _ h=>absurd h (Nat.not_lt_zero _)⟩ (fun _=>⟨rfl,rfl⟩) (fun z G6 hg6 hz=>W.mk ?_)
    obtain ⟨k,en,ev⟩:=z
    obtain ⟨hk,hE,hT2⟩:=hz
    dsimp only at hk hE hT2
    dsimp only
    have hEn:=hE.n
    rw [errF_len,List.length_tail,List.length_take] at hEn
    (conv=>whnf)
    refine IteP.mk (fun hk2=>W.mk ?_) (fun hk2=>W.mk ?_)<;>(conv=>whnf)
    ·have hk3:k < S.length:=by have hk2:(k:Int) < (0 + 1:Nat):=hk2;omega
     have hpk:=hI.p _ (List.getElem_mem hk3)
     repeat' (refine ob ?_ ?_;(first | trivial | omega | (simp only [inR];omega) | exact ble (by rfl) | exact SlR.some ‹_› (by omega));(conv=>whnf))
     refine EqP.row hS hk3 (W.mk ?_)
     (conv=>whnf)
     refine IteP.mk (fun h1=>W.mk ?_) (fun h1=>W.mk ?_)
     ·(conv=>whnf)
      refine ScaP.mk ⟨(),rfl⟩ (fun v hv=>W.mk ?_)
      obtain ⟨_,_,rfl⟩:=hv
      (conv=>whnf)
      refine ForkP.mk (fun _=>W.mk ?_) (fun h=>by cases h)
      (conv=>whnf)
      exact FinP.mk rfl
     have h1:¬ (S[k].size:Int) < 1:=h1
     (conv=>whnf)
     repeat' (refine ob ?_ ?_;(first | trivial | omega | (simp only [inR];omega) | exact ble (by rfl) | exact SlR.some ‹_› (by omega));(conv=>whnf))
     refine EqP.row hS hk3 (W.mk ?_)
     (conv=>whnf)
     refine IteP.mk (fun h2=>W.mk ?_) (fun h2=>W.mk ?_)
     ·(conv=>whnf)
      refine ScaP.mk ⟨(),rfl⟩ (fun v hv=>W.mk ?_)
      obtain ⟨_,_,rfl⟩:=hv
      (conv=>whnf)
      refine ForkP.mk (fun _=>W.mk ?_) (fun h=>by cases h)
      (conv=>whnf)
      exact FinP.mk rfl
     have h2:¬ (S[k].size:Int) > 200:=h2
     have hT3:∀ j (h:j < S.length),j < k + 1→TxOk S[j]:=fun j h hj=>by
      by_cases e:j = k
      ·subst e;exact ⟨by omega,hpk⟩
      ·exact hT2 j h (by omega)
     (conv=>whnf)
     refine IteP.mk (fun h3=>W.mk ?_) (fun h3=>W.mk ?_)
     ·have h3:(k:Int) > 0:=h3
      have hErr:=err_step hk3 (by omega)
      (conv=>whnf)
      repeat' (refine ob ?_ ?_;(first | trivial | omega | (simp only [inR];omega) | exact ble (by rfl) | exact SlR.some ‹_› (by omega));(conv=>whnf))
      refine EqP.row hS hk3 (W.mk ?_)
      (conv=>whnf)
      repeat' (first | (refine OblP.mk rfl (W.mk ?_);(conv=>whnf)) | (refine ob ?_ ?_;(first | trivial | omega | (simp only [inR];omega) | exact ble (by rfl) | exact SlR.some ‹_› (by omega));(conv=>whnf)))
      exact RoundP.of (k + 1,en + 1,_) (HeadP.of [(3,some 168)] ⟨rfl,rfl,rfl,trivial⟩ ⟨rfl,rfl,trivial⟩) ⟨by show k + 1≤0 + 1;omega,by show Row erE (errF 1 (S.take (k + 1)).tail) (en + 1) _;rw [hErr];exact hE.snoc ⟨k,k,0,1,S[k],0⟩,hT3⟩ (by show 0 + 1 - (k + 1) < 0 + 1 - k;omega)
     ·have h3:¬ (k:Int) > 0:=h3
      have hk0:k = 0:=by omega
      (conv=>whnf)
      repeat' (refine ob ?_ ?_;(first | trivial | omega | (simp only [inR];omega) | exact ble (by rfl) | exact SlR.some ‹_› (by omega));(conv=>whnf))
      exact RoundP.of (k + 1,en,ev) (HeadP.of [] ⟨rfl,rfl,rfl,trivial⟩ ⟨rfl,rfl,trivial⟩) ⟨by show k + 1≤0 + 1;omega,by show Row erE (errF 1 (S.take (k + 1)).tail) en ev;rw [err_zero hk3 hk0];exact hE,hT3⟩ (by show 0 + 1 - (k + 1) < 0 + 1 - k;omega)
    ·have hk2:¬ (k:Int) < (0 + 1:Nat):=hk2
     have hkS:S.length≤k:=by omega
     rw [List.take_of_length_le hkS] at hE
     refine PubP.mk (fun pa pc G8 hg8 h8=>W.mk ?_)
     (conv=>whnf)
     refine PubP.mk (fun qa qc G9 hg9 h9=>W.mk ?_)
     (conv=>whnf)
     refine ScaP.mk ⟨S,_,_,rfl,(hS.pub h8 (by omega)).grow hg9,hE.pub h9 (by rw [hE.n,errF_len,List.length_tail];omega),⟨(fun e=>by rw [e] at hSn;cases hSn),by omega⟩,fun s hs=>?_⟩ (fun v hv=>W.mk ?_)
     ·obtain ⟨j,hj,rfl⟩:=List.getElem_of_mem hs
      exact hT2 j hj (by omega)
     obtain ⟨_,_,rfl⟩:=hv
     (conv=>whnf)
     refine ForkP.mk (fun _=>W.mk ?_) (fun h=>by cases h)
     (conv=>whnf)
     refine ScaP.mk ⟨(),rfl⟩ (fun v hv=>W.mk ?_)
     obtain ⟨_,_,rfl⟩:=hv
     (conv=>whnf)
     refine ForkP.mk (fun _=>W.mk ?_) (fun h=>by cases h)
     (conv=>whnf)
     exact FinP.mk rfl
  | succ t =>
   dsimp only [irow,irows]
   (conv=>whnf)
   refine IteP.mk (fun hlt=>W.mk ?_) (fun hge=>W.mk ?_)<;>(conv=>whnf)
   ·refine LoopP.of { α:=Nat × Nat × List Int,fr:=fun z=>[(2, .c (.ptr 0 0)),(5, .v (.slice ca cn cc)),(9, .c (.row 31 ((t + 1) + 1))),(10,irow 1 (t + 1)),(11, .c (.row 2 z.2.1)),(12, .v (I z.1))],H:=fun z=>[(0, .cells .anon [.val (.slice wa wn wc), .val (.slice a n c)] 25),(31, .row none ((t + 1) + 1) sv 9 1),(2, .row none z.2.1 (flat intE z.2.2) 3 1)]++irows 1 (t + 1) (flat intE N),ok:=fun z _=>z.1≤cn∧z.2.1 = z.2.2.length∧NxI m choice N z.1 z.2.2,m:=fun z=>cn - z.1 }
     (0,0,[]) (HeadP.of [(2,none)] ⟨rfl,rfl,rfl,rfl,rfl,rfl,trivial⟩ ⟨rfl,rfl,rfl,rfl,trivial⟩) ⟨Nat.zero_le _,rfl, .inl ⟨rfl,fun j _ h=>absurd h (Nat.not_lt_zero _)⟩⟩ (fun _=>⟨rfl,rfl⟩) (fun z G6 hg6 hz=>W.mk ?_)
    obtain ⟨i,nx,X⟩:=z
    obtain ⟨hi,hnx,hX⟩:=hz
    dsimp only at hi hnx hX
    replace hm:=moRd.grow hg6 hm
    replace hl:=slr_grow (E:=pcE) hg6 hl;replace hcl:=slr_grow (E:=intE) hg6 hcl
    replace hcv:=hcv.grow hg6
    clear hg6
    dsimp only [irow,irows]
    (conv=>whnf)
    refine IteP.mk (fun hi2=>W.mk ?_) (fun hi2=>W.mk ?_)
    ·(conv=>whnf)
     refine IteP.mk (fun hx0=>W.mk ?_) (fun hx0=>W.mk ?_)
     ·have hx0:(nx:Int) = 0:=hx0
      have hi3:i < choice.length:=by have hi2:(i:Int) < cn:=hi2;omega
      have hX0:X = []:=List.eq_nil_of_length_eq_zero (by omega)
      have hnone:∀ j (h:j < choice.length),j < i→¬ elig m N choice[j]:=by
       rcases hX with ⟨_,h⟩ | ⟨d,hd,hel,hXe⟩
       ·exact h
       ·have:d∈X:=by rw [hXe];simp [nextF,hd]
        rw [hX0] at this;cases this
      obtain ⟨p,hpo⟩:=hch.mem _ (List.getElem_mem hi3)
      obtain ⟨ip,hip,hix,hpo2⟩:=num_ix (m:=m) (x:=choice[i]) (List.mem_map.2 ⟨p,(pOf_mem hpo).1,(pOf_mem hpo).2⟩)
      have hpe:=hl.el (i:=ip) (by omega)
      rw [cs_get hip] at hpe
      rw [Option.some.inj (hpo2.symm.trans hpo)] at hpe
      have hof:ofOf m choice[i] = p.c.of:=by rw [ofOf,hpo]
      have hel:=hcl.el hi3
      have hxm:=List.getElem_mem hi3
      have hniN:(elig m N choice[i]→False)→∀ j (h:j < choice.length),j < i + 1→¬ elig m N choice[j]:=fun hne j h hj=>by
       by_cases e:j = i
       ·subst e;exact hne
       ·exact hnone j h (by omega)
      (conv=>whnf)
      repeat' (first | (refine ob ?_ ?_;(first | trivial | omega | (simp only [inR];omega) | exact ble (by rfl) | exact SlR.some ‹_› (by omega));(conv=>whnf)) | (first | (refine ra ‹_› (by rfl) ?_;(conv=>whnf)) | (refine rb ‹_› (by rfl) ?_;(conv=>whnf)) | (refine rc ‹_› (by rfl) ?_;(conv=>whnf)) | (refine rd ‹_› (by rfl) ?_;(conv=>whnf))))
      refine ScaP.g (ok2 moRd intRd fun _ _=>True) (x:=(m,choice[i])) ⟨_,_,rfl,hm,rfl,trivial⟩ (fun v hv=>W.mk ?_)
      rw [show ixF (m,choice[i]).1.ps (m,choice[i]).2 = (ip:Int) from hix] at hv
      subst hv
      (conv=>whnf)
      repeat' (first | (refine ob ?_ ?_;(first | trivial | omega | (simp only [inR];omega) | exact ble (by rfl) | exact SlR.some ‹_› (by omega));(conv=>whnf)) | (first | (refine ra ‹_› (by rfl) ?_;(conv=>whnf)) | (refine rb ‹_› (by rfl) ?_;(conv=>whnf)) | (refine rc ‹_› (by rfl) ?_;(conv=>whnf)) | (refine rd ‹_› (by rfl) ?_;(conv=>whnf))))
      generalize hxe:choice[i] = x at *
      refine PubP.opn (Nat.succ_ne_zero t) (fun b cap rest g1 g2 g3=>W.mk ?_)
      (conv=>whnf)
      refine CallN.mk ⟨_,Sound.lendS has13 (fun v=>v = .bool (hasI N x)),body13,W.mk ?_⟩
      (conv=>whnf)
      refine StP.mk ⟨[(1,⟨b,false, .row (t + 1) (t + 1) cap (flat intE N) rest 3 1⟩)],⟨⟨_,_,rfl,rfl,Nat.le_refl _,by rw [flat_len, ← hN];rfl,g3,g1,g2,flat_one _ _⟩,trivial⟩,by simp,⟨fun x hx=>by rw [List.mem_singleton.1 hx],fun _=>⟨⟨(N,x),_,_,rfl,joinF hN.symm g1 (by omega),rfl,trivial⟩,fun v hv=>?_⟩⟩,fun v ns G4 hg4 hpost=>W.mk ?_⟩
      ·obtain ⟨y0,hy0,e⟩:=hv
       have:y0 = (N,x):=(ok2 (slRd intE) intRd fun _ _=>True).uniq _ _ _ _ hy0 ⟨_,_,rfl,joinF hN.symm g1 (by omega),rfl,trivial⟩
       subst this;exact e
      obtain ⟨rfl,rfl⟩:=hpost
      replace hm:=moRd.grow hg4 hm
      replace hl:=slr_grow (E:=pcE) hg4 hl;replace hcl:=slr_grow (E:=intE) hg4 hcl
      replace hcv:=hcv.grow hg4
      try replace hkel:=hkel.grow hg4
      clear hg4
      (conv=>whnf)
      refine ForkP.mk (fun hb=>W.mk ?_) (fun hb=>W.mk ?_)
      ·have hbx:x∈N:=has_mem hb
       (conv=>whnf)
       repeat' (refine ob ?_ ?_;(first | trivial | omega | (simp only [inR];omega) | exact ble (by rfl) | exact SlR.some ‹_› (by omega));(conv=>whnf))
       exact RoundP.of (i + 1,nx,X) (HeadP.of [] ⟨rfl,rfl,rfl,rfl,rfl,rfl,trivial⟩ ⟨rfl,rfl,rfl,rfl,trivial⟩) ⟨by show i + 1≤cn;omega,hnx, .inl ⟨hX0,hniN fun h=>h.1 hbx⟩⟩ (by show cn - (i + 1) < cn - i;omega)
      have hbx:x ∉ N:=has_not hb
      (conv=>whnf)
      refine IteP.mk (fun h0=>W.mk ?_) (fun h0=>W.mk ?_)
      ·have hlg:elig m N x:=⟨hbx, .inl (by rw [hof];exact h0)⟩
       (conv=>whnf)
       refine LoopP.of { α:=Nat × Nat × List Int,fr:=fun z=>[(2, .c (.ptr 0 0)),(5, .v (.slice ca cn cc)),(9, .c (.row 31 ((t + 1) + 1))),(10,irow 1 (t + 1)),(11, .c (.row 2 z.2.1)),(12, .v (I i)),(14, .v (I z.1))],H:=fun z=>[(0, .cells .anon [.val (.slice wa wn wc), .val (.slice a n c)] 25),(31, .row none ((t + 1) + 1) sv 9 1),(2, .row none z.2.1 (flat intE z.2.2) 3 1)]++irows 1 (t + 1) (flat intE N),ok:=fun z _=>z.1≤cn∧z.2.1 = z.2.2.length∧z.2.2 = (choice.take z.1).filter (fun y=>decide (y∈N) || decide (y = x)),m:=fun z=>cn - z.1 }
        (0,nx,X) (HeadP.of [] ⟨rfl,rfl,rfl,rfl,rfl,rfl,rfl,trivial⟩ ⟨rfl,rfl,rfl,rfl,trivial⟩) ⟨Nat.zero_le _,hnx,by rw [hX0];rfl⟩ (fun _=>⟨rfl,rfl⟩) (fun z G7 hg7 hz=>W.mk ?_)
       obtain ⟨k,kx,Y⟩:=z
       obtain ⟨hk,hkx,hY⟩:=hz
       dsimp only at hk hkx hY
       have hYl:Y.length≤10:=by
        rw [hY]
        have:=List.length_filter_le (fun y=>decide (y∈N) || decide (y = x)) (choice.take k)
        rw [List.length_take] at this
        omega
       replace hm:=moRd.grow hg7 hm
       replace hl:=slr_grow (E:=pcE) hg7 hl;replace hcl:=slr_grow (E:=intE) hg7 hcl
       replace hcv:=hcv.grow hg7
       clear hg7
       dsimp only [irow,irows]
       (conv=>whnf)
       refine IteP.mk (fun hk2=>W.mk ?_) (fun hk2=>W.mk ?_)
       ·have hk3:k < choice.length:=by have hk2:(k:Int) < cn:=hk2;omega
        have hkel:=hcl.el hk3
        have hsn:=filt_snoc (p:=fun y=>decide (y∈N) || decide (y = x)) hk3
        have hki:k≠i→choice[k]≠x:=fun hne e=>hne ((List.getElem_inj hchn).1 (e.trans hxe.symm))
        have hki2:k = i→choice[k] = x:=fun e=>by subst e;exact hxe
        rw [← hY] at hsn
        generalize choice[k] = y at hkel hsn hki hki2
        (conv=>whnf)
        repeat' (first | (refine ob ?_ ?_;(first | trivial | omega | (simp only [inR];omega) | exact ble (by rfl) | exact SlR.some ‹_› (by omega));(conv=>whnf)) | (first | (refine ra ‹_› (by rfl) ?_;(conv=>whnf)) | (refine rb ‹_› (by rfl) ?_;(conv=>whnf)) | (refine rc ‹_› (by rfl) ?_;(conv=>whnf)) | (refine rd ‹_› (by rfl) ?_;(conv=>whnf))))
        refine PubP.opn (Nat.succ_ne_zero t) (fun b cap rest g1 g2 g3=>W.mk ?_)
        (conv=>whnf)
        refine CallN.mk ⟨_,Sound.lendS has13 (fun v=>v = .bool (hasI N y)),body13,W.mk ?_⟩
        (conv=>whnf)
        refine StP.mk ⟨[(1,⟨b,false, .row (t + 1) (t + 1) cap (flat intE N) rest 3 1⟩)],⟨⟨_,_,rfl,rfl,Nat.le_refl _,by rw [flat_len, ← hN];rfl,g3,g1,g2,flat_one _ _⟩,trivial⟩,by simp,⟨fun x hx=>by rw [List.mem_singleton.1 hx],fun _=>⟨⟨(N,y),_,_,rfl,joinF hN.symm g1 (by omega),rfl,trivial⟩,fun v hv=>?_⟩⟩,fun v ns G4 hg4 hpost=>W.mk ?_⟩
        ·obtain ⟨y0,hy0,e⟩:=hv
         have:y0 = (N,y):=(ok2 (slRd intE) intRd fun _ _=>True).uniq _ _ _ _ hy0 ⟨_,_,rfl,joinF hN.symm g1 (by omega),rfl,trivial⟩
         subst this;exact e
        obtain ⟨rfl,rfl⟩:=hpost
        replace hm:=moRd.grow hg4 hm
        replace hl:=slr_grow (E:=pcE) hg4 hl;replace hcl:=slr_grow (E:=intE) hg4 hcl
        replace hcv:=hcv.grow hg4
        try replace hkel:=hkel.grow hg4
        clear hg4
        (conv=>whnf)
        refine ForkP.mk (fun hb=>W.mk ?_) (fun hb=>W.mk ?_)
        ·have hyy:Y++[y] = (choice.take (k + 1)).filter (fun y=>decide (y∈N) || decide (y = x)):=by rw [hsn,if_pos (by simp [has_mem hb])]
         (conv=>whnf)
         repeat' (first | (refine ob ?_ ?_;(first | trivial | omega | (simp only [inR];omega) | exact ble (by rfl) | exact SlR.some ‹_› (by omega));(conv=>whnf)) | (first | (refine ra ‹_› (by rfl) ?_;(conv=>whnf)) | (refine rb ‹_› (by rfl) ?_;(conv=>whnf)) | (refine rc ‹_› (by rfl) ?_;(conv=>whnf)) | (refine rd ‹_› (by rfl) ?_;(conv=>whnf))))
         exact RoundP.of (k + 1,kx + 1,Y++[y]) (HeadP.of [(2,some 100)] ⟨rfl,rfl,rfl,rfl,rfl,rfl,rfl,trivial⟩ ⟨rfl,rfl,(congrArg (fun v=>OB.row none (kx + 1) v 3 1) (flat_app intE Y [y])),rfl,trivial⟩) ⟨by show k + 1≤cn;omega,by rw [List.length_append];show kx + 1 = Y.length + 1;omega,hyy⟩ (by show cn - (k + 1) < cn - k;omega)
        ·have hyn:y ∉ N:=has_not hb
         (conv=>whnf)
         refine IteP.mk (fun hke=>W.mk ?_) (fun hke=>W.mk ?_)
         ·have hke:(k:Int) = i:=hke
          have hyy:Y++[y] = (choice.take (k + 1)).filter (fun y=>decide (y∈N) || decide (y = x)):=by rw [hsn,if_pos (by simp [hki2 (by omega)])]
          (conv=>whnf)
          repeat' (first | (refine ob ?_ ?_;(first | trivial | omega | (simp only [inR];omega) | exact ble (by rfl) | exact SlR.some ‹_› (by omega));(conv=>whnf)) | (first | (refine ra ‹_› (by rfl) ?_;(conv=>whnf)) | (refine rb ‹_› (by rfl) ?_;(conv=>whnf)) | (refine rc ‹_› (by rfl) ?_;(conv=>whnf)) | (refine rd ‹_› (by rfl) ?_;(conv=>whnf))))
          exact RoundP.of (k + 1,kx + 1,Y++[y]) (HeadP.of [(2,some 100)] ⟨rfl,rfl,rfl,rfl,rfl,rfl,rfl,trivial⟩ ⟨rfl,rfl,(congrArg (fun v=>OB.row none (kx + 1) v 3 1) (flat_app intE Y [y])),rfl,trivial⟩) ⟨by show k + 1≤cn;omega,by rw [List.length_append];show kx + 1 = Y.length + 1;omega,hyy⟩ (by show cn - (k + 1) < cn - k;omega)
         ·have hke:¬ (k:Int) = i:=hke
          have hyy:Y = (choice.take (k + 1)).filter (fun y=>decide (y∈N) || decide (y = x)):=by rw [hsn,if_neg (by simp [hyn,hki (by omega)]),List.append_nil]
          (conv=>whnf)
          repeat' (refine ob ?_ ?_;(first | trivial | omega | (simp only [inR];omega) | exact ble (by rfl) | exact SlR.some ‹_› (by omega));(conv=>whnf))
          exact RoundP.of (k + 1,kx,Y) (HeadP.of [] ⟨rfl,rfl,rfl,rfl,rfl,rfl,rfl,trivial⟩ ⟨rfl,rfl,rfl,rfl,trivial⟩) ⟨by show k + 1≤cn;omega,hkx,hyy⟩ (by show cn - (k + 1) < cn - k;omega)
       ·have hk2:¬ (k:Int) < cn:=hk2
        rw [List.take_of_length_le (by omega)] at hY
        (conv=>whnf)
        repeat' (refine ob ?_ ?_;(first | trivial | omega | (simp only [inR];omega) | exact ble (by rfl) | exact SlR.some ‹_› (by omega));(conv=>whnf))
        exact RoundP.of (i + 1,kx,Y) (HeadP.of [] ⟨rfl,rfl,rfl,rfl,rfl,rfl,trivial⟩ ⟨rfl,rfl,rfl,rfl,trivial⟩) ⟨by show i + 1≤cn;omega,hkx, .inr ⟨x,hxm,hlg,hY⟩⟩ (by show cn - (i + 1) < cn - i;omega)
      clear hb
      (conv=>whnf)
      refine CallN.mk ⟨_,Sound.lendS has13 (fun v=>v = .bool (hasI N p.c.of)),body13,W.mk ?_⟩
      (conv=>whnf)
      refine StP.mk ⟨[(1,⟨b,false, .row (t + 1) (t + 1) cap (flat intE N) rest 3 1⟩)],⟨⟨_,_,rfl,rfl,Nat.le_refl _,by rw [flat_len, ← hN];rfl,g3,g1,g2,flat_one _ _⟩,trivial⟩,by simp,⟨fun x hx=>by rw [List.mem_singleton.1 hx],fun _=>⟨⟨(N,p.c.of),_,_,rfl,joinF hN.symm g1 (by omega),rfl,trivial⟩,fun v hv=>?_⟩⟩,fun v ns G4 hg4 hpost=>W.mk ?_⟩
      ·obtain ⟨y0,hy0,e⟩:=hv
       have:y0 = (N,p.c.of):=(ok2 (slRd intE) intRd fun _ _=>True).uniq _ _ _ _ hy0 ⟨_,_,rfl,joinF hN.symm g1 (by omega),rfl,trivial⟩
       subst this;exact e
      obtain ⟨rfl,rfl⟩:=hpost
      replace hm:=moRd.grow hg4 hm
      replace hl:=slr_grow (E:=pcE) hg4 hl;replace hcl:=slr_grow (E:=intE) hg4 hcl
      replace hcv:=hcv.grow hg4
      try replace hkel:=hkel.grow hg4
      clear hg4
      (conv=>whnf)
      refine ForkP.mk (fun hb=>W.mk ?_) (fun hb=>W.mk ?_)
      ·have hlg:elig m N x:=⟨hbx, .inr (by rw [hof];exact has_mem hb)⟩
       (conv=>whnf)
       refine LoopP.of { α:=Nat × Nat × List Int,fr:=fun z=>[(2, .c (.ptr 0 0)),(5, .v (.slice ca cn cc)),(9, .c (.row 31 ((t + 1) + 1))),(10,irow 1 (t + 1)),(11, .c (.row 2 z.2.1)),(12, .v (I i)),(14, .v (I z.1))],H:=fun z=>[(0, .cells .anon [.val (.slice wa wn wc), .val (.slice a n c)] 25),(31, .row none ((t + 1) + 1) sv 9 1),(2, .row none z.2.1 (flat intE z.2.2) 3 1)]++irows 1 (t + 1) (flat intE N),ok:=fun z _=>z.1≤cn∧z.2.1 = z.2.2.length∧z.2.2 = (choice.take z.1).filter (fun y=>decide (y∈N) || decide (y = x)),m:=fun z=>cn - z.1 }
        (0,nx,X) (HeadP.of [] ⟨rfl,rfl,rfl,rfl,rfl,rfl,rfl,trivial⟩ ⟨rfl,rfl,rfl,rfl,trivial⟩) ⟨Nat.zero_le _,hnx,by rw [hX0];rfl⟩ (fun _=>⟨rfl,rfl⟩) (fun z G7 hg7 hz=>W.mk ?_)
       obtain ⟨k,kx,Y⟩:=z
       obtain ⟨hk,hkx,hY⟩:=hz
       dsimp only at hk hkx hY
       have hYl:Y.length≤10:=by
        rw [hY]
        have:=List.length_filter_le (fun y=>decide (y∈N) || decide (y = x)) (choice.take k)
        rw [List.length_take] at this
        omega
       replace hm:=moRd.grow hg7 hm
       replace hl:=slr_grow (E:=pcE) hg7 hl;replace hcl:=slr_grow (E:=intE) hg7 hcl
       replace hcv:=hcv.grow hg7
       clear hg7
       dsimp only [irow,irows]
       (conv=>whnf)
       refine IteP.mk (fun hk2=>W.mk ?_) (fun hk2=>W.mk ?_)
       ·have hk3:k < choice.length:=by have hk2:(k:Int) < cn:=hk2;omega
        have hkel:=hcl.el hk3
        have hsn:=filt_snoc (p:=fun y=>decide (y∈N) || decide (y = x)) hk3
        have hki:k≠i→choice[k]≠x:=fun hne e=>hne ((List.getElem_inj hchn).1 (e.trans hxe.symm))
        have hki2:k = i→choice[k] = x:=fun e=>by subst e;exact hxe
        rw [← hY] at hsn
        generalize choice[k] = y at hkel hsn hki hki2
        (conv=>whnf)
        repeat' (first | (refine ob ?_ ?_;(first | trivial | omega | (simp only [inR];omega) | exact ble (by rfl) | exact SlR.some ‹_› (by omega));(conv=>whnf)) | (first | (refine ra ‹_› (by rfl) ?_;(conv=>whnf)) | (refine rb ‹_› (by rfl) ?_;(conv=>whnf)) | (refine rc ‹_› (by rfl) ?_;(conv=>whnf)) | (refine rd ‹_› (by rfl) ?_;(conv=>whnf))))
        refine PubP.opn (Nat.succ_ne_zero t) (fun b cap rest g1 g2 g3=>W.mk ?_)
        (conv=>whnf)
        refine CallN.mk ⟨_,Sound.lendS has13 (fun v=>v = .bool (hasI N y)),body13,W.mk ?_⟩
        (conv=>whnf)
        refine StP.mk ⟨[(1,⟨b,false, .row (t + 1) (t + 1) cap (flat intE N) rest 3 1⟩)],⟨⟨_,_,rfl,rfl,Nat.le_refl _,by rw [flat_len, ← hN];rfl,g3,g1,g2,flat_one _ _⟩,trivial⟩,by simp,⟨fun x hx=>by rw [List.mem_singleton.1 hx],fun _=>⟨⟨(N,y),_,_,rfl,joinF hN.symm g1 (by omega),rfl,trivial⟩,fun v hv=>?_⟩⟩,fun v ns G4 hg4 hpost=>W.mk ?_⟩
        ·obtain ⟨y0,hy0,e⟩:=hv
         have:y0 = (N,y):=(ok2 (slRd intE) intRd fun _ _=>True).uniq _ _ _ _ hy0 ⟨_,_,rfl,joinF hN.symm g1 (by omega),rfl,trivial⟩
         subst this;exact e
        obtain ⟨rfl,rfl⟩:=hpost
        replace hm:=moRd.grow hg4 hm
        replace hl:=slr_grow (E:=pcE) hg4 hl;replace hcl:=slr_grow (E:=intE) hg4 hcl
        replace hcv:=hcv.grow hg4
        try replace hkel:=hkel.grow hg4
        clear hg4
        (conv=>whnf)
        refine ForkP.mk (fun hb=>W.mk ?_) (fun hb=>W.mk ?_)
        ·have hyy:Y++[y] = (choice.take (k + 1)).filter (fun y=>decide (y∈N) || decide (y = x)):=by rw [hsn,if_pos (by simp [has_mem hb])]
         (conv=>whnf)
         repeat' (first | (refine ob ?_ ?_;(first | trivial | omega | (simp only [inR];omega) | exact ble (by rfl) | exact SlR.some ‹_› (by omega));(conv=>whnf)) | (first | (refine ra ‹_› (by rfl) ?_;(conv=>whnf)) | (refine rb ‹_› (by rfl) ?_;(conv=>whnf)) | (refine rc ‹_› (by rfl) ?_;(conv=>whnf)) | (refine rd ‹_› (by rfl) ?_;(conv=>whnf))))
         exact RoundP.of (k + 1,kx + 1,Y++[y]) (HeadP.of [(2,some 100)] ⟨rfl,rfl,rfl,rfl,rfl,rfl,rfl,trivial⟩ ⟨rfl,rfl,(congrArg (fun v=>OB.row none (kx + 1) v 3 1) (flat_app intE Y [y])),rfl,trivial⟩) ⟨by show k + 1≤cn;omega,by rw [List.length_append];show kx + 1 = Y.length + 1;omega,hyy⟩ (by show cn - (k + 1) < cn - k;omega)
        ·have hyn:y ∉ N:=has_not hb
         (conv=>whnf)
         refine IteP.mk (fun hke=>W.mk ?_) (fun hke=>W.mk ?_)
         ·have hke:(k:Int) = i:=hke
          have hyy:Y++[y] = (choice.take (k + 1)).filter (fun y=>decide (y∈N) || decide (y = x)):=by rw [hsn,if_pos (by simp [hki2 (by omega)])]
          (conv=>whnf)
          repeat' (first | (refine ob ?_ ?_;(first | trivial | omega | (simp only [inR];omega) | exact ble (by rfl) | exact SlR.some ‹_› (by omega));(conv=>whnf)) | (first | (refine ra ‹_› (by rfl) ?_;(conv=>whnf)) | (refine rb ‹_› (by rfl) ?_;(conv=>whnf)) | (refine rc ‹_› (by rfl) ?_;(conv=>whnf)) | (refine rd ‹_› (by rfl) ?_;(conv=>whnf))))
          exact RoundP.of (k + 1,kx + 1,Y++[y]) (HeadP.of [(2,some 100)] ⟨rfl,rfl,rfl,rfl,rfl,rfl,rfl,trivial⟩ ⟨rfl,rfl,(congrArg (fun v=>OB.row none (kx + 1) v 3 1) (flat_app intE Y [y])),rfl,trivial⟩) ⟨by show k + 1≤cn;omega,by rw [List.length_append];show kx + 1 = Y.length + 1;omega,hyy⟩ (by show cn - (k + 1) < cn - k;omega)
         ·have hke:¬ (k:Int) = i:=hke
          have hyy:Y = (choice.take (k + 1)).filter (fun y=>decide (y∈N) || decide (y = x)):=by rw [hsn,if_neg (by simp [hyn,hki (by omega)]),List.append_nil]
          (conv=>whnf)
          repeat' (refine ob ?_ ?_;(first | trivial | omega | (simp only [inR];omega) | exact ble (by rfl) | exact SlR.some ‹_› (by omega));(conv=>whnf))
          exact RoundP.of (k + 1,kx,Y) (HeadP.of [] ⟨rfl,rfl,rfl,rfl,rfl,rfl,rfl,trivial⟩ ⟨rfl,rfl,rfl,rfl,trivial⟩) ⟨by show k + 1≤cn;omega,hkx,hyy⟩ (by show cn - (k + 1) < cn - k;omega)
       ·have hk2:¬ (k:Int) < cn:=hk2
        rw [List.take_of_length_le (by omega)] at hY
        (conv=>whnf)
        repeat' (refine ob ?_ ?_;(first | trivial | omega | (simp only [inR];omega) | exact ble (by rfl) | exact SlR.some ‹_› (by omega));(conv=>whnf))
        exact RoundP.of (i + 1,kx,Y) (HeadP.of [] ⟨rfl,rfl,rfl,rfl,rfl,rfl,trivial⟩ ⟨rfl,rfl,rfl,rfl,trivial⟩) ⟨by show i + 1≤cn;omega,hkx, .inr ⟨x,hxm,hlg,hY⟩⟩ (by show cn - (i + 1) < cn - i;omega)
      ·have hbo:=has_not hb
       (conv=>whnf)
       repeat' (refine ob ?_ ?_;(first | trivial | omega | (simp only [inR];omega) | exact ble (by rfl) | exact SlR.some ‹_› (by omega));(conv=>whnf))
       exact RoundP.of (i + 1,nx,X) (HeadP.of [] ⟨rfl,rfl,rfl,rfl,rfl,rfl,trivial⟩ ⟨rfl,rfl,rfl,rfl,trivial⟩) ⟨by show i + 1≤cn;omega,hnx, .inl ⟨hX0,hniN fun h=>h.2.elim (fun h=>h0 (by rw [← hof];exact h)) (fun h=>hbo (by rw [← hof];exact h))⟩⟩ (by show cn - (i + 1) < cn - i;omega)
     ·(conv=>whnf)
      refine IteP.mk (fun h0=>W.mk ?_) (fun h0=>W.mk ?_)
      ·exfalso
       have h0:(nx:Int) = 0:=h0
       have hX0:X = []:=List.eq_nil_of_length_eq_zero (by omega)
       rcases hX with ⟨_,hno⟩ | ⟨d,hd,_,hXe⟩
       ·obtain ⟨d0,hd0,hd1⟩:∃ d∈choice,d ∉ N:=by
         apply Classical.byContradiction
         intro hc
         have hsub:∀ x∈choice,x∈N:=fun x hx=>Classical.byContradiction fun hxn=>hc ⟨x,hx,hxn⟩
         have hNn:N.Nodup:=hI.ok.inc.imp fun h=>Int.ne_of_lt h
         have:=((List.perm_ext_iff_of_nodup hchn hNn).2 fun x=>⟨hsub x,hI.sub x⟩).length_eq
         have hlt':(((t + 1):Nat):Int) < cn:=hlt
         omega
        obtain ⟨d,hd,hel⟩:=next_ex hok hch hd0 hd1
        obtain ⟨j,hj,rfl⟩:=List.getElem_of_mem hd
        exact hno j hj (by (exact absurd h0 (by omega))) hel
       ·have:d∈X:=by rw [hXe];simp [nextF,hd]
        rw [hX0] at this;cases this
      ·have h0:¬ (nx:Int) = 0:=h0
       obtain ⟨d,hd,hel,hXe⟩:∃ d∈choice,elig m N d∧X = nextF choice N d:=by
        rcases hX with ⟨h,_⟩ | h
        ·exact absurd (by rw [hnx,h];rfl) h0
        ·exact h
       have hXok:ChOk m X:=by rw [hXe];exact next_ok hch hI.sub hI.ok hd hel.2
       have hXl:X.length = N.length + 1:=by rw [hXe];exact next_more hchn hI.sub (hI.ok.inc.imp fun h=>Int.ne_of_lt h) hd hel.1
       have hXs:∀ x∈X,x∈choice:=fun x hx=>by rw [hXe] at hx;exact (List.mem_filter.1 hx).1
       have hXT:nx = (t + 1) + 1:=by omega
       subst hXT
       (conv=>whnf)
       refine RelP.g (ok1 moRd MtOk) (x:=m) ⟨_,rfl,hm,hok⟩ (Grow.refl _) (fun v G7 hg7 hq=>W.mk ?_)
       obtain ⟨m',hm',hlk⟩:=hq
       obtain ⟨mw,ma,mn,mc,rfl,⟨xa,xn,xc,rfl,_⟩,_⟩:=id hm'
       replace hm:=moRd.grow hg7 hm
       replace hl:=slr_grow (E:=pcE) hg7 hl;replace hcl:=slr_grow (E:=intE) hg7 hcl
       replace hcv:=hcv.grow hg7
       (conv=>whnf)
       repeat' (first | (refine OblP.mk rfl (W.mk ?_);(conv=>whnf)) | (refine ob ?_ ?_;(first | trivial | omega | (simp only [inR];omega) | exact ble (by rfl) | exact SlR.some ‹_› (by omega));(conv=>whnf)))
       refine PubP.mk (fun pa pc G8 hg8 h8=>W.mk ?_)
       have hX8:SlV intE G8 (.slice pa (0 + ((t + 1) + 1)) pc) X:=h8.slV (e:=intE) rfl (by omega) (by omega)
       replace hm:=moRd.grow hg8 hm
       replace hl:=slr_grow (E:=pcE) hg8 hl;replace hcl:=slr_grow (E:=intE) hg8 hcl
       replace hcv:=hcv.grow hg8
       replace hm':=moRd.grow hg8 hm'
       (conv=>whnf)
       refine RelP.g (ok2 moRd (slRd intE) fun m l=>MtOk m∧ChOk m l) (x:=(m',X)) ⟨_,_,rfl,hm',hX8,lk_mt hlk hok,lk_ch hlk hXok⟩ (Grow.refl _) (fun v G4 hg4 hq=>W.mk ?_)
       obtain ⟨sw,oa,on,oc,rfl,ws,hws,hgw,hwn⟩:=hq
       obtain ⟨sa,sn,sc,rfl,hsl⟩:=id hws
       (conv=>whnf)
       refine IteP.mk (fun _=>W.mk ?_) (fun h=>absurd rfl h)
       (conv=>whnf)
       refine ScaP.g (ok1 (slRd strE) fun l=>(∀ s∈l,GoodW s)∧l.length≤8000000000000) (x:=ws) ⟨_,rfl,hws,hgw,hwn⟩ (fun v hv=>W.mk ?_)
       obtain ⟨s0,rfl,hpl⟩:=hv
       (conv=>whnf)
       have hSn:=hS.n
       repeat' (first | (refine OblP.mk rfl (W.mk ?_);(conv=>whnf)) | (refine ob ?_ ?_;(first | trivial | omega | (simp only [inR];omega) | exact ble (by rfl) | exact SlR.some ‹_› (by omega));(conv=>whnf)))
       exact RoundP.of ((t + 1) + 1,X,S++[s0],_) (HeadP.of [(1,some 2),(31,some 133)] ⟨rfl,rfl,rfl,rfl,trivial⟩ ⟨rfl,rfl,rfl,trivial⟩) ⟨⟨hXok,hXs,by rw [List.length_append,hI.n];show N.length + 1 + 1 = X.length + 1;omega,fun s hs=>(List.mem_append.1 hs).elim (hI.p s) (fun h=>by rw [List.mem_singleton.1 h];exact hpl)⟩,by show (t + 1) + 1 = X.length;omega,hS.snoc s0⟩ (by show choice.length - X.length < choice.length - N.length;omega)
    ·(conv=>whnf)
     refine IteP.mk (fun h0=>W.mk ?_) (fun h0=>W.mk ?_)
     ·exfalso
      have h0:(nx:Int) = 0:=h0
      have hX0:X = []:=List.eq_nil_of_length_eq_zero (by omega)
      rcases hX with ⟨_,hno⟩ | ⟨d,hd,_,hXe⟩
      ·obtain ⟨d0,hd0,hd1⟩:∃ d∈choice,d ∉ N:=by
        apply Classical.byContradiction
        intro hc
        have hsub:∀ x∈choice,x∈N:=fun x hx=>Classical.byContradiction fun hxn=>hc ⟨x,hx,hxn⟩
        have hNn:N.Nodup:=hI.ok.inc.imp fun h=>Int.ne_of_lt h
        have:=((List.perm_ext_iff_of_nodup hchn hNn).2 fun x=>⟨hsub x,hI.sub x⟩).length_eq
        have hlt':(((t + 1):Nat):Int) < cn:=hlt
        omega
       obtain ⟨d,hd,hel⟩:=next_ex hok hch hd0 hd1
       obtain ⟨j,hj,rfl⟩:=List.getElem_of_mem hd
       exact hno j hj (by (omega)) hel
      ·have:d∈X:=by rw [hXe];simp [nextF,hd]
       rw [hX0] at this;cases this
     ·have h0:¬ (nx:Int) = 0:=h0
      obtain ⟨d,hd,hel,hXe⟩:∃ d∈choice,elig m N d∧X = nextF choice N d:=by
       rcases hX with ⟨h,_⟩ | h
       ·exact absurd (by rw [hnx,h];rfl) h0
       ·exact h
      have hXok:ChOk m X:=by rw [hXe];exact next_ok hch hI.sub hI.ok hd hel.2
      have hXl:X.length = N.length + 1:=by rw [hXe];exact next_more hchn hI.sub (hI.ok.inc.imp fun h=>Int.ne_of_lt h) hd hel.1
      have hXs:∀ x∈X,x∈choice:=fun x hx=>by rw [hXe] at hx;exact (List.mem_filter.1 hx).1
      have hXT:nx = (t + 1) + 1:=by omega
      subst hXT
      (conv=>whnf)
      refine RelP.g (ok1 moRd MtOk) (x:=m) ⟨_,rfl,hm,hok⟩ (Grow.refl _) (fun v G7 hg7 hq=>W.mk ?_)
      obtain ⟨m',hm',hlk⟩:=hq
      obtain ⟨mw,ma,mn,mc,rfl,⟨xa,xn,xc,rfl,_⟩,_⟩:=id hm'
      replace hm:=moRd.grow hg7 hm
      replace hl:=slr_grow (E:=pcE) hg7 hl;replace hcl:=slr_grow (E:=intE) hg7 hcl
      replace hcv:=hcv.grow hg7
      (conv=>whnf)
      repeat' (first | (refine OblP.mk rfl (W.mk ?_);(conv=>whnf)) | (refine ob ?_ ?_;(first | trivial | omega | (simp only [inR];omega) | exact ble (by rfl) | exact SlR.some ‹_› (by omega));(conv=>whnf)))
      refine PubP.mk (fun pa pc G8 hg8 h8=>W.mk ?_)
      have hX8:SlV intE G8 (.slice pa (0 + ((t + 1) + 1)) pc) X:=h8.slV (e:=intE) rfl (by omega) (by omega)
      replace hm:=moRd.grow hg8 hm
      replace hl:=slr_grow (E:=pcE) hg8 hl;replace hcl:=slr_grow (E:=intE) hg8 hcl
      replace hcv:=hcv.grow hg8
      replace hm':=moRd.grow hg8 hm'
      (conv=>whnf)
      refine RelP.g (ok2 moRd (slRd intE) fun m l=>MtOk m∧ChOk m l) (x:=(m',X)) ⟨_,_,rfl,hm',hX8,lk_mt hlk hok,lk_ch hlk hXok⟩ (Grow.refl _) (fun v G4 hg4 hq=>W.mk ?_)
      obtain ⟨sw,oa,on,oc,rfl,ws,hws,hgw,hwn⟩:=hq
      obtain ⟨sa,sn,sc,rfl,hsl⟩:=id hws
      (conv=>whnf)
      refine IteP.mk (fun _=>W.mk ?_) (fun h=>absurd rfl h)
      (conv=>whnf)
      refine ScaP.g (ok1 (slRd strE) fun l=>(∀ s∈l,GoodW s)∧l.length≤8000000000000) (x:=ws) ⟨_,rfl,hws,hgw,hwn⟩ (fun v hv=>W.mk ?_)
      obtain ⟨s0,rfl,hpl⟩:=hv
      (conv=>whnf)
      have hSn:=hS.n
      repeat' (first | (refine OblP.mk rfl (W.mk ?_);(conv=>whnf)) | (refine ob ?_ ?_;(first | trivial | omega | (simp only [inR];omega) | exact ble (by rfl) | exact SlR.some ‹_› (by omega));(conv=>whnf)))
      exact RoundP.of ((t + 1) + 1,X,S++[s0],_) (HeadP.of [(1,some 2),(31,some 133)] ⟨rfl,rfl,rfl,rfl,trivial⟩ ⟨rfl,rfl,rfl,trivial⟩) ⟨⟨hXok,hXs,by rw [List.length_append,hI.n];show N.length + 1 + 1 = X.length + 1;omega,fun s hs=>(List.mem_append.1 hs).elim (hI.p s) (fun h=>by rw [List.mem_singleton.1 h];exact hpl)⟩,by show (t + 1) + 1 = X.length;omega,hS.snoc s0⟩ (by show choice.length - X.length < choice.length - N.length;omega)
   ·have hSn:=hS.n
    have hNle:N.length≤choice.length:=by
     have hNn:N.Nodup:=hI.ok.inc.imp fun h=>Int.ne_of_lt h
     have hp:(choice.filter fun x=>decide (x∈N)).Perm N:=(List.perm_ext_iff_of_nodup (hchn.sublist List.filter_sublist) hNn).2 fun x=>by
      simp only [List.mem_filter,decide_eq_true_eq]
      exact ⟨fun h=>h.2,fun h=>⟨hI.sub x h,h⟩⟩
     have:=List.length_filter_le (fun x=>decide (x∈N)) choice
     rw [hp.length_eq] at this
     exact this
    refine LoopP.of { α:=Nat × Nat × List Value,fr:=fun z=>[(9, .c (.row 31 ((t + 1) + 1))),(15, .c (.row 3 z.2.1)),(16, .v (I z.1))],H:=fun z=>[(31, .row none ((t + 1) + 1) sv 9 1),(3, .row none z.2.1 z.2.2 47 6)],ok:=fun z _=>z.1≤(t + 1) + 1∧Row erE (errF 1 (S.take z.1).tail) z.2.1 z.2.2∧∀ j (h:j < S.length),j < z.1→TxOk S[j],m:=fun z=>(t + 1) + 1 - z.1 }
     (0,0,[]) (HeadP.of [(3,none)] ⟨rfl,rfl,rfl,trivial⟩ ⟨rfl,rfl,trivial⟩) ⟨Nat.zero_le _,Row.nil,fun j _ h=>absurd h (Nat.not_lt_zero _)⟩ (fun _=>⟨rfl,rfl⟩) (fun z G6 hg6 hz=>W.mk ?_)
    obtain ⟨k,en,ev⟩:=z
    obtain ⟨hk,hE,hT2⟩:=hz
    dsimp only at hk hE hT2
    dsimp only
    have hEn:=hE.n
    rw [errF_len,List.length_tail,List.length_take] at hEn
    (conv=>whnf)
    refine IteP.mk (fun hk2=>W.mk ?_) (fun hk2=>W.mk ?_)<;>(conv=>whnf)
    ·have hk3:k < S.length:=by have hk2:(k:Int) < ((t + 1) + 1:Nat):=hk2;omega
     have hpk:=hI.p _ (List.getElem_mem hk3)
     repeat' (refine ob ?_ ?_;(first | trivial | omega | (simp only [inR];omega) | exact ble (by rfl) | exact SlR.some ‹_› (by omega));(conv=>whnf))
     refine EqP.row hS hk3 (W.mk ?_)
     (conv=>whnf)
     refine IteP.mk (fun h1=>W.mk ?_) (fun h1=>W.mk ?_)
     ·(conv=>whnf)
      refine ScaP.mk ⟨(),rfl⟩ (fun v hv=>W.mk ?_)
      obtain ⟨_,_,rfl⟩:=hv
      (conv=>whnf)
      refine ForkP.mk (fun _=>W.mk ?_) (fun h=>by cases h)
      (conv=>whnf)
      exact FinP.mk rfl
     have h1:¬ (S[k].size:Int) < 1:=h1
     (conv=>whnf)
     repeat' (refine ob ?_ ?_;(first | trivial | omega | (simp only [inR];omega) | exact ble (by rfl) | exact SlR.some ‹_› (by omega));(conv=>whnf))
     refine EqP.row hS hk3 (W.mk ?_)
     (conv=>whnf)
     refine IteP.mk (fun h2=>W.mk ?_) (fun h2=>W.mk ?_)
     ·(conv=>whnf)
      refine ScaP.mk ⟨(),rfl⟩ (fun v hv=>W.mk ?_)
      obtain ⟨_,_,rfl⟩:=hv
      (conv=>whnf)
      refine ForkP.mk (fun _=>W.mk ?_) (fun h=>by cases h)
      (conv=>whnf)
      exact FinP.mk rfl
     have h2:¬ (S[k].size:Int) > 200:=h2
     have hT3:∀ j (h:j < S.length),j < k + 1→TxOk S[j]:=fun j h hj=>by
      by_cases e:j = k
      ·subst e;exact ⟨by omega,hpk⟩
      ·exact hT2 j h (by omega)
     (conv=>whnf)
     refine IteP.mk (fun h3=>W.mk ?_) (fun h3=>W.mk ?_)
     ·have h3:(k:Int) > 0:=h3
      have hErr:=err_step hk3 (by omega)
      (conv=>whnf)
      repeat' (refine ob ?_ ?_;(first | trivial | omega | (simp only [inR];omega) | exact ble (by rfl) | exact SlR.some ‹_› (by omega));(conv=>whnf))
      refine EqP.row hS hk3 (W.mk ?_)
      (conv=>whnf)
      repeat' (first | (refine OblP.mk rfl (W.mk ?_);(conv=>whnf)) | (refine ob ?_ ?_;(first | trivial | omega | (simp only [inR];omega) | exact ble (by rfl) | exact SlR.some ‹_› (by omega));(conv=>whnf)))
      exact RoundP.of (k + 1,en + 1,_) (HeadP.of [(3,some 168)] ⟨rfl,rfl,rfl,trivial⟩ ⟨rfl,rfl,trivial⟩) ⟨by show k + 1≤(t + 1) + 1;omega,by show Row erE (errF 1 (S.take (k + 1)).tail) (en + 1) _;rw [hErr];exact hE.snoc ⟨k,k,0,1,S[k],0⟩,hT3⟩ (by show (t + 1) + 1 - (k + 1) < (t + 1) + 1 - k;omega)
     ·have h3:¬ (k:Int) > 0:=h3
      have hk0:k = 0:=by omega
      (conv=>whnf)
      repeat' (refine ob ?_ ?_;(first | trivial | omega | (simp only [inR];omega) | exact ble (by rfl) | exact SlR.some ‹_› (by omega));(conv=>whnf))
      exact RoundP.of (k + 1,en,ev) (HeadP.of [] ⟨rfl,rfl,rfl,trivial⟩ ⟨rfl,rfl,trivial⟩) ⟨by show k + 1≤(t + 1) + 1;omega,by show Row erE (errF 1 (S.take (k + 1)).tail) en ev;rw [err_zero hk3 hk0];exact hE,hT3⟩ (by show (t + 1) + 1 - (k + 1) < (t + 1) + 1 - k;omega)
    ·have hk2:¬ (k:Int) < ((t + 1) + 1:Nat):=hk2
     have hkS:S.length≤k:=by omega
     rw [List.take_of_length_le hkS] at hE
     refine PubP.mk (fun pa pc G8 hg8 h8=>W.mk ?_)
     (conv=>whnf)
     refine PubP.mk (fun qa qc G9 hg9 h9=>W.mk ?_)
     (conv=>whnf)
     refine ScaP.mk ⟨S,_,_,rfl,(hS.pub h8 (by omega)).grow hg9,hE.pub h9 (by rw [hE.n,errF_len,List.length_tail];omega),⟨(fun e=>by rw [e] at hSn;cases hSn),by omega⟩,fun s hs=>?_⟩ (fun v hv=>W.mk ?_)
     ·obtain ⟨j,hj,rfl⟩:=List.getElem_of_mem hs
      exact hT2 j hj (by omega)
     obtain ⟨_,_,rfl⟩:=hv
     (conv=>whnf)
     refine ForkP.mk (fun _=>W.mk ?_) (fun h=>by cases h)
     (conv=>whnf)
     refine ScaP.mk ⟨(),rfl⟩ (fun v hv=>W.mk ?_)
     obtain ⟨_,_,rfl⟩:=hv
     (conv=>whnf)
     refine ForkP.mk (fun _=>W.mk ?_) (fun h=>by cases h)
     (conv=>whnf)
     exact FinP.mk rfl
end Go.Proofs.YtefnikpoimaiiaaGreat

namespace Go.Proofs.YtefnikpoimaiiaaGreat
open Go.Pal Go.RowKit
set_option maxRecDepth 100000
abbrev erVal (x:Er):Value:=.agg #[I x.n,I x.d,U8 x.k,I x.a, .string x.t,I x.w]
abbrev paVal (x:Int × ByteArray):Value:=.agg #[I x.1, .string x.2]
def paE:El (Int × ByteArray):=⟨2,fun x=>[I x.1, .string x.2],fun {x y} h=>by obtain ⟨_,_⟩:=x;obtain ⟨_,_⟩:=y;simp at h;simp [h],fun _=>rfl,fun _ v hv=>by simp at hv;rcases hv with rfl | rfl<;>rfl⟩

/-! ### 93 -/
theorem inj93:∀ x y:Er,(erVal) x = (erVal) y→x = y:=fun x y h=>by cases x;cases y;simp [erVal] at h;simp [h]
theorem not130 (g:FuncId) (fi ca:Array Value) (p:Er→Bool) (q:Er→Prop) (J:Hp→Prop) (b:Nat) (hr:SoundFn Tryz.prog (.func (.func g) fi ca) (TestS erVal p q J [])):Sound Tryz.prog 130 (fun a=>(#[]:Array Value).toList++a++(#[bptr b]:Array Value).toList) (TestS erVal (fun x=>!p x) q J [⟨b,false, .cells [.func (.func g) fi ca] 212⟩]):=by
 refine ⟨fun args ls v ns G G' hg h=>h,fun args ls G Wd hsub hls hnd hpre=>?_⟩
 obtain ⟨rfl,hj,x,rfl,hx⟩:=hpre
 refine st_sound (Tab.nil _) comp130 (svs:=[.agg [.val (I x.n), .val (I x.d), .val (U8 x.k), .val (I x.a), .val (.string x.t), .val (I x.w)], .c (.ptr 0 0)]) (obs:=[.cells (.named b) [.val (.func (.func g) fi ca)] 212]) (by simp) hsub hls hnd (Nat.le_of_ble_eq_true rfl) ?_ ?_ ?_
 ·exact ⟨⟨[I x.n,I x.d,U8 x.k,I x.a, .string x.t,I x.w],rfl,relL_vals _ [I x.n,I x.d,U8 x.k,I x.a, .string x.t,I x.w]⟩,(by intro c hc;simp at hc;rcases hc with rfl | rfl | rfl | rfl | rfl | rfl<;>trivial),⟨_,rfl,rfl⟩,(Nat.le_of_ble_eq_true rfl:0 < 1),trivial⟩
 ·exact ⟨⟨_,rfl,relL_vals _ [.func (.func g) fi ca],(by intro c hc;simp at hc;subst hc;trivial)⟩,trivial⟩
 ·(conv=>whnf)
  refine CallvP.fn _ hr (W.mk ?_)
  (conv=>whnf)
  refine StP.mk ⟨[],trivial,(by show ([]:List Nat).Nodup;decide),⟨rfl,hj,x,rfl,hx⟩,fun v ns G3 hg3 hpost=>W.mk ?_⟩
  obtain ⟨rfl,y,q1,rfl⟩:=hpost
  have hxy:=inj93 x y (List.cons.inj q1).1
  subst hxy
  (conv=>whnf)
  refine ForkP.mk (fun hm=>W.mk ?_) (fun hm=>W.mk ?_)<;>(conv=>whnf)<;>refine FinS.mk ⟨[],⟨.cells [.func (.func g) fi ca] 212,⟨_,rfl,rfl⟩,trivial,rfl,rfl⟩,rfl,x,rfl, ?_⟩<;>(show Value.bool _ = Value.bool (!p x);rw [hm];rfl)
theorem idx187 (g:FuncId) (fi ca:Array Value) (p:Er→Bool) (q:Er→Prop) (J:Hp→Prop) (b:Nat) (hJ:∀ G G',Grow G G'→J G→J G') (hr:SoundFn Tryz.prog (.func (.func g) fi ca) (TestS erVal p q J [])):Sound Tryz.prog 187 id (AllS erE (.func (.func 130) #[] #[bptr b]) (fun xs=>I (idxP p xs 0)) q J [⟨b,false, .cells [.func (.func g) fi ca] 212⟩]):=by
 refine ⟨fun args ls v ns G G' hg h=>?_,fun args ls G Wd hsub hls hnd hpre=>?_⟩
 ·obtain ⟨h0,w,xs,h1,h2,h3⟩:=h;exact ⟨h0,w,xs,h1,h2.grow hg,h3⟩
 obtain ⟨rfl,hj,w,l,rfl,⟨a,n,c,rfl,hl,hn⟩,hq⟩:=hpre
 refine st_sound (Tab.nil _) comp187 (svs:=[.v (.slice a n c), .v (.func (.func 130) #[] #[bptr b])]) (obs:=[.cells (.named b) [.val (.func (.func g) fi ca)] 212]) (by simp) hsub hls hnd (Nat.le_of_ble_eq_true rfl) ?_ ?_ ?_
 ·exact ⟨rfl,trivial,rfl,trivial,trivial⟩
 ·exact ⟨⟨_,rfl,relL_vals _ [.func (.func g) fi ca],(by intro c hc;simp at hc;subst hc;trivial)⟩,trivial⟩
 ·have hlen:=hl.len
  (conv=>whnf)
  refine LoopP.of { α:=Nat,fr:=fun x=>[(0, .v (.slice a n c)),(1, .v (.func (.func 130) #[] #[bptr b])),(7, .v (I n)),(8, .v (I x))],H:=fun _=>[(0, .cells (.named b) [.val (.func (.func g) fi ca)] 212)],ok:=fun i _=>i≤l.length∧idxP p (l.drop i) i = idxP p l 0,m:=fun x=>l.length - x }
   0 (HeadP.of [] ⟨rfl,rfl,rfl,rfl,trivial⟩ ⟨rfl,trivial⟩) ⟨Nat.zero_le _,rfl⟩ (fun _=>⟨rfl,rfl⟩) (fun (i:Nat) G' hG hx=>W.mk ?_)
  obtain ⟨hi,hx⟩:=hx
  replace hl:=SlR.grow (G:=G) (G':=G') (fun _ _ h=>h) hl hG
  replace hj:=hJ _ _ hG hj
  (conv=>whnf)
  refine IteP.mk (fun hlt=>W.mk ?_) (fun hge=>W.mk ?_)<;>(conv=>whnf)
  ·have hlt:i < l.length:=by omega
   have hc:=hl.el hlt
   have hqi:=hq _ (List.getElem_mem hlt)
   rw [List.drop_eq_getElem_cons hlt,idxP] at hx
   repeat' (first | (refine ob ?_ ?_;(first | trivial | omega | (simp only [inR];omega) | exact ble (by rfl) | exact SlR.some ‹_› (by omega));(conv=>whnf)) | (first | (refine ra ‹_› (by rfl) ?_;(conv=>whnf)) | (refine rb ‹_› (by rfl) ?_;(conv=>whnf)) | (refine rc ‹_› (by rfl) ?_;(conv=>whnf)) | (refine rd ‹_› (by rfl) ?_;(conv=>whnf))))
   refine CallvP.fn _ (SoundFn.of body130 (not130 g fi ca p q J b hr)) (W.mk ?_)
   (conv=>whnf)
   refine StP.mk ⟨[(0,⟨b,false, .cells [.func (.func g) fi ca] 212⟩)],⟨⟨_,rfl,rfl⟩,trivial⟩,(by show ([0]:List Nat).Nodup;decide),⟨rfl,hj,l[i],rfl,hqi⟩,fun v ns G3 hg3 hpost=>W.mk ?_⟩
   obtain ⟨rfl,y,q1,rfl⟩:=hpost
   have hxy:=inj93 _ y (List.cons.inj q1).1
   subst hxy
   (conv=>whnf)
   refine ForkP.mk (fun hm=>W.mk ?_) (fun hm=>W.mk ?_)<;>(conv=>whnf)
   ·refine FinS.mk ⟨[],⟨.cells [.func (.func g) fi ca] 212,⟨_,rfl,rfl⟩,trivial,rfl,rfl⟩,rfl,_,l,rfl,⟨a,n,c,rfl,SlR.grow (G:=G') (G':=G3) (fun _ _ h=>h) hl hg3,hn⟩, ?_⟩
    rw [if_neg (by simpa using hm)] at hx
    show I (i:Int) = I (idxP p l 0);rw [← hx]
   ·(refine ob ?_ ?_;(first | trivial | omega | (simp only [inR];omega) | exact ble (by rfl) | exact SlR.some ‹_› (by omega));(conv=>whnf))
    rw [if_pos (by simpa using hm)] at hx
    exact RoundP.of (i + 1) (HeadP.of [] ⟨rfl,rfl,rfl,rfl,trivial⟩ ⟨rfl,trivial⟩) ⟨hlt,hx⟩ (by simp only;omega)
  ·have:i = l.length:=by omega
   subst this
   rw [List.drop_length] at hx
   refine FinS.mk ⟨[],⟨.cells [.func (.func g) fi ca] 212,⟨_,rfl,rfl⟩,trivial,rfl,rfl⟩,rfl,_,l,rfl,⟨a,n,c,rfl,hl,hn⟩, ?_⟩
   show I (-1) = I (idxP p l 0);rw [← hx];rfl
theorem con129 (g:FuncId) (fi ca:Array Value) (p:Er→Bool) (q:Er→Prop) (J:Hp→Prop) (b:Nat) (hJ:∀ G G',Grow G G'→J G→J G') (hr:SoundFn Tryz.prog (.func (.func g) fi ca) (TestS erVal p q J [])):Sound Tryz.prog 129 id (AllS erE (.func (.func 130) #[] #[bptr b]) (fun xs=>.bool (!(xs.all p))) q J [⟨b,false, .cells [.func (.func g) fi ca] 212⟩]):=by
 refine ⟨fun args ls v ns G G' hg h=>?_,fun args ls G Wd hsub hls hnd hpre=>?_⟩
 ·obtain ⟨h0,w,xs,h1,h2,h3⟩:=h;exact ⟨h0,w,xs,h1,h2.grow hg,h3⟩
 obtain ⟨rfl,hj,w,l,rfl,⟨a,n,c,rfl,hl,hn⟩,hq⟩:=hpre
 refine st_sound (Tab.cons 187 _ (idx187 g fi ca p q J b hJ hr) body187 (Tab.nil _)) comp129 (svs:=[.v (.slice a n c), .v (.func (.func 130) #[] #[bptr b])]) (obs:=[.cells (.named b) [.val (.func (.func g) fi ca)] 212]) (by simp) hsub hls hnd (Nat.le_of_ble_eq_true rfl) ?_ ?_ ?_
 ·exact ⟨rfl,trivial,rfl,trivial,trivial⟩
 ·exact ⟨⟨_,rfl,relL_vals _ [.func (.func g) fi ca],(by intro c hc;simp at hc;subst hc;trivial)⟩,trivial⟩
 ·(conv=>whnf)
  refine StP.mk ⟨[(0,⟨b,false, .cells [.func (.func g) fi ca] 212⟩)],⟨⟨_,rfl,rfl⟩,trivial⟩,(by show ([0]:List Nat).Nodup;decide),⟨rfl,hj,_,l,rfl,⟨a,n,c,rfl,hl,hn⟩,hq⟩,fun v ns G3 hg3 hpost=>W.mk ?_⟩
  obtain ⟨rfl,w',l',q1,q2,rfl⟩:=hpost
  simp only [List.cons.injEq,and_true] at q1
  subst q1
  have:l' = l:=q2.uniq (SlV.grow hg3 ⟨a,n,c,rfl,hl,hn⟩)
  subst this
  have hall:=idxP_all p l' 0
  (conv=>whnf)
  refine IteP.mk (fun hq=>W.mk ?_) (fun hq=>W.mk ?_)<;>(conv=>whnf)<;>refine FinS.mk ⟨[],⟨.cells [.func (.func g) fi ca] 212,⟨_,rfl,rfl⟩,trivial,rfl,rfl⟩,rfl,_,l',rfl,q2, ?_⟩<;>show Value.bool _ = Value.bool (!(l'.all p))<;>rw [← hall]<;>simp [*]
theorem all93 (g:FuncId) (fi ca:Array Value) (p:Er→Bool) (q:Er→Prop) (J:Hp→Prop) (hJ:∀ G G',Grow G G'→J G→J G') (hr:SoundFn Tryz.prog (.func (.func g) fi ca) (TestS erVal p q J [])):Sound Tryz.prog 93 id (AllS erE (.func (.func g) fi ca) (fun xs=>.bool (xs.all p)) q J []):=by
 refine ⟨fun args ls v ns G G' hg h=>?_,fun args ls G Wd hsub hls hnd hpre=>?_⟩
 ·obtain ⟨h0,w,xs,h1,h2,h3⟩:=h;exact ⟨h0,w,xs,h1,h2.grow hg,h3⟩
 obtain ⟨rfl,hj,w,l,rfl,⟨a,n,c,rfl,hl,hn⟩,hq⟩:=hpre
 refine st_sound (Tab.nil _) (at0 comp93) (svs:=[.v (.slice a n c), .v (.func (.func g) fi ca)]) (obs:=[]) (by simp) hsub hls hnd (Nat.le_of_ble_eq_true rfl) ?_ ?_ ?_
 ·exact ⟨rfl,trivial,rfl,trivial,trivial⟩
 ·exact trivial
 ·(conv=>whnf)
  refine NameP.mk (fun b=>W.mk ?_)
  (conv=>whnf)
  refine CallN.mk ⟨_,con129 g fi ca p q J b hJ hr,body129,W.mk ?_⟩
  (conv=>whnf)
  refine StP.mk ⟨[(0,⟨b,false, .cells [.func (.func g) fi ca] 212⟩)],⟨⟨_,rfl,rfl⟩,trivial⟩,(by show ([0]:List Nat).Nodup;decide),⟨rfl,hj,_,l,rfl,⟨a,n,c,rfl,hl,hn⟩,hq⟩,fun v ns G3 hg3 hpost=>W.mk ?_⟩
  obtain ⟨rfl,w',l',q1,q2,rfl⟩:=hpost
  simp only [List.cons.injEq,and_true] at q1
  subst q1
  have:l' = l:=q2.uniq (SlV.grow hg3 ⟨a,n,c,rfl,hl,hn⟩)
  subst this
  (conv=>whnf)
  refine ForkP.mk (fun hm=>W.mk ?_) (fun hm=>W.mk ?_)<;>(conv=>whnf)<;>refine FinS.mk ⟨[],rfl,rfl,_,l',rfl,q2, ?_⟩<;>(refine congrArg Value.bool ?_;simpa using hm)

/-! ### 185 -/
theorem inj185:∀ x y:(Int × ByteArray),(paVal) x = (paVal) y→x = y:=fun x y h=>by obtain ⟨_,_⟩:=x;obtain ⟨_,_⟩:=y;simp [paVal] at h;simp [h]
theorem not226 (g:FuncId) (fi ca:Array Value) (p:(Int × ByteArray)→Bool) (q:(Int × ByteArray)→Prop) (J:Hp→Prop) (b:Nat) (hr:SoundFn Tryz.prog (.func (.func g) fi ca) (TestS paVal p q J [])):Sound Tryz.prog 226 (fun a=>(#[]:Array Value).toList++a++(#[bptr b]:Array Value).toList) (TestS paVal (fun x=>!p x) q J [⟨b,false, .cells [.func (.func g) fi ca] 283⟩]):=by
 refine ⟨fun args ls v ns G G' hg h=>h,fun args ls G Wd hsub hls hnd hpre=>?_⟩
 obtain ⟨rfl,hj,x,rfl,hx⟩:=hpre
 refine st_sound (Tab.nil _) comp226 (svs:=[.agg [.val (I x.1), .val (.string x.2)], .c (.ptr 0 0)]) (obs:=[.cells (.named b) [.val (.func (.func g) fi ca)] 283]) (by simp) hsub hls hnd (Nat.le_of_ble_eq_true rfl) ?_ ?_ ?_
 ·exact ⟨⟨[I x.1, .string x.2],rfl,relL_vals _ [I x.1, .string x.2]⟩,(by intro c hc;simp at hc;rcases hc with rfl | rfl<;>trivial),⟨_,rfl,rfl⟩,(Nat.le_of_ble_eq_true rfl:0 < 1),trivial⟩
 ·exact ⟨⟨_,rfl,relL_vals _ [.func (.func g) fi ca],(by intro c hc;simp at hc;subst hc;trivial)⟩,trivial⟩
 ·(conv=>whnf)
  refine CallvP.fn _ hr (W.mk ?_)
  (conv=>whnf)
  refine StP.mk ⟨[],trivial,(by show ([]:List Nat).Nodup;decide),⟨rfl,hj,x,rfl,hx⟩,fun v ns G3 hg3 hpost=>W.mk ?_⟩
  obtain ⟨rfl,y,q1,rfl⟩:=hpost
  have hxy:=inj185 x y (List.cons.inj q1).1
  subst hxy
  (conv=>whnf)
  refine ForkP.mk (fun hm=>W.mk ?_) (fun hm=>W.mk ?_)<;>(conv=>whnf)<;>refine FinS.mk ⟨[],⟨.cells [.func (.func g) fi ca] 283,⟨_,rfl,rfl⟩,trivial,rfl,rfl⟩,rfl,x,rfl, ?_⟩<;>(show Value.bool _ = Value.bool (!p x);rw [hm];rfl)
theorem idx247 (g:FuncId) (fi ca:Array Value) (p:(Int × ByteArray)→Bool) (q:(Int × ByteArray)→Prop) (J:Hp→Prop) (b:Nat) (hJ:∀ G G',Grow G G'→J G→J G') (hr:SoundFn Tryz.prog (.func (.func g) fi ca) (TestS paVal p q J [])):Sound Tryz.prog 247 id (AllS paE (.func (.func 226) #[] #[bptr b]) (fun xs=>I (idxP p xs 0)) q J [⟨b,false, .cells [.func (.func g) fi ca] 283⟩]):=by
 refine ⟨fun args ls v ns G G' hg h=>?_,fun args ls G Wd hsub hls hnd hpre=>?_⟩
 ·obtain ⟨h0,w,xs,h1,h2,h3⟩:=h;exact ⟨h0,w,xs,h1,h2.grow hg,h3⟩
 obtain ⟨rfl,hj,w,l,rfl,⟨a,n,c,rfl,hl,hn⟩,hq⟩:=hpre
 refine st_sound (Tab.nil _) comp247 (svs:=[.v (.slice a n c), .v (.func (.func 226) #[] #[bptr b])]) (obs:=[.cells (.named b) [.val (.func (.func g) fi ca)] 283]) (by simp) hsub hls hnd (Nat.le_of_ble_eq_true rfl) ?_ ?_ ?_
 ·exact ⟨rfl,trivial,rfl,trivial,trivial⟩
 ·exact ⟨⟨_,rfl,relL_vals _ [.func (.func g) fi ca],(by intro c hc;simp at hc;subst hc;trivial)⟩,trivial⟩
 ·have hlen:=hl.len
  (conv=>whnf)
  refine LoopP.of { α:=Nat,fr:=fun x=>[(0, .v (.slice a n c)),(1, .v (.func (.func 226) #[] #[bptr b])),(7, .v (I n)),(8, .v (I x))],H:=fun _=>[(0, .cells (.named b) [.val (.func (.func g) fi ca)] 283)],ok:=fun i _=>i≤l.length∧idxP p (l.drop i) i = idxP p l 0,m:=fun x=>l.length - x }
   0 (HeadP.of [] ⟨rfl,rfl,rfl,rfl,trivial⟩ ⟨rfl,trivial⟩) ⟨Nat.zero_le _,rfl⟩ (fun _=>⟨rfl,rfl⟩) (fun (i:Nat) G' hG hx=>W.mk ?_)
  obtain ⟨hi,hx⟩:=hx
  replace hl:=SlR.grow (G:=G) (G':=G') (fun _ _ h=>h) hl hG
  replace hj:=hJ _ _ hG hj
  (conv=>whnf)
  refine IteP.mk (fun hlt=>W.mk ?_) (fun hge=>W.mk ?_)<;>(conv=>whnf)
  ·have hlt:i < l.length:=by omega
   have hc:=hl.el hlt
   have hqi:=hq _ (List.getElem_mem hlt)
   rw [List.drop_eq_getElem_cons hlt,idxP] at hx
   repeat' (first | (refine ob ?_ ?_;(first | trivial | omega | (simp only [inR];omega) | exact ble (by rfl) | exact SlR.some ‹_› (by omega));(conv=>whnf)) | (first | (refine ra ‹_› (by rfl) ?_;(conv=>whnf)) | (refine rb ‹_› (by rfl) ?_;(conv=>whnf)) | (refine rc ‹_› (by rfl) ?_;(conv=>whnf)) | (refine rd ‹_› (by rfl) ?_;(conv=>whnf))))
   refine CallvP.fn _ (SoundFn.of body226 (not226 g fi ca p q J b hr)) (W.mk ?_)
   (conv=>whnf)
   refine StP.mk ⟨[(0,⟨b,false, .cells [.func (.func g) fi ca] 283⟩)],⟨⟨_,rfl,rfl⟩,trivial⟩,(by show ([0]:List Nat).Nodup;decide),⟨rfl,hj,l[i],rfl,hqi⟩,fun v ns G3 hg3 hpost=>W.mk ?_⟩
   obtain ⟨rfl,y,q1,rfl⟩:=hpost
   have hxy:=inj185 _ y (List.cons.inj q1).1
   subst hxy
   (conv=>whnf)
   refine ForkP.mk (fun hm=>W.mk ?_) (fun hm=>W.mk ?_)<;>(conv=>whnf)
   ·refine FinS.mk ⟨[],⟨.cells [.func (.func g) fi ca] 283,⟨_,rfl,rfl⟩,trivial,rfl,rfl⟩,rfl,_,l,rfl,⟨a,n,c,rfl,SlR.grow (G:=G') (G':=G3) (fun _ _ h=>h) hl hg3,hn⟩, ?_⟩
    rw [if_neg (by simpa using hm)] at hx
    show I (i:Int) = I (idxP p l 0);rw [← hx]
   ·(refine ob ?_ ?_;(first | trivial | omega | (simp only [inR];omega) | exact ble (by rfl) | exact SlR.some ‹_› (by omega));(conv=>whnf))
    rw [if_pos (by simpa using hm)] at hx
    exact RoundP.of (i + 1) (HeadP.of [] ⟨rfl,rfl,rfl,rfl,trivial⟩ ⟨rfl,trivial⟩) ⟨hlt,hx⟩ (by simp only;omega)
  ·have:i = l.length:=by omega
   subst this
   rw [List.drop_length] at hx
   refine FinS.mk ⟨[],⟨.cells [.func (.func g) fi ca] 283,⟨_,rfl,rfl⟩,trivial,rfl,rfl⟩,rfl,_,l,rfl,⟨a,n,c,rfl,hl,hn⟩, ?_⟩
   show I (-1) = I (idxP p l 0);rw [← hx];rfl
theorem con225 (g:FuncId) (fi ca:Array Value) (p:(Int × ByteArray)→Bool) (q:(Int × ByteArray)→Prop) (J:Hp→Prop) (b:Nat) (hJ:∀ G G',Grow G G'→J G→J G') (hr:SoundFn Tryz.prog (.func (.func g) fi ca) (TestS paVal p q J [])):Sound Tryz.prog 225 id (AllS paE (.func (.func 226) #[] #[bptr b]) (fun xs=>.bool (!(xs.all p))) q J [⟨b,false, .cells [.func (.func g) fi ca] 283⟩]):=by
 refine ⟨fun args ls v ns G G' hg h=>?_,fun args ls G Wd hsub hls hnd hpre=>?_⟩
 ·obtain ⟨h0,w,xs,h1,h2,h3⟩:=h;exact ⟨h0,w,xs,h1,h2.grow hg,h3⟩
 obtain ⟨rfl,hj,w,l,rfl,⟨a,n,c,rfl,hl,hn⟩,hq⟩:=hpre
 refine st_sound (Tab.cons 247 _ (idx247 g fi ca p q J b hJ hr) body247 (Tab.nil _)) comp225 (svs:=[.v (.slice a n c), .v (.func (.func 226) #[] #[bptr b])]) (obs:=[.cells (.named b) [.val (.func (.func g) fi ca)] 283]) (by simp) hsub hls hnd (Nat.le_of_ble_eq_true rfl) ?_ ?_ ?_
 ·exact ⟨rfl,trivial,rfl,trivial,trivial⟩
 ·exact ⟨⟨_,rfl,relL_vals _ [.func (.func g) fi ca],(by intro c hc;simp at hc;subst hc;trivial)⟩,trivial⟩
 ·(conv=>whnf)
  refine StP.mk ⟨[(0,⟨b,false, .cells [.func (.func g) fi ca] 283⟩)],⟨⟨_,rfl,rfl⟩,trivial⟩,(by show ([0]:List Nat).Nodup;decide),⟨rfl,hj,_,l,rfl,⟨a,n,c,rfl,hl,hn⟩,hq⟩,fun v ns G3 hg3 hpost=>W.mk ?_⟩
  obtain ⟨rfl,w',l',q1,q2,rfl⟩:=hpost
  simp only [List.cons.injEq,and_true] at q1
  subst q1
  have:l' = l:=q2.uniq (SlV.grow hg3 ⟨a,n,c,rfl,hl,hn⟩)
  subst this
  have hall:=idxP_all p l' 0
  (conv=>whnf)
  refine IteP.mk (fun hq=>W.mk ?_) (fun hq=>W.mk ?_)<;>(conv=>whnf)<;>refine FinS.mk ⟨[],⟨.cells [.func (.func g) fi ca] 283,⟨_,rfl,rfl⟩,trivial,rfl,rfl⟩,rfl,_,l',rfl,q2, ?_⟩<;>show Value.bool _ = Value.bool (!(l'.all p))<;>rw [← hall]<;>simp [*]
theorem all185 (g:FuncId) (fi ca:Array Value) (p:(Int × ByteArray)→Bool) (q:(Int × ByteArray)→Prop) (J:Hp→Prop) (hJ:∀ G G',Grow G G'→J G→J G') (hr:SoundFn Tryz.prog (.func (.func g) fi ca) (TestS paVal p q J [])):Sound Tryz.prog 185 id (AllS paE (.func (.func g) fi ca) (fun xs=>.bool (xs.all p)) q J []):=by
 refine ⟨fun args ls v ns G G' hg h=>?_,fun args ls G Wd hsub hls hnd hpre=>?_⟩
 ·obtain ⟨h0,w,xs,h1,h2,h3⟩:=h;exact ⟨h0,w,xs,h1,h2.grow hg,h3⟩
 obtain ⟨rfl,hj,w,l,rfl,⟨a,n,c,rfl,hl,hn⟩,hq⟩:=hpre
 refine st_sound (Tab.nil _) (at0 comp185) (svs:=[.v (.slice a n c), .v (.func (.func g) fi ca)]) (obs:=[]) (by simp) hsub hls hnd (Nat.le_of_ble_eq_true rfl) ?_ ?_ ?_
 ·exact ⟨rfl,trivial,rfl,trivial,trivial⟩
 ·exact trivial
 ·(conv=>whnf)
  refine NameP.mk (fun b=>W.mk ?_)
  (conv=>whnf)
  refine CallN.mk ⟨_,con225 g fi ca p q J b hJ hr,body225,W.mk ?_⟩
  (conv=>whnf)
  refine StP.mk ⟨[(0,⟨b,false, .cells [.func (.func g) fi ca] 283⟩)],⟨⟨_,rfl,rfl⟩,trivial⟩,(by show ([0]:List Nat).Nodup;decide),⟨rfl,hj,_,l,rfl,⟨a,n,c,rfl,hl,hn⟩,hq⟩,fun v ns G3 hg3 hpost=>W.mk ?_⟩
  obtain ⟨rfl,w',l',q1,q2,rfl⟩:=hpost
  simp only [List.cons.injEq,and_true] at q1
  subst q1
  have:l' = l:=q2.uniq (SlV.grow hg3 ⟨a,n,c,rfl,hl,hn⟩)
  subst this
  (conv=>whnf)
  refine ForkP.mk (fun hm=>W.mk ?_) (fun hm=>W.mk ?_)<;>(conv=>whnf)<;>refine FinS.mk ⟨[],rfl,rfl,_,l',rfl,q2, ?_⟩<;>(refine congrArg Value.bool ?_;simpa using hm)

/-! ### 188 -/
theorem inj188v:∀ x y:Int,(U8) x = (U8) y→x = y:=fun x y h=>by cases h;rfl
theorem not227v (g:FuncId) (fi ca:Array Value) (p:Int→Bool) (q:Int→Prop) (J:Hp→Prop) (b:Nat) (hr:SoundFn Tryz.prog (.func (.func g) fi ca) (TestS U8 p q J [])):Sound Tryz.prog 227 (fun a=>(#[]:Array Value).toList++a++(#[bptr b]:Array Value).toList) (TestS U8 (fun x=>!p x) q J [⟨b,false, .cells [.func (.func g) fi ca] 276⟩]):=by
 refine ⟨fun args ls v ns G G' hg h=>h,fun args ls G Wd hsub hls hnd hpre=>?_⟩
 obtain ⟨rfl,hj,x,rfl,hx⟩:=hpre
 refine st_sound (Tab.nil _) comp227 (svs:=[.v (U8 x), .c (.ptr 0 0)]) (obs:=[.cells (.named b) [.val (.func (.func g) fi ca)] 276]) (by simp) hsub hls hnd (Nat.le_of_ble_eq_true rfl) ?_ ?_ ?_
 ·exact ⟨rfl,trivial,⟨_,rfl,rfl⟩,(Nat.le_of_ble_eq_true rfl:0 < 1),trivial⟩
 ·exact ⟨⟨_,rfl,relL_vals _ [.func (.func g) fi ca],(by intro c hc;simp at hc;subst hc;trivial)⟩,trivial⟩
 ·(conv=>whnf)
  refine CallvP.fn _ hr (W.mk ?_)
  (conv=>whnf)
  refine StP.mk ⟨[],trivial,(by show ([]:List Nat).Nodup;decide),⟨rfl,hj,x,rfl,hx⟩,fun v ns G3 hg3 hpost=>W.mk ?_⟩
  obtain ⟨rfl,y,q1,rfl⟩:=hpost
  have hxy:=inj188v x y (List.cons.inj q1).1
  subst hxy
  (conv=>whnf)
  refine ForkP.mk (fun hm=>W.mk ?_) (fun hm=>W.mk ?_)<;>(conv=>whnf)<;>refine FinS.mk ⟨[],⟨.cells [.func (.func g) fi ca] 276,⟨_,rfl,rfl⟩,trivial,rfl,rfl⟩,rfl,x,rfl, ?_⟩<;>(show Value.bool _ = Value.bool (!p x);rw [hm];rfl)
theorem idx242v (g:FuncId) (fi ca:Array Value) (p:Int→Bool) (q:Int→Prop) (J:Hp→Prop) (b:Nat) (hJ:∀ G G',Grow G G'→J G→J G') (hr:SoundFn Tryz.prog (.func (.func g) fi ca) (TestS U8 p q J [])):Sound Tryz.prog 242 id (AllS u8E (.func (.func 227) #[] #[bptr b]) (fun xs=>I (idxP p xs 0)) q J [⟨b,false, .cells [.func (.func g) fi ca] 276⟩]):=by
 refine ⟨fun args ls v ns G G' hg h=>?_,fun args ls G Wd hsub hls hnd hpre=>?_⟩
 ·obtain ⟨h0,w,xs,h1,h2,h3⟩:=h;exact ⟨h0,w,xs,h1,h2.grow hg,h3⟩
 obtain ⟨rfl,hj,w,l,rfl,⟨a,n,c,rfl,hl,hn⟩,hq⟩:=hpre
 refine st_sound (Tab.nil _) comp242 (svs:=[.v (.slice a n c), .v (.func (.func 227) #[] #[bptr b])]) (obs:=[.cells (.named b) [.val (.func (.func g) fi ca)] 276]) (by simp) hsub hls hnd (Nat.le_of_ble_eq_true rfl) ?_ ?_ ?_
 ·exact ⟨rfl,trivial,rfl,trivial,trivial⟩
 ·exact ⟨⟨_,rfl,relL_vals _ [.func (.func g) fi ca],(by intro c hc;simp at hc;subst hc;trivial)⟩,trivial⟩
 ·have hlen:=hl.len
  (conv=>whnf)
  refine LoopP.of { α:=Nat,fr:=fun x=>[(0, .v (.slice a n c)),(1, .v (.func (.func 227) #[] #[bptr b])),(7, .v (I n)),(8, .v (I x))],H:=fun _=>[(0, .cells (.named b) [.val (.func (.func g) fi ca)] 276)],ok:=fun i _=>i≤l.length∧idxP p (l.drop i) i = idxP p l 0,m:=fun x=>l.length - x }
   0 (HeadP.of [] ⟨rfl,rfl,rfl,rfl,trivial⟩ ⟨rfl,trivial⟩) ⟨Nat.zero_le _,rfl⟩ (fun _=>⟨rfl,rfl⟩) (fun (i:Nat) G' hG hx=>W.mk ?_)
  obtain ⟨hi,hx⟩:=hx
  replace hl:=SlR.grow (G:=G) (G':=G') (fun _ _ h=>h) hl hG
  replace hj:=hJ _ _ hG hj
  (conv=>whnf)
  refine IteP.mk (fun hlt=>W.mk ?_) (fun hge=>W.mk ?_)<;>(conv=>whnf)
  ·have hlt:i < l.length:=by omega
   have hc:=hl.el hlt
   have hqi:=hq _ (List.getElem_mem hlt)
   rw [List.drop_eq_getElem_cons hlt,idxP] at hx
   repeat' (first | (refine ob ?_ ?_;(first | trivial | omega | (simp only [inR];omega) | exact ble (by rfl) | exact SlR.some ‹_› (by omega));(conv=>whnf)) | (first | (refine ra ‹_› (by rfl) ?_;(conv=>whnf)) | (refine rb ‹_› (by rfl) ?_;(conv=>whnf)) | (refine rc ‹_› (by rfl) ?_;(conv=>whnf)) | (refine rd ‹_› (by rfl) ?_;(conv=>whnf))))
   refine CallvP.fn _ (SoundFn.of body227 (not227v g fi ca p q J b hr)) (W.mk ?_)
   (conv=>whnf)
   refine StP.mk ⟨[(0,⟨b,false, .cells [.func (.func g) fi ca] 276⟩)],⟨⟨_,rfl,rfl⟩,trivial⟩,(by show ([0]:List Nat).Nodup;decide),⟨rfl,hj,l[i],rfl,hqi⟩,fun v ns G3 hg3 hpost=>W.mk ?_⟩
   obtain ⟨rfl,y,q1,rfl⟩:=hpost
   have hxy:=inj188v _ y (List.cons.inj q1).1
   subst hxy
   (conv=>whnf)
   refine ForkP.mk (fun hm=>W.mk ?_) (fun hm=>W.mk ?_)<;>(conv=>whnf)
   ·refine FinS.mk ⟨[],⟨.cells [.func (.func g) fi ca] 276,⟨_,rfl,rfl⟩,trivial,rfl,rfl⟩,rfl,_,l,rfl,⟨a,n,c,rfl,SlR.grow (G:=G') (G':=G3) (fun _ _ h=>h) hl hg3,hn⟩, ?_⟩
    rw [if_neg (by simpa using hm)] at hx
    show I (i:Int) = I (idxP p l 0);rw [← hx]
   ·(refine ob ?_ ?_;(first | trivial | omega | (simp only [inR];omega) | exact ble (by rfl) | exact SlR.some ‹_› (by omega));(conv=>whnf))
    rw [if_pos (by simpa using hm)] at hx
    exact RoundP.of (i + 1) (HeadP.of [] ⟨rfl,rfl,rfl,rfl,trivial⟩ ⟨rfl,trivial⟩) ⟨hlt,hx⟩ (by simp only;omega)
  ·have:i = l.length:=by omega
   subst this
   rw [List.drop_length] at hx
   refine FinS.mk ⟨[],⟨.cells [.func (.func g) fi ca] 276,⟨_,rfl,rfl⟩,trivial,rfl,rfl⟩,rfl,_,l,rfl,⟨a,n,c,rfl,hl,hn⟩, ?_⟩
   show I (-1) = I (idxP p l 0);rw [← hx];rfl
theorem con208v (g:FuncId) (fi ca:Array Value) (p:Int→Bool) (q:Int→Prop) (J:Hp→Prop) (b:Nat) (hJ:∀ G G',Grow G G'→J G→J G') (hr:SoundFn Tryz.prog (.func (.func g) fi ca) (TestS U8 p q J [])):Sound Tryz.prog 208 id (AllS u8E (.func (.func 227) #[] #[bptr b]) (fun xs=>.bool (!(xs.all p))) q J [⟨b,false, .cells [.func (.func g) fi ca] 276⟩]):=by
 refine ⟨fun args ls v ns G G' hg h=>?_,fun args ls G Wd hsub hls hnd hpre=>?_⟩
 ·obtain ⟨h0,w,xs,h1,h2,h3⟩:=h;exact ⟨h0,w,xs,h1,h2.grow hg,h3⟩
 obtain ⟨rfl,hj,w,l,rfl,⟨a,n,c,rfl,hl,hn⟩,hq⟩:=hpre
 refine st_sound (Tab.cons 242 _ (idx242v g fi ca p q J b hJ hr) body242 (Tab.nil _)) comp208 (svs:=[.v (.slice a n c), .v (.func (.func 227) #[] #[bptr b])]) (obs:=[.cells (.named b) [.val (.func (.func g) fi ca)] 276]) (by simp) hsub hls hnd (Nat.le_of_ble_eq_true rfl) ?_ ?_ ?_
 ·exact ⟨rfl,trivial,rfl,trivial,trivial⟩
 ·exact ⟨⟨_,rfl,relL_vals _ [.func (.func g) fi ca],(by intro c hc;simp at hc;subst hc;trivial)⟩,trivial⟩
 ·(conv=>whnf)
  refine StP.mk ⟨[(0,⟨b,false, .cells [.func (.func g) fi ca] 276⟩)],⟨⟨_,rfl,rfl⟩,trivial⟩,(by show ([0]:List Nat).Nodup;decide),⟨rfl,hj,_,l,rfl,⟨a,n,c,rfl,hl,hn⟩,hq⟩,fun v ns G3 hg3 hpost=>W.mk ?_⟩
  obtain ⟨rfl,w',l',q1,q2,rfl⟩:=hpost
  simp only [List.cons.injEq,and_true] at q1
  subst q1
  have:l' = l:=q2.uniq (SlV.grow hg3 ⟨a,n,c,rfl,hl,hn⟩)
  subst this
  have hall:=idxP_all p l' 0
  (conv=>whnf)
  refine IteP.mk (fun hq=>W.mk ?_) (fun hq=>W.mk ?_)<;>(conv=>whnf)<;>refine FinS.mk ⟨[],⟨.cells [.func (.func g) fi ca] 276,⟨_,rfl,rfl⟩,trivial,rfl,rfl⟩,rfl,_,l',rfl,q2, ?_⟩<;>show Value.bool _ = Value.bool (!(l'.all p))<;>rw [← hall]<;>simp [*]
theorem all188v (g:FuncId) (fi ca:Array Value) (p:Int→Bool) (q:Int→Prop) (J:Hp→Prop) (hJ:∀ G G',Grow G G'→J G→J G') (hr:SoundFn Tryz.prog (.func (.func g) fi ca) (TestS U8 p q J [])):Sound Tryz.prog 188 id (AllS u8E (.func (.func g) fi ca) (fun xs=>.bool (xs.all p)) q J []):=by
 refine ⟨fun args ls v ns G G' hg h=>?_,fun args ls G Wd hsub hls hnd hpre=>?_⟩
 ·obtain ⟨h0,w,xs,h1,h2,h3⟩:=h;exact ⟨h0,w,xs,h1,h2.grow hg,h3⟩
 obtain ⟨rfl,hj,w,l,rfl,⟨a,n,c,rfl,hl,hn⟩,hq⟩:=hpre
 refine st_sound (Tab.nil _) (at0 comp188) (svs:=[.v (.slice a n c), .v (.func (.func g) fi ca)]) (obs:=[]) (by simp) hsub hls hnd (Nat.le_of_ble_eq_true rfl) ?_ ?_ ?_
 ·exact ⟨rfl,trivial,rfl,trivial,trivial⟩
 ·exact trivial
 ·(conv=>whnf)
  refine NameP.mk (fun b=>W.mk ?_)
  (conv=>whnf)
  refine CallN.mk ⟨_,con208v g fi ca p q J b hJ hr,body208,W.mk ?_⟩
  (conv=>whnf)
  refine StP.mk ⟨[(0,⟨b,false, .cells [.func (.func g) fi ca] 276⟩)],⟨⟨_,rfl,rfl⟩,trivial⟩,(by show ([0]:List Nat).Nodup;decide),⟨rfl,hj,_,l,rfl,⟨a,n,c,rfl,hl,hn⟩,hq⟩,fun v ns G3 hg3 hpost=>W.mk ?_⟩
  obtain ⟨rfl,w',l',q1,q2,rfl⟩:=hpost
  simp only [List.cons.injEq,and_true] at q1
  subst q1
  have:l' = l:=q2.uniq (SlV.grow hg3 ⟨a,n,c,rfl,hl,hn⟩)
  subst this
  (conv=>whnf)
  refine ForkP.mk (fun hm=>W.mk ?_) (fun hm=>W.mk ?_)<;>(conv=>whnf)<;>refine FinS.mk ⟨[],rfl,rfl,_,l',rfl,q2, ?_⟩<;>(refine congrArg Value.bool ?_;simpa using hm)
end Go.Proofs.YtefnikpoimaiiaaGreat

namespace Go.Proofs.YtefnikpoimaiiaaGreat
open Go.Pal Go.RowKit
set_option maxRecDepth 100000
theorem in101:Sound Tryz.prog 101 id inS:=by
 refine comp101.fn (Tab.nil _) (fun args G h=>?_) (fun args G h=>?_)
 ·obtain ⟨n,lo,hi,rfl⟩:=h;simp
 ·obtain ⟨n,lo,hi,rfl⟩:=h
  (conv=>whnf)
  repeat' (first | (refine IteP.mk (fun _=>W.mk ?_) (fun _=>W.mk ?_)<;>(conv=>whnf)) | (refine ob ?_ ?_;(first | trivial | omega | (simp only [inR];omega) | exact ble (by rfl) | exact SlR.some ‹_› (by omega));(conv=>whnf)) | (refine ForkP.mk (fun _=>W.mk ?_) (fun _=>W.mk ?_)<;>(conv=>whnf)) | (refine ra ‹_› (by rfl) ?_;(conv=>whnf)) | (refine rb ‹_› (by rfl) ?_;(conv=>whnf)) | (refine rc ‹_› (by rfl) ?_;(conv=>whnf)) | (refine rd ‹_› (by rfl) ?_;(conv=>whnf)) | (refine FinP.mk ?_))
  all_goals (refine congrArg Value.bool ?_;simp [inF, *])
theorem day73:Sound Tryz.prog 73 id (gsca (fun args _ m=>args = [I m]∧inF m 0 99999 = true) fun _ v=>v = .bool true):=by
 refine comp73.gsca (Tab.cons 101 _ in101 body101 (Tab.nil _)) (fun args G s h=>?_) (fun args G m h=>?_)
 ·obtain ⟨rfl,_⟩:=h;simp
 ·obtain ⟨rfl,hm⟩:=h
  (conv=>whnf)
  refine OblP.mk ⟨_,_,_,rfl⟩ (W.mk ?_)
  (conv=>whnf)
  refine ForkP.mk (fun _=>W.mk ?_) (fun h=>absurd ((hm).symm.trans h) (by decide))
  (conv=>whnf)
  exact FinP.mk rfl
theorem anchor131:Sound Tryz.prog 131 id (gsca (fun args _ m=>args = [I m]∧inF m 1 999 = true) fun _ v=>v = .bool true):=by
 refine comp131.gsca (Tab.cons 101 _ in101 body101 (Tab.nil _)) (fun args G s h=>?_) (fun args G m h=>?_)
 ·obtain ⟨rfl,_⟩:=h;simp
 ·obtain ⟨rfl,hm⟩:=h
  (conv=>whnf)
  refine OblP.mk ⟨_,_,_,rfl⟩ (W.mk ?_)
  (conv=>whnf)
  refine ForkP.mk (fun _=>W.mk ?_) (fun h=>absurd ((hm).symm.trans h) (by decide))
  (conv=>whnf)
  exact FinP.mk rfl
theorem char189:Sound Tryz.prog 189 id (gsca (fun args _ (c:Int)=>args = [U8 c]∧32≤c∧c≤126) fun _ v=>v = .bool true):=by
 refine comp189.gsca (Tab.nil _) (fun args G s h=>?_) (fun args G c h=>?_)
 ·obtain ⟨rfl,_⟩:=h;simp
 ·obtain ⟨rfl,h1,h2⟩:=h
  (conv=>whnf)
  refine IteP.mk (fun _=>W.mk ?_) (fun h=>absurd h1 h)
  (conv=>whnf)
  refine IteP.mk (fun _=>W.mk ?_) (fun h=>absurd h2 h)
  (conv=>whnf)
  exact FinP.mk rfl
theorem text132:Sound Tryz.prog 132 id (gsca (fun args _ s=>args = [.string s]∧TxOk s) fun _ v=>v = .bool true):=by
 refine comp132.gsca (Tab.cons 101 _ in101 body101 (Tab.nil _)) (fun args G s h=>?_) (fun args G s h=>?_)
 ·obtain ⟨rfl,_⟩:=h;simp
 ·obtain ⟨rfl,hs⟩:=h
  have hn:=hs.n
  have hin:inF s.size 1 200 = true:=by simp only [inF,decide_eq_true_eq];omega
  (conv=>whnf)
  refine OblP.mk ⟨_,_,_,rfl⟩ (W.mk ?_)
  (conv=>whnf)
  refine ForkP.mk (fun _=>W.mk ?_) (fun h=>absurd ((hin).symm.trans h) (by decide))
  (conv=>whnf)
  refine RelP.mk trivial (fun v G1 hg hq1=>W.mk ?_)
  obtain ⟨ba,bc,rfl,hpr⟩:=hq1
  (conv=>whnf)
  refine CallN.mk ⟨_,allT (all188v 189 #[] #[] (fun _=>true) (fun c:Int=>32≤c∧c≤126) (fun _=>True) (fun _ _ _ h=>h) (SoundFn.of body189 (Sound.bare (TestS.of char189 (fun c G hc _=>⟨c,rfl,hc⟩) (fun c G v _ _ ⟨_,_,h⟩=>h))))) (bytesL s),body188,W.mk ?_⟩
  (conv=>whnf)
  refine ScaP.mk ⟨trivial,_,rfl,hpr.slV (by
   show _ = ((bytesL s).map fun x=>[U8 x]).flatten
   rw [flat1,bytesL,List.map_map];rfl) (by simp [bytesL]) (by omega),hs.b⟩ (fun v hv=>W.mk ?_)
  subst hv
  (conv=>whnf)
  refine ForkP.mk (fun _=>W.mk ?_) (fun h=>by cases h)
  (conv=>whnf)
  exact FinP.mk rfl
structure PaOk (x:Int × ByteArray):Prop where
 a:inF x.1 1 999 = true
 t:TxOk x.2
theorem para186:Sound Tryz.prog 186 id (gsca (fun args _ x=>args = [paVal x]∧PaOk x) fun _ v=>v = .bool true):=by
 refine comp186.gsca (Tab.cons 131 _ anchor131 body131 (Tab.cons 132 _ text132 body132 (Tab.nil _))) (fun args G s h=>?_) (fun args G x h=>?_)
 ·obtain ⟨rfl,_⟩:=h;simp
 ·obtain ⟨rfl,hx⟩:=h
  obtain ⟨n,s⟩:=x
  (conv=>whnf)
  refine ScaP.mk ⟨n,rfl,hx.a⟩ (fun v hv=>W.mk ?_)
  obtain ⟨_,_,rfl⟩:=hv
  (conv=>whnf)
  refine ForkP.mk (fun _=>W.mk ?_) (fun h=>by cases h)
  (conv=>whnf)
  refine ScaP.mk ⟨s,rfl,hx.t⟩ (fun v hv=>W.mk ?_)
  obtain ⟨_,_,rfl⟩:=hv
  (conv=>whnf)
  refine ForkP.mk (fun _=>W.mk ?_) (fun h=>by cases h)
  (conv=>whnf)
  exact FinP.mk rfl
structure Vo where
 h:Int
 w:Int
 ps:List (Int × ByteArray)
structure VoC (G:Hp) (a:Option Addr) (c:Nat) (q:Value) (V:Vo):Prop where
 cp:1≤c
 ad:a = some ⟨ab a,ao a,none⟩
 ce:CellsAt G (ab a) (ao a) [I 0,q]
 pa:SlV paE G q V.ps
def voL (a:Option Addr) (c:Nat) (V:Vo):List Value:=[I 1,I 0,I V.h,I V.w, .slice a 1 c]
def VoV (G:Hp) (v:Value) (V:Vo):Prop:=∃ a c q,v = .agg (voL a c V).toArray∧VoC G a c q V
theorem VoC.grow {G G':Hp} (hg:Grow G G') {a:Option Addr} {c:Nat} {q:Value} {V:Vo} (h:VoC G a c q V):VoC G' a c q V:=⟨h.cp,h.ad,h.ce.grow hg,h.pa.grow hg⟩
theorem VoV.grow {G G':Hp} (hg:Grow G G') {v:Value} {V:Vo} (h:VoV G v V):VoV G' v V:=by
 obtain ⟨a,c,q,h1,h2⟩:=h
 exact ⟨a,c,q,h1,h2.grow hg⟩
theorem VoV.uniq {G:Hp} {v:Value} {x y:Vo} (h:VoV G v x) (h':VoV G v y):x = y:=by
 obtain ⟨a,c,q,e,h1⟩:=h
 obtain ⟨a',c',q',e',h2⟩:=h'
 rw [e] at e'
 simp only [voL,Value.agg.injEq,Array.mk.injEq,List.cons.injEq,Value.int.injEq,Value.slice.injEq,true_and,and_true] at e'
 obtain ⟨e1,e0,e2,e3⟩:=e'
 subst e2
 have k1:=h1.ce 1 q rfl
 have k2:=h2.ce 1 q' rfl
 rw [k1] at k2
 cases k2
 have:=h1.pa.uniq h2.pa
 cases x;cases y;simp_all
def voRd:Rd Vo:=⟨VoV,fun h h'=>h.uniq h',fun hg h=>h.grow hg⟩
structure VoOk (V:Vo):Prop where
 h:1≤V.h∧V.h≤60
 w:10≤V.w∧V.w≤80
 n:V.ps.length≤20
 p:∀ x∈V.ps,PaOk x
 d:(V.ps.map (·.1)).Nodup
theorem pars95:Sound Tryz.prog 95 id (grel (args1 voRd fun V=>V.ps.length≤1000) fun V v G=>SlV paE G v V.ps):=by
 refine comp95.grel (Tab.nil _) (ok1 _ _) (fun args G s h=>?_) (fun x v G G' hg h=>h.grow hg) (fun args G V h=>?_)
 ·obtain ⟨v,rfl,_⟩:=h;simp
 ·obtain ⟨_,rfl,⟨a,c,q,rfl,hV⟩,hb⟩:=h
  obtain ⟨qa,qn,qc,rfl,hp1,hp2⟩:=id hV.pa
  have hqn:=hp1.len
  obtain ⟨e1,e2,e3⟩:=hp1.all
  have had:=hV.ad
  have hcp:=hV.cp
  dsimp only [voL]
  (conv=>whnf)
  refine LoopP.of { α:=Nat × Nat × List Value,fr:=fun x=>[(2, .c (.row 1 x.2.1)),(6, .v (.slice a 1 c)),(7, .v (I 1)),(8, .v (I x.1))],H:=fun x=>[(1, .row none x.2.1 x.2.2 99 2)],ok:=fun x _=>(x.1 = 0∧x.2.1 = 0∧x.2.2 = [])∨(x.1 = 1∧Row paE V.ps x.2.1 x.2.2),m:=fun x=>1 - x.1 }
   (0,0,[]) (HeadP.of [(1,none)] ⟨rfl,rfl,rfl,rfl,trivial⟩ ⟨rfl,trivial⟩) (.inl ⟨rfl,rfl,rfl⟩) (fun _=>⟨rfl,rfl⟩) (fun x G1 hg1 hx=>W.mk ?_)
  obtain ⟨i,n,vs⟩:=x
  dsimp only at hx
  have hV1:=hV.grow hg1
  have hce:CellsAt G1 (ab a) (ao a + 0 * 2) [I 0, .slice qa qn qc]:=hV1.ce
  dsimp only
  rcases hx with ⟨rfl,rfl,rfl⟩ | ⟨rfl,hrow⟩
  ·(conv=>whnf)
   refine IteP.mk (fun _=>W.mk ?_) (fun h=>absurd (show (0:Int) < 1 by decide) h)
   (conv=>whnf)
   repeat' (first | (refine ob ?_ ?_;(first | trivial | omega | (simp only [inR];omega) | exact ble (by rfl) | exact SlR.some ‹_› (by omega));(conv=>whnf)) | (first | (refine ra ‹_› (by rfl) ?_;(conv=>whnf)) | (refine rb ‹_› (by rfl) ?_;(conv=>whnf)) | (refine rc ‹_› (by rfl) ?_;(conv=>whnf)) | (refine rd ‹_› (by rfl) ?_;(conv=>whnf))))
   refine OblP.mk hp1.some (W.mk ?_)
   (conv=>whnf)
   refine RdP.at (e1.grow hg1) e2 (W.mk ?_)
   (conv=>whnf)
   refine OblP.mk e3 (W.mk ?_)
   (conv=>whnf)
   refine OblP.mk rfl (W.mk ?_)
   (conv=>whnf)
   refine OblP.mk (by omega) (W.mk ?_)
   (conv=>whnf)
   repeat' (refine ob ?_ ?_;(first | trivial | omega | (simp only [inR];omega) | exact ble (by rfl) | exact SlR.some ‹_› (by omega));(conv=>whnf))
   refine RoundP.of (1,0 + qn,_) (HeadP.of [(1,some 14)] ⟨rfl,rfl,rfl,rfl,trivial⟩ ⟨rfl,trivial⟩) (.inr ⟨rfl, ?_⟩) (by simp only;omega)
   dsimp only
   rw [Nat.zero_add,List.nil_append]
   exact Row.of_all _ hqn
  ·(conv=>whnf)
   refine IteP.mk (fun h=>absurd h (by decide)) (fun _=>W.mk ?_)
   (conv=>whnf)
   refine PubP.mk (fun a1 c1 G4 hg4 h4=>W.mk ?_)
   (conv=>whnf)
   have:=hrow.n
   exact FinP.mk (hrow.pub h4 (by omega))
theorem all169v:Sound Tryz.prog 185 id (gsca (fun args G ps=>∃ w,args = [w, .func (.func 186) #[] #[]]∧SlV paE G w ps∧∀ x∈ps,PaOk x) fun _ v=>v = .bool true):=fun args G W hs ⟨ps,w,ha,hv,hb⟩ =>
 ((allT (all185 186 #[] #[] (fun _=>true) PaOk (fun _=>True) (fun _ _ _ h=>h) (SoundFn.of body186 (Sound.bare (TestS.of para186 (fun x G hx _=>⟨x,rfl,hx⟩) (fun x G v _ _ ⟨_,_,h⟩=>h))))) ps) args G W hs ⟨trivial,w,ha,hv,hb⟩).mono fun e W' ⟨v,h1,h2,h3⟩=>⟨v,h1,⟨ps,⟨w,ha,hv,hb⟩,h2⟩,h3⟩
theorem valid128:Sound Tryz.prog 128 id (gsca (args1 voRd VoOk) fun _ v=>v = .bool true):=by
 refine comp128.gsca (Tab.cons 73 _ day73 body73 (Tab.cons 101 _ in101 body101 (Tab.cons 95 _ pars95 body95 (Tab.cons 185 _ all169v body185 (Tab.nil _))))) (fun args G s h=>?_) (fun args G V h=>?_)
 ·obtain ⟨v,rfl,_⟩:=h;simp
 ·obtain ⟨_,rfl,⟨a,c,q,rfl,hV⟩,hok⟩:=h
  obtain ⟨qa,qn,qc,rfl,hp1,hp2⟩:=id hV.pa
  have had:=hV.ad
  have hcp:=hV.cp
  have hh:=hok.h
  dsimp only [voL]
  (conv=>whnf)
  refine LoopP.of { α:=Nat × Unit,fr:=fun x=>[(1, .c (.ptr 0 0)),(6, .v (.slice a 1 c)),(7, .v (I 1)),(8, .v (I x.1))],H:=fun _=>[(0, .cells .anon ((voL a c V).map .val) 105)],ok:=fun x _=>x.1≤1,m:=fun x=>1 - x.1 }
   (0,()) (HeadP.of [] ⟨rfl,rfl,rfl,rfl,trivial⟩ ⟨rfl,trivial⟩) (Nat.zero_le _) (fun _=>⟨rfl,rfl⟩) (fun x G1 hg1 hx=>W.mk ?_)
  obtain ⟨i,_⟩:=x
  have hi:i≤1:=hx
  have hV1:=hV.grow hg1
  have hce:CellsAt G1 (ab a) (ao a + 0 * 2) [I 0, .slice qa qn qc]:=hV1.ce
  dsimp only [voL]
  (conv=>whnf)
  refine IteP.mk (fun hlt=>W.mk ?_) (fun hge=>W.mk ?_)<;>(conv=>whnf)
  ·obtain rfl:i = 0:=by omega
   repeat' (first | (refine ob ?_ ?_;(first | trivial | omega | (simp only [inR];omega) | exact ble (by rfl) | exact SlR.some ‹_› (by omega));(conv=>whnf)) | (first | (refine ra ‹_› (by rfl) ?_;(conv=>whnf)) | (refine rb ‹_› (by rfl) ?_;(conv=>whnf)) | (refine rc ‹_› (by rfl) ?_;(conv=>whnf)) | (refine rd ‹_› (by rfl) ?_;(conv=>whnf))))
   refine ScaP.mk ⟨0,rfl,by decide⟩ (fun v hv=>W.mk ?_)
   obtain ⟨_,_,rfl⟩:=hv
   (conv=>whnf)
   refine ForkP.mk (fun _=>W.mk ?_) (fun h=>by cases h)
   (conv=>whnf)
   refine IteP.mk (fun h=>absurd h (by decide)) (fun _=>W.mk ?_)
   (conv=>whnf)
   refine IteP.mk (fun h=>absurd h (by decide)) (fun _=>W.mk ?_)
   (conv=>whnf)
   repeat' (refine ob ?_ ?_;(first | trivial | omega | (simp only [inR];omega) | exact ble (by rfl) | exact SlR.some ‹_› (by omega));(conv=>whnf))
   refine RoundP.of (1,()) (HeadP.of [] ⟨rfl,rfl,rfl,rfl,trivial⟩ ⟨rfl,trivial⟩) (Nat.le_refl 1) (by simp only;omega)
  have hi1:inF 1 1 99 = true:=by decide
  have hi2:inF V.h 1 60 = true:=by simp only [inF,decide_eq_true_eq];omega
  have hww:=hok.w
  have hi3:inF V.w 10 80 = true:=by simp only [inF,decide_eq_true_eq];omega
  refine OblP.mk ⟨_,_,_,rfl⟩ (W.mk ?_)
  (conv=>whnf)
  refine ForkP.mk (fun _=>W.mk ?_) (fun h=>absurd ((hi1).symm.trans h) (by decide))
  (conv=>whnf)
  refine ScaP.mk ⟨0,rfl,by decide⟩ (fun v hv=>W.mk ?_)
  obtain ⟨_,_,rfl⟩:=hv
  (conv=>whnf)
  refine ForkP.mk (fun _=>W.mk ?_) (fun h=>by cases h)
  (conv=>whnf)
  refine OblP.mk ⟨_,_,_,rfl⟩ (W.mk ?_)
  (conv=>whnf)
  refine ForkP.mk (fun _=>W.mk ?_) (fun h=>absurd ((hi2).symm.trans h) (by decide))
  (conv=>whnf)
  refine OblP.mk ⟨_,_,_,rfl⟩ (W.mk ?_)
  (conv=>whnf)
  refine ForkP.mk (fun _=>W.mk ?_) (fun h=>absurd ((hi3).symm.trans h) (by decide))
  (conv=>whnf)
  refine RelP.g (ok1 voRd fun V=>V.ps.length≤1000) (x:=V) ⟨_,rfl,⟨_,_,_,rfl,hV1⟩,by have:=hok.n;omega⟩ (Grow.refl _) (fun v G2 hg2 hq=>W.mk ?_)
  obtain ⟨pa,pn,pc,rfl,_,_⟩:=id hq
  (conv=>whnf)
  refine ScaP.mk ⟨V.ps,_,rfl,hq,hok.p⟩ (fun v hv=>W.mk ?_)
  obtain ⟨_,_,rfl⟩:=hv
  (conv=>whnf)
  refine ForkP.mk (fun _=>W.mk ?_) (fun h=>by cases h)
  (conv=>whnf)
  exact FinP.mk rfl
def ancS (ps:List (Int × ByteArray)) (i:Nat) (y:Int):Bool:=(ps.take i).any fun x=>decide (x.1 = y)
theorem ancS_succ {ps:List (Int × ByteArray)} {i:Nat} (hi:i < ps.length):ancS ps (i + 1) = fun y=>ancS ps i y || decide (y = ps[i].1):=by
 funext y
 rw [ancS,take_snoc (List.getElem?_eq_getElem hi),List.any_append]
 simp only [List.any_cons,List.any_nil,Bool.or_false,ancS]
 congr 1
 rw [Bool.eq_iff_iff];simp [eq_comm]
theorem ancS_new {ps:List (Int × ByteArray)} (hd:(ps.map (·.1)).Nodup) {i:Nat} (hi:i < ps.length):ancS ps i ps[i].1 = false:=by
 rw [ancS,List.any_eq_false]
 intro x hx
 rw [decide_eq_true_eq]
 intro e
 obtain ⟨j,hj,rfl⟩:=List.getElem_of_mem hx
 rw [List.length_take] at hj
 rw [List.getElem_take] at e
 have k1:(ps.map (·.1))[j]? = some ps[i].1:=by rw [List.getElem?_map,List.getElem?_eq_getElem (by omega)];simp [e]
 have k2:(ps.map (·.1))[i]? = some ps[i].1:=by rw [List.getElem?_map,List.getElem?_eq_getElem hi];rfl
 have:=(List.getElem?_inj (List.getElem?_eq_some_iff.1 k1).1 hd).1 (k1.trans k2.symm)
 omega
theorem anc_rng {V:Vo} (h:VoOk V) {i:Nat} (hi:i < V.ps.length):inR .i64 V.ps[i].1:=by
 have:=(h.p _ (List.getElem_mem hi)).a
 simp only [inF,decide_eq_true_eq] at this
 simp only [inR];omega
theorem check92:Sound Tryz.prog 92 id (gsca (args1 voRd VoOk) fun _ v=>v = I 0):=by
 refine comp92.gsca (Tab.cons 95 _ pars95 body95 (Tab.cons 128 _ valid128 body128 (Tab.nil _))) (fun args G s h=>?_) (fun args G V h=>?_)
 ·obtain ⟨v,rfl,_⟩:=h;simp
 ·obtain ⟨_,rfl,⟨a,c,q,rfl,hV⟩,hok⟩:=h
  obtain ⟨qa,qn,qc,rfl,hp1,hp2⟩:=id hV.pa
  have hn:=hok.n
  dsimp only [voL]
  (conv=>whnf)
  refine RelP.g (ok1 voRd fun V=>V.ps.length≤1000) (x:=V) ⟨_,rfl,⟨_,_,_,rfl,hV⟩,by omega⟩ (Grow.refl _) (fun v G2 hg2 hq=>W.mk ?_)
  obtain ⟨pa,pn,pc,rfl,hl1,hl2⟩:=id hq
  have hlen:=hl1.len
  (conv=>whnf)
  refine IteP.mk (fun h=>absurd h (by decide)) (fun _=>W.mk ?_)
  (conv=>whnf)
  refine IteP.mk (fun h=>absurd h (by omega)) (fun _=>W.mk ?_)
  (conv=>whnf)
  refine ScaP.g (ok1 voRd VoOk) (x:=V) ⟨_,rfl,⟨_,_,_,rfl,hV.grow hg2⟩,hok⟩ (fun v hv=>W.mk ?_)
  subst hv
  (conv=>whnf)
  refine ForkP.mk (fun _=>W.mk ?_) (fun h=>by cases h)
  (conv=>whnf)
  refine LoopP.of { α:=Nat × Array MapEntry × Nat,fr:=fun x=>[(4, .c (.mref 21)),(24, .v (.slice pa pn pc)),(25, .v (I pn)),(26, .v (I x.1))],H:=fun x=>[(21, .map .anon x.2.1 x.2.2)],ok:=fun x _=>x.1≤V.ps.length∧ISet Tryz.prog 3 x.2.1 (ancS V.ps x.1),m:=fun x=>V.ps.length - x.1 }
   (0, #[],0) (HeadP.of [] ⟨rfl,rfl,rfl,rfl,trivial⟩ ⟨rfl,trivial⟩) ⟨Nat.zero_le _,ISet.nil⟩ (fun _=>⟨rfl,rfl⟩) (fun x G3 hg3 hx=>W.mk ?_)
  obtain ⟨i,es,ck⟩:=x
  obtain ⟨hi,his⟩:=hx
  dsimp only at hi his
  have hl3:=SlR.grow (G:=G2) (G':=G3) (fun _ _ h=>h) hl1 hg3
  dsimp only
  (conv=>whnf)
  refine IteP.mk (fun hlt=>W.mk ?_) (fun hge=>W.mk ?_)<;>(conv=>whnf)
  ·have hlt:i < V.ps.length:=by omega
   have hc:=hl3.el hlt
   have hnew:=ancS_new hok.d hlt
   have hsuc:=ancS_succ (ps:=V.ps) hlt
   have hrg:=anc_rng hok hlt
   generalize V.ps[i] = y at hc hnew hsuc hrg
   obtain ⟨y,s⟩:=y
   have hc:CellsAt G3 (ab pa) (ao pa + i * 2) [I y, .string s]:=hc
   dsimp only at hnew hsuc hrg
   repeat' (first | (refine ob ?_ ?_;(first | trivial | omega | (simp only [inR];omega) | exact ble (by rfl) | exact SlR.some ‹_› (by omega));(conv=>whnf)) | (first | (refine ra ‹_› (by rfl) ?_;(conv=>whnf)) | (refine rb ‹_› (by rfl) ?_;(conv=>whnf)) | (refine rc ‹_› (by rfl) ?_;(conv=>whnf)) | (refine rd ‹_› (by rfl) ?_;(conv=>whnf))))
   obtain ⟨r,f1,f2,f3⟩:=ISet.find und3 his (x:=y) hrg
   refine KeyP.mk ⟨_,f1,W.mk ?_⟩
   dsimp only
   rw [f2,hnew]
   (conv=>whnf)
   refine ForkP.mk (fun h=>absurd h (by decide)) (fun _=>W.mk ?_)
   (conv=>whnf)
   repeat' (refine ob ?_ ?_;(first | trivial | omega | (simp only [inR];omega) | exact ble (by rfl) | exact SlR.some ‹_› (by omega));(conv=>whnf))
   refine KeyP.mk ⟨_,f1,W.mk ?_⟩
   (conv=>whnf)
   repeat' (refine ob ?_ ?_;(first | trivial | omega | (simp only [inR];omega) | exact ble (by rfl) | exact SlR.some ‹_› (by omega));(conv=>whnf))
   refine RoundP.of (i + 1,_,_) (HeadP.of [] ⟨rfl,rfl,rfl,rfl,trivial⟩ ⟨rfl,trivial⟩) ⟨hlt, ?_⟩ (by simp only;omega)
   dsimp only
   rw [hsuc]
   exact f3 ck
  ·exact FinP.mk rfl
end Go.Proofs.YtefnikpoimaiiaaGreat

namespace Go.Proofs.YtefnikpoimaiiaaGreat
open Go.Pal Go.RowKit
set_option maxRecDepth 100000
def cmpF (a b:Int):Int:=if a < b then -1 else if a > b then 1 else 0
theorem nan240:Sound Tryz.prog 240 id (.fn (fun args _=>∃ x,args = [I x]) fun _=>.bool false):=by
 refine comp240.fn (Tab.nil _) (fun args G h=>?_) (fun args G h=>?_)
 ·obtain ⟨x,rfl⟩:=h;simp
 ·obtain ⟨x,rfl⟩:=h
  (conv=>whnf)
  refine IteP.mk (fun _=>W.mk ?_) (fun h=>absurd rfl h)
  (conv=>whnf)
  exact FinP.mk rfl
theorem cmp203:Sound Tryz.prog 203 id (.fn (fun args _=>∃ a b,args = [I a,I b]) fun args=>match args with
  | [.int _ a, .int _ b]=>I (cmpF a b)
  | _=>undef):=by
 refine comp203.fn (Tab.cons 240 _ nan240 body240 (Tab.nil _)) (fun args G h=>?_) (fun args G h=>?_)
 ·obtain ⟨a,b,rfl⟩:=h;simp
 ·obtain ⟨a,b,rfl⟩:=h
  (conv=>whnf)
  refine OblP.mk ⟨_,rfl⟩ (W.mk ?_)
  (conv=>whnf)
  refine ForkP.mk (fun h=>by cases h) (fun _=>W.mk ?_)
  (conv=>whnf)
  refine OblP.mk ⟨_,rfl⟩ (W.mk ?_)
  (conv=>whnf)
  refine ForkP.mk (fun h=>by cases h) (fun _=>W.mk ?_)
  (conv=>whnf)
  refine IteP.mk (fun h=>W.mk ?_) (fun h=>W.mk ?_)
  ·(conv=>whnf)
   refine FinP.mk ?_
   show I (-1) = I (cmpF a b)
   rw [cmpF,if_pos h]
  ·(conv=>whnf)
   refine IteP.mk (fun h2=>W.mk ?_) (fun h2=>W.mk ?_)
   ·(conv=>whnf)
    refine FinP.mk ?_
    show I 1 = I (cmpF a b)
    rw [cmpF,if_neg h,if_pos h2]
   ·(conv=>whnf)
    refine FinP.mk ?_
    show I 0 = I (cmpF a b)
    rw [cmpF,if_neg h,if_neg h2]
theorem or202:Sound Tryz.prog 202 id (gsca (args1 (slRd intE) fun l=>∃ x r,l = x :: r∧x≠0) fun l v=>v = I (l.headD 0)):=by
 refine comp202.gsca (Tab.nil _) (fun args G s h=>?_) (fun args G l h=>?_)
 ·obtain ⟨v,rfl,_⟩:=h;simp
 ·obtain ⟨v,rfl,⟨a,n,c,rfl,hl,hn⟩,x,r,rfl,hx⟩:=h
  have hln:=hl.len
  rw [List.length_cons] at hln
  (conv=>whnf)
  refine LoopP.of { α:=Nat × Unit,fr:=fun z=>[(3, .v (I 0)),(6, .v (.slice a n c)),(7, .v (I n)),(8, .v (I z.1))],H:=fun _=>[],ok:=fun z _=>z.1 = 0,m:=fun z=>n - z.1 }
   (0,()) (HeadP.of [] ⟨rfl,rfl,rfl,rfl,trivial⟩ trivial) rfl (fun _=>⟨rfl,rfl⟩) (fun z G' hG hz=>W.mk ?_)
  obtain ⟨i,_⟩:=z
  obtain rfl:i = 0:=hz
  have hel:=(slr_grow (E:=intE) hG hl).el (i:=0) (by simp)
  have hel:CellsAt G' (ab a) (ao a + 0 * 1) [I x]:=hel
  (conv=>whnf)
  refine IteP.mk (fun _=>W.mk ?_) (fun h=>absurd (show ((0:Nat):Int) < n by omega) h)
  (conv=>whnf)
  repeat' (first | (refine ob ?_ ?_;(first | trivial | omega | (simp only [inR];omega) | exact ble (by rfl) | exact SlR.some ‹_› (by omega));(conv=>whnf)) | (first | (refine ra ‹_› (by rfl) ?_;(conv=>whnf)) | (refine rb ‹_› (by rfl) ?_;(conv=>whnf)) | (refine rc ‹_› (by rfl) ?_;(conv=>whnf)) | (refine rd ‹_› (by rfl) ?_;(conv=>whnf))))
  refine IteP.mk (fun h=>absurd h hx) (fun _=>W.mk ?_)
  (conv=>whnf)
  exact FinP.mk rfl
theorem before162:Sound Tryz.prog 162 id (gsca (fun args _ (x:Er × Er)=>args = [erVal x.1,erVal x.2]∧x.2.d < x.1.d) fun _ v=>v = I 1):=by
 refine comp162.gsca (Tab.cons 203 _ cmp203 body203 (Tab.cons 202 _ or202 body202 (Tab.nil _))) (fun args G s h=>?_) (fun args G x h=>?_)
 ·obtain ⟨rfl,_⟩:=h;simp
 ·obtain ⟨a,b⟩:=x
  obtain ⟨rfl,hd⟩:=h
  dsimp only at hd
  have h1:cmpF a.d b.d = 1:=by unfold cmpF;rw [if_neg (by omega),if_pos (by omega)]
  (conv=>whnf)
  refine OblP.mk ⟨_,_,rfl⟩ (W.mk ?_)
  (conv=>whnf)
  refine OblP.mk ⟨_,_,rfl⟩ (W.mk ?_)
  (conv=>whnf)
  refine RelP.mk trivial (fun v G1 hg1 hq=>W.mk ?_)
  obtain ⟨va,vc,rfl,hpr⟩:=hq
  (conv=>whnf)
  refine ScaP.g (ok1 (slRd intE) fun l=>∃ x r,l = x :: r∧x≠0) (x:=[cmpF a.d b.d,cmpF a.n b.n]) ⟨_,rfl,hpr.slV (e:=intE) rfl rfl (by decide),_,_,rfl,by rw [h1];decide⟩ (fun v hv=>W.mk ?_)
  subst hv
  dsimp only [List.headD]
  rw [h1]
  (conv=>whnf)
  exact FinP.mk rfl
def ErInc (X:List Er):Prop:=X.Pairwise (fun a b=>a.d < b.d)
abbrev bfV:Value:=.func (.func 162) #[] #[]
theorem isort232:Sound Tryz.prog 232 id (gsca (fun args G (X:List Er)=>∃ w n,args = [w,I 0,I n,bfV]∧SlV erE G w X∧ErInc X∧n = X.length∧X.length≤12) fun _ v=>v = .tuple #[]):=by
 refine comp232.gsca (Tab.nil _) (fun args G s h=>?_) (fun args G X h=>?_)
 ·obtain ⟨w,n,rfl,_⟩:=h;simp
 ·obtain ⟨w,n,rfl,⟨a,k,c,rfl,hl,hk⟩,hinc,rfl,h12⟩:=h
  have hln:=hl.len
  (conv=>whnf)
  repeat' (refine ob ?_ ?_;(first | trivial | omega | (simp only [inR];omega) | exact ble (by rfl) | exact SlR.some ‹_› (by omega));(conv=>whnf))
  refine LoopP.of { α:=Nat × Unit,fr:=fun z=>[(0, .v (.slice a k c)),(1, .v (I 0)),(2, .v (I X.length)),(3, .v bfV),(8, .v (I z.1))],H:=fun _=>[],ok:=fun z _=>1≤z.1,m:=fun z=>X.length - z.1 }
   (1,()) (HeadP.of [] ⟨rfl,rfl,rfl,rfl,rfl,trivial⟩ trivial) (Nat.le_refl _) (fun _=>⟨rfl,rfl⟩) (fun z G' hG hz=>W.mk ?_)
  obtain ⟨i,_⟩:=z
  have hi:1≤i:=hz
  clear hz
  dsimp only
  replace hl:=slr_grow (E:=erE) hG hl
  (conv=>whnf)
  refine IteP.mk (fun hlt=>W.mk ?_) (fun hge=>W.mk ?_)<;>(conv=>whnf)
  ·have hlt:i < X.length:=by have hlt:(i:Int) < X.length:=hlt;omega
   refine LoopP.of { α:=Unit,fr:=fun _=>[(0, .v (.slice a k c)),(1, .v (I 0)),(2, .v (I X.length)),(3, .v bfV),(8, .v (I i)),(9, .v (I i))],H:=fun _=>[],ok:=fun _ _=>True,m:=fun _=>0 }
    () (HeadP.of [] ⟨rfl,rfl,rfl,rfl,rfl,rfl,trivial⟩ trivial) trivial (fun _=>⟨rfl,rfl⟩) (fun z G2 hG2 hz=>W.mk ?_)
   replace hl:=slr_grow (E:=erE) hG2 hl
   have he1:=hl.el hlt
   have e0:(((i:Int) - 1).toNat) = i - 1:=by omega
   have he2:CellsAt G2 (ab a) (ao a + ((i:Int) - 1).toNat * 6) (erE.f (X[i - 1]'(by omega))):=by rw [e0];exact hl.el (i:=i - 1) (by omega)
   have hd:(X[i - 1]'(by omega)).d < X[i].d:=List.pairwise_iff_getElem.1 hinc (i - 1) i (by omega) hlt (by omega)
   generalize (X[i - 1]'(by omega)) = y at he2 hd
   generalize X[i] = x at he1 hd
   (conv=>whnf)
   refine IteP.mk (fun _=>W.mk ?_) (fun h=>absurd (show (i:Int) > 0 by omega) h)
   (conv=>whnf)
   repeat' (first | (refine ob ?_ ?_;(first | trivial | omega | (simp only [inR];omega) | exact ble (by rfl) | exact SlR.some ‹_› (by omega));(conv=>whnf)) | (first | (refine ra ‹_› (by rfl) ?_;(conv=>whnf)) | (refine rb ‹_› (by rfl) ?_;(conv=>whnf)) | (refine rc ‹_› (by rfl) ?_;(conv=>whnf)) | (refine rd ‹_› (by rfl) ?_;(conv=>whnf))))
   refine FnvP.mk ⟨_,SoundFn.of body162 (Sound.bare before162),W.mk ?_⟩
   (conv=>whnf)
   refine ScaP.mk ⟨(x,y),rfl,hd⟩ (fun v hv=>W.mk ?_)
   obtain ⟨_,_,rfl⟩:=hv
   (conv=>whnf)
   refine IteP.mk (fun h=>absurd h (by decide)) (fun _=>W.mk ?_)
   (conv=>whnf)
   repeat' (refine ob ?_ ?_;(first | trivial | omega | (simp only [inR];omega) | exact ble (by rfl) | exact SlR.some ‹_› (by omega));(conv=>whnf))
   exact RoundP.of (i + 1,()) (HeadP.of [] ⟨rfl,rfl,rfl,rfl,rfl,trivial⟩ trivial) (by show 1≤i + 1;omega) (by show X.length - (i + 1) < X.length - i;omega)
  ·exact FinP.mk rfl
theorem pdq201:Sound Tryz.prog 201 id (gsca (fun args G (X:List Er)=>∃ w n k,args = [w,I 0,I n,I k,bfV]∧SlV erE G w X∧ErInc X∧n = X.length∧X.length≤12) fun _ v=>v = .tuple #[]):=by
 refine comp201.gsca (Tab.cons 232 _ isort232 body232 (Tab.nil _)) (fun args G s h=>?_) (fun args G X h=>?_)
 ·obtain ⟨w,n,k,rfl,_⟩:=h;simp
 ·obtain ⟨w,n,q,rfl,⟨a,k,c,rfl,hl,hk⟩,hinc,rfl,h12⟩:=h
  (conv=>whnf)
  refine LoopP.of { α:=Unit,fr:=fun _=>[(0, .v (.slice a k c)),(1, .v (I 0)),(2, .v (I X.length)),(3, .v (I q)),(4, .v bfV)],H:=fun _=>[],ok:=fun _ _=>True,m:=fun _=>0 }
   () (HeadP.of [] ⟨rfl,rfl,rfl,rfl,rfl,trivial⟩ trivial) trivial (fun _=>⟨rfl,rfl⟩) (fun z G' hG hz=>W.mk ?_)
  replace hl:=slr_grow (E:=erE) hG hl
  (conv=>whnf)
  repeat' (refine ob ?_ ?_;(first | trivial | omega | (simp only [inR];omega) | exact ble (by rfl) | exact SlR.some ‹_› (by omega));(conv=>whnf))
  refine IteP.mk (fun _=>W.mk ?_) (fun h=>absurd (show (X.length:Int) - 0≤12 by omega) h)
  (conv=>whnf)
  refine ScaP.mk ⟨X,_,_,rfl,⟨a,k,c,rfl,hl,hk⟩,hinc,rfl,h12⟩ (fun v hv=>W.mk ?_)
  obtain ⟨_,_,rfl⟩:=hv
  (conv=>whnf)
  exact FinP.mk rfl
theorem sort161:Sound Tryz.prog 161 id (gsca (fun args G (X:List Er)=>∃ w,args = [w,bfV]∧SlV erE G w X∧ErInc X∧X.length≤12) fun _ v=>v = .tuple #[]):=by
 refine comp161.gsca (Tab.cons 100 _ len100 body100 (Tab.cons 201 _ pdq201 body201 (Tab.nil _))) (fun args G s h=>?_) (fun args G X h=>?_)
 ·obtain ⟨w,rfl,_⟩:=h;simp
 ·obtain ⟨w,rfl,⟨a,k,c,rfl,hl,hk⟩,hinc,h12⟩:=h
  have hln:=hl.len
  (conv=>whnf)
  repeat' (refine ob ?_ ?_;(first | trivial | omega | (simp only [inR];omega) | exact ble (by rfl) | exact SlR.some ‹_› (by omega));(conv=>whnf))
  refine ScaP.mk ⟨k,rfl,by omega⟩ (fun v hv=>W.mk ?_)
  obtain ⟨_,_,q,rfl⟩:=hv
  (conv=>whnf)
  refine ScaP.mk ⟨X,_,_,_,rfl,⟨a,k,c,rfl,hl,hk⟩,hinc,by rw [hln],h12⟩ (fun v hv=>W.mk ?_)
  obtain ⟨_,_,rfl⟩:=hv
  (conv=>whnf)
  exact FinP.mk rfl
theorem und45:Tryz.prog.underlying 45 = some (.slice 47):=by kernel_rfl
def erSl:Rd (List Er):=slRd erE
theorem clone160:Sound Tryz.prog 160 id (grel (args1 erSl fun X=>X.length≤12) fun X v G=>SlV erE G v X):=by
 refine comp160.grel (Tab.nil _) (ok1 _ _) (fun args G s h=>?_) (fun x v G G' hg h=>h.grow hg) (fun args G X h=>?_)
 ·obtain ⟨v,rfl,_⟩:=h;simp
 ·obtain ⟨v,rfl,⟨a,k,c,rfl,hl,hk⟩,h12⟩:=h
  have hln:=hl.len
  obtain ⟨e1,e2,e3⟩:=hl.all
  (conv=>whnf)
  refine PurP.of _ (pur_sl_nil und45 a k c 0 0) (W.mk ?_)
  (conv=>whnf)
  refine ForkP.mk (fun hb=>W.mk ?_) (fun hb=>W.mk ?_)
  ·have hn:a = none:=by cases a with | none=>rfl | some _=>cases hb
   subst hn
   have hk0:k = 0:=by
    apply Classical.byContradiction
    intro h
    have:=hl.some (by omega)
    cases this
   have hX:X = []:=List.eq_nil_of_length_eq_zero (by omega)
   subst hX
   (conv=>whnf)
   exact FinP.mk SlV.nil
  ·(conv=>whnf)
   repeat' (first | (refine ob ?_ ?_;(first | trivial | omega | (simp only [inR];omega) | exact ble (by rfl) | exact SlR.some ‹_› (by omega));(conv=>whnf)) | (first | (refine ra ‹_› (by rfl) ?_;(conv=>whnf)) | (refine rb ‹_› (by rfl) ?_;(conv=>whnf)) | (refine rc ‹_› (by rfl) ?_;(conv=>whnf)) | (refine rd ‹_› (by rfl) ?_;(conv=>whnf))))
   refine OblP.mk hl.some (W.mk ?_)
   (conv=>whnf)
   refine RdP.at e1 e2 (W.mk ?_)
   (conv=>whnf)
   refine OblP.mk e3 (W.mk ?_)
   (conv=>whnf)
   repeat' (first | (refine OblP.mk rfl (W.mk ?_);(conv=>whnf)) | (refine ob ?_ ?_;(first | trivial | omega | (simp only [inR];omega) | exact ble (by rfl) | exact SlR.some ‹_› (by omega));(conv=>whnf)))
   refine PubP.mk (fun pa pc G1 hg1 h1=>W.mk ?_)
   (conv=>whnf)
   exact FinP.mk (h1.slV (e:=erE) rfl (by omega) (by omega))
/-! ### Issued up to a day -/
def issF (X:List Er) (to:Int):List Er:=X.takeWhile fun x=>decide (x.d≤to)
theorem tw_get {α:Type} {p:α→Bool}:∀ {l:List α} {j:Nat} (hj:j < l.length),(∀ i (h:i < l.length),i≤j→p l[i] = true)→(l.takeWhile p)[j]? = some l[j]
 | [],j,hj,_=>absurd hj (Nat.not_lt_zero _)
 | x :: l,0,hj,h=>by
  have:=h 0 hj (Nat.le_refl _)
  rw [List.getElem_cons_zero] at this
  simp [List.takeWhile,this]
 | x :: l,j + 1,hj,h=>by
  have h0:=h 0 (Nat.succ_pos _) (Nat.zero_le _)
  rw [List.getElem_cons_zero] at h0
  have ih:=tw_get (l:=l) (j:=j) (by simpa using hj) (fun i hi hij=>by
   have:=h (i + 1) (by simpa using hi) (by omega)
   rwa [List.getElem_cons_succ] at this)
  simp only [List.takeWhile,h0,List.getElem?_cons_succ,List.getElem_cons_succ]
  exact ih
theorem tw_len {α:Type} {p:α→Bool}:∀ {l:List α} {j:Nat} (_:j≤l.length),(∀ i (h:i < l.length),i < j→p l[i] = true)→(∀ h:j < l.length,p l[j] = false)→(l.takeWhile p).length = j
 | [],j,hj,_,_=>by
  have:j = 0:=by simpa using hj
  subst this
  rfl
 | x :: l,0,_,_,h2=>by
  have:=h2 (Nat.succ_pos _)
  rw [List.getElem_cons_zero] at this
  simp [List.takeWhile,this]
 | x :: l,j + 1,hj,h,h2=>by
  have h0:=h 0 (Nat.succ_pos _) (Nat.succ_pos _)
  rw [List.getElem_cons_zero] at h0
  have ih:=tw_len (l:=l) (j:=j) (by simpa using hj) (fun i hi hij=>by
   have:=h (i + 1) (by simpa using hi) (by omega)
   rwa [List.getElem_cons_succ] at this) (fun hj2=>by
   have:=h2 (by simpa using hj2)
   rwa [List.getElem_cons_succ] at this)
  simp only [List.takeWhile,h0,List.length_cons,ih]
def issC (G:Hp) (a b:Nat) (X:List Er) (d:Int):Prop:=∃ w,CellsAt G a 0 [w]∧SlV erE G w X∧CellsAt G b 0 [I d]
theorem issC.grow {G G':Hp} (hg:Grow G G') {a b:Nat} {X:List Er} {d:Int} (h:issC G a b X d):issC G' a b X d:=let ⟨w,h1,h2,h3⟩:=h;⟨w,h1.grow hg,h2.grow hg,h3.grow hg⟩
def issS (a b:Nat) (X:List Er) (d:Int):PSpec:=.seq (fun l args G Ys=>args = [.func (.yield l) #[] #[]]∧issC G a b X d∧ErInc X∧X.length≤12∧Ys = (issF X d).map fun x=>[erVal x]) (fun _ _=>True)
theorem iss159 (a b:Nat) (X:List Er) (d:Int):Sound Tryz.prog 159 (fun args=>(#[]:Array Value).toList++args++(#[.pointer (some ⟨a,0,none⟩), .pointer (some ⟨b,0,none⟩)]:Array Value).toList) (issS a b X d):=by
 refine comp159.seq (Tab.cons 160 _ clone160 body160 (Tab.cons 161 _ sort161 body161 (Tab.nil _))) (fun l args G Ys h=>?_) (fun l Y k args G Ys h hseg=>?_)
 ·obtain ⟨rfl,_⟩:=h;simp
 ·obtain ⟨rfl,⟨w,h1,hw,h2⟩,hinc,h12,rfl⟩:=h
  obtain ⟨wa,wn,wc,rfl,_⟩:=id hw
  (conv=>whnf)
  refine RdP.at h1 rfl (W.mk ?_)
  (conv=>whnf)
  refine RelP.g (ok1 erSl fun X=>X.length≤12) (x:=X) ⟨_,rfl,hw,h12⟩ (Grow.refl _) (fun v G1 hg1 hq=>W.mk ?_)
  obtain ⟨va,vn,vc,rfl,hl,hb⟩:=id hq
  have hln:=hl.len
  replace h2:=h2.grow hg1
  (conv=>whnf)
  refine ScaP.mk ⟨X,_,rfl,hq,hinc,h12⟩ (fun v hv=>W.mk ?_)
  obtain ⟨_,_,rfl⟩:=hv
  (conv=>whnf)
  refine LoopP.of { α:=Nat × Unit,fr:=fun z=>[(0, .v (.func (.yield l) #[] #[])),(2, .v (bptr b)),(11, .v (.slice va vn vc)),(12, .v (I vn)),(13, .v (I z.1)),(POS, .c (.pos (k + z.1) false))],H:=fun _=>[],ok:=fun z _=>z.1≤vn∧∀ j (h:j < X.length),j < z.1→X[j].d≤d,m:=fun z=>vn - z.1 }
   (0,()) (HeadP.of [] ⟨rfl,rfl,rfl,rfl,rfl,rfl,trivial⟩ trivial) ⟨Nat.zero_le _,fun j _ h=>absurd h (Nat.not_lt_zero _)⟩ (fun _=>⟨rfl,rfl⟩) (fun z G2 hg2 hz=>W.mk ?_)
  obtain ⟨i,_⟩:=z
  obtain ⟨hi,hd⟩:=hz
  dsimp only at hi hd
  dsimp only
  replace hl:=slr_grow (E:=erE) hg2 hl
  replace h2:=h2.grow hg2
  (conv=>whnf)
  refine IteP.mk (fun hlt=>W.mk ?_) (fun hge=>W.mk ?_)
  ·have hlt:i < X.length:=by have hlt:(i:Int) < vn:=hlt;omega
   have hel:=hl.el hlt
   have hget:=tw_get (p:=fun x:Er=>decide (x.d≤d)) hlt
   have hd2:X[i].d≤d→∀ j (h:j < X.length),j < i + 1→X[j].d≤d:=fun hx j h hj=>by
    by_cases e:j = i
    ·subst e;exact hx
    ·exact hd j h (by omega)
   have hstop:=tw_len (p:=fun x:Er=>decide (x.d≤d)) (j:=i) (by omega) (fun j h hj=>decide_eq_true (hd j h hj))
   generalize hx:X[i] = x at hel hget hd2
   (conv=>whnf)
   repeat' (first | (refine ob ?_ ?_;(first | trivial | omega | (simp only [inR];omega) | exact ble (by rfl) | exact SlR.some ‹_› (by omega));(conv=>whnf)) | (first | (refine ra ‹_› (by rfl) ?_;(conv=>whnf)) | (refine rb ‹_› (by rfl) ?_;(conv=>whnf)) | (refine rc ‹_› (by rfl) ?_;(conv=>whnf)) | (refine rd ‹_› (by rfl) ?_;(conv=>whnf))))
   refine IteP.mk (fun hg=>W.mk ?_) (fun hg=>W.mk ?_)
   ·have hg:d < x.d:=hg
    (conv=>whnf)
    refine FinP.mk ⟨trivial,fun _=>?_⟩
    rw [List.length_map,issF,hstop (fun h=>decide_eq_false (by show ¬ X[i].d≤d;rw [hx];omega))]
   ·have hg:¬ d < x.d:=hg
    have hg2:=hget (fun j h hj=>decide_eq_true (hd2 (by omega) j h (by omega)))
    (conv=>whnf)
    refine CallvP.yl rfl (W.mk ?_)
    (conv=>whnf)
    refine YieldP.mk ?_ (fun G5 hg5=>W.mk ?_) (fun G5 hg5=>W.mk ?_)
    ·have hil:i < ((issF X d).map fun x=>[erVal x]).length:=by
      rw [List.length_map]
      exact (List.getElem?_eq_some_iff.1 hg2).1
     rw [seg_get hseg hil,List.getElem?_map]
     show Option.map _ ((issF X d)[i]?) = _
     rw [show (issF X d)[i]? = some x from hg2]
     rfl
    ·(conv=>whnf)
     repeat' (refine ob ?_ ?_;(first | trivial | omega | (simp only [inR];omega) | exact ble (by rfl) | exact SlR.some ‹_› (by omega));(conv=>whnf))
     exact RoundP.of (i + 1,()) (HeadP.of [] ⟨rfl,rfl,rfl,rfl,rfl,rfl,trivial⟩ trivial) ⟨by show i + 1≤vn;omega,hd2 (by omega)⟩ (by show vn - (i + 1) < vn - i;omega)
    ·(conv=>whnf)
     exact FinP.mk ⟨trivial,fun h=>by cases h⟩
  ·have hge:¬ (i:Int) < vn:=hge
   (conv=>whnf)
   refine FinP.mk ⟨trivial,fun _=>?_⟩
   rw [List.length_map,issF,tw_len (p:=fun x:Er=>decide (x.d≤d)) (j:=i) (by omega) (fun j h hj=>decide_eq_true (hd j h hj)) (fun h=>by omega)]
def IssV (G:Hp) (v:Value) (X:List Er) (d:Int):Prop:=∃ a b,v = .func (.func 159) #[] #[.pointer (some ⟨a,0,none⟩), .pointer (some ⟨b,0,none⟩)]∧issC G a b X d
theorem IssV.grow {G G':Hp} (hg:Grow G G') {v:Value} {X:List Er} {d:Int} (h:IssV G v X d):IssV G' v X d:=let ⟨a,b,e,h⟩:=h;⟨a,b,e,h.grow hg⟩
theorem iss102:Sound Tryz.prog 102 id (grel (args2 erSl intRd fun _ _=>True) fun x v G=>IssV G v x.1 x.2):=by
 refine comp102.grel (Tab.nil _) (ok2 _ _ _) (fun args G s h=>?_) (fun x v G G' hg h=>h.grow hg) (fun args G s h=>?_)
 ·obtain ⟨v,w,rfl,_⟩:=h;simp
 ·obtain ⟨X,d⟩:=s
  obtain ⟨v,w,rfl,hX,rfl,_⟩:=h
  have hX0:=hX
  obtain ⟨wa,wn,wc,rfl,_⟩:=hX
  (conv=>whnf)
  refine NameP.mk (fun b0=>W.mk ?_)
  (conv=>whnf)
  refine NameP.mk (fun b1=>W.mk ?_)
  (conv=>whnf)
  refine PubAnyP.mk ⟨[0,1], ?_⟩
  (conv=>whnf)
  intro G1 hg1 _ h1
  (conv=>whnf)
  intro G2 hg2 _ h2
  refine W.mk ?_
  (conv=>whnf)
  exact FinP.mk ⟨b0,b1,rfl,_,h1.grow hg2,SlV.grow (hg1.trans hg2) hX0,h2⟩
end Go.Proofs.YtefnikpoimaiiaaGreat

namespace Go.Proofs.YtefnikpoimaiiaaGreat
open Go.Pal Go.RowKit
set_option maxRecDepth 100000
structure ErOk (x:Er):Prop where
 n:inF x.n 1 999 = true
 d:inF x.d 0 99999 = true
 k:x.k = 0
 a:inF x.a 1 999 = true
 t:TxOk x.t
 w:x.w = 0
theorem valid94:Sound Tryz.prog 94 id (gsca (fun args _ x=>args = [erVal x]∧ErOk x) fun _ v=>v = .bool true):=by
 refine comp94.gsca (Tab.cons 101 _ in101 body101 (Tab.cons 73 _ day73 body73 (Tab.cons 131 _ anchor131 body131 (Tab.cons 132 _ text132 body132 (Tab.nil _))))) (fun args G s h=>?_) (fun args G x h=>?_)
 ·obtain ⟨rfl,_⟩:=h;simp
 ·obtain ⟨rfl,hx⟩:=h
  obtain ⟨n,d,k,a,t,w⟩:=x
  obtain ⟨h1,h2,rfl,h3,h4,rfl⟩:=hx
  dsimp only at h1 h2 h3 h4
  dsimp only [erVal]
  (conv=>whnf)
  refine OblP.mk ⟨_,_,_,rfl⟩ (W.mk ?_)
  (conv=>whnf)
  refine ForkP.mk (fun _=>W.mk ?_) (fun h=>absurd ((h1).symm.trans h) (by decide))
  (conv=>whnf)
  refine ScaP.mk ⟨d,rfl,h2⟩ (fun v hv=>W.mk ?_)
  obtain ⟨_,_,rfl⟩:=hv
  (conv=>whnf)
  refine ForkP.mk (fun _=>W.mk ?_) (fun h=>by cases h)
  (conv=>whnf)
  refine ScaP.mk ⟨a,rfl,h3⟩ (fun v hv=>W.mk ?_)
  obtain ⟨_,_,rfl⟩:=hv
  (conv=>whnf)
  refine ForkP.mk (fun _=>W.mk ?_) (fun h=>by cases h)
  (conv=>whnf)
  refine IteP.mk (fun _=>W.mk ?_) (fun h=>absurd rfl h)
  (conv=>whnf)
  refine ScaP.mk ⟨t,rfl,h4⟩ (fun v hv=>W.mk ?_)
  obtain ⟨_,_,rfl⟩:=hv
  (conv=>whnf)
  refine ForkP.mk (fun _=>W.mk ?_) (fun h=>by cases h)
  (conv=>whnf)
  refine IteP.mk (fun _=>W.mk ?_) (fun h=>absurd rfl h)
  (conv=>whnf)
  exact FinP.mk rfl
theorem all93v:Sound Tryz.prog 93 id (gsca (fun args G X=>∃ w,args = [w, .func (.func 94) #[] #[]]∧SlV erE G w X∧∀ x∈X,ErOk x) fun _ v=>v = .bool true):=fun args G W hs ⟨X,w,ha,hv,hb⟩ =>
 ((allT (all93 94 #[] #[] (fun _=>true) ErOk (fun _=>True) (fun _ _ _ h=>h) (SoundFn.of body94 (Sound.bare (TestS.of valid94 (fun x G hx _=>⟨x,rfl,hx⟩) (fun x G v _ _ ⟨_,_,h⟩=>h))))) X) args G W hs ⟨trivial,w,ha,hv,hb⟩).mono fun e W' ⟨v,h1,h2,h3⟩=>⟨v,h1,⟨X,⟨w,ha,hv,hb⟩,h2⟩,h3⟩
structure ErsOk (V:Vo) (X:List Er):Prop where
 ok:∀ x∈X,ErOk x
 inc:ErInc X
 num:(X.map (·.n)).Nodup
 a:∀ x∈X, ∃ p∈V.ps,p.1 = x.a
 len:X.length≤12
def veR:GRel (Vo × List Er):=fun args G x=>∃ v w,args = [v,w]∧VoV G v x.1∧SlV erE G w x.2∧VoOk x.1∧ErsOk x.1 x.2
def numS (X:List Er) (i:Nat) (y:Int):Bool:=(X.take i).any fun x=>decide (x.n = y)
theorem numS_succ {X:List Er} {i:Nat} (hi:i < X.length):numS X (i + 1) = fun y=>numS X i y || decide (y = X[i].n):=by
 funext y
 rw [numS,take_snoc (List.getElem?_eq_getElem hi),List.any_append]
 simp only [List.any_cons,List.any_nil,Bool.or_false,numS]
 congr 1
 rw [Bool.eq_iff_iff];simp [eq_comm]
theorem numS_new {X:List Er} (hd:(X.map (·.n)).Nodup) {i:Nat} (hi:i < X.length):numS X i X[i].n = false:=by
 rw [numS,List.any_eq_false]
 intro x hx
 rw [decide_eq_true_eq]
 intro e
 obtain ⟨j,hj,rfl⟩:=List.getElem_of_mem hx
 rw [List.length_take] at hj
 rw [List.getElem_take] at e
 have k1:(X.map (·.n))[j]? = some X[i].n:=by rw [List.getElem?_map,List.getElem?_eq_getElem (by omega)];simp [e]
 have k2:(X.map (·.n))[i]? = some X[i].n:=by rw [List.getElem?_map,List.getElem?_eq_getElem hi];rfl
 have:=(List.getElem?_inj (List.getElem?_eq_some_iff.1 k1).1 hd).1 (k1.trans k2.symm)
 omega
theorem anch96:Sound Tryz.prog 96 id (gsca veR fun _ v=>v = I 0):=by
 refine comp96.gsca (Tab.cons 95 _ pars95 body95 (Tab.cons 102 _ iss102 body102 (Tab.nil _))) (fun args G s h=>?_) (fun args G V h=>?_)
 ·obtain ⟨v,w,rfl,_⟩:=h;simp
 ·obtain ⟨V,X⟩:=V
  obtain ⟨_,_,rfl,⟨a,c,q,rfl,hV⟩,hX,hok,hers⟩:=h
  dsimp only at hV hX hok hers
  obtain ⟨wa,wn,wc,rfl,_⟩:=id hX
  have hn:=hok.n
  dsimp only [voL]
  (conv=>whnf)
  refine RelP.g (ok1 voRd fun V=>V.ps.length≤1000) (x:=V) ⟨_,rfl,⟨_,_,_,rfl,hV⟩,by omega⟩ (Grow.refl _) (fun v G2 hg2 hq=>W.mk ?_)
  obtain ⟨pa,pn,pc,rfl,hl1,hl2⟩:=id hq
  have hlen:=hl1.len
  (conv=>whnf)
  refine LoopP.of { α:=Nat × Array MapEntry × Nat,fr:=fun x=>[(1, .v (.slice wa wn wc)),(4, .c (.ptr 1 0)),(5, .c (.ptr 3 0)),(11, .v (.slice pa pn pc)),(12, .v (I pn)),(13, .v (I x.1))],H:=fun x=>[(1, .cells .anon [.val (I 0)] 33),(2, .map .anon x.2.1 x.2.2),(3, .cells .anon [.mref 2] 157)],ok:=fun x _=>x.1≤V.ps.length∧ISet Tryz.prog 3 x.2.1 (ancS V.ps x.1),m:=fun x=>V.ps.length - x.1 }
   (0, #[],0) (HeadP.of [] ⟨rfl,rfl,rfl,rfl,rfl,rfl,trivial⟩ ⟨rfl,rfl,rfl,trivial⟩) ⟨Nat.zero_le _,ISet.nil⟩ (fun _=>⟨rfl,rfl⟩) (fun x G3 hg3 hx=>W.mk ?_)
  obtain ⟨i,es,ck⟩:=x
  obtain ⟨hi,his⟩:=hx
  dsimp only at hi his
  have hl3:=SlR.grow (G:=G2) (G':=G3) (fun _ _ h=>h) hl1 hg3
  dsimp only
  (conv=>whnf)
  refine IteP.mk (fun hlt=>W.mk ?_) (fun hge=>W.mk ?_)<;>(conv=>whnf)
  ·have hlt:i < V.ps.length:=by omega
   have hc:=hl3.el hlt
   have hnew:=ancS_new hok.d hlt
   have hsuc:=ancS_succ (ps:=V.ps) hlt
   have hrg:=anc_rng hok hlt
   generalize V.ps[i] = y at hc hnew hsuc hrg
   obtain ⟨y,s⟩:=y
   have hc:CellsAt G3 (ab pa) (ao pa + i * 2) [I y, .string s]:=hc
   dsimp only at hnew hsuc hrg
   repeat' (first | (refine ob ?_ ?_;(first | trivial | omega | (simp only [inR];omega) | exact ble (by rfl) | exact SlR.some ‹_› (by omega));(conv=>whnf)) | (first | (refine ra ‹_› (by rfl) ?_;(conv=>whnf)) | (refine rb ‹_› (by rfl) ?_;(conv=>whnf)) | (refine rc ‹_› (by rfl) ?_;(conv=>whnf)) | (refine rd ‹_› (by rfl) ?_;(conv=>whnf))))
   obtain ⟨r,f1,f2,f3⟩:=ISet.find und3 his (x:=y) hrg
   refine KeyP.mk ⟨_,f1,W.mk ?_⟩
   (conv=>whnf)
   repeat' (refine ob ?_ ?_;(first | trivial | omega | (simp only [inR];omega) | exact ble (by rfl) | exact SlR.some ‹_› (by omega));(conv=>whnf))
   refine RoundP.of (i + 1,_,_) (HeadP.of [] ⟨rfl,rfl,rfl,rfl,rfl,rfl,trivial⟩ ⟨rfl,rfl,rfl,trivial⟩) ⟨hlt, ?_⟩ (by simp only;omega)
   dsimp only
   rw [hsuc]
   exact f3 ck
  ·have hie:i = V.ps.length:=by omega
   subst hie
   refine RelP.g (ok2 erSl intRd fun _ _=>True) (x:=(X,99999)) ⟨_,_,rfl,(hX.grow hg2).grow hg3,rfl,trivial⟩ (Grow.refl _) (fun v G4 hg4 hq4=>W.mk ?_)
   obtain ⟨ba,bb,rfl,hic⟩:=hq4
   (conv=>whnf)
   refine RangeP.of ((issF X 99999).map fun x=>[erVal x]) { α:=Nat × Unit,fr:=[(4, .c (.ptr 1 0)),(5, .c (.ptr 3 0))],k:=fun z=>z.1,H:=fun _=>[(1, .cells .anon [.val (I 0)] 33),(2, .map .anon es ck),(3, .cells .anon [.mref 2] 157)],ok:=fun _ _=>True }
    (0,()) (SoundFn.of body159 (iss159 ba bb X 99999)) (fun l=>⟨rfl,hic,hers.inc,hers.len,rfl⟩) (fun y hy=>by obtain ⟨x,_,rfl⟩:=List.mem_map.1 hy;rfl) rfl (HeadP.of [] ⟨rfl,rfl,trivial⟩ ⟨rfl,rfl,rfl,trivial⟩) trivial ⟨rfl,fun _=>rfl⟩ (fun _ _ _ _ h=>h)
    (fun z y G5 hg5 hx hy=>W.mk ?_) (fun z G5 hg5 hx hk=>W.mk ?_)
   ·obtain ⟨j,_⟩:=z
    rw [List.getElem?_map] at hy
    obtain ⟨x,hxj,hye⟩:=Option.map_eq_some_iff.1 hy
    subst hye
    have hxX:x∈X:=(List.takeWhile_prefix _).subset (List.mem_of_getElem? hxj)
    have hxo:=hers.ok x hxX
    obtain ⟨p,hp,hpa⟩:=hers.a x hxX
    have hin:ancS V.ps V.ps.length x.a = true:=by
     rw [ancS,List.take_length]
     exact List.any_eq_true.2 ⟨p,hp,by simp [hpa]⟩
    have hrg:inR .i64 x.a:=by have:=hxo.a;simp only [inF,decide_eq_true_eq] at this;simp only [inR];omega
    have hk0:=hxo.k
    dsimp only
    (conv=>whnf)
    obtain ⟨r,f1,f2,f3⟩:=ISet.find und3 his (x:=x.a) hrg
    refine KeyP.mk ⟨_,f1,W.mk ?_⟩
    dsimp only
    rw [f2,hin]
    (conv=>whnf)
    refine ForkP.mk (fun _=>W.mk ?_) (fun h=>by cases h)
    (conv=>whnf)
    refine IteP.mk (fun h=>absurd h (by show ¬ x.k = 2;rw [hk0];decide)) (fun _=>W.mk ?_)
    (conv=>whnf)
    exact RoundR.of (j + 1,()) [] ⟨rfl,rfl,rfl,trivial⟩ trivial rfl
   ·(conv=>whnf)
    exact FinP.mk rfl
theorem check63:Sound Tryz.prog 63 id (gsca veR fun _ v=>v = I 0):=by
 refine comp63.gsca (Tab.cons 92 _ check92 body92 (Tab.cons 93 _ all93v body93 (Tab.cons 95 _ pars95 body95 (Tab.cons 96 _ anch96 body96 (Tab.nil _))))) (fun args G s h=>?_) (fun args G V h=>?_)
 ·obtain ⟨v,w,rfl,_⟩:=h;simp
 ·obtain ⟨V,X⟩:=V
  obtain ⟨_,_,rfl,⟨a,c,q,rfl,hV⟩,hX,hok,hers⟩:=h
  dsimp only at hV hX hok hers
  obtain ⟨wa,wn,wc,rfl,hxl,hxb⟩:=id hX
  have hxn:=hxl.len
  have hxlen:=hers.len
  have hn:=hok.n
  dsimp only [voL]
  (conv=>whnf)
  refine ScaP.g (ok1 voRd VoOk) (x:=V) ⟨_,rfl,⟨_,_,_,rfl,hV⟩,hok⟩ (fun v hv=>W.mk ?_)
  subst hv
  (conv=>whnf)
  refine IteP.mk (fun _=>W.mk ?_) (fun h=>absurd rfl h)
  (conv=>whnf)
  refine IteP.mk (fun h=>absurd (show (wn:Int) > 20 from h) (by omega)) (fun _=>W.mk ?_)
  (conv=>whnf)
  refine ScaP.mk ⟨X,_,rfl,hX,hers.ok⟩ (fun v hv=>W.mk ?_)
  obtain ⟨_,_,rfl⟩:=hv
  (conv=>whnf)
  refine ForkP.mk (fun _=>W.mk ?_) (fun h=>by cases h)
  (conv=>whnf)
  refine RelP.g (ok1 voRd fun V=>V.ps.length≤1000) (x:=V) ⟨_,rfl,⟨_,_,_,rfl,hV⟩,by omega⟩ (Grow.refl _) (fun v G2 hg2 hq=>W.mk ?_)
  obtain ⟨pa,pn,pc,rfl,hl1,hl2⟩:=id hq
  have hlen:=hl1.len
  (conv=>whnf)
  refine LoopP.of { α:=Nat × Array MapEntry × Nat,fr:=fun x=>[(1, .v (.slice wa wn wc)),(2, .c (.ptr 0 0)),(6, .c (.mref 19)),(7, .c (.mref 20)),(28, .v (.slice pa pn pc)),(29, .v (I pn)),(30, .v (I x.1))],H:=fun x=>[(0, .cells .anon ((voL a c V).map .val) 105),(19, .map .anon x.2.1 x.2.2),(20, .map .anon #[] 0)],ok:=fun x _=>x.1≤V.ps.length∧ISet Tryz.prog 3 x.2.1 (ancS V.ps x.1),m:=fun x=>V.ps.length - x.1 }
   (0, #[],0) (HeadP.of [] ⟨rfl,rfl,rfl,rfl,rfl,rfl,rfl,trivial⟩ ⟨rfl,rfl,rfl,trivial⟩) ⟨Nat.zero_le _,ISet.nil⟩ (fun _=>⟨rfl,rfl⟩) (fun x G3 hg3 hx=>W.mk ?_)
  obtain ⟨i,es,ck⟩:=x
  obtain ⟨hi,his⟩:=hx
  dsimp only at hi his
  have hl3:=SlR.grow (G:=G2) (G':=G3) (fun _ _ h=>h) hl1 hg3
  dsimp only [voL]
  (conv=>whnf)
  refine IteP.mk (fun hlt=>W.mk ?_) (fun hge=>W.mk ?_)<;>(conv=>whnf)
  ·have hlt:i < V.ps.length:=by omega
   have hc:=hl3.el hlt
   have hnew:=ancS_new hok.d hlt
   have hsuc:=ancS_succ (ps:=V.ps) hlt
   have hrg:=anc_rng hok hlt
   generalize V.ps[i] = y at hc hnew hsuc hrg
   obtain ⟨y,s⟩:=y
   have hc:CellsAt G3 (ab pa) (ao pa + i * 2) [I y, .string s]:=hc
   dsimp only at hnew hsuc hrg
   repeat' (first | (refine ob ?_ ?_;(first | trivial | omega | (simp only [inR];omega) | exact ble (by rfl) | exact SlR.some ‹_› (by omega));(conv=>whnf)) | (first | (refine ra ‹_› (by rfl) ?_;(conv=>whnf)) | (refine rb ‹_› (by rfl) ?_;(conv=>whnf)) | (refine rc ‹_› (by rfl) ?_;(conv=>whnf)) | (refine rd ‹_› (by rfl) ?_;(conv=>whnf))))
   obtain ⟨r,f1,f2,f3⟩:=ISet.find und3 his (x:=y) hrg
   refine KeyP.mk ⟨_,f1,W.mk ?_⟩
   (conv=>whnf)
   repeat' (refine ob ?_ ?_;(first | trivial | omega | (simp only [inR];omega) | exact ble (by rfl) | exact SlR.some ‹_› (by omega));(conv=>whnf))
   refine RoundP.of (i + 1,_,_) (HeadP.of [] ⟨rfl,rfl,rfl,rfl,rfl,rfl,rfl,trivial⟩ ⟨rfl,rfl,rfl,trivial⟩) ⟨hlt, ?_⟩ (by simp only;omega)
   dsimp only
   rw [hsuc]
   exact f3 ck
  ·have hie:i = V.ps.length:=by omega
   refine LoopP.of { α:=Nat × Array MapEntry × Nat,fr:=fun z=>[(1, .v (.slice wa wn wc)),(2, .c (.ptr 0 0)),(6, .c (.mref 19)),(7, .c (.mref 20)),(38, .v (.slice wa wn wc)),(39, .v (I wn)),(40, .v (I z.1))],H:=fun z=>[(0, .cells .anon ((voL a c V).map .val) 105),(19, .map .anon es ck),(20, .map .anon z.2.1 z.2.2)],ok:=fun z _=>z.1≤X.length∧ISet Tryz.prog 3 z.2.1 (numS X z.1),m:=fun z=>X.length - z.1 }
    (0, #[],0) (HeadP.of [] ⟨rfl,rfl,rfl,rfl,rfl,rfl,rfl,trivial⟩ ⟨rfl,rfl,rfl,trivial⟩) ⟨Nat.zero_le _,ISet.nil⟩ (fun _=>⟨rfl,rfl⟩) (fun z G4 hg4 hz=>W.mk ?_)
   obtain ⟨j,fs,cf⟩:=z
   obtain ⟨hj,hjs⟩:=hz
   dsimp only at hj hjs
   have hx4:=slr_grow (E:=erE) ((hg2.trans hg3).trans hg4) hxl
   dsimp only [voL]
   (conv=>whnf)
   refine IteP.mk (fun hlt=>W.mk ?_) (fun hge=>W.mk ?_)<;>(conv=>whnf)
   ·have hlt:j < X.length:=by have hlt:(j:Int) < wn:=hlt;omega
    have hc:=hx4.el hlt
    have hnew:=numS_new hers.num hlt
    have hsuc:=numS_succ hlt
    have hxo:=hers.ok _ (List.getElem_mem hlt)
    generalize X[j] = x at hc hnew hsuc hxo
    have hk0:=hxo.k
    have hrg:inR .i64 x.n:=by have:=hxo.n;simp only [inF,decide_eq_true_eq] at this;simp only [inR];omega
    repeat' (first | (refine ob ?_ ?_;(first | trivial | omega | (simp only [inR];omega) | exact ble (by rfl) | exact SlR.some ‹_› (by omega));(conv=>whnf)) | (first | (refine ra ‹_› (by rfl) ?_;(conv=>whnf)) | (refine rb ‹_› (by rfl) ?_;(conv=>whnf)) | (refine rc ‹_› (by rfl) ?_;(conv=>whnf)) | (refine rd ‹_› (by rfl) ?_;(conv=>whnf))))
    obtain ⟨r,f1,f2,f3⟩:=ISet.find und3 hjs (x:=x.n) hrg
    refine KeyP.mk ⟨_,f1,W.mk ?_⟩
    dsimp only
    rw [f2,hnew]
    (conv=>whnf)
    refine ForkP.mk (fun h=>by cases h) (fun _=>W.mk ?_)
    (conv=>whnf)
    refine IteP.mk (fun h=>absurd h (by show ¬ x.k = 2;rw [hk0];decide)) (fun _=>W.mk ?_)
    (conv=>whnf)
    refine KeyP.mk ⟨_,f1,W.mk ?_⟩
    (conv=>whnf)
    refine IteP.mk (fun h=>absurd h (by show ¬ x.k = 2;rw [hk0];decide)) (fun _=>W.mk ?_)
    (conv=>whnf)
    repeat' (refine ob ?_ ?_;(first | trivial | omega | (simp only [inR];omega) | exact ble (by rfl) | exact SlR.some ‹_› (by omega));(conv=>whnf))
    refine RoundP.of (j + 1,_,_) (HeadP.of [] ⟨rfl,rfl,rfl,rfl,rfl,rfl,rfl,trivial⟩ ⟨rfl,rfl,rfl,trivial⟩) ⟨hlt, ?_⟩ (by show X.length - (j + 1) < X.length - j;omega)
    dsimp only
    rw [hsuc]
    exact f3 cf
   ·refine ScaP.mk ⟨(V,X),_,_,rfl,⟨_,_,_,rfl,((hV.grow hg2).grow hg3).grow hg4⟩,((hX.grow hg2).grow hg3).grow hg4,hok,hers⟩ (fun v hv=>W.mk ?_)
    obtain ⟨_,_,rfl⟩:=hv
    (conv=>whnf)
    exact FinP.mk rfl
end Go.Proofs.YtefnikpoimaiiaaGreat

namespace Go.Proofs.YtefnikpoimaiiaaGreat
open Go.Pal Go.RowKit
set_option maxRecDepth 100000
theorem rdhc {p G:Hp} {b off n:Nat} {A:List Value→Prop} {ds:List Value} {t:TypeId} (h:p b = some (.cells ds.toArray t (0,0))) (cs:List Value) (hcs:(ds.drop off).take n = cs) (hl:cs.length = n) (k:W (A cs)):RdhP p G b off n A:=⟨cs,⟨hl, .inr ⟨ds,t,h,hcs.symm⟩⟩,fun _=>k⟩
structure EdH (p:Hp) (be b1 b2:Nat) (vs:List Value) (q:Int) (t:ByteArray):Prop where
 l:vs.length = 5
 e:∃ c r,p be = some (.cells (vs++[Value.slice (some ⟨b1,0,none⟩) 1 c]).toArray 186 (0,0))∧1≤c∧c≤maxLen∧∃ c2 r2,p b1 = some (.cells (Value.slice (some ⟨b2,0,none⟩) 1 c2 :: r).toArray 189 (0,0))∧r.length = (c - 1) * 1∧1≤c2∧c2≤maxLen ∧
  p b2 = some (.cells (I q :: Value.string t :: Value.bool false :: r2).toArray 191 (0,0))∧r2.length = (c2 - 1) * 3
theorem find103 (be b1 b2:Nat) (vs:List Value) (q:Int) (t:ByteArray):Sound Tryz.prog 103 id (.hp (fun args p _=>args = [bptr be,I q]∧EdH p be b1 b2 vs q t) fun _ p v p' _=>v = .tuple #[I 0,I 0, .bool true]∧∀ b o,p b = some o→p' b = some o):=by
 refine comp103.hp (Tab.nil _) (fun args p G h=>?_) (fun args p v p' G G' hg h=>h) (fun args p G h=>?_)
 ·obtain ⟨rfl,_⟩:=h;simp
 ·obtain ⟨rfl,hl,c,r,h1,hc1,hc2,c2,r2,h2,hr1,hc3,hc4,h3,hr2⟩:=h
  match vs,hl,h1 with
  | [v0,v1,v2,v3,v4],_,h1 =>
  (conv=>whnf)
  refine rdhc h1 [.slice (some ⟨b1,0,none⟩) 1 c] rfl rfl (W.mk ?_)
  (conv=>whnf)
  refine LoopP.of { α:=Nat,fr:=fun z=>[(1, .v (I q)),(4, .v (I 0)),(5, .v (I 0)),(6, .v (.bool false)),(14, .v (.slice (some ⟨b1,0,none⟩) 1 c)),(15, .v (I 1)),(16, .v (I z))],H:=fun _=>[(0, .heap p)],ok:=fun z _=>z = 0,m:=fun z=>1 - z }
   0 (HeadP.of [] ⟨rfl,rfl,rfl,rfl,rfl,rfl,rfl,trivial⟩ ⟨rfl,trivial⟩) rfl (fun _=>⟨rfl,rfl⟩) (fun z G' hG hz=>W.mk ?_)
  obtain rfl:z = 0:=hz
  (conv=>whnf)
  refine IteP.mk (fun hlt=>W.mk ?_) (fun hge=>absurd (show ((0:Nat):Int) < (1:Nat) by decide) hge)
  (conv=>whnf)
  repeat' (refine ob ?_ ?_;(first | trivial | omega | (simp only [inR];omega) | exact ble (by rfl) | exact SlR.some ‹_› (by omega));(conv=>whnf))
  refine rdhc h2 [.slice (some ⟨b2,0,none⟩) 1 c2] rfl rfl (W.mk ?_)
  (conv=>whnf)
  refine LoopP.of { α:=Nat,fr:=fun z=>[(1, .v (I q)),(7, .v (I 0)),(21, .v (.slice (some ⟨b2,0,none⟩) 1 c2)),(22, .v (I 1)),(23, .v (I z))],H:=fun _=>[(0, .heap p)],ok:=fun z _=>z = 0,m:=fun z=>1 - z }
   0 (HeadP.of [] ⟨rfl,rfl,rfl,rfl,rfl,trivial⟩ ⟨rfl,trivial⟩) rfl (fun _=>⟨rfl,rfl⟩) (fun z G2 hG2 hz=>W.mk ?_)
  obtain rfl:z = 0:=hz
  (conv=>whnf)
  refine IteP.mk (fun hlt=>W.mk ?_) (fun hge=>absurd (show ((0:Nat):Int) < (1:Nat) by decide) hge)
  (conv=>whnf)
  repeat' (refine ob ?_ ?_;(first | trivial | omega | (simp only [inR];omega) | exact ble (by rfl) | exact SlR.some ‹_› (by omega));(conv=>whnf))
  refine rdhc h3 [I q, .string t, .bool false] rfl rfl (W.mk ?_)
  (conv=>whnf)
  repeat' (refine ob ?_ ?_;(first | trivial | omega | (simp only [inR];omega) | exact ble (by rfl) | exact SlR.some ‹_› (by omega));(conv=>whnf))
  refine IteP.mk (fun h=>W.mk ?_) (fun h=>absurd rfl h)
  (conv=>whnf)
  refine NmP.mk ⟨[],W.mk ?_⟩
  (conv=>whnf)
  exact FinHp.of rfl ⟨rfl,fun _ _ h=>h⟩
theorem change163 (be b1 b2:Nat) (vs:List Value) (q:Int) (t:ByteArray) (x:Er):Sound Tryz.prog 163 id (.hp (fun args p _=>args = [bptr be,I 0,I 0,erVal x]∧EdH p be b1 b2 vs q t) fun _ p v p' _=>v = .tuple #[]∧EdH p' be b1 b2 vs q x.t∧KeepHp (fun b=>b = b2) p p'):=by
 refine comp163.hp (Tab.nil _) (fun args p G h=>?_) (fun args p v p' G G' hg h=>h) (fun args p G h=>?_)
 ·obtain ⟨rfl,_⟩:=h;simp
 ·obtain ⟨rfl,hl,c,r,h1,hc1,hc2,c2,r2,h2,hr1,hc3,hc4,h3,hr2⟩:=h
  match vs,hl,h1 with
  | [v0,v1,v2,v3,v4],_,h1 =>
  (conv=>whnf)
  refine rdhc h1 [.slice (some ⟨b1,0,none⟩) 1 c] rfl rfl (W.mk ?_)
  (conv=>whnf)
  repeat' (refine ob ?_ ?_;(first | trivial | omega | (simp only [inR];omega) | exact ble (by rfl) | exact SlR.some ‹_› (by omega));(conv=>whnf))
  refine rdhc h2 [.slice (some ⟨b2,0,none⟩) 1 c2] rfl rfl (W.mk ?_)
  (conv=>whnf)
  repeat' (refine ob ?_ ?_;(first | trivial | omega | (simp only [inR];omega) | exact ble (by rfl) | exact SlR.some ‹_› (by omega));(conv=>whnf))
  refine rdhc h3 [.bool false] rfl rfl (W.mk ?_)
  (conv=>whnf)
  repeat' (refine ob ?_ ?_;(first | trivial | omega | (simp only [inR];omega) | exact ble (by rfl) | exact SlR.some ‹_› (by omega));(conv=>whnf))
  refine ForkP.mk (fun h=>by cases h) (fun _=>W.mk ?_)
  (conv=>whnf)
  refine HpkP.mk ⟨_,191,h3,W.mk ?_⟩
  (conv=>whnf)
  refine OblP.mk (by simp) (W.mk ?_)
  (conv=>whnf)
  refine NmP.mk ⟨[],W.mk ?_⟩
  (conv=>whnf)
  refine FinHp.of rfl ⟨rfl,⟨rfl,c,r, ?_,hc1,hc2,c2,r2, ?_,hr1,hc3,hc4,upd_same _ _ _,hr2⟩,fun b o hb e=>?_⟩
  ·exact (upd_other _ _ (ne_ty h1 h3 (by decide))).trans h1
  ·exact (upd_other _ _ (ne_ty h2 h3 (by decide))).trans h2
  ·exact (upd_other _ _ hb).trans e
end Go.Proofs.YtefnikpoimaiiaaGreat

namespace Go.Proofs.YtefnikpoimaiiaaGreat
open Go.Pal Go.RowKit
set_option maxRecDepth 100000
def kndR:GRel Unit:=fun args _ _=>args = []
def knds:List Value:=[.func (.func 163) #[] #[], .func (.func 164) #[] #[], .func (.func 165) #[] #[]]
theorem kndOk:GOk kndR:=⟨fun _ _ _ _ _ _=>rfl,fun _ _ _ _ _ h=>h⟩
theorem kinds104:Sound Tryz.prog 104 id (gown 230 1 kndR fun _ n vs=>n = 3∧vs = knds):=by
 refine comp104.gown (Tab.nil _) ⟨fun _ _ _ _ _ _=>rfl,fun _ _ _ _ _ h=>h⟩ (fun args G s h=>?_) (fun args G x h=>?_)
 ·obtain rfl:=h;simp
 ·obtain rfl:=h
  (conv=>whnf)
  exact OwnFin.mk ⟨rfl,rfl,rfl,rfl,rfl⟩
theorem EdH.mono {p p':Hp} {be b1 b2:Nat} {vs:List Value} {q:Int} {t:ByteArray} (h:EdH p be b1 b2 vs q t) (hk:∀ b o,p b = some o→p' b = some o):EdH p' be b1 b2 vs q t:=by
 obtain ⟨hl,c,r,h1,h2,h3,c2,r2,h4,h5,h6,h7,h8,h9⟩:=h
 exact ⟨hl,c,r,hk _ _ h1,h2,h3,c2,r2,hk _ _ h4,h5,h6,h7,hk _ _ h8,h9⟩
def txF (s:ByteArray) (l:List Er):ByteArray:=l.foldl (fun _ x=>x.t) s
def afQ (G:Hp) (p':Hp) (v:Value) (q:Int) (t:ByteArray):Prop:=∃ be b1 b2 vs,v = bptr be∧EdH p' be b1 b2 vs q t
theorem after74h {V:Vo} {X:List Er} {d q:Int} {s:ByteArray} (hok:VoOk V) (hers:ErsOk V X) (hps:V.ps = [(q,s)]):Sound Tryz.prog 74 id (.hp (fun args p G=>(∃ v w,args = [v,w,I d]∧VoV G v V∧SlV erE G w X)∧p = fun _=>none) fun _ _ v p' G'=>afQ G' p' v q (txF s (issF X d))):=by
 refine comp74.hy (Tab.cons 104 _ kinds104 body104 (Tab.nil _)) (fun args p G h=>?_) (fun args p v p' G G' hg h=>h) (fun args p G h=>?_)
 ·obtain ⟨⟨v,w,rfl,_⟩,_⟩:=h;simp
 ·obtain ⟨⟨v,w,rfl,⟨a,c,qv,rfl,hV⟩,hX⟩,rfl⟩:=h
  obtain ⟨qa,qn,qc,rfl,hp1,hp2⟩:=id hV.pa
  obtain ⟨wa,wn,wc,rfl,hX1,hX2⟩:=id hX
  have had:=hV.ad
  have hcp:=hV.cp
  have hqn:=hp1.len
  rw [hps] at hp1
  dsimp only [voL]
  (conv=>whnf)
  refine NewhP.mk (fun bv hbv=>W.mk ?_)
  (conv=>whnf)
  refine RdhP.h (ds:=voL a c V) (upd_same _ _ _) rfl (W.mk ?_)
  (conv=>whnf)
  refine NewhP.mk (fun be hbe=>W.mk ?_)
  (conv=>whnf)
  obtain ⟨p0,hp0⟩:∃ p0,p0 = upd (upd (fun _=>none) bv (some (Obj.cells (voL a c V).toArray 105 (0,0)))) be (some (Obj.cells (voL a c V++[Value.slice none 0 0]).toArray 186 (0,0))):=⟨_,rfl⟩
  have hv0:p0 bv = some (.cells (voL a c V).toArray 105 (0,0)):=by
   rw [hp0,upd_other _ _ (fun e=>by rw [← e,upd_same] at hbe;cases hbe),upd_same]
  refine rdhc (ds:=voL a c V) (t:=105) (by rw [hp0] at hv0;exact hv0) [.slice a 1 c] rfl rfl (W.mk ?_)
  (conv=>whnf)
  have he0:p0 be = some (.cells (voL a c V++[Value.slice none 0 0]).toArray 186 (0,0)):=by rw [hp0,upd_same]
  refine LoopP.of { α:=Nat × Hp,fr:=fun x=>[(1, .v (.slice wa wn wc)),(2, .v (I d)),(7, .c (.ptr 2431 0)),(21, .v (.slice a 1 c)),(22, .v (I 1)),(23, .v (I x.1))],H:=fun x=>[(0, .heap x.2),(2431, .cells .anon [.val (bptr be)] 187)],ok:=fun x _=>(x.1 = 0∧x.2 = p0)∨(x.1 = 1∧∃ b1 b2,EdH x.2 be b1 b2 (voL a c V) q s),m:=fun x=>1 - x.1 }
   (0,p0) (HeadP.of [] ⟨rfl,rfl,rfl,rfl,rfl,rfl,trivial⟩ ⟨by rw [hp0];rfl,rfl,trivial⟩) (.inl ⟨rfl,rfl⟩) (fun _=>⟨rfl,rfl⟩) (fun x G1 hg1 hx=>W.mk ?_)
  clear hv0
  clear hp0
  obtain ⟨i,p⟩:=x
  dsimp only at hx
  dsimp only
  rcases hx with ⟨rfl,rfl⟩ | ⟨rfl,b1,b2,hed⟩
  ·have hce:CellsAt G1 (ab a) (ao a + 0 * 2) [I 0, .slice qa qn qc]:=(hV.grow hg1).ce
   (conv=>whnf)
   refine IteP.mk (fun _=>W.mk ?_) (fun h=>absurd (show (0:Int) < 1 by decide) h)
   (conv=>whnf)
   repeat' (refine ob ?_ ?_;(first | trivial | omega | (simp only [inR];omega) | exact ble (by rfl) | exact SlR.some ‹_› (by omega));(conv=>whnf))
   refine RdhP.g (cs:=[I 0, .slice qa qn qc]) hce rfl (W.mk ?_)
   (conv=>whnf)
   repeat' (refine ob ?_ ?_;(first | trivial | omega | (simp only [inR];omega) | exact ble (by rfl) | exact SlR.some ‹_› (by omega));(conv=>whnf))
   obtain rfl:qn = 1:=by rw [← hqn,hps];rfl
   refine LoopP.of { α:=Nat × Hp × Value,fr:=fun x=>[(1, .v (.slice wa wn wc)),(2, .v (I d)),(7, .c (.ptr 2431 0)),(21, .v (.slice a 1 c)),(22, .v (I 1)),(23, .v (I 0)),(10, .v x.2.2),(28, .v (.slice qa 1 qc)),(29, .v (I 1)),(30, .v (I x.1))],H:=fun x=>[(0, .heap x.2.1),(2431, .cells .anon [.val (bptr be)] 187)],ok:=fun x _=>(x.1 = 0∧x.2.1 = p∧x.2.2 = .slice none 0 0)∨(x.1 = 1∧x.2.1 be = p be∧∃ b2 c2 r2,x.2.2 = .slice (some ⟨b2,0,none⟩) 1 c2∧1≤c2∧c2≤maxLen∧x.2.1 b2 = some (.cells (I q :: Value.string s :: Value.bool false :: r2).toArray 191 (0,0))∧r2.length = (c2 - 1) * 3),m:=fun x=>1 - x.1 }
    (0,p, .slice none 0 0) (HeadP.of [] ⟨rfl,rfl,rfl,rfl,rfl,rfl,rfl,rfl,rfl,rfl,trivial⟩ ⟨rfl,rfl,trivial⟩) (.inl ⟨rfl,rfl,rfl⟩) (fun _=>⟨rfl,rfl⟩) (fun x G2 hg2 hx=>W.mk ?_)
   obtain ⟨i,p2,v10⟩:=x
   dsimp only at hx
   dsimp only
   rcases hx with ⟨rfl,rfl,rfl⟩ | ⟨rfl,hbe2,b2,c2,r2,rfl,hc1,hc2,hb2,hr2⟩
   ·have hel:CellsAt G2 (ab qa) (ao qa + 0 * 2) [I q, .string s]:=((SlR.grow (G:=G) (G':=G2) (fun _ _ h=>h) hp1 (hg1.trans hg2)).el (i:=0) (by simp))
    (conv=>whnf)
    refine IteP.mk (fun _=>W.mk ?_) (fun h=>absurd (show (0:Int) < 1 by decide) h)
    (conv=>whnf)
    repeat' (refine ob ?_ ?_;(first | trivial | omega | (simp only [inR];omega) | exact ble (by rfl) | exact SlR.some ‹_› (by omega));(conv=>whnf))
    refine RdhP.g (cs:=[I q, .string s]) hel rfl (W.mk ?_)
    (conv=>whnf)
    refine NewhP.mk (fun b3 hb3=>W.mk ?_)
    (conv=>whnf)
    refine OblP.mk (fun _=>rfl) (W.mk ?_)
    (conv=>whnf)
    refine RdhP.h (ds:=[I q, .string s, .bool false]) (t:=191) (upd_same _ _ _) rfl (W.mk ?_)
    (conv=>whnf)
    refine OblP.mk (fun u hu=>by simp at hu;rcases hu with rfl | rfl | rfl<;>rfl) (W.mk ?_)
    (conv=>whnf)
    refine OblP.mk ⟨by decide,by decide⟩ (W.mk ?_)
    (conv=>whnf)
    refine AppnP.mk (fun b4 cap4 rest4 y1 y2 y3 y4=>W.mk ?_)
    (conv=>whnf)
    repeat' (refine ob ?_ ?_;(first | trivial | omega | (simp only [inR];omega) | exact ble (by rfl) | exact SlR.some ‹_› (by omega));(conv=>whnf))
    refine RoundP.of (1,_,_) (HeadP.of [] ⟨rfl,rfl,rfl,rfl,rfl,rfl,rfl,rfl,rfl,rfl,trivial⟩ ⟨rfl,rfl,trivial⟩) (.inr ⟨rfl, ?_,b4,cap4,rest4,rfl,y2,y3,upd_same _ _ _,y4⟩) (by simp only;omega)
    refine (upd_other _ _ (fun e=>?_)).trans (upd_other _ _ (fun e=>?_))
    ·have:=none_of y1
     rw [← e,he0] at this;cases this
    ·rw [← e,he0] at hb3;cases hb3
   ·(conv=>whnf)
    refine IteP.mk (fun h=>absurd h (by decide)) (fun _=>W.mk ?_)
    (conv=>whnf)
    refine DrawP.mk monoT_nil rfl (W.mk ?_)
    (conv=>whnf)
    refine rdhc (hbe2.trans he0) [.slice none 0 0] rfl rfl (W.mk ?_)
    (conv=>whnf)
    refine OblP.mk rfl (W.mk ?_)
    (conv=>whnf)
    refine OblP.mk ⟨by decide,by decide⟩ (W.mk ?_)
    (conv=>whnf)
    refine AppnP.mk (fun b1 cap1 rest1 y1 y2 y3 y4=>W.mk ?_)
    (conv=>whnf)
    have hn1:be≠b1:=fun e=>by rw [← e,hbe2,he0] at y1;cases y1
    have hn2:b2≠b1:=fun e=>by rw [← e,hb2] at y1;cases y1
    refine HpkP.mk ⟨_,186,(upd_other _ _ hn1).trans (hbe2.trans he0),W.mk ?_⟩
    (conv=>whnf)
    refine OblP.mk (Nat.le_refl 6) (W.mk ?_)
    (conv=>whnf)
    repeat' (refine ob ?_ ?_;(first | trivial | omega | (simp only [inR];omega) | exact ble (by rfl) | exact SlR.some ‹_› (by omega));(conv=>whnf))
    refine RoundP.of (1,_) (HeadP.of [] ⟨rfl,rfl,rfl,rfl,rfl,rfl,trivial⟩ ⟨rfl,rfl,trivial⟩) (.inr ⟨rfl,b1,b2, ?_⟩) (by simp only;omega)
    have hn3:b2≠be:=fun e=>by rw [e] at hb2;exact absurd rfl (ne_ty hb2 (hbe2.trans he0) (by decide))
    exact ⟨rfl,cap1,rest1,upd_same _ _ _,y2,y3,c2,r2,(upd_other _ _ hn1.symm).trans (upd_same _ _ _),y4,hc1,hc2,(upd_other _ _ hn3).trans ((upd_other _ _ hn2).trans hb2),hr2⟩
  ·(conv=>whnf)
   refine IteP.mk (fun h=>absurd h (by decide)) (fun _=>W.mk ?_)
   (conv=>whnf)
   refine CallH.mk _ iss102 body102 (W.mk ?_)
   (conv=>whnf)
   refine RelP.g (ok2 erSl intRd fun _ _=>True) (x:=(X,d)) ⟨_,_,rfl,SlV.grow hg1 hX,rfl,trivial⟩ (Grow.refl _) (fun v G4 hg4 hq4=>W.mk ?_)
   obtain ⟨ba,bb,rfl,hic⟩:=hq4
   (conv=>whnf)
   refine RangeP.of ((issF X d).map fun x=>[erVal x]) { α:=Nat × Hp,fr:=[(7, .c (.ptr 2431 0))],k:=fun z=>z.1,H:=fun z=>[(0, .heap z.2),(2431, .cells .anon [.val (bptr be)] 187)],ok:=fun z _=>z.1≤(issF X d).length∧EdH z.2 be b1 b2 (voL a c V) q (txF s ((issF X d).take z.1)) }
    (0,p) (SoundFn.of body159 (iss159 ba bb X d)) (fun l=>⟨rfl,hic,hers.inc,hers.len,rfl⟩) (fun y hy=>by obtain ⟨x,_,rfl⟩:=List.mem_map.1 hy;rfl) rfl (HeadP.of [] ⟨rfl,trivial⟩ ⟨rfl,rfl,trivial⟩) ⟨Nat.zero_le _,hed⟩ ⟨rfl,fun _=>rfl⟩ (fun _ _ _ _ h=>h)
    (fun z y G5 hg5 hx hy=>W.mk ?_) (fun z G5 hg5 hx hk=>W.mk ?_)
   ·obtain ⟨j,p3⟩:=z
    obtain ⟨hj,hed3⟩:=hx
    rw [List.getElem?_map] at hy
    obtain ⟨x,hxj,hye⟩:=Option.map_eq_some_iff.1 hy
    subst hye
    have hxX:x∈X:=(List.takeWhile_prefix _).subset (List.mem_of_getElem? hxj)
    have hxo:=hers.ok x hxX
    obtain ⟨y,hy1,hy2⟩:=hers.a x hxX
    rw [hps,List.mem_singleton] at hy1
    subst hy1
    have hxa:x.a = q:=hy2.symm
    dsimp only at hj hed3
    dsimp only
    (conv=>whnf)
    refine CallH.mk _ (find103 be b1 b2 (voL a c V) q (txF s ((issF X d).take j))) body103 (W.mk ?_)
    (conv=>whnf)
    refine HpcP.mk ⟨by rw [hxa],hed3⟩ (fun v p4 G6 hg6 hq6=>W.mk ?_)
    obtain ⟨rfl,hk4⟩:=hq6
    have hed4:=hed3.mono hk4
    have hk0:=hxo.k
    (conv=>whnf)
    refine ForkP.mk (fun _=>W.mk ?_) (fun h=>by cases h)
    (conv=>whnf)
    refine OwnP.g kndOk (x:=()) rfl (Grow.refl _) (fun n1 vs1 G7 hg7 hq7=>W.mk ?_)
    obtain ⟨rfl,rfl⟩:=hq7
    have htk:txF s ((issF X d).take (j + 1)) = x.t:=by rw [take_snoc hxj,txF,List.foldl_append];rfl
    have hj1:j + 1≤(issF X d).length:=(List.getElem?_eq_some_iff.1 hxj).1
    obtain ⟨xn,xd,xk,xa,xt,xw⟩:=x
    dsimp only at hk0 hxa
    subst hk0 hxa
    (conv=>whnf)
    repeat' (refine ob ?_ ?_;(first | trivial | omega | (simp only [inR];omega) | exact ble (by rfl) | exact SlR.some ‹_› (by omega));(conv=>whnf))
    refine EqP.mk ⟨[.func (.func 163) #[] #[]],rfl,rfl,W.mk ?_⟩
    (conv=>whnf)
    refine CallvP.fn _ (SoundFn.of body163 (Sound.bare (change163 be b1 b2 (voL a c V) xa (txF s ((issF X d).take j)) ⟨xn,xd,0,xa,xt,xw⟩))) (W.mk ?_)
    (conv=>whnf)
    refine HpcP.mk ⟨rfl,hed4⟩ (fun v p5 G8 hg8 hq8=>W.mk ?_)
    obtain ⟨rfl,hed5,_⟩:=hq8
    (conv=>whnf)
    exact RoundR.of (j + 1,_) [] ⟨rfl,rfl,trivial⟩ ⟨hj1,by dsimp only;rw [htk];exact hed5⟩ rfl
   ·obtain ⟨j,p3⟩:=z
    obtain ⟨hj,hed3⟩:=hx
    dsimp only at hj hed3 hk
    rw [List.length_map] at hk
    rw [hk,List.take_length] at hed3
    dsimp only
    (conv=>whnf)
    refine NmP.mk ⟨[],W.mk ?_⟩
    (conv=>whnf)
    exact FinHp.of rfl ⟨_,_,_,_,rfl,hed3⟩
end Go.Proofs.YtefnikpoimaiiaaGreat

namespace Go.Proofs.YtefnikpoimaiiaaGreat
open Go.Pal Go.RowKit
set_option maxRecDepth 100000
theorem cells_of {G:Hp} {b:Nat} {cs r:List Value} {t:TypeId} (h:G b = some (.cells (cs++r).toArray t (0,0))):CellsAt G b 0 cs:=fun j v hj=>by
 have:(cs++r)[j]? = some v:=by rw [List.getElem?_append_left (List.getElem?_eq_some_iff.1 hj).1];exact hj
 simp only [rd1,h,Nat.zero_add]
 simpa using this
def enE:El (Int × ByteArray):=⟨3,fun x=>[I x.1, .string x.2, .bool false],fun {x y} h=>by obtain ⟨_,_⟩:=x;obtain ⟨_,_⟩:=y;simp at h;simp [h],fun _=>rfl,fun _ v hv=>by simp at hv;rcases hv with rfl | rfl | rfl<;>rfl⟩
structure EdC (G:Hp) (b:Nat) (vs:List Value) (qa:Option Addr) (qc:Nat) (e:Value) (q:Int) (t:ByteArray):Prop where
 l:vs.length = 5
 ce:CellsAt G b 0 (vs++[.slice qa 1 qc])
 qs:qa = some ⟨ab qa,ao qa,none⟩
 qcp:1≤qc
 pe:CellsAt G (ab qa) (ao qa) [e]
 en:SlV enE G e [(q,t)]
theorem EdC.grow {G G':Hp} (hg:Grow G G') {b:Nat} {vs:List Value} {qa:Option Addr} {qc:Nat} {e:Value} {q:Int} {t:ByteArray} (h:EdC G b vs qa qc e q t):EdC G' b vs qa qc e q t:=⟨h.l,h.ce.grow hg,h.qs,h.qcp,h.pe.grow hg,h.en.grow hg⟩
def EdV (G:Hp) (v:Value) (q:Int) (t:ByteArray):Prop:=∃ b vs qa qc e,v = bptr b∧EdC G b vs qa qc e q t
theorem EdV.grow {G G':Hp} (hg:Grow G G') {v:Value} {q:Int} {t:ByteArray} (h:EdV G v q t):EdV G' v q t:=by
 obtain ⟨b,vs,qa,qc,e,h1,h2⟩:=h
 exact ⟨b,vs,qa,qc,e,h1,h2.grow hg⟩
theorem EdH.pub {p G:Hp} {be b1 b2:Nat} {vs:List Value} {q:Int} {t:ByteArray} (h:EdH p be b1 b2 vs q t) (hp:∀ b o,p b = some o→G b = some o):EdV G (bptr be) q t:=by
 obtain ⟨hl,c,r,h1,h2,h3,c2,r2,h4,h5,h6,h7,h8,h9⟩:=h
 refine ⟨be,vs,some ⟨b1,0,none⟩,c, .slice (some ⟨b2,0,none⟩) 1 c2,rfl,hl,cells_of (r:=[]) (by rw [List.append_nil];exact hp _ _ h1),rfl,h2,cells_of (cs:=[.slice (some ⟨b2,0,none⟩) 1 c2]) (r:=r) (hp _ _ h4), ?_⟩
 have hrow:RowH enE 191 p (.slice (some ⟨b2,0,none⟩) 1 c2) [(q,t)]:=.inr ⟨b2,c2,r2,rfl,h8,h9,h6,h7⟩
 exact hrow.slV hp (by simp)
structure Af where
 V:Vo
 X:List Er
 d:Int
def afR:GRel Af:=fun args G x=>∃ v w,args = [v,w,I x.d]∧VoV G v x.V∧SlV erE G w x.X∧VoOk x.V∧ErsOk x.V x.X∧∃ y,x.V.ps = [y]
theorem afOk:GOk afR:=⟨fun args G ⟨V,X,d⟩ ⟨V',X',d'⟩ ⟨v,w,h1,h2,h3,_⟩ ⟨v',w',h1',h2',h3',_⟩=>by
  rw [h1] at h1'
  simp only [List.cons.injEq,Value.int.injEq,true_and,and_true] at h1'
  obtain ⟨rfl,rfl,e⟩:=h1'
  have e1:V = V':=h2.uniq h2'
  have e2:X = X':=h3.uniq h3'
  have e3:d = d':=e
  rw [e1,e2,e3],fun args G G' x hg ⟨v,w,h1,h2,h3,h4⟩=>⟨v,w,h1,h2.grow hg,h3.grow hg,h4⟩⟩
def afT (x:Af):ByteArray:=txF (x.V.ps.headD (0,ByteArray.empty)).2 (issF x.X x.d)
def afA (x:Af):Int:=(x.V.ps.headD (0,ByteArray.empty)).1
theorem after74:Sound Tryz.prog 74 id (grel afR fun x v G=>EdV G v (afA x) (afT x)):=by
 refine Sound.relG afOk (fun x v G G' hg h=>h.grow hg) fun x=>?_
 by_cases hok:VoOk x.V∧ErsOk x.V x.X∧∃ y,x.V.ps = [y]
 ·obtain ⟨h1,h2,⟨q,s⟩,h3⟩:=hok
  refine (after74h (d:=x.d) h1 h2 h3).hpRel (fun args G h=>?_) (fun args v p' G' G'' hg hp h=>?_) (fun args v G G' hg h=>h.grow hg)
  ·obtain ⟨v,w,e1,e2,e3,_⟩:=h
   exact ⟨⟨v,w,e1,e2,e3⟩,rfl⟩
  ·obtain ⟨be,b1,b2,vs,rfl,h⟩:=h
   have:=h.pub hp
   rw [afA,afT,h3]
   exact this
 ·refine ⟨fun args v G G' hg h=>h.grow hg,fun args G W hsub h=>?_⟩
  obtain ⟨v,w,_,_,_,h4⟩:=h
  exact absurd h4 hok
def rdR:GRel Af:=fun args G x=>afR args G x∧inF x.d 0 99999 = true
theorem rdOk:GOk rdR:=⟨fun args G x y h h'=>afOk.uniq _ _ _ _ h.1 h'.1,fun args G G' x hg h=>⟨afOk.grow _ _ _ _ hg h.1,h.2⟩⟩
theorem Read43:Sound Tryz.prog 43 id (grel rdR fun x v G=>∃ w,v = .tuple #[w,I 0]∧SlV paE G w [(afA x,afT x)]):=by
 refine comp43.grel (Tab.cons 63 _ check63 body63 (Tab.cons 73 _ day73 body73 (Tab.cons 74 _ after74 body74 (Tab.nil _)))) rdOk (fun args G s h=>?_) (fun x v G G' hg ⟨w,h1,h2⟩=>⟨w,h1,h2.grow hg⟩) (fun args G x h=>?_)
 ·obtain ⟨⟨v,w,rfl,_⟩,_⟩:=h;simp
 ·obtain ⟨⟨v,w,rfl,hVV,hX,hok,hers,hy⟩,hd⟩:=h
  obtain ⟨a,c,q,rfl,hV⟩:=id hVV
  obtain ⟨wa,wn,wc,rfl,_⟩:=id hX
  dsimp only [voL]
  (conv=>whnf)
  refine ScaP.mk ⟨(x.V,x.X),_,_,rfl,⟨_,_,_,rfl,hV⟩,hX,hok,hers⟩ (fun v hv=>W.mk ?_)
  obtain ⟨_,_,rfl⟩:=hv
  (conv=>whnf)
  refine IteP.mk (fun _=>W.mk ?_) (fun h=>absurd rfl h)
  (conv=>whnf)
  refine ScaP.mk ⟨x.d,rfl,hd⟩ (fun v hv=>W.mk ?_)
  obtain ⟨_,_,rfl⟩:=hv
  (conv=>whnf)
  refine ForkP.mk (fun _=>W.mk ?_) (fun h=>by cases h)
  (conv=>whnf)
  refine RelP.g afOk (x:=x) ⟨_,_,rfl,⟨_,_,_,rfl,hV⟩,hX,hok,hers,hy⟩ (Grow.refl _) (fun v G1 hg1 hq=>W.mk ?_)
  obtain ⟨eb,vs,pa,pc,e,rfl,hl,hce,hps,hpcp,hpe,hen⟩:=hq
  obtain ⟨na,nn,nc,rfl,he1,he2⟩:=id hen
  obtain rfl:1 = nn:=he1.len
  match vs,hl,hce with
  | [v0,v1,v2,v3,v4],_,hce =>
  (conv=>whnf)
  repeat' (first | (refine ob ?_ ?_;(first | trivial | omega | (simp only [inR];omega) | exact ble (by rfl) | exact SlR.some ‹_› (by omega));(conv=>whnf)) | (first | (refine ra ‹_› (by rfl) ?_;(conv=>whnf)) | (refine rb ‹_› (by rfl) ?_;(conv=>whnf)) | (refine rc ‹_› (by rfl) ?_;(conv=>whnf)) | (refine rd ‹_› (by rfl) ?_;(conv=>whnf))))
  refine LoopP.of { α:=Nat × Nat × List Value,fr:=fun z=>[(9, .c (.row 1 z.2.1)),(29, .v (.slice pa 1 pc)),(30, .v (I 1)),(31, .v (I z.1))],H:=fun z=>[(1, .row none z.2.1 z.2.2 99 2)],ok:=fun z _=>(z.1 = 0∧z.2.1 = 0∧z.2.2 = [])∨(z.1 = 1∧Row paE [(afA x,afT x)] z.2.1 z.2.2),m:=fun z=>1 - z.1 }
   (0,0,[]) (HeadP.of [(1,none)] ⟨rfl,rfl,rfl,rfl,trivial⟩ ⟨rfl,trivial⟩) (.inl ⟨rfl,rfl,rfl⟩) (fun _=>⟨rfl,rfl⟩) (fun z G2 hg2 hz=>W.mk ?_)
  obtain ⟨i,n,us⟩:=z
  dsimp only at hz
  dsimp only
  rcases hz with ⟨rfl,rfl,rfl⟩ | ⟨rfl,hrow⟩
  ·have hpe2:CellsAt G2 (ab pa) (ao pa + 0 * 1) [.slice na 1 nc]:=hpe.grow hg2
   (conv=>whnf)
   refine IteP.mk (fun _=>W.mk ?_) (fun h=>absurd (show (0:Int) < 1 by decide) h)
   (conv=>whnf)
   repeat' (first | (refine ob ?_ ?_;(first | trivial | omega | (simp only [inR];omega) | exact ble (by rfl) | exact SlR.some ‹_› (by omega));(conv=>whnf)) | (first | (refine ra ‹_› (by rfl) ?_;(conv=>whnf)) | (refine rb ‹_› (by rfl) ?_;(conv=>whnf)) | (refine rc ‹_› (by rfl) ?_;(conv=>whnf)) | (refine rd ‹_› (by rfl) ?_;(conv=>whnf))))
   refine LoopP.of { α:=Nat × Nat × List Value,fr:=fun z=>[(9, .c (.row 1 z.2.1)),(29, .v (.slice pa 1 pc)),(30, .v (I 1)),(31, .v (I 0)),(35, .v (.slice na 1 nc)),(36, .v (I 1)),(37, .v (I z.1))],H:=fun z=>[(1, .row none z.2.1 z.2.2 99 2)],ok:=fun z _=>(z.1 = 0∧z.2.1 = 0∧z.2.2 = [])∨(z.1 = 1∧Row paE [(afA x,afT x)] z.2.1 z.2.2),m:=fun z=>1 - z.1 }
    (0,0,[]) (HeadP.of [] ⟨rfl,rfl,rfl,rfl,rfl,rfl,rfl,trivial⟩ ⟨rfl,trivial⟩) (.inl ⟨rfl,rfl,rfl⟩) (fun _=>⟨rfl,rfl⟩) (fun z G3 hg3 hz=>W.mk ?_)
   obtain ⟨i,n,us⟩:=z
   dsimp only at hz
   dsimp only
   rcases hz with ⟨rfl,rfl,rfl⟩ | ⟨rfl,hrow⟩
   ·have hel:CellsAt G3 (ab na) (ao na + 0 * 3) [I (afA x), .string (afT x), .bool false]:=(SlR.grow (G:=G1) (G':=G3) (fun _ _ h=>h) he1 (hg2.trans hg3)).el (i:=0) (by simp)
    have had:=he1.some (by decide)
    (conv=>whnf)
    refine IteP.mk (fun _=>W.mk ?_) (fun h=>absurd (show (0:Int) < 1 by decide) h)
    (conv=>whnf)
    repeat' (first | (refine ob ?_ ?_;(first | trivial | omega | (simp only [inR];omega) | exact ble (by rfl) | exact SlR.some ‹_› (by omega));(conv=>whnf)) | (first | (refine ra ‹_› (by rfl) ?_;(conv=>whnf)) | (refine rb ‹_› (by rfl) ?_;(conv=>whnf)) | (refine rc ‹_› (by rfl) ?_;(conv=>whnf)) | (refine rd ‹_› (by rfl) ?_;(conv=>whnf))))
    refine ForkP.mk (fun h=>by cases h) (fun _=>W.mk ?_)
    (conv=>whnf)
    repeat' (first | (refine ob ?_ ?_;(first | trivial | omega | (simp only [inR];omega) | exact ble (by rfl) | exact SlR.some ‹_› (by omega));(conv=>whnf)) | (first | (refine ra ‹_› (by rfl) ?_;(conv=>whnf)) | (refine rb ‹_› (by rfl) ?_;(conv=>whnf)) | (refine rc ‹_› (by rfl) ?_;(conv=>whnf)) | (refine rd ‹_› (by rfl) ?_;(conv=>whnf))))
    exact RoundP.of (1,1,_) (HeadP.of [(1,some 46)] ⟨rfl,rfl,rfl,rfl,rfl,rfl,rfl,trivial⟩ ⟨rfl,trivial⟩) (.inr ⟨rfl,Row.nil.snoc (afA x,afT x)⟩) (by simp only;omega)
   ·(conv=>whnf)
    refine IteP.mk (fun h=>absurd h (by decide)) (fun _=>W.mk ?_)
    (conv=>whnf)
    repeat' (refine ob ?_ ?_;(first | trivial | omega | (simp only [inR];omega) | exact ble (by rfl) | exact SlR.some ‹_› (by omega));(conv=>whnf))
    exact RoundP.of (1,n,us) (HeadP.of [] ⟨rfl,rfl,rfl,rfl,trivial⟩ ⟨rfl,trivial⟩) (.inr ⟨rfl,hrow⟩) (by simp only;omega)
  ·(conv=>whnf)
   refine IteP.mk (fun h=>absurd h (by decide)) (fun _=>W.mk ?_)
   (conv=>whnf)
   refine PubP.mk (fun a1 c1 G3 hg3 h3=>W.mk ?_)
   (conv=>whnf)
   exact FinP.mk ⟨_,rfl,hrow.pub h3 (by have:=hrow.n;simp only [List.length_singleton] at this;omega)⟩
end Go.Proofs.YtefnikpoimaiiaaGreat

namespace Go.Proofs.YtefnikpoimaiiaaGreat
open Go.Pal Go.RowKit
set_option maxRecDepth 100000
structure Pr where
 anc:Int
 col:Int
 line:Int
 n:Int
 day:Int
 num:Int
def prE:El Pr:=⟨6,fun x=>[I x.anc,I x.col,I x.line,I x.n,I x.day,I x.num],fun {x y} h=>by cases x;cases y;simp at h;simp [h],fun _=>rfl,fun _ v hv=>by simp at hv;rcases hv with rfl | rfl | rfl | rfl | rfl | rfl<;>rfl⟩
def lnW (w:Int) (s:ByteArray):Int:=((s.size:Int) + w - 1) / w
def prAf (x:Vo × List Er):Af:=⟨x.1,x.2,0⟩
def prR:GRel (Vo × List Er):=fun args G x=>∃ v w,args = [v,w]∧VoV G v x.1∧SlV erE G w x.2∧VoOk x.1∧ErsOk x.1 x.2∧∃ y,x.1.ps = [y]
theorem prOk:GOk prR:=⟨fun args G ⟨x,X⟩ ⟨y,Y⟩ ⟨v,w,h1,h2,h3,_⟩ ⟨v',w',h1',h2',h3',_⟩=>by
  rw [h1] at h1';cases h1'
  have e1:x = y:=h2.uniq h2'
  have e2:X = Y:=h3.uniq h3'
  rw [e1,e2],fun args G G' x hg ⟨v,w,h1,h2,h3,h4⟩=>⟨v,w,h1,h2.grow hg,h3.grow hg,h4⟩⟩
theorem txF_ok:∀ (l:List Er) {s:ByteArray},TxOk s→(∀ x∈l,TxOk x.t)→TxOk (txF s l)
 | [],_,hs,_=>hs
 | x :: r,_,_,h=>txF_ok r (h x (List.mem_cons_self ..)) (fun y hy=>h y (List.mem_cons_of_mem _ hy))
theorem afT_ok {V:Vo} {X:List Er} {d:Int} (hok:VoOk V) (hers:ErsOk V X) (hy:∃ y,V.ps = [y]):TxOk (afT ⟨V,X,d⟩):=by
 obtain ⟨⟨q,s⟩,hy⟩:=hy
 refine txF_ok _ ?_ (fun x hx=>(hers.ok x ((List.takeWhile_prefix _).subset hx)).t)
 show TxOk (V.ps.headD _).2
 rw [hy]
 exact (hok.p (q,s) (by rw [hy];exact List.mem_singleton_self _)).t
def prX (x:Vo × List Er):Pr:=⟨afA (prAf x),1,1,lnW x.1.w (afT (prAf x)),0,1⟩
theorem print64:Sound Tryz.prog 64 id (gown 174 6 prR fun x n vs=>Row prE [prX x] n vs):=by
 refine comp64.gown (Tab.cons 74 _ after74 body74 (Tab.nil _)) prOk (fun args G s h=>?_) (fun args G x h=>?_)
 ·obtain ⟨v,w,rfl,_⟩:=h;simp
 ·obtain ⟨V,X⟩:=x
  obtain ⟨v,w,rfl,⟨a,c,q,rfl,hV⟩,hX,hok,hers,hy⟩:=h
  obtain ⟨wa,wn,wc,rfl,_⟩:=id hX
  dsimp only at hV hX hok hers hy
  have htx:=afT_ok (d:=0) hok hers hy
  have hs:=htx.n
  obtain ⟨qa,qn,qc,rfl,hp1,hp2⟩:=id hV.pa
  have hh:=hok.h
  have hw:=hok.w
  have had:=hV.ad
  have hcp:=hV.cp
  dsimp only [voL]
  (conv=>whnf)
  refine RelP.g afOk (x:=⟨V,X,0⟩) ⟨_,_,rfl,⟨_,_,_,rfl,hV⟩,hX,hok,hers,hy⟩ (Grow.refl _) (fun v G1 hg1 hq=>W.mk ?_)
  obtain ⟨eb,us,pa,pc,e,rfl,hl,hce,hps,hpcp,hpe,hen⟩:=hq
  obtain ⟨na,nn,nc,rfl,he1,he2⟩:=id hen
  obtain rfl:1 = nn:=he1.len
  match us,hl,hce with
  | [v0,v1,v2,v3,v4],_,hce =>
  (conv=>whnf)
  repeat' (first | (refine ob ?_ ?_;(first | trivial | omega | (simp only [inR];omega) | exact ble (by rfl) | exact SlR.some ‹_› (by omega));(conv=>whnf)) | (first | (refine ra ‹_› (by rfl) ?_;(conv=>whnf)) | (refine rb ‹_› (by rfl) ?_;(conv=>whnf)) | (refine rc ‹_› (by rfl) ?_;(conv=>whnf)) | (refine rd ‹_› (by rfl) ?_;(conv=>whnf))))
  refine LoopP.of { α:=Nat × Int × Nat × List Value,fr:=fun x=>[(2, .c (.ptr 0 0)),(4, .c (.row 1 x.2.2.1)),(6, .v (I x.2.1)),(22, .v (.slice pa 1 pc)),(23, .v (I 1)),(24, .v (I x.1))],H:=fun x=>[(0, .cells .anon ((voL a c V).map .val) 105),(1, .row none x.2.2.1 x.2.2.2 174 6)],ok:=fun x _=>(x.1 = 0∧x.2.1 = 1∧x.2.2.1 = 0∧x.2.2.2 = [])∨(x.1 = 1∧Row prE [prX (V,X)] x.2.2.1 x.2.2.2),m:=fun x=>1 - x.1 }
   (0,1,0,[]) (HeadP.of [(1,none)] ⟨rfl,rfl,rfl,rfl,rfl,rfl,trivial⟩ ⟨rfl,rfl,trivial⟩) (.inl ⟨rfl,rfl,rfl,rfl⟩) (fun _=>⟨rfl,rfl⟩) (fun x G2 hg2 hx=>W.mk ?_)
  obtain ⟨i,col,n,vs⟩:=x
  dsimp only at hx
  have hent:=(SlR.grow (G:=G1) (G':=G2) (fun _ _ h=>h) he1 hg2)
  dsimp only [voL]
  rcases hx with ⟨rfl,rfl,rfl,rfl⟩ | ⟨rfl,hrow⟩
  ·have hpe:CellsAt G2 (ab pa) (ao pa + 0 * 1) [.slice na 1 nc]:=hpe.grow hg2
   (conv=>whnf)
   refine IteP.mk (fun _=>W.mk ?_) (fun h=>absurd (show (0:Int) < 1 by decide) h)
   (conv=>whnf)
   repeat' (first | (refine ob ?_ ?_;(first | trivial | omega | (simp only [inR];omega) | exact ble (by rfl) | exact SlR.some ‹_› (by omega));(conv=>whnf)) | (first | (refine ra ‹_› (by rfl) ?_;(conv=>whnf)) | (refine rb ‹_› (by rfl) ?_;(conv=>whnf)) | (refine rc ‹_› (by rfl) ?_;(conv=>whnf)) | (refine rd ‹_› (by rfl) ?_;(conv=>whnf))))
   refine LoopP.of { α:=Nat × Int × Nat × List Value,fr:=fun x=>[(2, .c (.ptr 0 0)),(4, .c (.row 1 x.2.2.1)),(6, .v (I 1)),(7, .v (I 0)),(9, .v (I x.2.1)),(10, .v (I x.1)),(22, .v (.slice pa 1 pc)),(23, .v (I 1)),(24, .v (I 0)),(29, .v (.slice na 1 nc)),(30, .v (I 1)),(31, .v (I x.1))],H:=fun x=>[(0, .cells .anon ((voL a c V).map .val) 105),(1, .row none x.2.2.1 x.2.2.2 174 6)],ok:=fun x _=>(x.1 = 0∧x.2.1 = 0∧x.2.2.1 = 0∧x.2.2.2 = [])∨(x.1 = 1∧0≤x.2.1∧x.2.1≤1000∧Row prE [prX (V,X)] x.2.2.1 x.2.2.2),m:=fun x=>1 - x.1 }
    (0,0,0,[]) (HeadP.of [] ⟨rfl,rfl,rfl,rfl,rfl,rfl,rfl,rfl,rfl,rfl,rfl,rfl,trivial⟩ ⟨rfl,rfl,trivial⟩) (.inl ⟨rfl,rfl,rfl,rfl⟩) (fun _=>⟨rfl,rfl⟩) (fun x G3 hg3 hx=>W.mk ?_)
   obtain ⟨k,L,n,vs⟩:=x
   dsimp only at hx
   dsimp only [voL]
   have hl3:=SlR.grow (G:=G2) (G':=G3) (fun _ _ h=>h) hent hg3
   have hV3:=((hV.grow hg1).grow hg2).grow hg3
   have hvc:CellsAt G3 (ab a) (ao a + 0 * 2) [I 0, .slice qa qn qc]:=hV3.ce
   rcases hx with ⟨rfl,hL,rfl,rfl⟩ | ⟨rfl,hL0,hL1,hrow⟩
   ·have hc:CellsAt G3 (ab na) (ao na + 0 * 3) [I (afA ⟨V,X,0⟩), .string (afT ⟨V,X,0⟩), .bool false]:=hl3.el (i:=0) (by simp)
    have hna:=he1.some (by decide)
    have hN0:=Int.ediv_nonneg (a:=((afT ⟨V,X,0⟩).size:Int) + V.w - 1) (b:=V.w) (by omega) (by omega)
    have hN1:=Int.ediv_le_self V.w (show 0≤((afT ⟨V,X,0⟩).size:Int) + V.w - 1 by omega)
    generalize hN:(((afT ⟨V,X,0⟩).size:Int) + V.w - 1) / V.w = N at hN0 hN1
    (conv=>whnf)
    refine IteP.mk (fun hlt=>W.mk ?_) (fun h=>absurd (show (0:Int) < 1 by decide) h)
    (conv=>whnf)
    repeat' (first | (refine ob ?_ ?_;(first | trivial | omega | (simp only [inR];omega) | exact ble (by rfl) | exact SlR.some ‹_› (by omega));(conv=>whnf)) | (first | (refine ra ‹_› (by rfl) ?_;(conv=>whnf)) | (refine rb ‹_› (by rfl) ?_;(conv=>whnf)) | (refine rc ‹_› (by rfl) ?_;(conv=>whnf)) | (refine rd ‹_› (by rfl) ?_;(conv=>whnf))))
    refine ForkP.mk (fun h=>by cases h) (fun _=>W.mk ?_)
    (conv=>whnf)
    repeat' (first | (refine ob ?_ ?_;(first | trivial | omega | (simp only [inR];omega) | exact ble (by rfl) | exact SlR.some ‹_› (by omega));(conv=>whnf)) | (first | (refine ra ‹_› (by rfl) ?_;(conv=>whnf)) | (refine rb ‹_› (by rfl) ?_;(conv=>whnf)) | (refine rc ‹_› (by rfl) ?_;(conv=>whnf)) | (refine rd ‹_› (by rfl) ?_;(conv=>whnf))))
    have hq2:L / V.h = 0:=by rw [hL,Int.zero_ediv]
    have hr2:L % V.h = 0:=by rw [hL,Int.zero_emod]
    generalize hQ:L / V.h = Q at *
    repeat' (first | (refine ob ?_ ?_;(first | trivial | omega | (simp only [inR];omega) | exact ble (by rfl) | exact SlR.some ‹_› (by omega));(conv=>whnf)) | (first | (refine ra ‹_› (by rfl) ?_;(conv=>whnf)) | (refine rb ‹_› (by rfl) ?_;(conv=>whnf)) | (refine rc ‹_› (by rfl) ?_;(conv=>whnf)) | (refine rd ‹_› (by rfl) ?_;(conv=>whnf))))
    generalize hR:L % V.h = R at *
    repeat' (first | (refine ob ?_ ?_;(first | trivial | omega | (simp only [inR];omega) | exact ble (by rfl) | exact SlR.some ‹_› (by omega));(conv=>whnf)) | (first | (refine ra ‹_› (by rfl) ?_;(conv=>whnf)) | (refine rb ‹_› (by rfl) ?_;(conv=>whnf)) | (refine rc ‹_› (by rfl) ?_;(conv=>whnf)) | (refine rd ‹_› (by rfl) ?_;(conv=>whnf))))
    have hrow:=Row.snoc (Row.nil (e:=prE)) (⟨afA ⟨V,X,0⟩,1 + Q,R + 1,lnW V.w (afT ⟨V,X,0⟩),0,1⟩:Pr)
    have hpx:prX (V,X) = ⟨afA ⟨V,X,0⟩,1 + Q,R + 1,lnW V.w (afT ⟨V,X,0⟩),0,1⟩:=by rw [hq2,hr2];rfl
    refine RoundP.of (1,L + lnW V.w (afT ⟨V,X,0⟩),1,_) (HeadP.of [(1,some 74)] ⟨rfl,rfl,rfl,rfl,rfl,rfl,rfl,rfl,rfl,rfl,rfl,rfl,trivial⟩ ⟨rfl,rfl,trivial⟩) (.inr ⟨rfl, ?_, ?_,by rw [hpx];exact hrow⟩) (by simp only;omega)
    ·show 0≤L + lnW V.w (afT ⟨V,X,0⟩)
     rw [lnW,hN];omega
    ·show L + lnW V.w (afT ⟨V,X,0⟩)≤1000
     rw [lnW,hN];omega
   ·(conv=>whnf)
    refine IteP.mk (fun h=>absurd h (by decide)) (fun _=>W.mk ?_)
    (conv=>whnf)
    repeat' (first | (refine ob ?_ ?_;(first | trivial | omega | (simp only [inR];omega) | exact ble (by rfl) | exact SlR.some ‹_› (by omega));(conv=>whnf)) | (first | (refine ra ‹_› (by rfl) ?_;(conv=>whnf)) | (refine rb ‹_› (by rfl) ?_;(conv=>whnf)) | (refine rc ‹_› (by rfl) ?_;(conv=>whnf)) | (refine rd ‹_› (by rfl) ?_;(conv=>whnf))))
    have hq0:=Int.ediv_nonneg (a:=L + V.h - 1) (b:=V.h) (by omega) (by omega)
    have hq1:=Int.ediv_le_self V.h (show 0≤L + V.h - 1 by omega)
    generalize hQ:(L + V.h - 1) / V.h = Q at *
    repeat' (first | (refine ob ?_ ?_;(first | trivial | omega | (simp only [inR];omega) | exact ble (by rfl) | exact SlR.some ‹_› (by omega));(conv=>whnf)) | (first | (refine ra ‹_› (by rfl) ?_;(conv=>whnf)) | (refine rb ‹_› (by rfl) ?_;(conv=>whnf)) | (refine rc ‹_› (by rfl) ?_;(conv=>whnf)) | (refine rd ‹_› (by rfl) ?_;(conv=>whnf))))
    exact RoundP.of (1,1 + Q,n,vs) (HeadP.of [] ⟨rfl,rfl,rfl,rfl,rfl,rfl,trivial⟩ ⟨rfl,rfl,trivial⟩) (.inr ⟨rfl,hrow⟩) (by simp only;omega)
  ·(conv=>whnf)
   refine IteP.mk (fun h=>absurd h (by decide)) (fun _=>W.mk ?_)
   (conv=>whnf)
   exact OwnFin.mk ⟨rfl,rfl,rfl,hrow⟩
end Go.Proofs.YtefnikpoimaiiaaGreat

namespace Go.Proofs.YtefnikpoimaiiaaGreat
open Go.Pal Go.RowKit
set_option maxRecDepth 100000
abbrev Pl:=Int × Int × Int × Int
def plE':El Pl:=⟨4,fun x=>[I x.1,I x.2.1,I x.2.2.1,I x.2.2.2],fun {x y} h=>by obtain ⟨_,_,_,_⟩:=x;obtain ⟨_,_,_,_⟩:=y;simp at h;simp [h],fun _=>rfl,fun _ v hv=>by simp at hv;rcases hv with rfl | rfl | rfl | rfl<;>rfl⟩
def plF (x:Pr):Pl:=(x.anc,x.col,x.line,x.n)
theorem Print33:Sound Tryz.prog 33 id (grel prR fun x v G=>∃ w,v = .tuple #[w,I 0]∧SlV plE' G w [plF (prX x)]):=by
 refine comp33.grel (Tab.cons 63 _ check63 body63 (Tab.cons 64 _ print64 body64 (Tab.nil _))) prOk (fun args G s h=>?_) (fun x v G G' hg ⟨w,h1,h2⟩=>⟨w,h1,h2.grow hg⟩) (fun args G x h=>?_)
 ·obtain ⟨v,w,rfl,_⟩:=h;simp
 ·obtain ⟨V,X⟩:=x
  obtain ⟨v,w,rfl,⟨a,c,q,rfl,hV⟩,hX,hok,hers,hy⟩:=h
  obtain ⟨wa,wn,wc,rfl,_⟩:=id hX
  dsimp only at hV hX hok hers hy
  dsimp only [voL]
  (conv=>whnf)
  refine ScaP.mk ⟨(V,X),_,_,rfl,⟨_,_,_,rfl,hV⟩,hX,hok,hers⟩ (fun v hv=>W.mk ?_)
  obtain ⟨_,_,rfl⟩:=hv
  (conv=>whnf)
  refine IteP.mk (fun _=>W.mk ?_) (fun h=>absurd rfl h)
  (conv=>whnf)
  refine OwnP.g prOk (x:=(V,X)) ⟨_,_,rfl,⟨_,_,_,rfl,hV⟩,hX,hok,hers,hy⟩ (Grow.refl _) (fun n1 vs1 G1 hg1 hr=>W.mk ?_)
  have hrn:=hr.n
  obtain ⟨ps,hps⟩:∃ ps,ps = [prX (V,X)]:=⟨_,rfl⟩
  rw [← hps] at hr
  have hpl:[plF (prX (V,X))] = ps.map plF:=by rw [hps];rfl
  have hpn:ps.length≤20:=by rw [hps];simp
  rw [← hps] at hrn
  rw [hpl]
  clear hps hpl
  (conv=>whnf)
  refine LoopP.of { α:=Nat × Nat × List Value,fr:=fun x=>[(7, .c (.row 1 x.2.1)),(18, .c (.row 2 n1)),(19, .v (I n1)),(20, .v (I x.1))],H:=fun x=>[(1, .row none x.2.1 x.2.2 107 4),(2, .row none n1 vs1 174 6)],ok:=fun x _=>x.1≤ps.length∧Row plE' ((ps.take x.1).map plF) x.2.1 x.2.2,m:=fun x=>ps.length - x.1 }
   (0,0,[]) (HeadP.of [(1,none),(2,some 15)] ⟨rfl,rfl,rfl,rfl,trivial⟩ ⟨rfl,rfl,trivial⟩) ⟨Nat.zero_le _,Row.nil⟩ (fun _=>⟨rfl,rfl⟩) (fun x G2 hg2 hx=>W.mk ?_)
  obtain ⟨k,n,vs⟩:=x
  obtain ⟨hk,hrow⟩:=hx
  dsimp only at hk hrow
  dsimp only
  have hn:=hrow.n
  rw [List.length_map,List.length_take] at hn
  (conv=>whnf)
  refine IteP.mk (fun hlt=>W.mk ?_) (fun hge=>W.mk ?_)<;>(conv=>whnf)
  ·have hlt:k < ps.length:=by omega
   have htk:=take_snoc (List.getElem?_eq_getElem hlt)
   repeat' (refine ob ?_ ?_;(first | trivial | omega | (simp only [inR];omega) | exact ble (by rfl) | exact SlR.some ‹_› (by omega));(conv=>whnf))
   refine EqP.row hr hlt (W.mk ?_)
   generalize ps[k] = y at htk
   (conv=>whnf)
   repeat' (refine ob ?_ ?_;(first | trivial | omega | (simp only [inR];omega) | exact ble (by rfl) | exact SlR.some ‹_› (by omega));(conv=>whnf))
   refine RoundP.of (k + 1,n + 1,_) (HeadP.of [(1,some 27)] ⟨rfl,rfl,rfl,rfl,trivial⟩ ⟨rfl,rfl,trivial⟩) ⟨hlt, ?_⟩ (by simp only;omega)
   dsimp only
   rw [htk,List.map_append]
   exact hrow.snoc (plF y)
  ·have hkk:k = ps.length:=by omega
   subst hkk
   rw [List.take_length] at hrow
   refine PubP.mk (fun a1 c1 G3 hg3 h3=>W.mk ?_)
   (conv=>whnf)
   exact FinP.mk ⟨_,rfl,hrow.pub h3 (by omega)⟩
def pgV (s:ByteArray):Vo:=⟨60,80,[(1,s)]⟩
theorem page42:Sound Tryz.prog 42 id (grel (fun args _ s=>args = [.string s]) fun s v G=>VoV G v (pgV s)):=by
 refine comp42.grel (Tab.nil _) ⟨fun args G x y h h'=>by rw [h] at h';simpa using h',fun _ _ _ _ _ h=>h⟩ (fun args G s h=>?_) (fun x v G G' hg h=>h.grow hg) (fun args G s h=>?_)
 ·obtain rfl:=h;simp
 ·obtain rfl:=h
  (conv=>whnf)
  refine PubP.mk (fun a1 c1 G1 hg1 h1=>W.mk ?_)
  have hps:SlV paE G1 (.slice a1 1 c1) [(1,s)]:=h1.slV rfl rfl (by decide)
  (conv=>whnf)
  refine PubP.mk (fun a2 c2 G2 hg2 h2=>W.mk ?_)
  have hV:VoC G2 a2 c2 (.slice a1 1 c1) (pgV s):=⟨h2.cap,h2.some (by decide),h2.cells,hps.grow hg2⟩
  (conv=>whnf)
  exact FinP.mk ⟨_,_,_,rfl,hV⟩
end Go.Proofs.YtefnikpoimaiiaaGreat

namespace Go.Proofs.YtefnikpoimaiiaaGreat
open Go Go.Pal Go.RowKit
set_option maxRecDepth 100000
theorem eq4_run {P : Program} {t e : TypeId} (hu : (match P.underlying t with | some (.struct _) => true | _ => false) = true) (hf : (P.fieldsOf t).toList.map (fun f => (f.type, f.offset)) = [(e, 0), (e, 1), (e, 2), (e, 3)]) (hn : (P.fieldsOf t).toList.all (fun f => f.name != "_") = true) (he : P.underlying e = some (.int .i64)) (hz : szT P e = some 1)
  (hs:P.stoodInHeld t = false) (w:World) (a b c d a' b' c' d':Int):(Op.equalIn 10000 t (.agg #[I a,I b,I c,I d]) (.agg #[I a',I b',I c',I d'])).run P w = .ok (decide (a = a'∧b = b'∧c = c'∧d = d')) w:=by
 rw [show (10000:Nat) = 9999 + 1 from rfl,run_equalIn_struct w 9999 t _ _ (struct_of hu) hs]
 generalize (P.fieldsOf t).toList = fs at hf hn
 have hag:aggT P e = some false:=by simp [aggT,he]
 have hsz:=run_sizeOf' (P:=P) (W:=w) (t:=e) (n:=1) hz
 have hgg:=run_isAgg' (P:=P) (W:=w) (t:=e) (g:=false) hag
 obtain ⟨f1,f2,f3,f4,rfl⟩:∃ f1 f2 f3 f4,fs = [f1,f2,f3,f4]:=by
  have hl:=congrArg List.length hf
  simp only [List.length_map,List.length_cons,List.length_nil] at hl
  match fs,hl with
  | [f1,f2,f3,f4],_=>exact ⟨f1,f2,f3,f4,rfl⟩
 simp only [List.map_cons,List.map_nil,List.cons.injEq,Prod.mk.injEq,and_true] at hf
 obtain ⟨⟨t1,o1⟩,⟨t2,o2⟩,⟨t3,o3⟩,t4,o4⟩:=hf
 simp only [List.all_cons,List.all_nil,Bool.and_true,Bool.and_eq_true,bne_iff_ne,ne_eq] at hn
 have he1:=fun a b=>run_equalIn_int (P:=P) w 9998 e .i64 .i64 a b he
 simp only [Op.eqFields,t1,o1,t2,o2,t3,o3,t4,o4,hn.1,hn.2.1,hn.2.2.1,hn.2.2.2,ne_eq,not_false_eq_true,if_true]
 simp [part,hsz,hgg,he1,Result.andThen]
 by_cases h1:a = a'
 ·subst h1
  by_cases h2:b = b'
  ·subst h2
   by_cases h3:c = c'
   ·subst h3
    by_cases h4:d = d'
    ·subst h4;simp [he1]
    ·simp [he1,h4]
   ·simp [he1,h3]
  ·simp [he1,h2]
 ·simp [h1]
theorem pur_eq4 {P : Program} {t e : TypeId} (hu : (match P.underlying t with | some (.struct _) => true | _ => false) = true) (hf : (P.fieldsOf t).toList.map (fun f => (f.type, f.offset)) = [(e, 0), (e, 1), (e, 2), (e, 3)]) (hn : (P.fieldsOf t).toList.all (fun f => f.name != "_") = true) (he : P.underlying e = some (.int .i64)) (hz : szT P e = some 1)
  (hs:P.stoodInHeld t = false) (hg:P.eqGuardType P.depth t = false) (a b c d a' b' c' d':Int):∀ w,((POp.bin .eql t).sem [.agg #[I a,I b,I c,I d], .agg #[I a',I b',I c',I d']]).run P w = .ok (.bool (decide (a = a'∧b = b'∧c = c'∧d = d'))) w:=fun w=>by
 have e1:(POp.bin .eql t).sem [.agg #[I a,I b,I c,I d], .agg #[I a',I b',I c',I d']] = (do eqGuard .eql t (.tmp 0) (.tmp 0) (.agg #[I a,I b,I c,I d]) (.agg #[I a',I b',I c',I d']);binOp .eql t (.agg #[I a,I b,I c,I d]) (.agg #[I a',I b',I c',I d'])):=rfl
 rw [e1]
 simp [run_eqGuard_agg w .eql t _ _ _ _ hg,run_eql_struct,eq4_run hu hf hn he hz hs w,Result.andThen]
theorem eq107 (a b c d a' b' c' d':Int):∀ w,((POp.bin .eql 107).sem [.agg #[I a,I b,I c,I d], .agg #[I a',I b',I c',I d']]).run Tryz.prog w = .ok (.bool (decide (a = a'∧b = b'∧c = c'∧d = d'))) w :=
 pur_eq4 (e:=3) (by kernel_rfl) (by kernel_rfl) (by kernel_rfl) (by kernel_rfl) (by kernel_rfl) (by kernel_rfl) (by kernel_rfl) a b c d a' b' c' d'
def prayers:ByteArray:=ByteArray.mk #[80,114,97,121,101,114,115,46]
theorem prayersOk:VoOk ⟨2,10,[(4,prayers)]⟩:=⟨by decide,by decide,by decide,fun x hx=>by
 obtain rfl:=List.mem_singleton.1 hx
 exact ⟨by decide,⟨by decide,by show ∀ c∈bytesL prayers,32≤c∧c≤126;decide⟩⟩,by decide⟩
theorem ersNil {V:Vo}:ErsOk V []:=⟨fun x hx=>by simp at hx,by simp [ErInc],by simp,fun x hx=>by simp at hx,by simp⟩
theorem binds7:Sound Tryz.prog 7 id bindS:=by
 refine comp7.gsca (Tab.cons 33 _ Print33 body33 (Tab.nil _)) (fun args G s h=>?_) (fun args G x h=>?_)
 ·obtain rfl:=h;simp
 ·obtain rfl:=h
  (conv=>whnf)
  refine PubP.mk (fun a1 c1 G1 hg1 h1=>W.mk ?_)
  have hps:SlV paE G1 (.slice a1 1 c1) [(4,prayers)]:=h1.slV rfl rfl (by decide)
  (conv=>whnf)
  refine PubP.mk (fun a2 c2 G2 hg2 h2=>W.mk ?_)
  have hV:VoC G2 a2 c2 (.slice a1 1 c1) ⟨2,10,[(4,prayers)]⟩:=⟨h2.cap,h2.some (by decide),h2.cells,hps.grow hg2⟩
  (conv=>whnf)
  refine RelP.g prOk (x:=(⟨2,10,[(4,prayers)]⟩,[])) ⟨_,_,rfl,⟨_,_,_,rfl,hV⟩,SlV.nil,prayersOk,ersNil,_,rfl⟩ (Grow.refl _) (fun v G3 hg3 hq=>W.mk ?_)
  obtain ⟨w,rfl,hw⟩:=hq
  have hw:SlV plE' G3 w [(4,1,1,1)]:=hw
  obtain ⟨wa,wn,wc,rfl,hw1,hw2⟩:=id hw
  have hlen:1 = wn:=hw1.len
  subst hlen
  have hc:CellsAt G3 (ab wa) (ao wa + 0 * 4) [I 4,I 1,I 1,I 1]:=hw1.el (i:=0) (by decide)
  (conv=>whnf)
  refine IteP.mk (fun _=>W.mk ?_) (fun h=>absurd rfl h)
  (conv=>whnf)
  refine IteP.mk (fun _=>W.mk ?_) (fun h=>absurd rfl h)
  (conv=>whnf)
  repeat' (first | (refine ob ?_ ?_;(first | trivial | omega | (simp only [inR];omega) | exact ble (by rfl) | exact SlR.some ‹_› (by omega));(conv=>whnf)) | (first | (refine ra ‹_› (by rfl) ?_;(conv=>whnf)) | (refine rb ‹_› (by rfl) ?_;(conv=>whnf)) | (refine rc ‹_› (by rfl) ?_;(conv=>whnf)) | (refine rd ‹_› (by rfl) ?_;(conv=>whnf))))
  refine PurP.of _ (eq107 4 1 1 1 4 1 1 1) (W.mk ?_)
  (conv=>whnf)
  refine ForkP.mk (fun _=>W.mk ?_) (fun h=>absurd h (by decide))
  (conv=>whnf)
  exact FinP.mk rfl
end Go.Proofs.YtefnikpoimaiiaaGreat
