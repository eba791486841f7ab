/- Layer 7: the truths of what is looked at. Layer 7: Bounds. Layer 7: slices.Sort of few bytes. Layer 7: Allowed. Layer 7: Witness. Layer 7: truths as keys; whether members decide. Layer 7: all truths with their outcomes. -/
import Derived.Test.YtgpfejgohclheaaMH
import Derived.Test.YtgpfejgohclheaaMC
import Init.Data.List.Nat.Perm
import Derived.DeepKeys3
set_option linter.unusedSimpArgs false
set_option linter.unusedVariables false
namespace Go.Proofs.Ytgpfejgohclheaa
open Go.Pal
set_option maxRecDepth 100000
abbrev truL (x:Lk):List (Nat→Int):=trK (mayL x) x.d.m.toNat 0 (fun _=>0)
def truS (x:Lk) (bx:Nat):PSpec:=.seq (fun l args G Ys=>args = [.func (.yield l) #[] #[]]∧TrJ x bx G∧Ys = trY (truL x)) (fun _ _=>True)
theorem truths66 {x:Lk} (hm:0≤x.d.m∧x.d.m≤40) (bx:Nat):Sound Try.prog 66 (fun a=>(#[]:Array Value).toList++a++(#[bptr bx]:Array Value).toList) (truS x bx):=by
 refine comp66.seq (Tab.nil _) (fun l args G Ys h=>?_) (fun l Y k args G Ys h hseg=>?_)
 ·obtain ⟨rfl,_⟩:=h;simp
 ·obtain ⟨rfl,hj,rfl⟩:=h
  (conv=>whnf)
  refine NameP.mk (fun bY=>W.mk ?_)
  (conv=>whnf)
  refine NameP.mk (fun bg=>W.mk ?_)
  (conv=>whnf)
  refine CallvP.pub (PubAnyP.mk ⟨[0,1], ?_⟩)
  (conv=>whnf)
  intro G1 hg1 _ hy
  (conv=>whnf)
  intro G2 hg2 _ hgr
  refine W.mk ?_
  (conv=>whnf)
  refine CallvP.fn _ (SoundFn.of body67 (grow67 hm bx bY bg x.d.m.toNat 0 (Nat.zero_add _))) (W.mk ?_)
  (conv=>whnf)
  refine SeqP.mk ⟨trY (truL x),⟨fun _=>0,rfl,(hj.grow hg1).grow hg2,hy.grow hg2,hgr,rfl⟩,hseg,fun v' G3 hg3 hpost=>W.mk ?_,fun j v' G3 hg3 hpost=>W.mk ?_⟩
  ·have hpost:v' = .bool true:=hpost
   subst hpost
   (conv=>whnf)
   refine ForkP.mk (fun _=>W.mk ?_) (fun h=>by cases h)
   (conv=>whnf)
   exact FinP.mk ⟨trivial,fun _=>rfl⟩
  ·have hpost:v' = .bool false:=hpost
   subst hpost
   (conv=>whnf)
   refine ForkP.mk (fun h=>by cases h) (fun _=>W.mk ?_)
   (conv=>whnf)
   exact FinP.mk ⟨trivial,fun h=>by cases h⟩
def TruV (x:Lk) (v:Value) (G:Hp):Prop:=∃ b,v = .func (.func 66) #[] #[bptr b]∧TrJ x b G
theorem truths40:Sound Try.prog 40 id (grel (args1 lkRd fun _=>True) fun x v G=>TruV x v G):=by
 refine comp40.grel (Tab.nil _) (ok1 _ _) (fun args G s h=>?_) (fun x v G G' hg ⟨b,h1,h2⟩=>⟨b,h1,h2.grow hg⟩) (fun args G x h=>?_)
 ·obtain ⟨v,rfl,_⟩:=h;simp
 ·obtain ⟨u,rfl,⟨w0,w1,w2,w3,w4,w5,p,a,n,c,rfl,hk⟩,_⟩:=h
  have hkd:=hk.dv
  obtain ⟨xx0,yy0,zz0,rfl,_,_⟩:=id hkd.a0
  obtain ⟨xx1,yy1,zz1,rfl,_,_⟩:=id hkd.a1
  obtain ⟨xx2,yy2,zz2,rfl,_,_⟩:=id hkd.n0
  obtain ⟨xx3,yy3,zz3,rfl,_,_⟩:=id hkd.n1
  obtain ⟨xx4,yy4,zz4,rfl,_,_⟩:=id hkd.ps
  obtain ⟨xx5,yy5,zz5,rfl,_,_⟩:=id hkd.qs
  (conv=>whnf)
  refine NameP.mk (fun b=>W.mk ?_)
  (conv=>whnf)
  refine PubAnyP.mk ⟨[0], ?_⟩
  (conv=>whnf)
  intro G' hg _ hc
  refine W.mk ?_
  (conv=>whnf)
  exact FinP.mk ⟨b,rfl,⟨_,_,_,_,_,_,p,a,n,c,hc,hk.grow hg⟩⟩
/-! ### What the truths are -/
theorem trK_spec {may:Nat→List Int}:∀ r m f g,g∈trK may r m f→(∀ j,m≤j→j < m + r→g j∈may j)∧∀ j,j < m∨m + r≤j→g j = f j
 | 0,m,f,g,h=>by
  simp only [trK,List.mem_singleton] at h
  subst h
  exact ⟨fun j h1 h2=>by omega,fun j _=>rfl⟩
 | r + 1,m,f,g,h=>by
  simp only [trK,List.mem_flatMap] at h
  obtain ⟨v,hv,hg⟩:=h
  obtain ⟨h1,h2⟩:=trK_spec r (m + 1) _ g hg
  refine ⟨fun j hj1 hj2=>?_,fun j hj=>?_⟩
  ·by_cases hjm:j = m
   ·subst hjm
    have:=h2 j (.inl (by omega))
    rw [this,if_pos rfl];exact hv
   ·exact h1 j (by omega) (by omega)
  ·rw [h2 j (by omega),if_neg (by omega)]
theorem trK_len {may:Nat→List Int} {N:Nat}:∀ r m f,(∀ j,m≤j→j < m + r→may j≠[])→trK may r m f≠[]
 | 0,m,f,_=>by simp [trK]
 | r + 1,m,f,h=>by
  obtain ⟨v,hv⟩:=List.exists_mem_of_ne_nil _ (h m (by omega) (by omega))
  obtain ⟨g,hg⟩:=List.exists_mem_of_ne_nil _ (trK_len (N:=N) r (m + 1) (fun j=>if j = m then v else f j) (fun j h1 h2=>h j (by omega) (by omega)))
  intro he
  have:g∈trK may (r + 1) m f:=by simp only [trK,List.mem_flatMap];exact ⟨v,hv,hg⟩
  rw [he] at this;cases this
theorem votes_012 {d:Dv} {m v:Int} (h:v∈votesF d m):v = 0∨v = 1∨v = 2:=by
 simp only [votesF,List.mem_append] at h
 rcases h with (h | h) | h
 ·split at h
  ·simp at h;exact .inl h
  ·cases h
 ·split at h
  ·simp at h;exact .inr (.inl h)
  ·cases h
 ·split at h
  ·simp at h;exact .inr (.inr h)
  ·cases h
abbrev trT (f:Nat→Int):List Int:=(List.range 40).map f
theorem trT_get {f:Nat→Int} {k:Nat} (h:k < 40):(trT f).getD k 0 = f k:=by simp [h]
theorem tru_vts {d:Dv} (hr:rightD d = true) {f:Nat→Int} (h:f∈truL (lookF d)):Vts d (trT f):=by
 obtain ⟨hm0,hm1⟩:=right_m hr
 intro k hk
 rw [trT_get (by omega)]
 have:=(trK_spec _ _ _ _ h).1 k (by omega) (by show k < 0 + d.m.toNat;omega)
 rw [mayL,may_look hm1 hk] at this
 exact votes_012 this
theorem tru_rest {x:Lk} {f:Nat→Int} (h:f∈truL x) {k:Nat} (hk:x.d.m.toNat≤k):f k = 0 :=
 (trK_spec _ _ _ _ h).2 k (.inr (by omega))
end Go.Proofs.Ytgpfejgohclheaa

namespace Go.Proofs.Ytgpfejgohclheaa
open Go.Pal
set_option maxRecDepth 100000
def bdF (g:Nm2→Int):List Nm2→Int × Int
 | []=>(0,0)
 | n :: r=>r.foldl (fun s x=>(min s.1 (g x),max s.2 (g x))) (g n,g n)
theorem bdF_snoc {g:Nm2→Int} {l:List Nm2} (h:l≠[]) (x:Nm2):bdF g (l++[x]) = (min (bdF g l).1 (g x),max (bdF g l).2 (g x)):=by
 cases l with
 | nil=>exact absurd rfl h
 | cons n r=>simp [bdF]
theorem fold_mem {g:Nm2→Int}:∀ (r:List Nm2) (s:Int × Int),(r.foldl (fun s x=>(min s.1 (g x),max s.2 (g x))) s).1≤s.1∧s.2≤(r.foldl (fun s x=>(min s.1 (g x),max s.2 (g x))) s).2∧∀ x∈r,(r.foldl (fun s x=>(min s.1 (g x),max s.2 (g x))) s).1≤g x∧g x≤(r.foldl (fun s x=>(min s.1 (g x),max s.2 (g x))) s).2
 | [],s=>⟨Int.le_refl _,Int.le_refl _,fun x hx=>by cases hx⟩
 | y :: r,s=>by
  obtain ⟨h1,h2,h3⟩:=fold_mem (g:=g) r (min s.1 (g y),max s.2 (g y))
  simp only [List.foldl_cons]
  refine ⟨by omega,by omega,fun x hx=>?_⟩
  rcases List.mem_cons.1 hx with rfl | hx
  ·omega
  ·exact h3 x hx
theorem bdF_mem {g:Nm2→Int} {l:List Nm2} {x:Nm2} (h:x∈l):(bdF g l).1≤g x∧g x≤(bdF g l).2:=by
 cases l with
 | nil=>cases h
 | cons n r =>
  obtain ⟨h1,h2,h3⟩:=fold_mem (g:=g) r (g n,g n)
  simp only [bdF]
  rcases List.mem_cons.1 h with rfl | h
  ·exact ⟨h1,h2⟩
  ·exact h3 x h
def numsF (d:Dv):List Nm2:=(truL (lookF d)).map fun f=>ofF d (trT f)
abbrev rngV (r:Int × Int):Value:=.agg #[I r.1,I r.2]
def bndV (d:Dv):Value:=if openF d = 0 then .tuple #[rngV (bdF Nm2.a (numsF d)),rngV (bdF Nm2.n (numsF d)),I 0] else .tuple #[rngV (0,0),rngV (0,0),I (openF d)]
theorem open_fault {d:Dv} (h:openF d = 0):faultF d = 0∧(doubtsF d).length≤8:=by
 unfold openF at h
 split at h
 ·cases h
 ·rename_i hn
  refine ⟨h, ?_⟩
  by_cases h8:8 < (doubtsF d).length
  ·exact absurd ⟨h,h8⟩ hn
  ·omega
theorem ne66 (a b c d:Int):∀ w,((POp.bin .neq 66).sem [.agg #[I a,I b], .agg #[I c,I d]]).run Try.prog w = .ok (.bool (!decide (a = c∧b = d))) w :=
 pur_ne2 (e:=3) (by kernel_rfl) (by kernel_rfl) (by kernel_rfl) und3 (by kernel_rfl) (by kernel_rfl) (by kernel_rfl) a b c d
theorem Nm2.ext' {x y:Nm2} (h1:x.a = y.a) (h2:x.n = y.n):x = y:=by cases x;cases y;simp_all
def tabB3:Tab Try.prog:=Tab.cons 39 _ open39 body39 (Tab.cons 40 _ truths40 body40 (Tab.cons 42 _ least42 body42 (Tab.cons 43 _ greatest43 body43 tabZ)))
theorem bounds13:Sound Try.prog 13 id (gsca (args1 dvRd rul) fun d v=>v = bndV d):=by
 refine comp13.gsca tabB3 (fun args G s h=>?_) (fun args G d h=>?_)
 ·obtain ⟨v,rfl,_⟩:=h;simp
 ·obtain ⟨u,rfl,⟨w0,w1,w2,w3,w4,w5,rfl,hd⟩,hr⟩:=h
  have hd0:=hd
  obtain ⟨x0,y0,z0,rfl,la0,ya0⟩:=id hd.a0
  obtain ⟨x1,y1,z1,rfl,la1,ya1⟩:=id hd.a1
  obtain ⟨x2,y2,z2,rfl,ln0,yn0⟩:=id hd.n0
  obtain ⟨x3,y3,z3,rfl,ln1,yn1⟩:=id hd.n1
  obtain ⟨x4,y4,z4,rfl,lps,yps⟩:=id hd.ps
  obtain ⟨x5,y5,z5,rfl,lqs,yqs⟩:=id hd.qs
  (conv=>whnf)
  refine RelP.g (ok1 dvRd rul) (x:=d) ⟨_,rfl,⟨_,_,_,_,_,_,rfl,hd0⟩,hr⟩ (Grow.refl _) (fun v G1 hg1 hq=>W.mk ?_)
  obtain ⟨w,rfl,hw⟩:=hq
  by_cases he:openF d = 0
  rotate_left
  ·rw [if_neg he] at hw
   obtain ⟨w0,w1,w2,w3,w4,w5,p,a,n,c,rfl,hk⟩:=hw
   have hkd:=hk.dv
   obtain ⟨xx0,yy0,zz0,rfl,_,_⟩:=id hkd.a0
   obtain ⟨xx1,yy1,zz1,rfl,_,_⟩:=id hkd.a1
   obtain ⟨xx2,yy2,zz2,rfl,_,_⟩:=id hkd.n0
   obtain ⟨xx3,yy3,zz3,rfl,_,_⟩:=id hkd.n1
   obtain ⟨xx4,yy4,zz4,rfl,_,_⟩:=id hkd.ps
   obtain ⟨xx5,yy5,zz5,rfl,_,_⟩:=id hkd.qs
   (conv=>whnf)
   refine IteP.mk (fun h1=>absurd h1 he) (fun h1=>W.mk ?_)
   (conv=>whnf)
   refine FinP.mk ?_
   rw [bndV,if_neg he];rfl
  rw [if_pos he] at hw
  obtain ⟨hf,h8⟩:=open_fault he
  have h1:=fault_right hf
  obtain ⟨hm0,hm1⟩:=right_m h1
  have hw0:=hw
  obtain ⟨w0,w1,w2,w3,w4,w5,p,a,n,c,rfl,hk⟩:=hw
  have hkd:=hk.dv
  have hl2:(lookF d).d = d:=rfl
  rw [hl2] at hkd
  obtain ⟨xx0,yy0,zz0,rfl,_,_⟩:=id hkd.a0
  obtain ⟨xx1,yy1,zz1,rfl,_,_⟩:=id hkd.a1
  obtain ⟨xx2,yy2,zz2,rfl,_,_⟩:=id hkd.n0
  obtain ⟨xx3,yy3,zz3,rfl,_,_⟩:=id hkd.n1
  obtain ⟨xx4,yy4,zz4,rfl,_,_⟩:=id hkd.ps
  obtain ⟨xx5,yy5,zz5,rfl,_,_⟩:=id hkd.qs
  (conv=>whnf)
  refine IteP.mk (fun h1=>W.mk ?_) (fun h1=>absurd he h1)
  (conv=>whnf)
  refine RelP.g (ok1 lkRd fun _=>True) (x:=lookF d) ⟨_,rfl,hw0,trivial⟩ (Grow.refl _) (fun v G2 hg2 hq=>W.mk ?_)
  obtain ⟨b,rfl,hj⟩:=hq
  (conv=>whnf)
  have hmm:0≤(lookF d).d.m∧(lookF d).d.m≤40:=by rw [hl2];omega
  refine RangeP.of (trY (truL (lookF d))) { α:=Nat × Bool × (Int × Int) × (Int × Int) × Nm2,fr:=[(2, .c (.ptr 1 0)),(3, .c (.ptr 2 0)),(5, .c (.ptr 9 0)),(6, .c (.ptr 20 0)),(7, .c (.ptr 21 0))],k:=fun x=>x.1,H:=fun x=>[(1, .cells .anon [.val (I x.2.2.1.1), .val (I x.2.2.1.2)] 39),(2, .cells .anon [.val (I x.2.2.2.1.1), .val (I x.2.2.2.1.2)] 39),(9, .cells .anon ((lkl d (.slice xx0 yy0 zz0) (.slice xx1 yy1 zz1) (.slice xx2 yy2 zz2) (.slice xx3 yy3 zz3) (.slice xx4 yy4 zz4) (.slice xx5 yy5 zz5) p a n c).map .val) 78),(20, .cells .anon [.val (I x.2.2.2.2.a), .val (I x.2.2.2.2.n)] 66),(21, .cells .anon [.val (.bool x.2.1)] 4)],ok:=fun x _=>(x.2.1 = true→x.1 = 0)∧(x.1 = 0→x.2.1 = true∧x.2.2.1 = (0,0)∧x.2.2.2.1 = (0,0))∧(0 < x.1→x.2.2.1 = bdF Nm2.a ((numsF d).take x.1)∧x.2.2.2.1 = bdF Nm2.n ((numsF d).take x.1)∧x.2.2.2.2∈(numsF d).take x.1) }
   (0,true,(0,0),(0,0),⟨0,0⟩) (SoundFn.of body66 (truths66 hmm b)) (fun l=>⟨rfl,hj,rfl⟩) (fun y hy=>by obtain ⟨f,_,rfl⟩:=List.mem_map.1 hy;rfl) rfl
   (HeadP.of [] ⟨rfl,rfl,rfl,rfl,rfl,trivial⟩ ⟨rfl,rfl,rfl,rfl,rfl,trivial⟩) ⟨fun _=>rfl,fun _=>⟨rfl,rfl,rfl⟩,fun h=>absurd h (Nat.lt_irrefl 0)⟩ ⟨rfl,fun _=>rfl⟩ (fun _ _ _ _ h=>h) (fun x y G3 hg3 hx hy=>W.mk ?_) (fun x G3 hg3 hx hkk=>W.mk ?_)
  ·obtain ⟨i,fs,ra,rn,la⟩:=x
   obtain ⟨hx0,hx1,hx2⟩:=hx
   dsimp only at hx0 hx1 hx2 hy
   rw [List.getElem?_map] at hy
   obtain ⟨f,hf,rfl⟩:=Option.map_eq_some_iff.1 hy
   have hw3:=(hw0.grow hg2).grow hg3
   have hfm:f∈truL (lookF d):=List.mem_of_getElem? hf
   have hnum:(numsF d)[i]? = some (ofF d (trT f)):=by rw [numsF,List.getElem?_map,hf];rfl
   obtain ⟨hil,hie⟩:=List.getElem?_eq_some_iff.1 hnum
   have hsn:(numsF d).take (i + 1) = (numsF d).take i++[ofF d (trT f)]:=by rw [take_snoc hil,hie]
   (conv=>whnf)
   refine ScaP.g (ok2 lkRd trRd fun x t=>∃ d,x = lookF d∧rightD d = true∧Vts d t) (x:=(lookF d,trT f)) ⟨_,_,rfl,hw3,⟨f,rfl,rfl⟩,d,rfl,by assumption,tru_vts (by assumption) hfm⟩ (fun v hv=>W.mk ?_)
   dsimp only at hv
   rw [hl2] at hv
   subst hv
   generalize ofF d (trT f) = nm at hnum hie hsn
   obtain ⟨na,nn⟩:=nm
   (try dsimp only)
   cases fs with
   | true =>
    have hi0:=hx0 rfl
    subst hi0
    (conv=>whnf)
    refine DrawP.mk monoT_nil rfl (W.mk ?_)
    (conv=>whnf)
    refine RoundR.mk ⟨(1,false,(na,na),(nn,nn),⟨na,nn⟩),⟨[],⟨rfl,rfl,rfl,rfl,rfl,trivial⟩,rfl,rfl⟩,⟨fun h=>(by cases h),fun h=>(by cases h),fun _=>?_⟩,rfl⟩
    rw [show (1:Nat) = 0 + 1 from rfl,hsn]
    exact ⟨rfl,rfl,by simp⟩
   | false =>
    have hi0:0 < i:=by
     rcases Nat.eq_zero_or_pos i with h | h
     ·have:=(hx1 h).1;cases this
     ·exact h
    obtain ⟨q1,q2,q3⟩:=hx2 hi0
    have hne:(numsF d).take i≠[]:=fun h=>by rw [h] at q3;cases q3
    obtain ⟨la,ln⟩:=la
    obtain ⟨ra1,ra2⟩:=ra
    obtain ⟨rn1,rn2⟩:=rn
    (try dsimp only at q1 q2 q3)
    (conv=>whnf)
    refine PurP.of _ (ne66 na nn la ln) (W.mk ?_)
    (conv=>whnf)
    refine ForkP.mk (fun h2=>W.mk ?_) (fun h2=>W.mk ?_)<;>(conv=>whnf)
    ·refine DrawP.mk (monoT_cons rfl (monoP_gsca (ok1 _ _)) (monoT_cons rfl (monoP_gsca (ok1 _ _)) monoT_nil)) rfl (W.mk ?_)
     (conv=>whnf)
     refine RelP.mk trivial (fun v G1 hg1 hq=>W.mk ?_)
     obtain ⟨pa,pc,rfl,hp⟩:=hq
     (conv=>whnf)
     refine ScaP.g (ok1 (slRd intE) fun l=>l≠[]) (x:=[ra1,na]) ⟨_,rfl,hp.slV rfl rfl (by decide),by simp⟩ (fun v hv=>W.mk ?_)
     have hv:v = I (min ra1 na):=hv
     subst hv
     (conv=>whnf)
     refine RelP.mk trivial (fun v G1 hg1 hq=>W.mk ?_)
     obtain ⟨pa,pc,rfl,hp⟩:=hq
     (conv=>whnf)
     refine ScaP.g (ok1 (slRd intE) fun l=>l≠[]) (x:=[ra2,na]) ⟨_,rfl,hp.slV rfl rfl (by decide),by simp⟩ (fun v hv=>W.mk ?_)
     have hv:v = I (max ra2 na):=hv
     subst hv
     (conv=>whnf)
     refine DrawP.mk (monoT_cons rfl (monoP_gsca (ok1 _ _)) (monoT_cons rfl (monoP_gsca (ok1 _ _)) monoT_nil)) rfl (W.mk ?_)
     (conv=>whnf)
     refine RelP.mk trivial (fun v G1 hg1 hq=>W.mk ?_)
     obtain ⟨pa,pc,rfl,hp⟩:=hq
     (conv=>whnf)
     refine ScaP.g (ok1 (slRd intE) fun l=>l≠[]) (x:=[rn1,nn]) ⟨_,rfl,hp.slV rfl rfl (by decide),by simp⟩ (fun v hv=>W.mk ?_)
     have hv:v = I (min rn1 nn):=hv
     subst hv
     (conv=>whnf)
     refine RelP.mk trivial (fun v G1 hg1 hq=>W.mk ?_)
     obtain ⟨pa,pc,rfl,hp⟩:=hq
     (conv=>whnf)
     refine ScaP.g (ok1 (slRd intE) fun l=>l≠[]) (x:=[rn2,nn]) ⟨_,rfl,hp.slV rfl rfl (by decide),by simp⟩ (fun v hv=>W.mk ?_)
     have hv:v = I (max rn2 nn):=hv
     subst hv
     (conv=>whnf)
     refine RoundR.mk ⟨(i + 1,false,(min ra1 na,max ra2 na),(min rn1 nn,max rn2 nn),⟨na,nn⟩),⟨[],⟨rfl,rfl,rfl,rfl,rfl,trivial⟩,rfl,rfl⟩,⟨fun h=>(by cases h),fun h=>(by cases h),fun _=>?_⟩,rfl⟩
     dsimp only
     rw [hsn,bdF_snoc hne,bdF_snoc hne, ← q1, ← q2]
     exact ⟨rfl,rfl,by simp⟩
    ·have heq:na = la∧nn = ln:=by simpa using h2
     obtain ⟨rfl,rfl⟩:=heq
     refine RoundR.mk ⟨(i + 1,false,(ra1,ra2),(rn1,rn2),⟨na,nn⟩),⟨[],⟨rfl,rfl,rfl,rfl,rfl,trivial⟩,rfl,rfl⟩,⟨fun h=>(by cases h),fun h=>(by cases h),fun _=>?_⟩,rfl⟩
     dsimp only
     have m1:=bdF_mem (g:=Nm2.a) q3
     have m2:=bdF_mem (g:=Nm2.n) q3
     rw [← q1] at m1
     rw [← q2] at m2
     dsimp only at m1 m2
     rw [hsn,bdF_snoc hne,bdF_snoc hne, ← q1, ← q2]
     refine ⟨?_, ?_,by simp⟩<;>(refine Prod.ext ?_ ?_<;>dsimp only<;>omega)
  ·obtain ⟨i,fs,ra,rn,la⟩:=x
   obtain ⟨hx0,hx1,hx2⟩:=hx
   dsimp only at hx0 hx1 hx2 hkk
   have hnl:(numsF d).length = i:=by rw [numsF,List.length_map,hkk,List.length_map]
   have hpos:0 < i:=by
    rw [← hnl,numsF,List.length_map,List.length_pos_iff]
    refine trK_len (N:=0) _ _ _ (fun j h1' h2'=>?_)
    have hj2:j < d.m.toNat:=by rw [hl2] at h2';omega
    rw [mayL,may_look hm1 hj2]
    intro h0
    have:=votes_emp d j
    rw [h0] at this
    have hcl:cla d j = true:=by rw [← this];rfl
    have hno:¬ 0≤clashF d:=fun hc=>by
     have:faultF d = 9:=by simp [faultF,fault_right hf,hc]
     omega
    refine hno ?_
    rw [clashF]
    cases hfd:(List.range d.m.toNat).find? (cla d) with
    | none =>
     rw [List.find?_eq_none] at hfd
     exact absurd hcl (hfd j (List.mem_range.2 hj2))
    | some k=>simp
   obtain ⟨q1,q2,q3⟩:=hx2 hpos
   rw [← hnl,List.take_length] at q1 q2
   (conv=>whnf)
   refine DrawP.mk monoT_nil rfl (W.mk ?_)
   (conv=>whnf)
   refine FinP.mk ?_
   rw [bndV,if_pos he, ← q1, ← q2];rfl
end Go.Proofs.Ytgpfejgohclheaa

namespace Go.Proofs.Ytgpfejgohclheaa
open Go.Pal
set_option maxRecDepth 100000
theorem und9:Try.prog.underlying 9 = some .string:=by kernel_rfl
theorem pur_idxS {s:ByteArray} {i:Nat} {b:UInt8} (h:s[i]? = some b):∀ w,((POp.idx 9).sem [.string s,U (i:Int)]).run Try.prog w = .ok (U (b.toNat:Nat)) w:=fun w=>by
 have e1:(POp.idx 9).sem [.string s,U (i:Int)] = Instr.index 9 (.string s) (U (i:Int)):=rfl
 rw [e1]
 simp [Instr.index,run_underlying und9,asIntOf,h]
abbrev U64 (n:Int):Value:=.int .u64 n
def u64Rd:Rd Int:=⟨fun _ v x=>v = U64 x,fun {_ _ _ _} h h'=>by rw [h] at h';cases h';rfl,fun {_ _ _ _} _ h=>h⟩
def lenB (x:Int):Int:=if x = 1 then 1 else 2
theorem len100:Sound Try.prog 100 id (gsca (args1 u64Rd fun x=>1≤x∧x≤3) fun x v=>v = I (lenB x)):=by
 refine comp100.gsca (Tab.nil _) (fun args G s h=>?_) (fun args G x h=>?_)
 ·obtain ⟨v,rfl,_⟩:=h;simp
 ·obtain ⟨u,rfl,rfl,h1,h2⟩:=h
  (conv=>whnf)
  refine IteP.mk (fun h=>by exfalso;omega) (fun _=>W.mk ?_)
  (conv=>whnf)
  refine IteP.mk (fun h=>by exfalso;omega) (fun _=>W.mk ?_)
  (conv=>whnf)
  refine IteP.mk (fun h=>by exfalso;omega) (fun _=>W.mk ?_)
  (conv=>whnf)
  repeat' (refine ob ?_ ?_;(first | trivial | omega | (simp only [inR];omega) | exact ble (by rfl) | exact SlR.some ‹_› (by omega));(conv=>whnf))
  rcases (by omega:x = 1∨x = 2∨x = 3) with rfl | rfl | rfl
  ·refine PurP.of (U 1) (pur_idxS (i:=1) (b:=1) (by rfl)) (W.mk ?_)
   (conv=>whnf)
   repeat' (refine ob ?_ ?_;(first | trivial | omega | (simp only [inR];omega) | exact ble (by rfl) | exact SlR.some ‹_› (by omega));(conv=>whnf))
   exact FinP.mk rfl
  ·refine PurP.of (U 2) (pur_idxS (i:=2) (b:=2) (by rfl)) (W.mk ?_)
   (conv=>whnf)
   repeat' (refine ob ?_ ?_;(first | trivial | omega | (simp only [inR];omega) | exact ble (by rfl) | exact SlR.some ‹_› (by omega));(conv=>whnf))
   exact FinP.mk rfl
  ·refine PurP.of (U 2) (pur_idxS (i:=3) (b:=2) (by rfl)) (W.mk ?_)
   (conv=>whnf)
   repeat' (refine ob ?_ ?_;(first | trivial | omega | (simp only [inR];omega) | exact ble (by rfl) | exact SlR.some ‹_› (by omega));(conv=>whnf))
   exact FinP.mk rfl
theorem len75:Sound Try.prog 75 id (gsca (args1 u64Rd fun x=>1≤x∧x≤3) fun x v=>v = I (lenB x)):=by
 refine comp75.gsca (Tab.cons 100 _ len100 body100 (Tab.nil _)) (fun args G s h=>?_) (fun args G x h=>?_)
 ·obtain ⟨v,rfl,_⟩:=h;simp
 ·obtain ⟨u,rfl,rfl,h1,h2⟩:=h
  (conv=>whnf)
  refine ScaP.g (ok1 u64Rd fun x=>1≤x∧x≤3) (x:=x) ⟨_,rfl,rfl,h1,h2⟩ (fun v hv=>W.mk ?_)
  subst hv
  (conv=>whnf)
  exact FinP.mk rfl
theorem nan114:Sound Try.prog 114 id (gsca (args1 u8Rd fun _=>True) fun _ v=>v = .bool false):=by
 refine comp114.gsca (Tab.nil _) (fun args G s h=>?_) (fun args G x h=>?_)
 ·obtain ⟨v,rfl,_⟩:=h;simp
 ·obtain ⟨u,rfl,rfl,_⟩:=h
  (conv=>whnf)
  refine IteP.mk (fun _=>W.mk ?_) (fun h=>absurd rfl h)
  (conv=>whnf)
  exact FinP.mk rfl
theorem less96:Sound Try.prog 96 id (gsca (args2 u8Rd u8Rd fun _ _=>True) fun x v=>v = .bool (decide (x.1 < x.2))):=by
 refine comp96.gsca (Tab.cons 114 _ nan114 body114 (Tab.nil _)) (fun args G s h=>?_) (fun args G x h=>?_)
 ·obtain ⟨v,w,rfl,_⟩:=h;simp
 ·obtain ⟨x,y⟩:=x
  obtain ⟨u,v,rfl,rfl,rfl,_⟩:=h
  (conv=>whnf)
  refine ScaP.g (ok1 u8Rd fun _=>True) (x:=x) ⟨_,rfl,rfl,trivial⟩ (fun v hv=>W.mk ?_)
  subst hv
  (conv=>whnf)
  refine ForkP.mk (fun h=>by cases h) (fun _=>W.mk ?_)
  (conv=>whnf)
  refine IteP.mk (fun h=>W.mk ?_) (fun h=>W.mk ?_)<;>(conv=>whnf)<;>refine FinP.mk ?_<;>refine congrArg Value.bool ?_<;>simp [h]
/-! ### insertion sort -/
def Sorted (l:List Int):Prop:=∀ p q,p < q→q < l.length→l.getD p 0≤l.getD q 0
abbrev srtL (b n0 n cap:Nat) (l:List Int) (rest:List Value):LE:=⟨b,true, .row n0 n cap (l.map U) rest 5 1⟩
def sortP (f:Value→Nat→List Value) (args:List Value) (ls:List LE):Prop:=∃ b n0 n cap l rest,args = f (.slice (some ⟨b,0,none⟩) n cap) n∧ls = [srtL b n0 n cap l rest]∧1≤n∧n≤3∧l.length = n
def sortQ (f:Value→Nat→List Value) (args:List Value) (ls:List LE) (v:Value) (ns:List LB):Prop:=∃ b n0 n cap l rest l',args = f (.slice (some ⟨b,0,none⟩) n cap) n∧ls = [srtL b n0 n cap l rest]∧v = .tuple #[]∧ns = [.row n0 n cap (l'.map U) rest 5 1]∧l'.Perm l∧Sorted l'
theorem mapU_set {l:List Int} {i off:Nat} (x:Int) (h:i < l.length) (ho:off = i):(l.map U).take off++[U x]++(l.map U).drop (off + 1) = (l.set i x).map U:=by
 subst ho
 rw [set_at _ _ _ (by simpa using h),List.map_set]
theorem mapU_at {l:List Int} {i off:Nat} (h:i < l.length) (ho:off = i):((l.map U).drop off).take 1 = [U l[i]]:=by
 subst ho
 rw [List.drop_eq_getElem_cons (by simpa using h)];simp
theorem den_set_eqX {P:Program} {hid:Nat} {Gr G:Hp} {K:SV→List (Nat × Option OB)→Hp→Prop} {h b n cap:Nat} {vs vs' rest:List Value} {t:TypeId} {k:Nat} {sv:SV} (e:vs = vs') (hk:Res.den P hid Gr G K (.set h (.xrow b n cap vs' rest t k) sv)):Res.den P hid Gr G K (.set h (.xrow b n cap vs rest t k) sv):=by
 subst e;exact hk
theorem getD_set (l:List Int) (i p:Nat) (x:Int) (h:i < l.length):(l.set i x).getD p 0 = if p = i then x else l.getD p 0:=by
 simp only [List.getD_eq_getElem?_getD,List.getElem?_set]
 by_cases hp:i = p
 ·subst hp;simp [h]
 ·rw [if_neg hp,if_neg (fun e=>hp e.symm)]
structure InsI (l:List Int) (i j:Nat):Prop where
 a:∀ p q,p < q→q≤i→p≠j→q≠j→l.getD p 0≤l.getD q 0
 b:∀ q,j < q→q≤i→l.getD j 0≤l.getD q 0
theorem InsI.start {l:List Int} {i:Nat} (h:∀ p q,p < q→q < i→l.getD p 0≤l.getD q 0):InsI l i i:=⟨fun p q h1 h2 _ h4=>h p q h1 (by omega),fun q h1 h2=>by omega⟩
theorem InsI.stop {l:List Int} {i j:Nat} (h:InsI l i j) (hj:j = 0∨l.getD (j - 1) 0≤l.getD j 0):∀ p q,p < q→q < i + 1→l.getD p 0≤l.getD q 0:=fun p q h1 h2=>by
 by_cases hp:p = j
 ·subst hp;exact h.b q h1 (by omega)
 ·by_cases hq:q = j
  ·subst hq
   rcases hj with hj | hj
   ·omega
   ·by_cases hp1:p = q - 1
    ·subst hp1;exact hj
    ·exact Int.le_trans (h.a p (q - 1) (by omega) (by omega) hp (by omega)) hj
  ·exact h.a p q h1 (by omega) hp hq
theorem InsI.step {l:List Int} {i j:Nat} (h:InsI l i j) (hi:i < l.length) (hji:j≤i) (hj:0 < j) (hlt:l.getD j 0 < l.getD (j - 1) 0):InsI ((l.set j (l.getD (j - 1) 0)).set (j - 1) (l.getD j 0)) i (j - 1):=by
 have g:∀ p,((l.set j (l.getD (j - 1) 0)).set (j - 1) (l.getD j 0)).getD p 0 = if p = j - 1 then l.getD j 0 else if p = j then l.getD (j - 1) 0 else l.getD p 0:=fun p=>by
  rw [getD_set _ _ _ _ (by rw [List.length_set];omega),getD_set _ _ _ _ (by omega)]
 refine ⟨fun p q h1 h2 h3 h4=>?_,fun q h1 h2=>?_⟩
 ·rw [g,g,if_neg h3,if_neg h4]
  by_cases hq:q = j
  ·rw [if_pos hq,if_neg (by omega)]
   exact h.a p (j - 1) (by omega) (by omega) (by omega) (by omega)
  ·rw [if_neg hq]
   by_cases hp:p = j
   ·rw [if_pos hp]
    exact h.a (j - 1) q (by omega) h2 (by omega) hq
   ·rw [if_neg hp]
    exact h.a p q h1 h2 hp hq
 ·rw [g,g,if_pos rfl,if_neg (by omega)]
  by_cases hq:q = j
  ·rw [if_pos hq];omega
  ·rw [if_neg hq];exact h.b q (by omega) h2
theorem swap_perm {l:List Int} {j:Nat} (hj:0 < j) (h:j < l.length):((l.set j (l.getD (j - 1) 0)).set (j - 1) (l.getD j 0)).Perm l:=by
 have h2:j - 1 < l.length:=by omega
 have e1:l.getD (j - 1) 0 = l[j - 1]:=by simp [h2]
 have e2:l.getD j 0 = l[j]:=by simp [h]
 rw [e1,e2]
 exact List.set_set_perm h h2
def tabS:Tab Try.prog:=Tab.cons 96 _ less96 body96 (Tab.nil _)
abbrev sortS (f:Value→Nat→List Value):PSpec:=.st (fun args ls _=>sortP f args ls) (fun args ls v ns _=>sortQ f args ls v ns)
theorem isort90:Sound Try.prog 90 id (sortS fun s n=>[s,I 0,I n]):=by
 refine ⟨fun args ls v ns G G' hg h=>h,fun args ls G Wd hsub hls hnd hpre=>?_⟩
 obtain ⟨b,n0,n,cap,l,rest,rfl,rfl,hn1,hn3,hll⟩:=hpre
 have hone:=(hls (srtL b n0 n cap l rest) (by simp)).2.2
 obtain ⟨z1,z2,z3,z4,z5,z6⟩:=hone
 refine st_sound tabS comp90 (svs:=[.c (.row 0 n), .v (I 0), .v (I n)]) (obs:=[.xrow b n cap (l.map U) rest 5 1]) (by simp) hsub hls hnd (Nat.le_refl _) ?_ ?_ ?_
 ·exact ⟨⟨rfl,_,_,rfl⟩,(Nat.le_of_ble_eq_true rfl:0 < 1),rfl,trivial,rfl,trivial,trivial⟩
 ·exact ⟨rfl,trivial⟩
 ·(conv=>whnf)
  repeat' (refine ob ?_ ?_;(first | trivial | omega | (simp only [inR];omega) | exact ble (by rfl) | exact SlR.some ‹_› (by omega));(conv=>whnf))
  refine LoopP.of { α:=Nat × List Int,fr:=fun x=>[(0, .c (.row 0 n)),(1, .v (I 0)),(2, .v (I n)),(6, .v (I x.1))],H:=fun x=>[(0, .xrow b n cap (x.2.map U) rest 5 1)],ok:=fun x _=>1≤x.1∧x.1≤n∧x.2.Perm l∧x.2.length = n∧∀ p q,p < q→q < x.1→x.2.getD p 0≤x.2.getD q 0,m:=fun x=>n - x.1 }
   (1,l) (HeadP.of [] ⟨rfl,rfl,rfl,rfl,trivial⟩ ⟨rfl,trivial⟩) ⟨Nat.le_refl _,hn1,List.Perm.refl _,hll,fun p q h1 h2=>by omega⟩ (fun _=>⟨rfl,rfl⟩) (fun x G1 hG1 hx=>W.mk ?_)
  obtain ⟨i,l1⟩:=x
  obtain ⟨hi1,hin,hp1,hl1,hs1⟩:=hx
  dsimp only at hi1 hin hp1 hl1 hs1
  dsimp only
  (conv=>whnf)
  refine IteP.mk (fun hlt=>W.mk ?_) (fun hge=>W.mk ?_)<;>(conv=>whnf)
  ·have hlt:i < n:=by omega
   refine LoopP.of { α:=Nat × List Int,fr:=fun x=>[(0, .c (.row 0 n)),(1, .v (I 0)),(2, .v (I n)),(6, .v (I i)),(7, .v (I x.1))],H:=fun x=>[(0, .xrow b n cap (x.2.map U) rest 5 1)],ok:=fun x _=>x.1≤i∧x.2.Perm l∧x.2.length = n∧InsI x.2 i x.1,m:=fun x=>x.1 }
    (i,l1) (HeadP.of [] ⟨rfl,rfl,rfl,rfl,rfl,trivial⟩ ⟨rfl,trivial⟩) ⟨Nat.le_refl _,hp1,hl1,InsI.start hs1⟩ (fun _=>⟨rfl,rfl⟩) (fun x G2 hG2 hx=>W.mk ?_)
   obtain ⟨j,l2⟩:=x
   obtain ⟨hji,hp2,hl2,hI⟩:=hx
   dsimp only at hji hp2 hl2 hI
   have next:∀ (h:j = 0∨l2.getD (j - 1) 0≤l2.getD j 0), ∀ p q,p < q→q < i + 1→l2.getD p 0≤l2.getD q 0:=fun h=>hI.stop h
   dsimp only
   (conv=>whnf)
   refine IteP.mk (fun hj0=>W.mk ?_) (fun hj0=>W.mk ?_)<;>(conv=>whnf)
   ·have hj0:0 < j:=by omega
    have e0:(((j:Int) - 1).toNat) = j - 1:=by omega
    repeat' (first | (refine OblP.mk rfl (W.mk ?_);(conv=>whnf)) | (refine ob ?_ ?_;(first | trivial | omega | (simp only [inR];omega) | exact ble (by rfl) | exact SlR.some ‹_› (by omega));(conv=>whnf)))
    have hjl:j < l2.length:=by omega
    have hjl1:j - 1 < l2.length:=by omega
    refine EqP.mk ⟨[U l2[j]],mapU_at hjl (by simp),rfl,W.mk ?_⟩
    (conv=>whnf)
    repeat' (first | (refine OblP.mk rfl (W.mk ?_);(conv=>whnf)) | (refine ob ?_ ?_;(first | trivial | omega | (simp only [inR];omega) | exact ble (by rfl) | exact SlR.some ‹_› (by omega));(conv=>whnf)))
    refine EqP.mk ⟨[U l2[j - 1]],mapU_at hjl1 (by omega),rfl,W.mk ?_⟩
    (conv=>whnf)
    refine ScaP.g (ok2 u8Rd u8Rd fun _ _=>True) (x:=(l2[j],l2[j - 1])) ⟨_,_,rfl,rfl,rfl,trivial⟩ (fun v hv=>W.mk ?_)
    subst hv
    dsimp only
    have g1:l2.getD j 0 = l2[j]:=by simp [hjl]
    have g2:l2.getD (j - 1) 0 = l2[j - 1]:=by simp [hjl1]
    (conv=>whnf)
    refine ForkP.mk (fun hc=>W.mk ?_) (fun hc=>W.mk ?_)<;>(conv=>whnf)
    ·have hc:l2[j] < l2[j - 1]:=by simpa using hc
     repeat' (first | (refine OblP.mk rfl (W.mk ?_);(conv=>whnf)) | (refine ob ?_ ?_;(first | trivial | omega | (simp only [inR];omega) | exact ble (by rfl) | exact SlR.some ‹_› (by omega));(conv=>whnf)))
     refine EqP.mk ⟨[U l2[j - 1]],mapU_at hjl1 (by omega),rfl,W.mk ?_⟩
     (conv=>whnf)
     repeat' (first | (refine OblP.mk rfl (W.mk ?_);(conv=>whnf)) | (refine ob ?_ ?_;(first | trivial | omega | (simp only [inR];omega) | exact ble (by rfl) | exact SlR.some ‹_› (by omega));(conv=>whnf)))
     refine EqP.mk ⟨[U l2[j]],mapU_at hjl (by simp),rfl,W.mk ?_⟩
     (conv=>whnf)
     refine OblP.mk (by omega) (W.mk ?_)
     (conv=>whnf)
     refine OblP.mk rfl (W.mk ?_)
     (conv=>whnf)
     refine OblP.mk (by rw [List.length_map];simp;omega) (W.mk ?_)
     refine den_set_eqX (mapU_set (l:=l2) (i:=j) (off:=(j:Int).toNat * 1) l2[j - 1] hjl (by simp)) ?_
     (conv=>whnf)
     refine OblP.mk (by omega) (W.mk ?_)
     (conv=>whnf)
     refine OblP.mk rfl (W.mk ?_)
     (conv=>whnf)
     refine OblP.mk (by rw [List.length_map,List.length_set];omega) (W.mk ?_)
     refine den_set_eqX (mapU_set (l:=l2.set j l2[j - 1]) (i:=j - 1) (off:=((j:Int) - 1).toNat * 1) l2[j] (by rw [List.length_set];omega) (by omega)) ?_
     (conv=>whnf)
     repeat' (refine ob ?_ ?_;(first | trivial | omega | (simp only [inR];omega) | exact ble (by rfl) | exact SlR.some ‹_› (by omega));(conv=>whnf))
     have hI2:=hI.step (by omega) hji hj0 (by rw [g1,g2];exact hc)
     have hp3:=swap_perm hj0 hjl
     rw [g1,g2] at hI2 hp3
     have hji2:SV.v (I ((j - 1:Nat):Int)) = SV.v (I ((j:Int) - 1)):=by rw [show ((j - 1:Nat):Int) = (j:Int) - 1 by omega]
     refine RoundP.of (j - 1,(l2.set j l2[j - 1]).set (j - 1) l2[j]) (HeadP.of [] ⟨rfl,rfl,rfl,rfl,hji2,trivial⟩ ⟨rfl,trivial⟩) ⟨by show j - 1≤i;omega,hp3.trans hp2,by simp [hl2],hI2⟩ (by simp only;omega)
    ·have hc:l2[j - 1]≤l2[j]:=by simpa using hc
     repeat' (refine ob ?_ ?_;(first | trivial | omega | (simp only [inR];omega) | exact ble (by rfl) | exact SlR.some ‹_› (by omega));(conv=>whnf))
     refine RoundP.of (i + 1,l2) (HeadP.of [] ⟨rfl,rfl,rfl,rfl,trivial⟩ ⟨rfl,trivial⟩) ⟨by show 1≤i + 1;omega,hlt,hp2,hl2,next (.inr (by rw [g1,g2];exact hc))⟩ (by simp only;omega)
   ·repeat' (refine ob ?_ ?_;(first | trivial | omega | (simp only [inR];omega) | exact ble (by rfl) | exact SlR.some ‹_› (by omega));(conv=>whnf))
    refine RoundP.of (i + 1,l2) (HeadP.of [] ⟨rfl,rfl,rfl,rfl,trivial⟩ ⟨rfl,trivial⟩) ⟨by show 1≤i + 1;omega,hlt,hp2,hl2,next (.inl (by omega))⟩ (by simp only;omega)
  ·have hie:i = n:=by omega
   subst hie
   refine FinS.mk ⟨[_],⟨.row n0 i cap (l1.map U) rest 5 1,⟨rfl,z1⟩,⟨rfl,rfl,rfl,rfl,rfl⟩,[],rfl,rfl⟩,b,n0,i,cap,l,rest,l1,rfl,rfl,rfl,rfl,hp1,fun p q h1 h2=>hs1 p q h1 (by omega)⟩
theorem mapU_inj {l l':List Int} (h:l.map U = l'.map U):l = l':=by
 have:Function.Injective U:=fun a b h=>by cases h;rfl
 exact (List.map_inj_right (fun a b h=>this h)).1 h
theorem srtL_inj {b n0 n cap b' n0' n' cap':Nat} {l l':List Int} {rest rest':List Value} (h:[srtL b n0 n cap l rest] = [srtL b' n0' n' cap' l' rest']):b' = b∧n0' = n0∧n' = n∧cap' = cap∧l' = l∧rest' = rest:=by
 simp only [List.cons.injEq,LE.mk.injEq,LB.row.injEq,and_true,true_and] at h
 obtain ⟨h1,h2,h3,h4,h5,h6⟩:=h
 exact ⟨h1.symm,h2.symm,h3.symm,h4.symm,(mapU_inj h5).symm,h6.symm⟩
theorem pdq74:Sound Try.prog 74 id (sortS fun s n=>[s,I 0,I n,I (lenB n)]):=by
 refine ⟨fun args ls v ns G G' hg h=>h,fun args ls G Wd hsub hls hnd hpre=>?_⟩
 obtain ⟨b,n0,n,cap,l,rest,rfl,rfl,hn1,hn3,hll⟩:=hpre
 have hone:=(hls (srtL b n0 n cap l rest) (by simp)).2.2
 obtain ⟨z1,z2,z3,z4,z5,z6⟩:=id hone
 refine st_sound (Tab.cons 90 _ isort90 body90 (Tab.nil _)) comp74 (svs:=[.c (.row 0 n), .v (I 0), .v (I n), .v (I (lenB n))]) (obs:=[.xrow b n cap (l.map U) rest 5 1]) (by simp) hsub hls hnd (Nat.le_refl _) ?_ ?_ ?_
 ·exact ⟨⟨rfl,_,_,rfl⟩,(Nat.le_of_ble_eq_true rfl:0 < 1),rfl,trivial,rfl,trivial,rfl,trivial,trivial⟩
 ·exact ⟨rfl,trivial⟩
 ·(conv=>whnf)
  refine LoopP.of { α:=Unit,fr:=fun _=>[(0, .c (.row 0 n)),(1, .v (I 0)),(2, .v (I n)),(3, .v (I (lenB n)))],H:=fun _=>[(0, .xrow b n cap (l.map U) rest 5 1)],ok:=fun _ _=>True,m:=fun _=>0 }
   () (HeadP.of [] ⟨rfl,rfl,rfl,rfl,trivial⟩ ⟨rfl,trivial⟩) trivial (fun _=>⟨rfl,rfl⟩) (fun x G1 hG1 hx=>W.mk ?_)
  (conv=>whnf)
  repeat' (refine ob ?_ ?_;(first | trivial | omega | (simp only [inR];omega) | exact ble (by rfl) | exact SlR.some ‹_› (by omega));(conv=>whnf))
  refine IteP.mk (fun hlt=>W.mk ?_) (fun hge=>by exfalso;omega)
  (conv=>whnf)
  refine StP.mk ⟨[(0,srtL b n n cap l rest)],⟨⟨_,_,rfl,rfl,Nat.le_refl _,z2,z3,z4,z5,z6⟩,trivial⟩,by simp,⟨b,n,n,cap,l,rest,rfl,rfl,hn1,hn3,hll⟩,fun v ns G3 hg3 hpost=>W.mk ?_⟩
  obtain ⟨b',n0',n',cap',l',rest',l2,q1,q2,rfl,rfl,hp,hs⟩:=hpost
  obtain ⟨rfl,rfl,rfl,rfl,rfl,rfl⟩:=srtL_inj q2
  have hl2:l2.length = n':=by rw [hp.length_eq];exact hll
  have e1:(l2.map U++rest').take (n' * 1) = l2.map U:=by rw [Nat.mul_one];exact List.take_left' (by simpa using hl2)
  have e2:(l2.map U++rest').drop (n' * 1) = rest':=by rw [Nat.mul_one];exact List.drop_left' (by simpa using hl2)
  (conv=>whnf)
  refine FinS.mk ⟨[_],⟨.row n0 n' cap' _ _ 5 1,⟨rfl,z1⟩,⟨rfl,rfl,rfl,rfl,rfl⟩,[],rfl,rfl⟩,b',n0,n',cap',l',rest',l2,rfl,rfl,rfl, ?_,hp,hs⟩
  rw [e1,e2]
theorem sort50:Sound Try.prog 50 id (sortS fun s _=>[s]):=by
 refine ⟨fun args ls v ns G G' hg h=>h,fun args ls G Wd hsub hls hnd hpre=>?_⟩
 obtain ⟨b,n0,n,cap,l,rest,rfl,rfl,hn1,hn3,hll⟩:=hpre
 have hone:=(hls (srtL b n0 n cap l rest) (by simp)).2.2
 obtain ⟨z1,z2,z3,z4,z5,z6⟩:=id hone
 refine st_sound (Tab.cons 74 _ pdq74 body74 (Tab.cons 75 _ len75 body75 (Tab.nil _))) comp50 (svs:=[.c (.row 0 n)]) (obs:=[.xrow b n cap (l.map U) rest 5 1]) (by simp) hsub hls hnd (Nat.le_refl _) ?_ ?_ ?_
 ·exact ⟨⟨rfl,_,_,rfl⟩,(Nat.le_of_ble_eq_true rfl:0 < 1),trivial⟩
 ·exact ⟨rfl,trivial⟩
 ·(conv=>whnf)
  repeat' (refine ob ?_ ?_;(first | trivial | omega | (simp only [inR];omega) | exact ble (by rfl) | exact SlR.some ‹_› (by omega));(conv=>whnf))
  refine ScaP.g (ok1 u64Rd fun x=>1≤x∧x≤3) (x:=(n:Int)) ⟨_,rfl,rfl,by omega,by omega⟩ (fun v hv=>W.mk ?_)
  subst hv
  (conv=>whnf)
  refine StP.mk ⟨[(0,srtL b n n cap l rest)],⟨⟨_,_,rfl,rfl,Nat.le_refl _,z2,z3,z4,z5,z6⟩,trivial⟩,by simp,⟨b,n,n,cap,l,rest,rfl,rfl,hn1,hn3,hll⟩,fun v ns G3 hg3 hpost=>W.mk ?_⟩
  obtain ⟨b',n0',n',cap',l',rest',l2,q1,q2,rfl,rfl,hp,hs⟩:=hpost
  obtain ⟨rfl,rfl,rfl,rfl,rfl,rfl⟩:=srtL_inj q2
  have hl2:l2.length = n':=by rw [hp.length_eq];exact hll
  have e1:(l2.map U++rest').take (n' * 1) = l2.map U:=by rw [Nat.mul_one];exact List.take_left' (by simpa using hl2)
  have e2:(l2.map U++rest').drop (n' * 1) = rest':=by rw [Nat.mul_one];exact List.drop_left' (by simpa using hl2)
  (conv=>whnf)
  refine FinS.mk ⟨[_],⟨.row n0 n' cap' _ _ 5 1,⟨rfl,z1⟩,⟨rfl,rfl,rfl,rfl,rfl⟩,[],rfl,rfl⟩,b',n0,n',cap',l',rest',l2,rfl,rfl,rfl, ?_,hp,hs⟩
  rw [e1,e2]
end Go.Proofs.Ytgpfejgohclheaa

namespace Go.Proofs.Ytgpfejgohclheaa
open Go.Pal
set_option maxRecDepth 100000
def outsF (d:Dv):List Int:=(truL (lookF d)).map fun f=>outF d (ofF d (trT f))
def uqS (acc:List Int) (o:Int):List Int:=if acc.contains o then acc else acc++[o]
def uqF (l:List Int):List Int:=l.foldl uqS []
theorem uqF_snoc (l:List Int) (o:Int):uqF (l++[o]) = uqS (uqF l) o:=by simp [uqF]
theorem uqS_fold:∀ (l acc:List Int),(∀ x,x∈l.foldl uqS acc↔x∈acc∨x∈l)∧(acc.Nodup→(l.foldl uqS acc).Nodup)
 | [],acc=>⟨fun x=>by simp,fun h=>h⟩
 | o :: r,acc=>by
  obtain ⟨h1,h2⟩:=uqS_fold r (uqS acc o)
  simp only [List.foldl_cons]
  have hm:∀ x,x∈uqS acc o↔x∈acc∨x = o:=fun x=>by
   rw [uqS]
   split
   ·rename_i h
    have h:o∈acc:=by simpa using h
    constructor
    ·exact .inl
    ·rintro (h' | rfl)
     ·exact h'
     ·exact h
   ·simp
  refine ⟨fun x=>by rw [h1,hm];simp [or_assoc],fun hn=>h2 ?_⟩
  rw [uqS]
  split
  ·exact hn
  ·rename_i h
   have h:¬ o∈acc:=by simpa using h
   rw [List.nodup_append]
   refine ⟨hn,by simp,fun a ha b hb=>?_⟩
   simp only [List.mem_singleton] at hb
   subst hb
   intro e;subst e
   exact h ha
theorem uqF_mem (l:List Int) (x:Int):x∈uqF l↔x∈l:=by rw [uqF,(uqS_fold l []).1];simp
theorem uqF_nodup (l:List Int):(uqF l).Nodup:=(uqS_fold l []).2 List.nodup_nil
theorem strict_ext:∀ {l l':List Int},l.Pairwise (· < ·)→l'.Pairwise (· < ·)→(∀ x,x∈l↔x∈l')→l = l'
 | [],[],_,_,_=>rfl
 | [],y :: r',_,_,h=>by have:=(h y).2 (by simp);cases this
 | x :: r,[],_,_,h=>by have:=(h x).1 (by simp);cases this
 | x :: r,y :: r',h1,h2,h=>by
  obtain ⟨a1,a2⟩:=List.pairwise_cons.1 h1
  obtain ⟨b1,b2⟩:=List.pairwise_cons.1 h2
  have hxy:x = y:=by
   rcases List.mem_cons.1 ((h x).1 (by simp)) with e | hx
   ·exact e
   ·rcases List.mem_cons.1 ((h y).2 (by simp)) with e | hy
    ·exact e.symm
    ·have:=a1 y hy;have:=b1 x hx;omega
  subst hxy
  refine congrArg _ (strict_ext a2 b2 fun z=>?_)
  constructor
  ·intro hz
   rcases List.mem_cons.1 ((h z).1 (by simp [hz])) with e | h'
   ·have:=a1 z hz;omega
   ·exact h'
  ·intro hz
   rcases List.mem_cons.1 ((h z).2 (by simp [hz])) with e | h'
   ·have:=b1 z hz;omega
   ·exact h'
theorem sorted_strict {l:List Int} (h:Sorted l) (hn:l.Nodup):l.Pairwise (· < ·):=by
 rw [List.pairwise_iff_getElem]
 intro i j hi hj hij
 have h1:=h i j hij hj
 have e1:l.getD i 0 = l[i]:=by simp [hi]
 have e2:l.getD j 0 = l[j]:=by simp [hj]
 rw [e1,e2] at h1
 have h2:l[i]≠l[j]:=fun e=>by
  have:=(List.getElem_inj hn).1 e
  omega
 omega
def allowedF (d:Dv):List Int:=[0,1,2].filter fun o=>(outsF d).contains o
theorem outF_012 (d:Dv) (x:Nm2):outF d x = 0∨outF d x = 1∨outF d x = 2:=by
 rw [out_eq]
 (repeat' split)<;>simp
theorem len_sub:∀ (l s:List Int),l.Nodup→(∀ x∈l,x∈s)→l.length≤s.length
 | [],s,_,_=>by simp
 | x :: r,s,hn,h=>by
  obtain ⟨h1,h2⟩:=List.nodup_cons.1 hn
  have hx:=h x (by simp)
  have:=len_sub r (s.erase x) h2 (fun y hy=>(List.mem_erase_of_ne (fun e=>h1 (by rw [← e];exact hy))).2 (h y (by simp [hy])))
  rw [List.length_erase_of_mem hx] at this
  have hp:0 < s.length:=List.length_pos_of_mem hx
  simp only [List.length_cons];omega
theorem mapU_flat:∀ l:List Int,l.map U = (l.map u8E.f).flatten
 | []=>rfl
 | x :: r=>by simp only [List.map_cons,List.flatten_cons];rw [mapU_flat r];rfl
theorem allowed_eq {d:Dv} {l:List Int} (hp:l.Perm (uqF (outsF d))) (hs:Sorted l):l = allowedF d:=by
 have hn:l.Nodup:=hp.nodup_iff.2 (uqF_nodup _)
 refine strict_ext (sorted_strict hs hn) ?_ fun x=>?_
 ·refine List.Pairwise.filter _ ?_
  decide
 ·rw [hp.mem_iff,uqF_mem,allowedF,List.mem_filter,List.contains_iff_mem]
  constructor
  ·intro hx
   refine ⟨?_,hx⟩
   obtain ⟨f,_,rfl⟩:=List.mem_map.1 hx
   rcases outF_012 d (ofF d (trT f)) with h | h | h<;>rw [h]<;>simp
  ·exact fun h=>h.2
theorem joinL_row {G:Hp} {b n0 n cap:Nat} {l:List Int} {rest:List Value} {w:Bool} (hl:l.length = n) (hc:n≤cap) (hb:n≤140737488355328):SlV u8E (joinL G [⟨b,w, .row n0 n cap (l.map U) rest 5 1⟩]) (.slice (some ⟨b,0,none⟩) n cap) l:=by
 refine PubRow.slV (e:=u8E) (vs:=l.map U) ⟨hc,fun _=>rfl,fun j v hj=>?_⟩ (mapU_flat l) hl hb
 have hj2:j < (l.map U).length:=(List.getElem?_eq_some_iff.1 hj).1
 show rd1 _ b (0 + j) = _
 simp only [rd1,joinL,Nat.beq_refl,cond_true,LB.obj,Nat.zero_add]
 simp only [List.getElem?_toArray,List.getElem?_append_left hj2,hj]
theorem numbers_ne {d:Dv} (hf:faultF d = 0):truL (lookF d)≠[]:=by
 obtain ⟨hm0,hm1⟩:=right_m (fault_right hf)
 refine trK_len (N:=0) _ _ _ (fun j h1' h2'=>?_)
 have hj2:j < d.m.toNat:=by have:(lookF d).d = d:=rfl;rw [this] at h2';omega
 rw [mayL,may_look hm1 hj2]
 intro h0
 have:=votes_emp d j
 rw [h0] at this
 have hcl:cla d j = true:=by rw [← this];rfl
 have hno:¬ 0≤clashF d:=fun hc=>by
  have:faultF d = 9:=by simp [faultF,fault_right hf,hc]
  omega
 refine hno ?_
 rw [clashF]
 cases hfd:(List.range d.m.toNat).find? (cla d) with
 | none =>
  rw [List.find?_eq_none] at hfd
  exact absurd hcl (hfd j (List.mem_range.2 hj2))
 | some k=>simp
def AllV (d:Dv) (v:Value) (G:Hp):Prop:=∃ w,v = .tuple #[w,I (openF d)]∧SlV u8E G w (if openF d = 0 then allowedF d else [])
def tabA4:Tab Try.prog:=Tab.cons 39 _ open39 body39 (Tab.cons 40 _ truths40 body40 (Tab.cons 41 _ numbers41 body41 (Tab.cons 48 _ outcome48 body48 (Tab.nil _))))
theorem allowed23:Sound Try.prog 23 id (grel (args1 dvRd rul) fun d v G=>AllV d v G):=by
 refine comp23.grel tabA4 (ok1 _ _) (fun args G s h=>?_) (fun x v G G' hg ⟨w,h1,h2⟩=>⟨w,h1,h2.grow hg⟩) (fun args G d h=>?_)
 ·obtain ⟨v,rfl,_⟩:=h;simp
 ·obtain ⟨u,rfl,⟨w0,w1,w2,w3,w4,w5,rfl,hd⟩,hr⟩:=h
  have hd0:=hd
  obtain ⟨x0,y0,z0,rfl,la0,ya0⟩:=id hd.a0
  obtain ⟨x1,y1,z1,rfl,la1,ya1⟩:=id hd.a1
  obtain ⟨x2,y2,z2,rfl,ln0,yn0⟩:=id hd.n0
  obtain ⟨x3,y3,z3,rfl,ln1,yn1⟩:=id hd.n1
  obtain ⟨x4,y4,z4,rfl,lps,yps⟩:=id hd.ps
  obtain ⟨x5,y5,z5,rfl,lqs,yqs⟩:=id hd.qs
  (conv=>whnf)
  refine RelP.g (ok1 dvRd rul) (x:=d) ⟨_,rfl,⟨_,_,_,_,_,_,rfl,hd0⟩,hr⟩ (Grow.refl _) (fun v G1 hg1 hq=>W.mk ?_)
  obtain ⟨w,rfl,hw⟩:=hq
  by_cases he:openF d = 0
  rotate_left
  ·rw [if_neg he] at hw
   obtain ⟨w0,w1,w2,w3,w4,w5,p,a,n,c,rfl,hk⟩:=hw
   have hkd:=hk.dv
   obtain ⟨xx0,yy0,zz0,rfl,_,_⟩:=id hkd.a0
   obtain ⟨xx1,yy1,zz1,rfl,_,_⟩:=id hkd.a1
   obtain ⟨xx2,yy2,zz2,rfl,_,_⟩:=id hkd.n0
   obtain ⟨xx3,yy3,zz3,rfl,_,_⟩:=id hkd.n1
   obtain ⟨xx4,yy4,zz4,rfl,_,_⟩:=id hkd.ps
   obtain ⟨xx5,yy5,zz5,rfl,_,_⟩:=id hkd.qs
   (conv=>whnf)
   refine IteP.mk (fun h1=>absurd h1 he) (fun h1=>W.mk ?_)
   (conv=>whnf)
   refine FinP.mk ?_
   unfold AllV
   rw [if_neg he]
   exact ⟨_,rfl,SlV.nil⟩
  rw [if_pos he] at hw
  obtain ⟨hf,h8⟩:=open_fault he
  have h1:=fault_right hf
  obtain ⟨hm0,hm1⟩:=right_m h1
  have hw0:=hw
  obtain ⟨w0,w1,w2,w3,w4,w5,p,a,n,c,rfl,hk⟩:=hw
  have hkd:=hk.dv
  have hl2:(lookF d).d = d:=rfl
  rw [hl2] at hkd
  obtain ⟨xx0,yy0,zz0,rfl,_,_⟩:=id hkd.a0
  obtain ⟨xx1,yy1,zz1,rfl,_,_⟩:=id hkd.a1
  obtain ⟨xx2,yy2,zz2,rfl,_,_⟩:=id hkd.n0
  obtain ⟨xx3,yy3,zz3,rfl,_,_⟩:=id hkd.n1
  obtain ⟨xx4,yy4,zz4,rfl,_,_⟩:=id hkd.ps
  obtain ⟨xx5,yy5,zz5,rfl,_,_⟩:=id hkd.qs
  (conv=>whnf)
  refine IteP.mk (fun _=>W.mk ?_) (fun h=>absurd he h)
  (conv=>whnf)
  refine RelP.g (ok1 lkRd fun _=>True) (x:=lookF d) ⟨_,rfl,hw0,trivial⟩ (Grow.refl _) (fun v G2 hg2 hq=>W.mk ?_)
  obtain ⟨b,rfl,hj⟩:=hq
  (conv=>whnf)
  have hmm:0≤(lookF d).d.m∧(lookF d).d.m≤40:=by rw [hl2];omega
  refine RangeP.of (trY (truL (lookF d))) { α:=Nat × Option (List Int),fr:=[(4, .c (.ptr 8 0)),(6, .c (.ptr 16 0))],k:=fun x=>x.1,H:=fun x=>match x.2 with
     | none=>[(8, .cells .anon ((lkl d (.slice xx0 yy0 zz0) (.slice xx1 yy1 zz1) (.slice xx2 yy2 zz2) (.slice xx3 yy3 zz3) (.slice xx4 yy4 zz4) (.slice xx5 yy5 zz5) p a n c).map .val) 78),(16, .cells .anon [.val (.slice none 0 0)] 50)]
     | some l=>[(8, .cells .anon ((lkl d (.slice xx0 yy0 zz0) (.slice xx1 yy1 zz1) (.slice xx2 yy2 zz2) (.slice xx3 yy3 zz3) (.slice xx4 yy4 zz4) (.slice xx5 yy5 zz5) p a n c).map .val) 78),(16, .cells .anon [.row 17 l.length] 50),(17, .row none l.length (l.map U) 5 1)],ok:=fun x _=>(x.2 = none→x.1 = 0)∧∀ l,x.2 = some l→0 < x.1∧l = uqF ((outsF d).take x.1)∧l≠[]∧l.length≤3 }
   (0,none) (SoundFn.of body66 (truths66 hmm b)) (fun l=>⟨rfl,hj,rfl⟩) (fun y hy=>by obtain ⟨f,_,rfl⟩:=List.mem_map.1 hy;rfl) rfl
   (HeadP.of [] ⟨rfl,rfl,trivial⟩ ⟨rfl,rfl,trivial⟩) ⟨fun _=>rfl,fun l h=>by cases h⟩ ⟨rfl,fun x=>by rcases x with ⟨i,_ | l⟩<;>rfl⟩ (fun _ _ _ _ h=>h) (fun x y G3 hg3 hx hy=>W.mk ?_) (fun x G3 hg3 hx hkk=>W.mk ?_)
  ·obtain ⟨i,sh⟩:=x
   obtain ⟨hx0,hx1⟩:=hx
   dsimp only at hx0 hx1 hy
   rw [List.getElem?_map] at hy
   obtain ⟨f,hf',rfl⟩:=Option.map_eq_some_iff.1 hy
   have hw3:=(hw0.grow hg2).grow hg3
   have hfm:f∈truL (lookF d):=List.mem_of_getElem? hf'
   have hout:(outsF d)[i]? = some (outF d (ofF d (trT f))):=by rw [outsF,List.getElem?_map,hf'];rfl
   obtain ⟨hil,hie⟩:=List.getElem?_eq_some_iff.1 hout
   have hsn:uqF ((outsF d).take (i + 1)) = uqS (uqF ((outsF d).take i)) (outF d (ofF d (trT f))):=by rw [take_snoc hil,hie,uqF_snoc]
   obtain ⟨o1,o2,o3,o4⟩:=ofF_le (trT f) h1
   cases sh with
   | none =>
    have hi0:=hx0 rfl
    subst hi0
    (conv=>whnf)
    refine ScaP.g (ok2 lkRd trRd fun x t=>∃ d,x = lookF d∧rightD d = true∧Vts d t) (x:=(lookF d,trT f)) ⟨_,_,rfl,hw3,⟨f,rfl,rfl⟩,d,rfl,h1,tru_vts h1 hfm⟩ (fun v hv=>W.mk ?_)
    dsimp only at hv
    rw [hl2] at hv
    subst hv
    (conv=>whnf)
    refine ScaP.g (ok2 lkRd nmRd fun x y=>∃ d,x = lookF d∧rightD d = true∧0≤d.rule∧0≤y.a∧y.a≤1000∧0≤y.n∧y.n≤1000) (x:=(lookF d,ofF d (trT f))) ⟨_,_,rfl,hw3,rfl,d,rfl,h1,hr.1,o1,o2,o3,o4⟩ (fun v hv=>W.mk ?_)
    subst hv
    dsimp only
    rw [hl2]
    generalize outF d (ofF d (trT f)) = o at hout hie hsn
    (conv=>whnf)
    refine CallN.mk ⟨_,con49,body49,W.mk ?_⟩
    (conv=>whnf)
    refine ScaP.g (ok2 (slRd u8E) u8Rd fun _ _=>True) (x:=([],o)) ⟨_,_,rfl,SlV.nil,rfl,trivial⟩ (fun v hv=>W.mk ?_)
    have hv:v = .bool false:=hv
    subst hv
    (conv=>whnf)
    refine ForkP.mk (fun h=>by cases h) (fun _=>W.mk ?_)
    (conv=>whnf)
    repeat' (refine ob ?_ ?_;(first | trivial | omega | (simp only [inR];omega) | exact ble (by rfl) | exact SlR.some ‹_› (by omega));(conv=>whnf))
    refine RoundR.mk ⟨(1,some [o]),⟨[(17,some 34)],⟨rfl,rfl,rfl,trivial⟩,rfl,rfl⟩,⟨fun h=>(by cases h),fun l h=>?_⟩,rfl⟩
    cases h
    refine ⟨Nat.one_pos, ?_,by simp,by simp⟩
    rw [show (1:Nat) = 0 + 1 from rfl,hsn];rfl
   | some l =>
    obtain ⟨hi0,hl,hlne,hl3⟩:=hx1 l rfl
    (conv=>whnf)
    refine ScaP.g (ok2 lkRd trRd fun x t=>∃ d,x = lookF d∧rightD d = true∧Vts d t) (x:=(lookF d,trT f)) ⟨_,_,rfl,hw3,⟨f,rfl,rfl⟩,d,rfl,h1,tru_vts h1 hfm⟩ (fun v hv=>W.mk ?_)
    dsimp only at hv
    rw [hl2] at hv
    subst hv
    (conv=>whnf)
    refine ScaP.g (ok2 lkRd nmRd fun x y=>∃ d,x = lookF d∧rightD d = true∧0≤d.rule∧0≤y.a∧y.a≤1000∧0≤y.n∧y.n≤1000) (x:=(lookF d,ofF d (trT f))) ⟨_,_,rfl,hw3,rfl,d,rfl,h1,hr.1,o1,o2,o3,o4⟩ (fun v hv=>W.mk ?_)
    subst hv
    dsimp only
    rw [hl2]
    have ho2:=outF_012 d (ofF d (trT f))
    generalize outF d (ofF d (trT f)) = o at hout hie hsn ho2
    have hln:l.length≠0:=fun h=>hlne (List.length_eq_zero_iff.1 h)
    (conv=>whnf)
    refine PubP.opn hln (fun bb cap rest g1 g2 g3=>W.mk ?_)
    (conv=>whnf)
    refine CallN.mk ⟨_,Sound.lendS con49 (fun v=>v = .bool (l.contains o)),body49,W.mk ?_⟩
    (conv=>whnf)
    have hcap:l.length≤cap:=g1
    have hS:SlV u8E (joinL G3 [⟨bb,false, .row l.length l.length cap (l.map U) rest 5 1⟩]) (.slice (some ⟨bb,0,none⟩) l.length cap) l:=joinL_row rfl hcap (by omega)
    refine StP.mk ⟨[(17,⟨bb,false, .row l.length l.length cap (l.map U) rest 5 1⟩)],⟨⟨_,_,rfl,rfl,Nat.le_refl _,by simp,g3,g1,g2,fun v hv=>by obtain ⟨x,_,rfl⟩:=List.mem_map.1 hv;rfl⟩,trivial⟩,by simp,⟨fun x hx=>by simp at hx;subst hx;rfl,fun _=>⟨⟨(l,o),_,_,rfl,hS,rfl,trivial⟩,fun v ⟨y,hy,e⟩=>?_⟩⟩,fun v ns G4 hg4 hpost=>W.mk ?_⟩
    ·have:y = (l,o):=(ok2 (slRd u8E) u8Rd fun _ _=>True).uniq _ _ _ _ hy ⟨_,_,rfl,hS,rfl,trivial⟩
     subst this;exact e
    obtain ⟨_,rfl⟩:=hpost
    (conv=>whnf)
    refine ForkP.mk (fun hc=>W.mk ?_) (fun hc=>W.mk ?_)<;>(conv=>whnf)
    ·refine RoundR.mk ⟨(i + 1,some l),⟨[],⟨rfl,rfl,rfl,trivial⟩,rfl,rfl⟩,⟨fun h=>(by cases h),fun l' h=>?_⟩,rfl⟩
     cases h
     refine ⟨Nat.succ_pos _, ?_,hlne,hl3⟩
     rw [hsn, ← hl,uqS,if_pos hc]
    ·refine ForgP.drop (W.mk ?_)
     (conv=>whnf)
     have hlt3:l.length < 3:=by
      have hnd:(l++[o]).Nodup:=by
       have:=uqF_nodup ((outsF d).take (i + 1))
       rw [hsn, ← hl,uqS,if_neg (by rw [hc];simp)] at this
       exact this
      have hsub:∀ x∈l++[o],x∈([0,1,2]:List Int):=fun x hx=>by
       rcases List.mem_append.1 hx with hx | hx
       ·rw [hl,uqF_mem] at hx
        obtain ⟨f',_,rfl⟩:=List.mem_map.1 (List.mem_of_mem_take hx)
        rcases outF_012 d (ofF d (trT f')) with h | h | h<;>rw [h]<;>simp
       ·simp at hx;subst hx
        rcases ho2 with h | h | h<;>rw [h]<;>simp
      have:=len_sub _ _ hnd hsub
      simp at this;omega
     repeat' (first | (refine OblP.mk rfl (W.mk ?_);(conv=>whnf)) | (refine ob ?_ ?_;(first | trivial | omega | (simp only [inR];omega) | exact ble (by rfl) | exact SlR.some ‹_› (by omega));(conv=>whnf)))
     have e1:OB.row none (l.length + 1) (l.map U++[U o]) 5 1 = OB.row none (l++[o]).length ((l++[o]).map U) 5 1:=by simp
     have e2:OB.cells .anon [S1.row 34 (l.length + 1)] 50 = OB.cells .anon [S1.row 34 (l++[o]).length] 50:=by simp
     refine RoundR.mk ⟨(i + 1,some (l++[o])),⟨[(17,some 34)],⟨rfl,e2.symm,e1.symm,trivial⟩,rfl,rfl⟩,⟨fun h=>(by cases h),fun l' h=>?_⟩,rfl⟩
     cases h
     refine ⟨Nat.succ_pos _, ?_,by simp,by simp;omega⟩
     rw [hsn, ← hl,uqS,if_neg (by rw [hc];simp)]
  ·obtain ⟨i,sh⟩:=x
   obtain ⟨hx0,hx1⟩:=hx
   dsimp only at hx0 hx1 hkk
   have hnl:(outsF d).length = i:=by rw [outsF,List.length_map,hkk,List.length_map]
   have hpos:0 < i:=by
    rw [← hnl,outsF,List.length_map,List.length_pos_iff]
    exact numbers_ne hf
   cases sh with
   | none=>exact absurd (hx0 rfl) (by omega)
   | some l =>
    obtain ⟨_,hl,hlne,hl3⟩:=hx1 l rfl
    rw [← hnl,List.take_length] at hl
    have hln:l.length≠0:=fun h=>hlne (List.length_eq_zero_iff.1 h)
    (conv=>whnf)
    refine PubP.opn hln (fun bb cap rest g1 g2 g3=>W.mk ?_)
    (conv=>whnf)
    refine CallN.mk ⟨_,sort50,body50,W.mk ?_⟩
    (conv=>whnf)
    refine StP.mk ⟨[(17,srtL bb l.length l.length cap l rest)],⟨⟨_,_,rfl,rfl,Nat.le_refl _,by simp,g3,g1,g2,fun v hv=>by obtain ⟨x,_,rfl⟩:=List.mem_map.1 hv;rfl⟩,trivial⟩,by simp,⟨bb,_,_,cap,l,rest,rfl,rfl,by omega,hl3,rfl⟩,fun v ns G4 hg4 hpost=>W.mk ?_⟩
    obtain ⟨b',n0',n',cap',l',rest',l2,q1,q2,rfl,rfl,hp,hs⟩:=hpost
    obtain ⟨rfl,rfl,rfl,rfl,rfl,rfl⟩:=srtL_inj q2
    have hl2':l2.length = l'.length:=hp.length_eq
    have e1:(l2.map U++rest').take (l'.length * 1) = l2.map U:=by rw [Nat.mul_one];exact List.take_left' (by simpa using hl2')
    have hal:l2 = allowedF d:=allowed_eq (by rw [← hl];exact hp) hs
    (conv=>whnf)
    refine PubP.mk (fun ra rc G5 hg5 hpr=>W.mk ?_)
    (conv=>whnf)
    refine FinP.mk ?_
    unfold AllV
    rw [if_pos he,he]
    rw [e1] at hpr
    exact ⟨_,rfl,hpr.slV (by rw [← hal];exact mapU_flat l2) (by rw [← hal];exact hl2') (by omega)⟩
end Go.Proofs.Ytgpfejgohclheaa

namespace Go.Proofs.Ytgpfejgohclheaa
open Go.Pal
set_option maxRecDepth 100000
theorem und50:Try.prog.underlying 50 = some (.slice 5):=by kernel_rfl
theorem clone59:Sound Try.prog 59 id (gown 5 1 (args1 (slRd u8E) fun l=>l.length≤8796093022207) fun l n vs=>Row u8E l n vs):=by
 refine comp59.gown (Tab.nil _) (ok1 _ _) (fun args G s h=>?_) (fun args G l h=>?_)
 ·obtain ⟨v,rfl,_⟩:=h;simp
 ·obtain ⟨v,rfl,⟨a,n,c,rfl,hl,hn⟩,hb⟩:=h
  have hlen:=hl.len
  obtain ⟨q1,q2,q3⟩:=hl.all
  (conv=>whnf)
  refine PurP.of _ (pur_sl_nil und50 a n c 0 0) (W.mk ?_)
  (conv=>whnf)
  refine ForkP.mk (fun hf=>W.mk ?_) (fun hf=>W.mk ?_)<;>(conv=>whnf)
  ·refine OwnFin.mk ?_
   have:l = []:=by
    by_cases h0:n = 0
    ·exact List.eq_nil_of_length_eq_zero (by omega)
    ·have:=hl.some h0;rw [this] at hf;cases hf
   subst this;exact Row.nil
  ·refine OblP.mk (fun h=>hl.some h) (W.mk ?_);(conv=>whnf)
   refine RdP.at q1 q2 (W.mk ?_);(conv=>whnf)
   refine OblP.mk q3 (W.mk ?_);(conv=>whnf)
   refine OblP.mk rfl (W.mk ?_);(conv=>whnf)
   refine OblP.mk (by omega) (W.mk ?_);(conv=>whnf)
   refine OwnFin.mk ⟨rfl,rfl,rfl, ?_⟩
   simp only [Nat.zero_add,List.nil_append]
   exact Row.of_all l hlen
theorem slc88 (a:Addr) (h:Int) (h0:0≤h) (h1:h≤40):∀ w,((POp.slcS 88 false true).sem [.pointer (some a),I h]).run Try.prog w = .ok (.slice (some a) h.toNat 40) w:=fun w=>by
 have e1:(POp.slcS 88 false true).sem [.pointer (some a),I h] = Instr.sliceAt 88 (.pointer (some a)) none (some (I h)) none:=rfl
 rw [e1]
 have ha:Try.prog.arrayLen 88 = 40:=by kernel_rfl
 have he:Try.prog.elem 88 = 5:=by kernel_rfl
 have hu:Try.prog.underlying 88 = some (.array 40 5):=by kernel_rfl
 have hs:=run_sizeOf' (P:=Try.prog) (W:=w) (t:=5) (n:=1) (by kernel_rfl)
 rw [run_sliceAt_array_h w 88 a (by rw [ha,he];exact hu) .i64 h h0 (by rw [ha];exact h1),ha,he,hs]
 have h2:a.add 0 = a:=by cases a;simp [Addr.add]
 simp [slicedAt,Result.andThen,h2]
abbrev outT (d:Dv) (f:Nat→Int):Int:=outF d (ofF d (trT f))
def wtF (d:Dv) (o:Int):Option (Nat→Int):=(truL (lookF d)).find? fun f=>decide (outT d f = o)
def witL (d:Dv) (o:Int):List Int:=match wtF d o with
 | some f=>(List.range d.m.toNat).map f
 | none=>[]
def witE (d:Dv) (o:Int):Int:=if rightD d then (if 2 < o then 2 else if openF d = 0 then (if (wtF d o).isSome then 0 else 7) else openF d) else 1
def WitV (d:Dv) (o:Int) (v:Value) (G:Hp):Prop:=∃ w,v = .tuple #[w,I (witE d o)]∧SlV u8E G w (if witE d o = 0 then witL d o else [])
theorem find_upto {α:Type} {p:α→Bool}:∀ {l:List α} {i:Nat} {x:α},(∀ k:Nat,k < i→∀ y,l[k]? = some y→p y = false)→l[i]? = some x→p x = true→l.find? p = some x
 | [],i,x,_,hi,_=>by simp at hi
 | y :: r,0,x,_,hi,hp=>by simp at hi;subst hi;simp [List.find?_cons,hp]
 | y :: r,i + 1,x,h,hi,hp=>by
  have hy:=h 0 (Nat.succ_pos i) y (by simp)
  rw [List.find?_cons,hy]
  exact find_upto (i:=i) (fun k hk z hz=>h (k + 1) (by omega) z (by simpa using hz)) (by simpa using hi) hp
theorem find_none_all {α:Type} {p:α→Bool} {l:List α} (h:∀ (k:Nat) y,l[k]? = some y→p y = false):l.find? p = none:=by
 rw [List.find?_eq_none]
 intro x hx
 obtain ⟨k,hk⟩:=List.getElem?_of_mem hx
 rw [h k x hk];simp
def tabWt:Tab Try.prog:=Tab.cons 55 _ valid55 body55 (Tab.cons 59 _ clone59 body59 tabA4)
theorem wit31:Sound Try.prog 31 id (grel (args2 dvRd u8Rd fun d _=>rul d) fun x v G=>WitV x.1 x.2 v G):=by
 refine comp31.grel tabWt (ok2 _ _ _) (fun args G s h=>?_) (fun x v G G' hg ⟨w,h1,h2⟩=>⟨w,h1,h2.grow hg⟩) (fun args G x h=>?_)
 ·obtain ⟨v,w,rfl,_⟩:=h;simp
 ·obtain ⟨d,o⟩:=x
  obtain ⟨u,v,rfl,⟨w0,w1,w2,w3,w4,w5,rfl,hd⟩,rfl,hr⟩:=h
  dsimp only at hd hr
  have hd0:=hd
  have bad:∀ e G,witE d o = e→e≠0→WitV d o (.tuple #[.slice none 0 0,I e]) G:=fun e G h h0=>by
   unfold WitV
   rw [h,if_neg h0]
   exact ⟨_,rfl,SlV.nil⟩
  obtain ⟨x0,y0,z0,rfl,la0,ya0⟩:=id hd.a0
  obtain ⟨x1,y1,z1,rfl,la1,ya1⟩:=id hd.a1
  obtain ⟨x2,y2,z2,rfl,ln0,yn0⟩:=id hd.n0
  obtain ⟨x3,y3,z3,rfl,ln1,yn1⟩:=id hd.n1
  obtain ⟨x4,y4,z4,rfl,lps,yps⟩:=id hd.ps
  obtain ⟨x5,y5,z5,rfl,lqs,yqs⟩:=id hd.qs
  dsimp only
  (conv=>whnf)
  refine ScaP.g (ok1 dvRd rul) (x:=d) ⟨_,rfl,⟨_,_,_,_,_,_,rfl,hd0⟩,hr⟩ (fun v hv=>W.mk ?_)
  subst hv
  (conv=>whnf)
  refine ForkP.mk (fun h1=>W.mk ?_) (fun h1=>W.mk ?_)<;>(conv=>whnf)
  rotate_left
  ·exact FinP.mk (bad 1 _ (by simp [witE,h1]) (by decide))
  refine IteP.mk (fun h2=>W.mk ?_) (fun h2=>W.mk ?_)<;>(conv=>whnf)
  ·exact FinP.mk (bad 2 _ (by simp [witE,h1,h2]) (by decide))
  refine RelP.g (ok1 dvRd rul) (x:=d) ⟨_,rfl,⟨_,_,_,_,_,_,rfl,hd0⟩,hr⟩ (Grow.refl _) (fun v G1 hg1 hq=>W.mk ?_)
  obtain ⟨w,rfl,hw⟩:=hq
  by_cases he:openF d = 0
  rotate_left
  ·rw [if_neg he] at hw
   obtain ⟨w0,w1,w2,w3,w4,w5,p,a,n,c,rfl,hk⟩:=hw
   have hkd:=hk.dv
   obtain ⟨xx0,yy0,zz0,rfl,_,_⟩:=id hkd.a0
   obtain ⟨xx1,yy1,zz1,rfl,_,_⟩:=id hkd.a1
   obtain ⟨xx2,yy2,zz2,rfl,_,_⟩:=id hkd.n0
   obtain ⟨xx3,yy3,zz3,rfl,_,_⟩:=id hkd.n1
   obtain ⟨xx4,yy4,zz4,rfl,_,_⟩:=id hkd.ps
   obtain ⟨xx5,yy5,zz5,rfl,_,_⟩:=id hkd.qs
   (conv=>whnf)
   refine IteP.mk (fun h1=>absurd h1 he) (fun _=>W.mk ?_)
   (conv=>whnf)
   exact FinP.mk (bad _ _ (by simp [witE,h1,h2,he]) he)
  rw [if_pos he] at hw
  obtain ⟨hf,h8⟩:=open_fault he
  obtain ⟨hm0,hm1⟩:=right_m h1
  have hw0:=hw
  obtain ⟨w0,w1,w2,w3,w4,w5,p,a,n,c,rfl,hk⟩:=hw
  have hkd:=hk.dv
  have hl2:(lookF d).d = d:=rfl
  rw [hl2] at hkd
  obtain ⟨xx0,yy0,zz0,rfl,_,_⟩:=id hkd.a0
  obtain ⟨xx1,yy1,zz1,rfl,_,_⟩:=id hkd.a1
  obtain ⟨xx2,yy2,zz2,rfl,_,_⟩:=id hkd.n0
  obtain ⟨xx3,yy3,zz3,rfl,_,_⟩:=id hkd.n1
  obtain ⟨xx4,yy4,zz4,rfl,_,_⟩:=id hkd.ps
  obtain ⟨xx5,yy5,zz5,rfl,_,_⟩:=id hkd.qs
  (conv=>whnf)
  refine IteP.mk (fun _=>W.mk ?_) (fun h=>absurd he h)
  (conv=>whnf)
  refine RelP.g (ok1 lkRd fun _=>True) (x:=lookF d) ⟨_,rfl,hw0,trivial⟩ (Grow.refl _) (fun v G2 hg2 hq=>W.mk ?_)
  obtain ⟨b,rfl,hj⟩:=hq
  (conv=>whnf)
  have hmm:0≤(lookF d).d.m∧(lookF d).d.m≤40:=by rw [hl2];omega
  refine RangeP.of (trY (truL (lookF d))) { α:=Nat,fr:=[(3, .c (.ptr 1 0)),(4, .c (.ptr 2 0)),(5, .c (.ptr 3 0)),(6, .c (.ptr 20 0))],k:=fun x=>x,H:=fun x=>[(1, .cells .anon [.val (U o)] 5),(2, .cells .anon [.val (.slice none 0 0)] 50),(3, .cells .anon [.val (I 0)] 30),(20, .cells .anon ((lkl d (.slice xx0 yy0 zz0) (.slice xx1 yy1 zz1) (.slice xx2 yy2 zz2) (.slice xx3 yy3 zz3) (.slice xx4 yy4 zz4) (.slice xx5 yy5 zz5) p a n c).map .val) 78)],ok:=fun x _=>∀ k,k < x→∀ y,(truL (lookF d))[k]? = some y→decide (outT d y = o) = false }
   0 (SoundFn.of body66 (truths66 hmm b)) (fun l=>⟨rfl,hj,rfl⟩) (fun y hy=>by obtain ⟨f,_,rfl⟩:=List.mem_map.1 hy;rfl) rfl
   (HeadP.of [] ⟨rfl,rfl,rfl,rfl,trivial⟩ ⟨rfl,rfl,rfl,rfl,trivial⟩) (fun k hk=>absurd hk (Nat.not_lt_zero _)) ⟨rfl,fun _=>rfl⟩ (fun _ _ _ _ h=>h) (fun x y G3 hg3 hx hy=>W.mk ?_) (fun x G3 hg3 hx hkk=>W.mk ?_)
  ·dsimp only at hx hy
   rw [List.getElem?_map] at hy
   obtain ⟨f,hf',rfl⟩:=Option.map_eq_some_iff.1 hy
   have hw3:=(hw0.grow hg2).grow hg3
   have hfm:f∈truL (lookF d):=List.mem_of_getElem? hf'
   obtain ⟨o1,o2,o3,o4⟩:=ofF_le (trT f) h1
   (conv=>whnf)
   refine ScaP.g (ok2 lkRd trRd fun x t=>∃ d,x = lookF d∧rightD d = true∧Vts d t) (x:=(lookF d,trT f)) ⟨_,_,rfl,hw3,⟨f,rfl,rfl⟩,d,rfl,h1,tru_vts h1 hfm⟩ (fun v hv=>W.mk ?_)
   dsimp only at hv
   rw [hl2] at hv
   subst hv
   (conv=>whnf)
   refine ScaP.g (ok2 lkRd nmRd fun x y=>∃ d,x = lookF d∧rightD d = true∧0≤d.rule∧0≤y.a∧y.a≤1000∧0≤y.n∧y.n≤1000) (x:=(lookF d,ofF d (trT f))) ⟨_,_,rfl,hw3,rfl,d,rfl,h1,hr.1,o1,o2,o3,o4⟩ (fun v hv=>W.mk ?_)
   subst hv
   dsimp only
   rw [hl2]
   (conv=>whnf)
   refine IteP.mk (fun h3=>W.mk ?_) (fun h3=>W.mk ?_)<;>(conv=>whnf)
   ·refine PubAnyP.mk ⟨[30], ?_⟩
    (conv=>whnf)
    intro bt G4 hg4 hct
    refine W.mk ?_
    (conv=>whnf)
    refine PurP.of _ (slc88 ⟨bt,0,none⟩ d.m (by omega) hm1) (W.mk ?_)
    (conv=>whnf)
    have hsl:SlV u8E G4 (.slice (some ⟨bt,0,none⟩) d.m.toNat 40) ((List.range d.m.toNat).map f):=by
     refine PubRow.slV (e:=u8E) (vs:=((List.range d.m.toNat).map f).map U) ⟨by omega,fun _=>rfl,fun j v hj=>?_⟩ (mapU_flat _) (by simp) (by omega)
     have hj2:j < d.m.toNat:=by have:=(List.getElem?_eq_some_iff.1 hj).1;simpa using this
     refine hct j v ?_
     have h40:j < 40:=by omega
     have e:(trl f)[j]? = some (U (f j)):=by simp [trl,h40]
     have e2:v = U (f j):=by simp [hj2] at hj;exact hj.symm
     rw [e2];exact e
    refine OwnP.g (ok1 (slRd u8E) fun l=>l.length≤8796093022207) (x:=(List.range d.m.toNat).map f) ⟨_,rfl,hsl,by show ((List.range d.m.toNat).map f).length≤_;simp;omega⟩ (Grow.refl _) (fun n1 vs1 G5 hg5 hrow=>W.mk ?_)
    have hrn:=hrow.n
    (conv=>whnf)
    refine ExitR.mk (fun G6 hg6=>W.mk ?_)
    (conv=>whnf)
    refine PubP.mk (fun ra rc G7 hg7 hpr=>W.mk ?_)
    (conv=>whnf)
    refine FinP.mk ?_
    have hwt:wtF d o = some f:=find_upto hx hf' (by simpa using h3)
    have hE:witE d o = 0:=by simp [witE,h1,h2,he,hwt]
    unfold WitV
    rw [hE,if_pos rfl,witL,hwt]
    exact ⟨_,rfl,hrow.pub hpr (by simp at hrn;omega)⟩
   ·refine RoundR.mk ⟨x + 1,⟨[],⟨rfl,rfl,rfl,rfl,trivial⟩,rfl,rfl⟩,fun k hk y hy2=>?_,rfl⟩
    rcases Nat.lt_succ_iff_lt_or_eq.1 hk with h | rfl
    ·exact hx k h y hy2
    ·rw [hf'] at hy2;cases hy2
     simpa using h3
  ·dsimp only at hx hkk
   have hwt:wtF d o = none:=find_none_all fun k y hy=>hx k (by
    have:=(List.getElem?_eq_some_iff.1 hy).1
    rw [List.length_map] at hkk;omega) y hy
   (conv=>whnf)
   exact FinP.mk (bad 7 _ (by simp [witE,h1,h2,he,hwt]) (by decide))
end Go.Proofs.Ytgpfejgohclheaa

namespace Go.Proofs.Ytgpfejgohclheaa
open Go.Pal
set_option maxRecDepth 100000
theorem u88:Try.prog.underlying 88 = some (.array 40 5):=by kernel_rfl
theorem u5:Try.prog.underlying 5 = some (.int .u8):=by kernel_rfl
theorem c88:Try.prog.cellsOf 88 = 40:=by kernel_rfl
theorem c5:Try.prog.cellsOf 5 = 1:=by kernel_rfl
theorem mapM_all {α β:Type} {g:α→Option β} {h:α→β}:∀ {l:List α},(∀ i∈l,g i = some (h i))→l.mapM g = some (l.map h)
 | [],_=>rfl
 | x :: r,hl=>by
  rw [List.mapM_cons,hl x (by simp),mapM_all (l:=r) (fun i hi=>hl i (by simp [hi]))];rfl
abbrev Tr40:Type:={ t:List Int // t.length = 40 }
abbrev Tr40.f (t:Tr40) (i:Nat):Int:=t.1.getD i 0
abbrev Tr40.val (t:Tr40):Value:=trV t.f
def Tr40.of (f:Nat→Int):Tr40:=⟨trT f,by simp⟩
theorem Tr40.of_f {f:Nat→Int} {i:Nat} (h:i < 40):(Tr40.of f).f i = f i:=trT_get h
theorem trl_congr {f g:Nat→Int} (h:∀ i,i < 40→f i = g i):trl f = trl g:=by
 apply List.map_congr_left
 intro i hi
 rw [h i (List.mem_range.1 hi)]
theorem Tr40.ext {x y:Tr40} (h:∀ i,i < 40→x.f i = y.f i):x = y:=by
 obtain ⟨l,hl⟩:=x
 obtain ⟨m,hm⟩:=y
 congr 1
 apply List.ext_getElem (by omega)
 intro i h1 h2
 have:=h i (by omega)
 simp only [Tr40.f,List.getD_eq_getElem?_getD,List.getElem?_eq_getElem h1,List.getElem?_eq_getElem h2,Option.getD_some] at this
 exact this
theorem trV_inj {f g:Nat→Int} (h:trV f = trV g):∀ i,i < 40→f i = g i:=fun i hi=>by
 have h2:trl f = trl g:=congrArg Array.toList (Value.agg.inj h)
 have:=congrArg (·[i]?) h2
 simp [trl,hi] at this
 exact this
theorem Tr40.val_inj (x y:Tr40) (h:x.val = y.val):x = y:=Tr40.ext (trV_inj h)
theorem key88 {f:Nat→Int} (hf:∀ i,i < 40→0≤f i∧f i≤255):∃ l,keyOf Try.prog 88 (trV f) = some l:=by
 have kt:Try.prog.keyType 88 = true:=by kernel_rfl
 obtain ⟨m,hs⟩:∃ m,Try.prog.types.size + 1 = m + 2:=by
  have hs:Try.prog.types.size + 1 = (Try.prog.types.size - 1) + 2:=by kernel_rfl
  exact ⟨_,hs⟩
 have hf1:(trV f).formed Try.prog 88 = true:=by
  simp only [Value.formed,u88,c88];rfl
 have h5:∀ i,i < 40→Try.prog.keyLits (m + 1) 5 [U (f i)] = some [.int .u8 (f i)]:=fun i hi=>by
  simp only [Program.keyLits,u5]
  rw [if_pos ⟨trivial,by simp only [Lit.wf,Bool.and_eq_true,decide_eq_true_eq];exact hf i hi⟩]
 unfold keyOf
 simp only [u88,kt,hf1,Bool.and_self,if_true]
 rw [hs]
 unfold Program.keyLits
 simp only [u88]
 rw [if_pos (by rw [c88];simp [Value.cells])]
 rw [mapM_all (h:=fun i=>[.int .u8 (f i)]) (fun i hi=>?_)]
 ·exact ⟨_,rfl⟩
 ·have hi:=List.mem_range.1 hi
  rw [c5,Nat.mul_one]
  have e:(((trV f).cells.toList.drop i).take 1) = [U (f i)]:=by
   have h2:(trl f)[i]? = some (U (f i)):=by simp [trl,hi]
   obtain ⟨hlt,e⟩:=List.getElem?_eq_some_iff.1 h2
   show ((trl f).drop i).take 1 = _
   rw [List.drop_eq_getElem_cons hlt,e];rfl
  rw [e];exact h5 i hi
theorem law88:Maps.Keyed Try.prog 88:=Maps.Keyed.of_law (deep_law (m:=3) (by decide) (by kernel_rfl) (by kernel_rfl) (by rw [u88]))
theorem same88 (f:Nat→Int):Instr.sameBits 10000 (trV f) (trV f) = true:=by
 have:∀ l:List Value,(∀ v∈l, ∃ a,v = U a)→(l.zip l).all (fun (x,y)=>Instr.sameBits 9999 x y) = true:=by
  intro l h
  induction l with
  | nil=>rfl
  | cons x r ih =>
   obtain ⟨a,rfl⟩:=h x (by simp)
   simp only [List.zip_cons_cons,List.all_cons,ih (fun v hv=>h v (by simp [hv])),Bool.and_true]
   simp [Instr.sameBits]
 show Instr.sameBits (9999 + 1) (.agg _) (.agg _) = true
 simp only [Instr.sameBits,beq_self_eq_true,Bool.true_and]
 exact this _ (fun v hv=>by
  have hv:v∈trl f:=hv
  obtain ⟨i,_,rfl⟩:=List.mem_map.1 hv
  exact ⟨_,rfl⟩)

/-! ### A truth with its outcome -/
abbrev Tl:Type:=Tr40 × Int
abbrev tll (f:Nat→Int) (o:Int):List Value:=trl f++[U o]
def toldE:El Tl:=⟨41,fun p=>tll p.1.f p.2,fun {x y} h=>by
  obtain ⟨h1,h2⟩:=List.append_inj h (by simp)
  have h2:U x.2 = U y.2:=by simpa using h2
  have e1:x.1 = y.1:=Tr40.val_inj _ _ (congrArg (fun l:List Value=>Value.agg l.toArray) h1)
  have e2:x.2 = y.2:=by injection h2
  exact Prod.ext e1 e2,fun _=>by simp [tll],fun p v hv=>by
  rcases List.mem_append.1 hv with hv | hv
  ·obtain ⟨i,_,rfl⟩:=List.mem_map.1 hv;rfl
  ·simp at hv;subst hv;rfl⟩
theorem tll_at {f:Nat→Int} {o:Int} {i off:Nat} (hi:i < 40) (ho:off = i):(((tll f o).map S1.val).drop off).take 1 = [.val (U (f i))]:=by
 subst ho
 refine one_at ?_
 rw [List.getElem?_map,tll,List.getElem?_append_left (by simp;omega)]
 simp [trl,hi]
def ansT (p:Tl) (ms:List Int):Tr40:=Tr40.of fun j=>if ms.contains (j:Int) then p.1.f j else 0
def decAt (ts:List Tl) (ms:List Int) (i:Nat):Prop:=∀ k,k < i→∀ x y,ts[i]? = some x→ts[k]? = some y→ansT x ms = ansT y ms→x.2 = y.2
def decP (ts:List Tl) (ms:List Int):Prop:=∀ i,decAt ts ms i
open Classical in
noncomputable def decF (ts:List Tl) (ms:List Int):Bool:=decide (decP ts ms)
open Classical in
theorem decF_true {ts:List Tl} {ms:List Int}:decF ts ms = true↔decP ts ms:=by rw [decF,decide_eq_true_eq]
open Classical in
theorem decF_false {ts:List Tl} {ms:List Int}:decF ts ms = false↔¬ decP ts ms:=by rw [decF,decide_eq_false_iff_not]
def mmF (ts:List Tl) (ms:List Int) (k:Tr40):Option Value:=(ts.find? fun p=>decide (ansT p ms = k)).map fun p=>U p.2
theorem mmF_snoc {ts:List Tl} {ms:List Int} {p:Tl} (h:mmF ts ms (ansT p ms) = none∨mmF ts ms (ansT p ms) = some (U p.2)):(fun y=>if y = ansT p ms then some (U p.2) else mmF ts ms y) = mmF (ts++[p]) ms:=by
 funext y
 have e0:mmF (ts++[p]) ms y = ((ts.find? fun p=>decide (ansT p ms = y)).or ([p].find? fun p=>decide (ansT p ms = y))).map fun p=>U p.2:=by rw [mmF,List.find?_append]
 rw [e0]
 by_cases hy:y = ansT p ms
 ·subst hy
  rw [if_pos rfl]
  rcases h with h | h
  ·rw [mmF,Option.map_eq_none_iff] at h
   rw [h];simp
  ·rw [mmF,Option.map_eq_some_iff] at h
   obtain ⟨q,hq,e⟩:=h
   rw [hq]
   simp only [Option.some_or,Option.map_some,e]
 ·rw [if_neg hy,mmF]
  cases hq:ts.find? fun p=>decide (ansT p ms = y) with
  | some q=>simp
  | none=>simp [List.find?_cons,show ¬ ansT p ms = y from fun e=>hy e.symm]
theorem mm_none {ts:List Tl} {ms:List Int} {x:Tl} (h:mmF ts ms (ansT x ms) = none):∀ y∈ts,ansT y ms≠ansT x ms:=fun y hy e=>by
 rw [mmF,Option.map_eq_none_iff,List.find?_eq_none] at h
 exact h y hy (by simp [e])
theorem mm_some {ts:List Tl} {ms:List Int} {x:Tl} {v:Value} (h:mmF ts ms (ansT x ms) = some v):∃ y∈ts,ansT y ms = ansT x ms∧v = U y.2:=by
 rw [mmF,Option.map_eq_some_iff] at h
 obtain ⟨y,hy,e⟩:=h
 exact ⟨y,List.mem_of_find?_eq_some hy,by simpa using List.find?_some hy,e.symm⟩
theorem decide54:Sound Try.prog 54 id (gsca (args2 (slRd toldE) (slRd intE) fun ts ms=>(∀ m∈ms,0≤m∧m < 40)∧∀ p∈ts, ∀ i,i < 40→0≤p.1.f i∧p.1.f i≤255) fun x v=>v = .bool (decF x.1 x.2)):=by
 refine comp54.gsca (Tab.nil _) (fun args G s h=>?_) (fun args G x h=>?_)
 ·obtain ⟨v,w,rfl,_⟩:=h;simp
 ·obtain ⟨ts,ms⟩:=x
  obtain ⟨u,v,rfl,⟨ta,tn,tc,rfl,hT,htn⟩,⟨ma,mn,mc,rfl,hM,hmn⟩,hms,hts⟩:=h
  dsimp only at hT hM hms hts
  have hlt':=hT.len
  have hlm:=hM.len
  dsimp only
  (conv=>whnf)
  refine LoopP.of { α:=Nat × Array MapEntry × Nat,fr:=fun x=>[(1, .v (.slice ma mn mc)),(5, .c (.mref 1)),(6,tt),(15, .v (.slice ta tn tc)),(16, .v (I tn)),(17, .v (I x.1))],H:=fun x=>[(1, .map .anon x.2.1 x.2.2)],ok:=fun x _=>x.1≤ts.length∧MapIs Try.prog 88 Tr40.val x.2.1 (mmF (ts.take x.1) ms)∧∀ i,i < x.1→decAt ts ms i,m:=fun x=>ts.length - x.1 }
   (0, #[],0) (HeadP.of [] ⟨rfl,rfl,rfl,rfl,rfl,rfl,trivial⟩ ⟨rfl,trivial⟩) ⟨Nat.zero_le _,MapIs.nil,fun i hi=>absurd hi (Nat.not_lt_zero _)⟩ (fun _=>⟨rfl,rfl⟩) (fun x G1 hG1 hx=>W.mk ?_)
  obtain ⟨i,es,ck⟩:=x
  obtain ⟨hi,hmap,hdec⟩:=hx
  dsimp only at hi hmap hdec
  have hT1:=SlR.grow (G:=G) (G':=G1) (fun _ _ h=>h) hT hG1
  have hM1:=SlR.grow (G:=G) (G':=G1) (fun _ _ h=>h) hM hG1
  dsimp only
  (conv=>whnf)
  refine IteP.mk (fun hlt=>W.mk ?_) (fun hge=>W.mk ?_)<;>(conv=>whnf)
  ·have hlt:i < ts.length:=by omega
   have hc:=hT1.el hlt
   have hpv:=hts _ (List.getElem_mem hlt)
   have hgi:ts[i]? = some ts[i]:=List.getElem?_eq_getElem hlt
   have hsn:ts.take (i + 1) = ts.take i++[ts[i]]:=take_snoc hlt
   generalize ts[i] = p at hc hpv hgi hsn
   obtain ⟨pt,po⟩:=p
   dsimp only at hpv
   repeat' (first | (refine ob ?_ ?_;(first | trivial | omega | (simp only [inR];omega) | exact ble (by rfl) | exact SlR.some ‹_› (by omega));(conv=>whnf)) | (first | (refine ra ‹_› (by rfl) ?_;(conv=>whnf)) | (refine rb ‹_› (by rfl) ?_;(conv=>whnf)) | (refine rc ‹_› (by rfl) ?_;(conv=>whnf)) | (refine rd ‹_› (by rfl) ?_;(conv=>whnf))))
   refine LoopP.of { α:=Nat × (Nat→Int),fr:=fun x=>[(1, .v (.slice ma mn mc)),(5, .c (.mref 1)),(6,tt),(8, .c (.ptr 10 0)),(9, .c (.ptr 12 0)),(15, .v (.slice ta tn tc)),(16, .v (I tn)),(17, .v (I i)),(21, .v (.slice ma mn mc)),(22, .v (I mn)),(23, .v (I x.1))],H:=fun x=>[(1, .map .anon es ck),(10, .cells .anon ((tll pt.f po).map .val) 127),(12, .cells .anon ((trl x.2).map .val) 88)],ok:=fun x _=>x.1≤ms.length∧∀ j:Nat,x.2 j = if (ms.take x.1).contains (j:Int) then pt.f j else 0,m:=fun x=>ms.length - x.1 }
    (0,fun _=>0) (HeadP.of [] ⟨rfl,rfl,rfl,rfl,rfl,rfl,rfl,rfl,rfl,rfl,rfl,trivial⟩ ⟨rfl,rfl,rfl,trivial⟩) ⟨Nat.zero_le _,fun j=>rfl⟩ (fun _=>⟨rfl,rfl⟩) (fun x G2 hG2 hx=>W.mk ?_)
   obtain ⟨k,f⟩:=x
   obtain ⟨hk,hf⟩:=hx
   dsimp only at hk hf
   have hM2:=SlR.grow (G:=G1) (G':=G2) (fun _ _ h=>h) hM1 hG2
   dsimp only
   (conv=>whnf)
   refine IteP.mk (fun hlt2=>W.mk ?_) (fun hge2=>W.mk ?_)<;>(conv=>whnf)
   ·have hlt2:k < ms.length:=by omega
    have hcm:=hM2.el hlt2
    have hmr:=hms _ (List.getElem_mem hlt2)
    have hsm:ms.take (k + 1) = ms.take k++[ms[k]]:=take_snoc hlt2
    generalize ms[k] = m at hcm hmr hsm
    obtain ⟨hm0,hm1⟩:=hmr
    have hmn40:m.toNat < 40:=by omega
    repeat' (first | (refine ob ?_ ?_;(first | trivial | omega | (simp only [inR];omega) | exact ble (by rfl) | exact SlR.some ‹_› (by omega));(conv=>whnf)) | (first | (refine ra ‹_› (by rfl) ?_;(conv=>whnf)) | (refine rb ‹_› (by rfl) ?_;(conv=>whnf)) | (refine rc ‹_› (by rfl) ?_;(conv=>whnf)) | (refine rd ‹_› (by rfl) ?_;(conv=>whnf))))
    refine EqsP.mk ⟨[.val (U (pt.f m.toNat))],tll_at hmn40 (by simp),rfl,W.mk ?_⟩
    (conv=>whnf)
    repeat' (refine ob ?_ ?_;(first | trivial | omega | (simp only [inR];omega) | exact ble (by rfl) | exact SlR.some ‹_› (by omega));(conv=>whnf))
    refine OblP.mk (by rw [List.length_map];simp;omega) (W.mk ?_)
    refine den_set_eq (trl_set (f:=f) (i:=m.toNat) (off:=0 + m.toNat * 1) hmn40 (by simp) (pt.f m.toNat)) ?_
    (conv=>whnf)
    repeat' (refine ob ?_ ?_;(first | trivial | omega | (simp only [inR];omega) | exact ble (by rfl) | exact SlR.some ‹_› (by omega));(conv=>whnf))
    refine RoundP.of (k + 1,fun j=>if j = m.toNat then pt.f m.toNat else f j) (HeadP.of [] ⟨rfl,rfl,rfl,rfl,rfl,rfl,rfl,rfl,rfl,rfl,rfl,trivial⟩ ⟨rfl,rfl,rfl,trivial⟩) ⟨hlt2,fun j=>?_⟩ (by simp only;omega)
    dsimp only
    rw [hsm]
    by_cases hjm:j = m.toNat
    ·subst hjm
     rw [if_pos rfl,if_pos (by simp;right;omega)]
    ·rw [if_neg hjm,hf j]
     have:(ms.take k++[m]).contains (j:Int) = (ms.take k).contains (j:Int):=by
      rw [Bool.eq_iff_iff]
      simp only [List.contains_iff_mem,List.mem_append,List.mem_singleton]
      exact ⟨fun h=>h.resolve_right (fun e=>hjm (by omega)), .inl⟩
     rw [this]
   ·have hke:k = ms.length:=by omega
    subst hke
    rw [List.take_length] at hf
    have hval:Tr40.val (ansT (pt,po) ms) = trV f:=by
     refine congrArg (fun l:List Value=>Value.agg l.toArray) (trl_congr fun j hj=>?_)
     rw [ansT,Tr40.of_f hj,hf j]
    have hfb:∀ j,j < 40→0≤f j∧f j≤255:=fun j hj=>by
     rw [hf j]
     split
     ·exact hpv j hj
     ·omega
    obtain ⟨l,hl⟩:=key88 hfb
    obtain ⟨r,h1,h2,h3⟩:=MapIs.find law88 Tr40.val_inj hmap (x:=ansT (pt,po) ms) (lx:=l) (by rw [hval];exact hl) (by rw [hval];exact same88 f)
    rw [hval] at h1
    have h2:=h2 (U 0) true
    have h3:=h3 ck (U po)
    rw [hval] at h3
    refine KeyP.mk ⟨r,h1,W.mk ?_⟩
    dsimp only
    rw [h2]
    have good:mmF (ts.take i) ms (ansT (pt,po) ms) = none∨mmF (ts.take i) ms (ansT (pt,po) ms) = some (U po)→MapIs Try.prog 88 Tr40.val (putE es ck (trV f) (U po) r).1 (mmF (ts.take (i + 1)) ms)∧∀ j,j < i + 1→decAt ts ms j:=fun hg=>by
     refine ⟨?_,fun j hj=>?_⟩
     ·rw [hsn, ← mmF_snoc (p:=(pt,po)) hg];exact h3
     ·rcases Nat.lt_succ_iff_lt_or_eq.1 hj with h | rfl
      ·exact hdec j h
      ·intro k' hk' x y hx hy he
       rw [hgi] at hx;cases hx
       have hym:y∈ts.take j:=by
        rw [List.mem_iff_getElem?]
        exact ⟨k',by rw [List.getElem?_take,if_pos hk'];exact hy⟩
       rcases hg with hg | hg
       ·exact absurd he.symm (mm_none hg y hym)
       ·obtain ⟨z,hz,e1,e2⟩:=mm_some hg
        have e2:po = z.2:=by injection e2
        obtain ⟨kz,hkz⟩:=List.mem_iff_getElem?.1 hz
        rw [List.getElem?_take] at hkz
        split at hkz
        ·rename_i hlz
         have hyz:y.2 = z.2:=by
          rcases Nat.lt_trichotomy k' kz with h | h | h
          ·exact (hdec kz hlz k' h z y hkz hy (e1.trans he)).symm
          ·subst h;rw [hy] at hkz;cases hkz;rfl
          ·exact hdec k' (by omega) kz h y z hy hkz (he.symm.trans e1.symm)
         show po = y.2
         rw [hyz, ← e2]
        ·cases hkz
    cases hmm:mmF (ts.take i) ms (ansT (pt,po) ms) with
    | none =>
     (conv=>whnf)
     refine ForkP.mk (fun h=>by cases h) (fun _=>W.mk ?_)
     (conv=>whnf)
     refine KeyP.mk ⟨r,h1,W.mk ?_⟩
     (conv=>whnf)
     repeat' (refine ob ?_ ?_;(first | trivial | omega | (simp only [inR];omega) | exact ble (by rfl) | exact SlR.some ‹_› (by omega));(conv=>whnf))
     obtain ⟨g1,g2⟩:=good (.inl hmm)
     exact RoundP.of (i + 1,_,_) (HeadP.of [] ⟨rfl,rfl,rfl,rfl,rfl,rfl,trivial⟩ ⟨rfl,trivial⟩) ⟨hlt,g1,g2⟩ (by simp only;omega)
    | some v =>
     obtain ⟨z,hz,e1,rfl⟩:=mm_some hmm
     (conv=>whnf)
     refine ForkP.mk (fun _=>W.mk ?_) (fun h=>by cases h)
     (conv=>whnf)
     refine IteP.mk (fun h5=>W.mk ?_) (fun h5=>W.mk ?_)<;>(conv=>whnf)
     ·have h5:z.2 = po:=h5
      refine KeyP.mk ⟨r,h1,W.mk ?_⟩
      (conv=>whnf)
      repeat' (refine ob ?_ ?_;(first | trivial | omega | (simp only [inR];omega) | exact ble (by rfl) | exact SlR.some ‹_› (by omega));(conv=>whnf))
      obtain ⟨g1,g2⟩:=good (.inr (by rw [hmm,h5]))
      exact RoundP.of (i + 1,_,_) (HeadP.of [] ⟨rfl,rfl,rfl,rfl,rfl,rfl,trivial⟩ ⟨rfl,trivial⟩) ⟨hlt,g1,g2⟩ (by simp only;omega)
     ·refine FinP.mk ?_
      refine congrArg Value.bool ?_
      symm
      rw [decF_false]
      intro hd
      obtain ⟨kz,hkz⟩:=List.mem_iff_getElem?.1 hz
      rw [List.getElem?_take] at hkz
      split at hkz
      ·rename_i hlz
       have:=hd i kz hlz (pt,po) z hgi hkz e1.symm
       exact h5 this.symm
      ·cases hkz
  ·have hie:i = ts.length:=by omega
   subst hie
   refine FinP.mk ?_
   refine congrArg Value.bool ?_
   symm
   rw [decF_true]
   intro j
   by_cases hj:j < ts.length
   ·exact hdec j hj
   ·intro k hk x y hx
    rw [List.getElem?_eq_none (by omega)] at hx;cases hx
end Go.Proofs.Ytgpfejgohclheaa

namespace Go.Proofs.Ytgpfejgohclheaa
open Go.Pal
set_option maxRecDepth 100000
theorem flat_le {α β:Type} {g:α→List β} {B:Nat}:∀ {l:List α},(∀ x∈l,(g x).length≤B)→(l.flatMap g).length≤l.length * B
 | [],_=>by simp
 | x :: r,h=>by
  have h1:=h x (by simp)
  have h2:=flat_le (l:=r) (fun y hy=>h y (by simp [hy]))
  simp only [List.flatMap_cons,List.length_append,List.length_cons,Nat.add_mul,Nat.one_mul]
  omega
def dcnt (may:Nat→List Int):Nat→Nat→Nat
 | 0,_=>0
 | r + 1,m=>(if 1 < (may m).length then 1 else 0) + dcnt may r (m + 1)
theorem trK_bound {may:Nat→List Int} (h3:∀ m,(may m).length≤3):∀ r m f,(trK may r m f).length≤3 ^ dcnt may r m
 | 0,m,f=>by simp [trK,dcnt]
 | r + 1,m,f=>by
  have hb:=flat_le (B:=3 ^ dcnt may r (m + 1)) (l:=may m) (g:=fun v=>trK may r (m + 1) (fun j=>if j = m then v else f j)) (fun v _=>trK_bound h3 r (m + 1) _)
  simp only [trK,dcnt]
  split
  ·have:=h3 m
   refine Nat.le_trans hb ?_
   rw [Nat.pow_add,Nat.pow_one]
   exact Nat.mul_le_mul_right _ this
  ·rw [Nat.zero_add]
   refine Nat.le_trans hb ?_
   have:(may m).length≤1:=by omega
   have:=Nat.mul_le_mul_right (3 ^ dcnt may r (m + 1)) this
   omega
theorem dcnt_eq (may:Nat→List Int):∀ r m,dcnt may r m = ((List.range' m r).filter fun j=>decide (1 < (may j).length)).length
 | 0,m=>by simp [dcnt]
 | r + 1,m=>by
  rw [dcnt,dcnt_eq may r (m + 1),List.range'_succ,List.filter_cons]
  by_cases h:1 < (may m).length
  ·rw [if_pos h,if_pos (by simpa using h),List.length_cons];omega
  ·rw [if_neg h,if_neg (by simpa using h)];omega
theorem votes_le3 (d:Dv) (m:Int):(votesF d m).length≤3:=by
 simp only [votesF,List.length_append]
 cases mayF d m 0<;>cases mayF d m 1<;>cases mayF d m 2<;>simp
theorem mayL_le3 (d:Dv) (k:Nat):(mayL (lookF d) k).length≤3:=by
 simp only [mayL,lookF,List.getD_eq_getElem?_getD,List.getElem?_map]
 cases h:(List.range 40)[k]? with
 | none=>simp
 | some j =>
  simp only [Option.map_some,Option.getD_some]
  split
  ·exact votes_le3 d j
  ·simp
theorem tru_bound {d:Dv} (ho:openF d = 0):(truL (lookF d)).length≤6561:=by
 obtain ⟨hf,h8⟩:=open_fault ho
 obtain ⟨hm0,hm1⟩:=fault_m hf
 have h1:=trK_bound (mayL_le3 d) d.m.toNat 0 (fun _=>0)
 have h2:dcnt (mayL (lookF d)) d.m.toNat 0≤8:=by
  rw [dcnt_eq, ← List.range_eq_range']
  have:=dbK_look (d:=d) hm1
  have e:((List.range d.m.toNat).filter fun j=>decide (1 < (mayL (lookF d) j).length)).length = (dbK (lookF d) d.m.toNat).length:=by
   rw [dbK,List.length_map];rfl
  rw [e,this];exact h8
 exact Nat.le_trans h1 (Nat.le_trans (Nat.pow_le_pow_right (by decide) h2) (by decide))
def tolF (d:Dv):List Tl:=(truL (lookF d)).map fun f=>(Tr40.of f,outT d f)
theorem told_row (f:Nat→Int) (o:Int):tll f o = toldE.f (Tr40.of f,o):=by
 show trl f++[U o] = trl (Tr40.of f).f++[U o]
 rw [trl_congr fun i hi=>(Tr40.of_f hi).symm]
theorem all51:Sound Try.prog 51 id (grel (args1 lkRd fun x=>∃ d,x = lookF d∧openF d = 0∧0≤d.rule) fun x v G=>SlV toldE G v (tolF x.d)):=by
 refine comp51.grel tabA4 (ok1 _ _) (fun args G s h=>?_) (fun x v G G' hg h=>h.grow hg) (fun args G x h=>?_)
 ·obtain ⟨v,rfl,_⟩:=h;simp
 ·obtain ⟨u,rfl,⟨w0,w1,w2,w3,w4,w5,p,a,n,c,rfl,hk⟩,d,hx,ho,hr0⟩:=h
  subst hx
  obtain ⟨hf,h8⟩:=open_fault ho
  have h1:=fault_right hf
  obtain ⟨hm0,hm1⟩:=right_m h1
  have hbound:=tru_bound ho
  have hw0:LkV G (.agg (lkl (lookF d).d w0 w1 w2 w3 w4 w5 p a n c).toArray) (lookF d):=⟨_,_,_,_,_,_,_,_,_,_,rfl,hk⟩
  have hkd:=hk.dv
  have hl2:(lookF d).d = d:=rfl
  rw [hl2] at hkd
  obtain ⟨xx0,yy0,zz0,rfl,_,_⟩:=id hkd.a0
  obtain ⟨xx1,yy1,zz1,rfl,_,_⟩:=id hkd.a1
  obtain ⟨xx2,yy2,zz2,rfl,_,_⟩:=id hkd.n0
  obtain ⟨xx3,yy3,zz3,rfl,_,_⟩:=id hkd.n1
  obtain ⟨xx4,yy4,zz4,rfl,_,_⟩:=id hkd.ps
  obtain ⟨xx5,yy5,zz5,rfl,_,_⟩:=id hkd.qs
  (conv=>whnf)
  refine RelP.g (ok1 lkRd fun _=>True) (x:=lookF d) ⟨_,rfl,hw0,trivial⟩ (Grow.refl _) (fun v G2 hg2 hq=>W.mk ?_)
  obtain ⟨b,rfl,hj⟩:=hq
  (conv=>whnf)
  have hmm:0≤(lookF d).d.m∧(lookF d).d.m≤40:=by rw [hl2];omega
  refine RangeP.of (trY (truL (lookF d))) { α:=Nat × Nat × List Value,fr:=[(1, .c (.ptr 0 0)),(2, .c (.ptr 1 0))],k:=fun x=>x.1,H:=fun x=>[(0, .cells .anon ((lkl d (.slice xx0 yy0 zz0) (.slice xx1 yy1 zz1) (.slice xx2 yy2 zz2) (.slice xx3 yy3 zz3) (.slice xx4 yy4 zz4) (.slice xx5 yy5 zz5) p a n c).map .val) 78),(1, .cells .anon [.row 2 x.2.1] 99),(2, .row none x.2.1 x.2.2 127 41)],ok:=fun x _=>Row toldE ((tolF d).take x.1) x.2.1 x.2.2∧x.1≤(tolF d).length }
   (0,0,[]) (SoundFn.of body66 (truths66 hmm b)) (fun l=>⟨rfl,hj,rfl⟩) (fun y hy=>by obtain ⟨f,_,rfl⟩:=List.mem_map.1 hy;rfl) rfl
   (HeadP.of [(2,none)] ⟨rfl,rfl,trivial⟩ ⟨rfl,rfl,rfl,trivial⟩) ⟨Row.nil,Nat.zero_le _⟩ ⟨rfl,fun _=>rfl⟩ (fun _ _ _ _ h=>h) (fun x y G3 hg3 hx hy=>W.mk ?_) (fun x G3 hg3 hx hkk=>W.mk ?_)
  ·obtain ⟨i,m,vs⟩:=x
   obtain ⟨hrow,hil⟩:=hx
   dsimp only at hrow hil hy
   rw [List.getElem?_map] at hy
   obtain ⟨f,hf',rfl⟩:=Option.map_eq_some_iff.1 hy
   have hw3:=(hw0.grow hg2).grow hg3
   have hfm:f∈truL (lookF d):=List.mem_of_getElem? hf'
   obtain ⟨o1,o2,o3,o4⟩:=ofF_le (trT f) h1
   have hti:(tolF d)[i]? = some (Tr40.of f,outT d f):=by rw [tolF,List.getElem?_map,hf'];rfl
   obtain ⟨hlt,hie⟩:=List.getElem?_eq_some_iff.1 hti
   have hsn:(tolF d).take (i + 1) = (tolF d).take i++[(Tr40.of f,outT d f)]:=by rw [take_snoc hlt,hie]
   have hmn:=hrow.n
   have hml:m≤6561:=by
    rw [hmn,List.length_take]
    have:(tolF d).length = (truL (lookF d)).length:=by rw [tolF,List.length_map]
    omega
   (conv=>whnf)
   refine ScaP.g (ok2 lkRd trRd fun x t=>∃ d,x = lookF d∧rightD d = true∧Vts d t) (x:=(lookF d,trT f)) ⟨_,_,rfl,hw3,⟨f,rfl,rfl⟩,d,rfl,h1,tru_vts h1 hfm⟩ (fun v hv=>W.mk ?_)
   dsimp only at hv
   rw [hl2] at hv
   subst hv
   (conv=>whnf)
   refine ScaP.g (ok2 lkRd nmRd fun x y=>∃ d,x = lookF d∧rightD d = true∧0≤d.rule∧0≤y.a∧y.a≤1000∧0≤y.n∧y.n≤1000) (x:=(lookF d,ofF d (trT f))) ⟨_,_,rfl,hw3,rfl,d,rfl,h1,hr0,o1,o2,o3,o4⟩ (fun v hv=>W.mk ?_)
   subst hv
   dsimp only
   rw [hl2]
   (conv=>whnf)
   repeat' (first | (refine OblP.mk rfl (W.mk ?_);(conv=>whnf)) | (refine ob ?_ ?_;(first | trivial | omega | (simp only [inR];omega) | exact ble (by rfl) | exact SlR.some ‹_› (by omega));(conv=>whnf)))
   have hsn2:=hrow.snoc (Tr40.of f,outT d f) (us:=tll f (outT d f)) (told_row f (outT d f))
   refine RoundR.mk ⟨(i + 1,m + 1,vs++tll f (outT d f)),⟨[(2,some 15)],⟨rfl,rfl,rfl,trivial⟩,rfl,rfl⟩,⟨by rw [hsn];exact hsn2,hlt⟩,rfl⟩
  ·obtain ⟨i,m,vs⟩:=x
   obtain ⟨hrow,hil⟩:=hx
   dsimp only at hrow hil hkk
   have hil2:i = (tolF d).length:=by rw [hkk,tolF,List.length_map,List.length_map]
   subst hil2
   rw [List.take_length] at hrow
   have hml:m≤6561:=by
    rw [hrow.n]
    have:(tolF d).length = (truL (lookF d)).length:=by rw [tolF,List.length_map]
    omega
   (conv=>whnf)
   refine PubP.mk (fun ra rc G5 hg5 hpr=>W.mk ?_)
   (conv=>whnf)
   exact FinP.mk (hrow.pub hpr (by omega))
theorem tol_012 {d:Dv} (ho:openF d = 0):∀ p∈tolF d, ∀ i,i < 40→0≤p.1.f i∧p.1.f i≤255:=fun p hp i hi=>by
 obtain ⟨hf,_⟩:=open_fault ho
 have h1:=fault_right hf
 obtain ⟨f,hfm,rfl⟩:=List.mem_map.1 hp
 show 0≤(Tr40.of f).f i∧(Tr40.of f).f i≤255
 rw [Tr40.of_f hi]
 by_cases h:i < d.m.toNat
 ·have:=tru_vts h1 hfm i h
  rw [trT_get hi] at this
  omega
 ·rw [tru_rest hfm (by show d.m.toNat≤i;omega)];omega
end Go.Proofs.Ytgpfejgohclheaa
