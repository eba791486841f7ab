/- Functions that are given an own heap (at handle 0), which comes back turned: their contracts; contracts over what is published serve an own heap that is only read. Functions over an own heap whose handles begin at 3000: slice literals are published at once, their room is told. Contracts that yield what is published serve an own heap that is only read. Rows of an own heap: loads, the cells of a list of elements, a row from its block's first cell on. Who speaks: maps of states, and ranges over them. Who speaks: bits, the persons of a set one after the other. Who speaks: the step from a state by a part. Who speaks: the parts that may follow, one after the other. Who speaks: what makes the parts; the first state. Functions over an own heap whose handles begin at 2000: regions that draw their order make boxes, maps and literals in the own heap. Who speaks: a scene that is looked through, in the own heap; whether a state leads on. Who speaks: a scene is looked through. Contracts of tests; contracts by their first arguments; maps as lists of what they hold. Who speaks: all, ContainsFunc, IndexFunc at moments, for any test. (printed by a program of mine) Who speaks: a valid scene is found so. Who speaks: a scene that was checked and looked through. Who speaks: a telling. Who speaks: all who may have the floor, and be heard. Who speaks: tellings, as contracts over what is published; the reference's scene. Who speaks: the reference's fault; a scene for the program. Readings; the functions of layer 1 that only compute. The reference's sittings: valid, paused, stretches, takes. -/
import Derived.Test.YtefnikpoimaiiaaMD
import Derived.Maps.RangeRun
import Derived.Test.YtefnikpoimaiiaaProg
import Derived.KernelRfl
import Derived.Laws.BitsAllLaws
import Derived.Maps.Keyed
import Derived.WalkArith
set_option linter.unusedSimpArgs false
set_option linter.unusedVariables false
namespace Go.Pal
open Go.RowKit
def heapS (p:Hp):Nat→Option OB:=fun i=>cond (Nat.beq i 0) (some (.heap p)) none
theorem heapS_some {p:Hp} {i:Nat} {ob:OB} (h:heapS p i = some ob):i = 0∧ob = .heap p:=by
 unfold heapS at h
 cases hb:Nat.beq i 0 with
 | true=>rw [hb] at h;cases h;exact ⟨Nat.eq_of_beq_eq_true hb,rfl⟩
 | false=>rw [hb] at h;cases h
abbrev dom (p:Hp):Nat→Prop:=fun b=>∃ o,p b = some o
def HasHp (H:Nat→Option OB) (p:Hp):Prop:=∀ b o,p b = some o→(∃ q,H 0 = some (.heap q)∧q b = some o)∨(∃ h cs t vs,H h = some (.cells (.named b) cs t)∧toValsH H cs = some vs∧o = .cells vs.toArray t (0,0)) ∨
 ∃ h n cap vs rest t k,H h = some (.xrow b n cap vs rest t k)∧o = .cells (vs++rest).toArray t (0,0)
structure FinHp (H:Nat→Option OB) (A:Hp→Prop):Prop where
 ex:∃ p,HasHp H p∧A p
theorem FinHp.of {H:Nat→Option OB} {A:Hp→Prop} {p:Hp} (h:H 0 = some (.heap p)) (k:A p):FinHp H A:=⟨p,fun b o e=>.inl ⟨p,h,e⟩,k⟩
section
variable {P:Program}
theorem sat_startHp {n:Nat} {args:List Value} (hn:args.length≤n) {G p:Hp} {W:World} (hsub:Sub G W) (hp:∀ b o,p b = some o→W.heap[b]? = some o∧G b = none):Sat ⟨W,dom p,[]⟩ G n (fun k=>k < 1000) (fun _=>undef) ⟨argFr args,heapS p,G⟩ { tmps:=args.toArray++Array.replicate (n - args.toArray.size) undef,defers:=[] } W:=by
 refine ⟨⟨Beneath.refl ⟨W,_,[]⟩,hsub,fun b o h=>.inl h,fun h ob e=>?_,fun h ob v e e2=>?_,fun h ob e _ b hb=>?_,fun h ob h' ob' b e e2 _ _ _=>?_⟩,fun i=>argFr_ment _ args i,fun h ob e=>?_,fun i=>args_frame _ i,by simp;omega,rfl⟩
 ·obtain ⟨_,rfl⟩:=heapS_some e;exact fun b o ho=>⟨.inr ⟨o,ho⟩,(hp b o ho).1⟩
 ·obtain ⟨_,rfl⟩:=heapS_some e;cases e2
 ·obtain ⟨_,rfl⟩:=heapS_some e;obtain ⟨o,ho⟩:=hb;exact (hp b o ho).2
 ·obtain ⟨rfl,_⟩:=heapS_some e;obtain ⟨rfl,_⟩:=heapS_some e2;rfl
 ·obtain ⟨rfl,rfl⟩:=heapS_some e;exact ⟨Nat.le_of_ble_eq_true rfl,trivial⟩
def Off0 (H:Nat→Option OB) (b:Nat):Prop:=match H 0 with
 | some (.heap p)=>p b = none
 | _=>True
def nmL (H:Nat→Option OB) (G:Hp):List Nat→HK→Prop
 | [],A=>W (A H G)
 | h :: r,A=>match H h with
  | some (.cells .anon cs t)=>∀ b,Off0 H b→nmL (upd H h (some (.cells (.named b) cs t))) G r A
  | some (.row none _ _ _ _)=>pubR H G h fun H G=>nmL H G r A
  | _=>False
structure NmP (H:Nat→Option OB) (G:Hp) (A:HK):Prop where
 ex:∃ hs,nmL H G hs A
theorem nmL_sound {w0:Root} {W:World} {G0:Hp} {M:Nat→Prop} {E:Nat→Value}:∀ {hs:List Nat} {H:Nat→Option OB} {G:Hp} {A:HK},Good w0 G0 M E W H G→nmL H G hs A→∃ H' G',A H' G'∧Grow G G'∧Good w0 G0 M E W H' G'
 | [],H,G,A,hg,hk=>⟨H,G,hk.out,Grow.refl _,hg⟩
 | h :: r,H,G,A,hg,hk=>by
  simp only [nmL] at hk
  split at hk
  ·rename_i cs t e
   obtain ⟨b,vs,e1,e2,e3,e4,e5,_⟩:=hg.sim.own h _ e
   have hoff:Off0 H b:=by
    unfold Off0
    split
    ·rename_i p hp
     cases hb:p b with
     | none=>rfl
     | some o =>
      have:=hg.sim.inj h _ 0 _ b e hp rfl (show blkOf (E h) = some b by rw [e1];rfl) ⟨o,hb⟩
      subst this
      rw [hp] at e;cases e
    ·trivial
   exact nmL_sound (good_rename hg (ob':=.cells (.named b) cs t) e rfl rfl ⟨b,vs,e1,e2,e3,e4,e5,rfl⟩ (hg.mH h _ e).2) (hk b hoff)
  ·obtain ⟨H1,G1,k1,g1,hg1⟩:=pubR_sound hg hk
   obtain ⟨H2,G2,k2,g2,hg2⟩:=nmL_sound hg1 k1
   exact ⟨H2,G2,k2,g1.trans g2,hg2⟩
  ·exact hk.elim
def resN (rs:List IRes) (σ:St) (K:List Value→HK):Prop:=NmP σ.H σ.G fun H G=>resK σ rs H G K
def finHp (rs:List IRes) (σ:St) (K:Value→Hp→Hp→Prop):Prop:=resN rs σ fun vs H G=>FinHp H fun p=>K (wrapV vs) p G
theorem resN_sound {w0:Root} {W:World} {G0:Hp} {n:Nat} {M:Nat→Prop} {E:Nat→Value} {σ:St} {a:Act} (hs:Sat w0 G0 n M E σ a W) {rvs:List ResultVar} {rs:List IRes} {K:List Value→HK} (hc:compRes P rvs = some rs)
  (hk:resN rs σ K):∃ vs H' G',(rvs.mapM (resSem a.tmps)).run P W = .ok vs W∧K vs H' G'∧Grow σ.G G'∧Good w0 G0 M E W H' G':=by
 obtain ⟨hs',hk⟩:=hk
 obtain ⟨H1,G1,k1,g1,hg1⟩:=nmL_sound ⟨hs.sim,hs.mH⟩ hk
 obtain ⟨vs,H2,G2,r1,k2,g2,hg2⟩:=resK_sound hs hc hg1 k1
 exact ⟨vs,H2,G2,r1,k2,g1.trans g2,hg2⟩
theorem body_soundN (T:Tab P) {e:Env} (he:e.Ok P) {f:FuncId} {fn:Func} {c:Code} {ic:IC} {b2 bd:Nat} {rs:List IRes} (hf:P.funcs[f]? = some fn) (hb:fn.body = some c) (hc:compC P fn.ntmps c bd = some (ic,b2)) (hr:compRes P fn.results.toList = some rs)
  {args:Array Value} {σ:St} {W:World} {E0:Nat→Value} {K:St→List Value→HK} {R:Ending→World→Prop}
  (hs:SatE e [] fn.ntmps bd (fun _=>False) E0 σ { tmps:=args++Array.replicate (fn.ntmps - args.size) undef,defers:=[] } W)
  (h:vc P T.get ⟨e.l,e.Y,[],e.pn⟩ ic bd σ fun o _ σ=>match o with
   | .norm=>resN rs σ (K σ)
   | .ret=>resN rs σ (K σ)
   | .exit _=>False)
  (hq:∀ σ' W' M E vs H' G',K σ' vs H' G'→Grow σ.G G'→Done e (σ'.fr POS) M E W' H' G'→R (.returned (wrapV vs)) W') (hpn:e.pn = none:=by rfl):Calls P f args W R:=by
 refine body_end T he hf hb hc hs h ?_ (fun t C ht=>by rw [hpn] at ht;cases ht) (.inl hpn)
 intro σ' a' W' M E hk hg h4 h5
 obtain ⟨vs,H',G',r1,k1,g1,hg1⟩:=resN_sound h5 hr hk
 obtain ⟨q1,q2⟩:=h4.now he g1 hg1.sim
 exact ⟨_,results_run r1,hq σ' W' M E vs H' G' k1 (hg.trans g1) ⟨q2,q1.at_⟩⟩
def hpVC (P:Program) (tab:FuncId→Option PSpec) (ic:IC) (rs:List IRes) (args:List Value) (p G:Hp) (K:Value→Hp→Hp→Prop):Prop :=
 vc P tab (.no []) ic 1000 ⟨argFr args,heapS p,G⟩ fun o _ σ=>match o with
  | .norm=>finHp rs σ K
  | .ret=>finHp rs σ K
  | .exit _=>False
theorem hp_fin {p G:Hp} {W W':World} {sv:SV} {M:Nat→Prop} {E:Nat→Value} {v:Value} {H':Nat→Option OB} {p' G':Hp} {K:Value→Hp→Hp→Prop} (hhp:HasHp H' p') (k1:K v p' G') (hg:Grow G G') (hd:Done (baseEnv (dom p) G W) sv M E W' H' G') :
  ∃ v' p'' G'',Ending.returned v = .returned v'∧K v' p'' G''∧(∀ b o,p'' b = some o→W'.heap[b]? = some o∧G'' b = none∧((∃ o,p b = some o)∨W.heap.size≤b))∧Grow G G''∧Sub G'' W'∧(∀ b o,G'' b = some o→G b = some o∨(∃ o,p b = some o)∨W.heap.size≤b)∧Beneath ⟨W,dom p,[]⟩ W':=by
 obtain ⟨q1,q2,q3⟩:=baseEnv_at.1 hd.at_
 have own:∀ h ob b,H' h = some ob→ob.pub = none→ob.has (E h) b→W.heap.size≤b∨dom p b:=fun h ob b e1 e2 e3=>q3 b (.inl ⟨⟨h,ob,e1,e3⟩,hd.sim.priv h ob e1 e2 b e3⟩)
 refine ⟨_,p',G',rfl,k1,fun b o e=>?_,hg,hd.sim.sub,fun b o e=>(q2 b o e).imp id fun h=>h.elim .inr .inl,q1⟩
 rcases hhp b o e with ⟨q,e1,e2⟩ | ⟨h,cs,t,us,e1,e2,rfl⟩ | ⟨h,n,cap,us,rest,t,k,e1,rfl⟩
 ·exact ⟨(hd.sim.own 0 _ e1 b o e2).2,hd.sim.priv 0 _ e1 rfl b ⟨o,e2⟩,(own 0 _ b e1 rfl ⟨o,e2⟩).symm⟩
 ·obtain ⟨b',vs',f1,f2,f3,f4,f5,f6⟩:=hd.sim.own h _ e1
  have f6:b = b':=f6
  subst f6
  have:=toValsH_rel (fun h ob v e e'=>hd.sim.name e e') f4 e2
  subst this
  have hb:(OB.cells (.named b) cs t).has (E h) b:=show blkOf (E h) = _ by rw [f1];rfl
  exact ⟨f3,hd.sim.priv h _ e1 rfl b hb,(own h _ b e1 rfl hb).symm⟩
 ·obtain ⟨f1,f2,f3,_⟩:=hd.sim.own h _ e1
  have hb:(OB.xrow b n cap us rest t k).has (E h) b:=show blkOf (E h) = _ by rw [f1];rfl
  exact ⟨f3,hd.sim.priv h _ e1 rfl b hb,(own h _ b e1 rfl hb).symm⟩
theorem CompAt.callsHp {f:FuncId} {ic:IC} {rs:List IRes} {nt:Nat} (C:CompAt P f 1000 ic rs nt) (T:Tab P) {args:List Value} {p G:Hp} {W:World} {K:Value→Hp→Hp→Prop} (hn:args.length≤nt) (hsub:Sub G W) (hp:∀ b o,p b = some o→W.heap[b]? = some o∧G b = none) (h:hpVC P T.get ic rs args p G K) :
  Calls P f args.toArray W fun e W'=>∃ v p' G',e = .returned v∧K v p' G'∧(∀ b o,p' b = some o→W'.heap[b]? = some o∧G' b = none∧((∃ o,p b = some o)∨W.heap.size≤b))∧Grow G G'∧Sub G' W'∧(∀ b o,G' b = some o→G b = some o∨(∃ o,p b = some o)∨W.heap.size≤b)∧Beneath ⟨W,dom p,[]⟩ W':=by
 obtain ⟨fn,c,b2,h1,h2,h3,h4,rfl⟩:=C.ex
 have hs:SatE (baseEnv (dom p) G W) [] fn.ntmps 1000 (fun _=>False) (fun _=>undef) ⟨argFr args,heapS p,G⟩ { tmps:=args.toArray++Array.replicate (fn.ntmps - args.toArray.size) undef,defers:=[] } W :=
  SatE.of (r:=⟨W,dom p,[]⟩) (G0:=G) (fun _ h=>h) (fun _ h=>h.elim) (Agree.refl _ _) ⟨baseEnv_at.2 ⟨Beneath.refl ⟨W,_,[]⟩,fun b o h=>.inl h,fun b h=>h.elim (fun h=>.inr h.1) (fun ⟨d,hd,_⟩=>by cases hd)⟩,fun b ⟨o,hb⟩=>(Array.getElem?_eq_some_iff.1 (hp b o hb).1).1,hsub,marks_start⟩ (Grow.refl _) (sat_startHp hn hsub hp)
 refine body_soundN T baseEnv_ok h1 h2 h3 h4 (K:=fun _ vs H G=>FinHp H fun p=>K (wrapV vs) p G) hs h ?_
 intro σ' W' M E vs H' G' ⟨p',hhp,k1⟩ hg hd
 exact hp_fin hhp k1 hg hd
theorem CompAt.hp {f:FuncId} {ic:IC} {rs:List IRes} {nt:Nat} (C:CompAt P f 1000 ic rs nt) (T:Tab P) {sh:List Value→List Value} {pre:List Value→Hp→Hp→Prop} {post:List Value→Hp→Value→Hp→Hp→Prop} (hn:∀ args p G,pre args p G→(sh args).length≤nt)
  (hm:∀ args p v p' G G',Grow G G'→post args p v p' G→post args p v p' G') (h:∀ args p G,pre args p G→hpVC P T.get ic rs (sh args) p G fun v p' G'=>post args p v p' G'):Sound P f sh (.hp pre post) :=
 ⟨hm,fun args p G W hs hp hpre=>(C.callsHp T (hn args p G hpre) hs hp (h args p G hpre)).mono fun e W' ⟨v,p',G',h1,h2,h3,h4,h5,h6,h7⟩=>⟨v,p',G',h1,h2,h3,h4,h5,h6,h7⟩⟩
def panVC (P:Program) (tab:FuncId→Option PSpec) (t:TypeId) (C:St→Prop) (ic:IC) (args:List Value) (p G:Hp):Prop :=
 vc P tab (.pan t C) ic 1000 ⟨argFr args,heapS p,G⟩ fun o _ _=>match o with
  | .norm=>False
  | .ret=>False
  | .exit _=>False
def panEnv (t:TypeId) (C:St→Prop) (ln:Nat→Prop) (G:Hp) (W:World):Env:=⟨0,[],(baseEnv ln G W).J,(baseEnv ln G W).Jx,some (t,C)⟩
theorem panEnv_ok {t:TypeId} {C:St→Prop} {ln:Nat→Prop} {G:Hp} {W:World}:(panEnv t C ln G W).Ok P:=⟨baseEnv_ok (P:=P).st,baseEnv_ok (P:=P).stx,fun k args _ _ _ h=>by simp [panEnv] at h⟩
def HeapQ (Q:Hp→Prop) (σ:St):Prop:=∃ q, σ.H 0 = some (.heap q)∧Q q
theorem CompAt.pan {f:FuncId} {ic:IC} {rs:List IRes} {nt:Nat} (C:CompAt P f 1000 ic rs nt) (T:Tab P) {t:TypeId} {pre:List Value→Hp→Hp→Prop} {post:List Value→Hp→Hp→Prop} (hn:∀ args p G,pre args p G→args.length≤nt) (hnr:noRange ic = true) (h:∀ args p G,pre args p G→panVC P T.get t (HeapQ (post args p)) ic args p G):PanF P f t pre post:=by
 intro args p G W hsub hp hpre
 have hn:=hn args p G hpre
 obtain ⟨fn,c,b2,h1,h2,h3,h4,rfl⟩:=C.ex
 have he:(panEnv t (HeapQ (post args p)) (dom p) G W).Ok P:=panEnv_ok
 have hs:SatE (panEnv t (HeapQ (post args p)) (dom p) G W) [] fn.ntmps 1000 (fun _=>False) (fun _=>undef) ⟨argFr args,heapS p,G⟩ { tmps:=args.toArray++Array.replicate (fn.ntmps - args.toArray.size) undef,defers:=[] } W :=
  SatE.of (r:=⟨W,dom p,[]⟩) (G0:=G) (fun _ h=>h) (fun _ h=>h.elim) (Agree.refl _ _) ⟨baseEnv_at.2 ⟨Beneath.refl ⟨W,_,[]⟩,fun b o h=>.inl h,fun b h=>h.elim (fun h=>.inr h.1) (fun ⟨d,hd,_⟩=>by cases hd)⟩,fun b ⟨o,hb⟩=>(Array.getElem?_eq_some_iff.1 (hp b o hb).1).1,hsub,marks_start⟩ (Grow.refl _) (sat_startHp hn hsub hp)
 refine body_end T he h1 h2 h3 (End:=fun _=>False) hs (h args p G hpre) (fun σ' a' W' M E h=>h.elim) ?_ (.inr fun _ h=>h)
 ·intro t' C' ht bd' σ' a' W' ds' ch k0 k9 k1 k2 k3
  cases ht
  obtain ⟨q,kq1,kq2⟩:=k9
  have hds:=k0 hnr
  subst hds
  obtain ⟨M,E,e0,q1,q2,q3,q4,q5⟩:=k3.now he
  rw [e0] at q4 q5 ⊢
  obtain ⟨hat,hat2,hat3⟩:=baseEnv_at.1 q4.at_
  refine ⟨ch,q,rfl,k1,kq2,fun b o e=>⟨(q5.sim.own 0 _ kq1 b o e).2, ?_⟩,hat⟩
  exact (hat3 b (.inl ⟨⟨0,_,kq1,⟨o,e⟩⟩,q5.sim.priv 0 _ kq1 rfl b ⟨o,e⟩⟩)).symm

/-! ### An own heap that is only read -/
abbrev unionHp:=overG
theorem over_union {p G:Hp} (d:Disj p G):Over p G (unionHp p G):=over_G d
theorem Over.sub {p G G1:Hp} {W:World} (h:Over p G G1) (hs:Sub G W) (hp:∀ b o,p b = some o→W.heap[b]? = some o):Sub G1 W:=fun b o e=>(h.2.2 b o e).elim (hs b o) (hp b o)
theorem Sound.hpRel {f:FuncId} {sh:List Value→List Value} {pre:List Value→Hp→Hp→Prop} {post:List Value→Hp→Value→Hp→Hp→Prop} {pre':List Value→Hp→Prop} {post':List Value→Value→Hp→Prop} (hs:Sound P f sh (.hp pre post))
  (h1:∀ args G,pre' args G→pre args (fun _=>none) G) (h2:∀ args v p' G' G'',Grow G' G''→(∀ b o,p' b = some o→G'' b = some o)→post args (fun _=>none) v p' G'→post' args v G'') (hm:∀ args v G G',Grow G G'→post' args v G→post' args v G'):Sound P f sh (.rel pre' post'):=by
 refine ⟨hm,fun args G W hsub hpre=>(hs.2 args (fun _=>none) G W hsub (fun b o e=>by cases e) (h1 args G hpre)).mono ?_⟩
 rintro e W' ⟨v,p',G',rfl,hq,hp',hg,hs',hn,hB⟩
 have d:Disj p' G':=fun b o e=>(hp' b o e).2.1
 have ho:=over_union d
 refine ⟨v,unionHp p' G',rfl,h2 args v p' G' _ ho.1 ho.2.1 hq,hg.trans ho.1,ho.sub hs' (fun b o e=>(hp' b o e).1),fun b o e=>?_,⟨hB.os,hB.tape,hB.output,hB.size,fun k hk=>hB.block k hk (fun ⟨o,h⟩=>by cases h)⟩⟩
 rcases ho.2.2 b o e with h | h
 ·exact (hn b o h).imp id fun h=>h.elim (fun ⟨o,h⟩=>by cases h) id
 ·exact .inr ((hp' b o h).2.2.elim (fun ⟨o,h⟩=>by cases h) id)
theorem Sound.hpSca0 {f:FuncId} {sh:List Value→List Value} {pre:List Value→Hp→Hp→Prop} {post:List Value→Hp→Value→Hp→Hp→Prop} (hs:Sound P f sh (.hp pre post)) :
  Sound P f sh (.sca (fun args G=>pre args (fun _=>none) G) fun args _ v=>∃ p' G',post args (fun _=>none) v p' G'):=fun args G W hsub hpre =>
 (hs.2 args (fun _=>none) G W hsub (fun b o e=>by cases e) hpre).mono fun e W' ⟨v,p',G',h1,h2,_,_,_,_,hB⟩=>⟨v,h1,⟨p',G',h2⟩,⟨hB.os,hB.tape,hB.output,hB.size,fun k hk=>hB.block k hk (fun ⟨o,h⟩=>by cases h)⟩⟩
end
end Go.Pal

namespace Go.Pal
open Go.RowKit
section
variable {P:Program}
theorem sat_startHx {n:Nat} {args:List Value} (hn:args.length≤n) {G p:Hp} {W:World} (hsub:Sub G W) (hp:∀ b o,p b = some o→W.heap[b]? = some o∧G b = none):Sat ⟨W,dom p,[]⟩ G n (fun k=>k < 3000) (fun _=>undef) ⟨argFr args,heapS p,G⟩ { tmps:=args.toArray++Array.replicate (n - args.toArray.size) undef,defers:=[] } W:=by
 refine ⟨⟨Beneath.refl ⟨W,_,[]⟩,hsub,fun b o h=>.inl h,fun h ob e=>?_,fun h ob v e e2=>?_,fun h ob e _ b hb=>?_,fun h ob h' ob' b e e2 _ _ _=>?_⟩,fun i=>argFr_ment _ args i,fun h ob e=>?_,fun i=>args_frame _ i,by simp;omega,rfl⟩
 ·obtain ⟨_,rfl⟩:=heapS_some e;exact fun b o ho=>⟨.inr ⟨o,ho⟩,(hp b o ho).1⟩
 ·obtain ⟨_,rfl⟩:=heapS_some e;cases e2
 ·obtain ⟨_,rfl⟩:=heapS_some e;obtain ⟨o,ho⟩:=hb;exact (hp b o ho).2
 ·obtain ⟨rfl,_⟩:=heapS_some e;obtain ⟨rfl,_⟩:=heapS_some e2;rfl
 ·obtain ⟨rfl,rfl⟩:=heapS_some e;exact ⟨Nat.le_of_ble_eq_true rfl,trivial⟩
def hxVC (P:Program) (tab:FuncId→Option PSpec) (ic:IC) (rs:List IRes) (args:List Value) (p G:Hp) (K:Value→Hp→Hp→Prop):Prop :=
 vc P tab (.no []) ic 3000 ⟨argFr args,heapS p,G⟩ fun o _ σ=>match o with
  | .norm=>finHp rs σ K
  | .ret=>finHp rs σ K
  | .exit _=>False
theorem CompAt.callsHx {f:FuncId} {ic:IC} {rs:List IRes} {nt:Nat} (C:CompAt P f 3000 ic rs nt) (T:Tab P) {args:List Value} {p G:Hp} {W:World} {K:Value→Hp→Hp→Prop} (hn:args.length≤nt) (hsub:Sub G W) (hp:∀ b o,p b = some o→W.heap[b]? = some o∧G b = none) (h:hxVC P T.get ic rs args p G K) :
  Calls P f args.toArray W fun e W'=>∃ v p' G',e = .returned v∧K v p' G'∧(∀ b o,p' b = some o→W'.heap[b]? = some o∧G' b = none∧((∃ o,p b = some o)∨W.heap.size≤b))∧Grow G G'∧Sub G' W'∧(∀ b o,G' b = some o→G b = some o∨(∃ o,p b = some o)∨W.heap.size≤b)∧Beneath ⟨W,dom p,[]⟩ W':=by
 obtain ⟨fn,c,b2,h1,h2,h3,h4,rfl⟩:=C.ex
 have hs:SatE (baseEnv (dom p) G W) [] fn.ntmps 3000 (fun _=>False) (fun _=>undef) ⟨argFr args,heapS p,G⟩ { tmps:=args.toArray++Array.replicate (fn.ntmps - args.toArray.size) undef,defers:=[] } W :=
  SatE.of (r:=⟨W,dom p,[]⟩) (G0:=G) (fun _ h=>h) (fun _ h=>h.elim) (Agree.refl _ _) ⟨baseEnv_at.2 ⟨Beneath.refl ⟨W,_,[]⟩,fun b o h=>.inl h,fun b h=>h.elim (fun h=>.inr h.1) (fun ⟨d,hd,_⟩=>by cases hd)⟩,fun b ⟨o,hb⟩=>(Array.getElem?_eq_some_iff.1 (hp b o hb).1).1,hsub,marks_start⟩ (Grow.refl _) (sat_startHx hn hsub hp)
 refine body_soundN T baseEnv_ok h1 h2 h3 h4 (K:=fun _ vs H G=>FinHp H fun p=>K (wrapV vs) p G) hs h ?_
 intro σ' W' M E vs H' G' ⟨p',hhp,k1⟩ hg hd
 exact hp_fin hhp k1 hg hd
theorem CompAt.hx {f:FuncId} {ic:IC} {rs:List IRes} {nt:Nat} (C:CompAt P f 3000 ic rs nt) (T:Tab P) {sh:List Value→List Value} {pre:List Value→Hp→Hp→Prop} {post:List Value→Hp→Value→Hp→Hp→Prop} (hn:∀ args p G,pre args p G→(sh args).length≤nt)
  (hm:∀ args p v p' G G',Grow G G'→post args p v p' G→post args p v p' G') (h:∀ args p G,pre args p G→hxVC P T.get ic rs (sh args) p G fun v p' G'=>post args p v p' G'):Sound P f sh (.hp pre post) :=
 ⟨hm,fun args p G W hs hp hpre=>(C.callsHx T (hn args p G hpre) hs hp (h args p G hpre)).mono fun e W' ⟨v,p',G',h1,h2,h3,h4,h5,h6,h7⟩=>⟨v,p',G',h1,h2,h3,h4,h5,h6,h7⟩⟩
def OverX (p G:Hp) (Q:Hp→Prop):Prop:=∃ G0 G1,Grow G0 G∧Over p G0 G1∧Q G1
theorem OverX.grow {p G G':Hp} {Q:Hp→Prop} (hg:Grow G G') (h:OverX p G Q):OverX p G' Q:=by
 obtain ⟨G0,G1,h1,h2,h3⟩:=h
 exact ⟨G0,G1,h1.trans hg,h2,h3⟩
theorem OverX.at {p p' G G' G1':Hp} {Q:Hp→Prop} (h:OverX p G Q) (hq:∀ G G',Grow G G'→Q G→Q G') (hk:∀ b o,p b = some o→p' b = some o) (hg:Grow G G') (ho:Over p' G' G1'):Q G1':=by
 obtain ⟨G0,G1,h1,h2,h3⟩:=h
 exact hq G1 G1' (fun b o e=>(h2.2.2 b o e).elim (fun e=>ho.1 b o (hg b o (h1 b o e))) fun e=>ho.2.1 b o (hk b o e)) h3
theorem OverX.of {p G:Hp} {Q:Hp→Prop} (hd:Disj p G) (h:∀ G1,Over p G G1→Q G1):OverX p G Q:=⟨G,_,Grow.refl _,over_union hd,h _ (over_union hd)⟩
theorem OverX.imp {p G:Hp} {Q Q':Hp→Prop} (h:OverX p G Q) (hq:∀ G1,Q G1→Q' G1):OverX p G Q':=by
 obtain ⟨G0,G1,h1,h2,h3⟩:=h
 exact ⟨G0,G1,h1,h2,hq _ h3⟩
theorem OverX.rd {p G:Hp} {b off n:Nat} {cs:List Value} {A:List Value→Prop} (hp:∀ b o,p b = some o→∃ ds t,o = .cells ds t (0,0)) (h:OverX p G fun G1=>CellsAt G1 b off cs) (hn:0 < n) (hl:cs.length = n) (k:W (A cs)):RdhP p G b off n A:=by
 obtain ⟨G0,G1,h1,h2,h3⟩:=h
 obtain ⟨v,hv⟩:∃ v,cs[0]? = some v:=by
  cases cs with
  | nil=>simp at hl;omega
  | cons v r=>exact ⟨v,rfl⟩
 have h0:=h3 0 v hv
 cases hpb:p b with
 | none =>
  refine ⟨cs,⟨hl, .inl fun j w hj=>?_⟩,fun _=>k⟩
  have hj2:=h3 j w hj
  unfold rd1 at hj2 ⊢
  cases hG:G1 b with
  | none=>rw [hG] at hj2;simp at hj2
  | some o =>
   rcases h2.2.2 b o hG with e | e
   ·rw [h1 b o e];rw [hG] at hj2;exact hj2
   ·rw [hpb] at e;cases e
 | some o =>
  obtain ⟨ds,t,rfl⟩:=hp b o hpb
  have hG:=h2.2.1 b _ hpb
  refine ⟨cs,⟨hl, .inr ⟨ds.toList,t,by simpa using hpb, ?_⟩⟩,fun _=>k⟩
  apply List.ext_getElem?
  intro j
  by_cases hj:j < n
  ·have hjl:j < cs.length:=by omega
   have:=h3 j cs[j] (by simp [hjl])
   unfold rd1 at this
   rw [hG] at this
   rw [List.getElem?_eq_getElem hjl,List.getElem?_take,if_pos hj,List.getElem?_drop]
   simpa using this.symm
  ·rw [List.getElem?_eq_none (by omega),List.getElem?_take,if_neg hj]
end
end Go.Pal

namespace Go.Pal
open Go.RowKit
theorem RdhP.g {p G:Hp} {b off n:Nat} {A:List Value→Prop} {cs:List Value} (h:CellsAt G b off cs) (hl:cs.length = n) (k:W (A cs)):RdhP p G b off n A:=⟨cs,⟨hl, .inl h⟩,fun _=>k⟩
theorem RdhP.h {p G:Hp} {b off n:Nat} {A:List Value→Prop} {ds:List Value} {t:TypeId} (h:p b = some (.cells ds.toArray t (0,0))) (hl:((ds.drop off).take n).length = n) (k:W (A ((ds.drop off).take n))):RdhP p G b off n A:=⟨_,⟨hl, .inr ⟨ds,t,h,rfl⟩⟩,fun _=>k⟩
def KeepHp (F:Nat→Prop) (p p':Hp):Prop:=∀ b o, ¬ F b→p b = some o→p' b = some o
theorem KeepHp.refl {F:Nat→Prop} {p:Hp}:KeepHp F p p:=fun _ _ _ h=>h
theorem KeepHp.trans {F:Nat→Prop} {p q r:Hp} (h:KeepHp F p q) (h':KeepHp F q r):KeepHp F p r:=fun b o hf e=>h' b o hf (h b o hf e)
/-! ### The cells of a list of elements -/
abbrev flat {α:Type} (E:El α) (l:List α):List Value:=(l.map E.f).flatten
theorem flat_app {α:Type} (E:El α) (a b:List α):flat E (a++b) = flat E a++flat E b:=by simp [flat]
theorem flat_len {α:Type} (E:El α) (l:List α):(flat E l).length = l.length * E.k:=by
 induction l with
 | nil=>simp [flat]
 | cons x r ih=>rw [show flat E (x :: r) = E.f x++flat E r from rfl,List.length_append,ih,E.len,List.length_cons,Nat.add_mul,Nat.one_mul];omega
theorem flat_one {α:Type} (E:El α) (l:List α):∀ v∈flat E l,v.oneCell' = true:=fun v hv=>by
 obtain ⟨x,hx,hv⟩:=List.mem_flatten.1 hv
 obtain ⟨y,_,rfl⟩:=List.mem_map.1 hx
 exact E.one y v hv
theorem flat_split {α:Type} (E:El α) (l:List α) (i:Nat) (h:i < l.length):flat E l = flat E (l.take i)++(E.f l[i]++flat E (l.drop (i + 1))):=by
 have:l = l.take i++(l[i] :: l.drop (i + 1)):=by rw [← List.drop_eq_getElem_cons h,List.take_append_drop]
 calc flat E l = flat E (l.take i++(l[i] :: l.drop (i + 1))):=by rw [← this]
  _ = _:=by rw [flat_app];rfl
theorem flat_sub {α:Type} (E:El α) (l:List α) (rest:List Value) {i d n:Nat} (h:i < l.length) (hd:d + n≤E.k):((flat E l++rest).drop (i * E.k + d)).take n = ((E.f l[i]).drop d).take n:=by
 have hl:(flat E (l.take i)).length = i * E.k:=by rw [flat_len,List.length_take,Nat.min_eq_left (Nat.le_of_lt h)]
 have hf:=E.len l[i]
 rw [flat_split E l i h,List.append_assoc,List.append_assoc,List.drop_append,List.drop_of_length_le (by omega),List.nil_append,hl,Nat.add_sub_cancel_left,List.drop_append,List.take_append_of_le_length (by rw [List.length_drop];omega)]
theorem flat_at {α:Type} (E:El α) (l:List α) (rest:List Value) {i:Nat} (h:i < l.length):((flat E l++rest).drop (i * E.k)).take E.k = E.f l[i]:=by
 have:=flat_sub E l rest (d:=0) (n:=E.k) h (by omega)
 rw [Nat.add_zero,List.drop_zero] at this
 rw [this,List.take_of_length_le (Nat.le_of_eq (E.len _))]
theorem flat_set {α:Type} (E:El α) (l:List α) (rest us:List Value) {i d n:Nat} {x:α} (h:i < l.length) (hd:d + n≤E.k) (hx:(E.f l[i]).take d++us++(E.f l[i]).drop (d + n) = E.f x) :
  (flat E l++rest).take (i * E.k + d)++us++(flat E l++rest).drop (i * E.k + d + n) = flat E (l.set i x)++rest:=by
 have hl:(flat E (l.take i)).length = i * E.k:=by rw [flat_len,List.length_take,Nat.min_eq_left (Nat.le_of_lt h)]
 have hf:=E.len l[i]
 have hset:flat E (l.set i x) = flat E (l.take i)++(E.f x++flat E (l.drop (i + 1))):=by
  rw [List.set_eq_take_append_cons_drop,if_pos h,flat_app];rfl
 have e1:flat E l++rest = flat E (l.take i)++(E.f l[i]++(flat E (l.drop (i + 1))++rest)):=by rw [flat_split E l i h];simp only [List.append_assoc]
 rw [e1,hset,List.take_append,List.take_of_length_le (by omega),hl,Nat.add_sub_cancel_left,List.take_append_of_le_length (by omega),List.drop_append,List.drop_of_length_le (by omega),List.nil_append,hl,show i * E.k + d + n - i * E.k = d + n by omega,List.drop_append,show d + n - (E.f l[i]).length = d + n - E.k by rw [hf]]
 rw [show d + n - E.k = 0 by omega,List.drop_zero, ← hx]
 simp only [List.append_assoc]
def RowH {α:Type} (E:El α) (t:TypeId) (p:Hp) (v:Value) (l:List α):Prop :=
 (v = .slice none 0 0∧l = [])∨∃ b c rest,v = .slice (some ⟨b,0,none⟩) l.length c∧p b = some (.cells (flat E l++rest).toArray t (0,0))∧rest.length = (c - l.length) * E.k∧l.length≤c∧c≤maxLen
theorem RowH.nil {α:Type} {E:El α} {t:TypeId} {p:Hp}:RowH E t p (.slice none 0 0) []:=.inl ⟨rfl,rfl⟩
theorem RowH.cells {α:Type} {E:El α} {p:Hp} {b:Nat} {l:List α} {rest:List Value} {t:TypeId} (h:p b = some (.cells (flat E l++rest).toArray t (0,0))) {off n:Nat} {cs:List Value} (hcs:((flat E l++rest).drop off).take n = cs) {G:Hp} {A:List Value→Prop} (hl:cs.length = n) (k:W (A cs)):RdhP p G b off n A :=
 ⟨cs,⟨hl, .inr ⟨_,t,h,hcs.symm⟩⟩,fun _=>k⟩
theorem RowH.slV {α:Type} {E:El α} {t:TypeId} {p G:Hp} {v:Value} {l:List α} (h:RowH E t p v l) (hp:∀ b o,p b = some o→G b = some o) (hn:l.length≤140737488355328):SlV E G v l:=by
 rcases h with ⟨rfl,rfl⟩ | ⟨b,c,rest,rfl,hb,hr,hc,hm⟩
 ·exact SlV.nil
 ·refine ⟨_,_,_,rfl,⟨rfl,hc,fun _=>rfl,fun i hi=>⟨E.f l[i],E.len _, ?_,rfl⟩⟩,hn⟩
  intro j u hj
  have hjk:j < E.k:=by have:=(List.getElem?_eq_some_iff.1 hj).1;rwa [E.len] at this
  have e:=flat_at E l rest hi
  have:(flat E l++rest)[i * E.k + j]? = some u:=by
   rw [← List.getElem?_drop, ← hj, ← e,List.getElem?_take,if_pos hjk]
  simp only [rd1,ab_some,ao_some,Nat.zero_add,hp _ _ hb]
  simpa using this
section
variable {α:Type} {E:El α} {t:TypeId} {p:Hp}
theorem take_flat {l:List α} {rest:List Value}:(flat E l++rest).take (l.length * E.k) = flat E l:=by
 rw [List.take_append_of_le_length (by rw [flat_len];exact Nat.le_refl _),List.take_of_length_le (by rw [flat_len];exact Nat.le_refl _)]
theorem RowH.appIn {b c:Nat} {l us:List α} {rest:List Value} (hr:rest.length = (c - l.length) * E.k) (hc:l.length + us.length≤c) (hm:c≤maxLen) :
  RowH E t (upd p b (some (.cells ((flat E l++rest).take (l.length * E.k)++flat E us++(flat E l++rest).drop ((l.length + us.length) * E.k)).toArray t (0,0)))) (.slice (some ⟨b,0,none⟩) (l.length + us.length) c) (l++us):=by
 refine .inr ⟨b,c,rest.drop (us.length * E.k),by rw [List.length_append], ?_, ?_,by rw [List.length_append];exact hc,hm⟩
 ·rw [upd_same,take_flat,flat_app]
  simp only [List.append_assoc]
  congr 5
  rw [List.drop_append,List.drop_of_length_le (by rw [flat_len,Nat.add_mul];omega),List.nil_append,flat_len,Nat.add_mul,Nat.add_sub_cancel_left]
 ·rw [List.length_drop,hr,List.length_append, ← Nat.sub_mul]
  congr 1
  omega
theorem RowH.appNew {b c:Nat} {l us:List α} {vs rest':List Value} (hv:vs = flat E l) (hr:rest'.length = (c - (l.length + us.length)) * E.k) (hc:l.length + us.length≤c) (hm:c≤maxLen) :
  RowH E t (upd p b (some (.cells (vs++flat E us++rest').toArray t (0,0)))) (.slice (some ⟨b,0,none⟩) (l.length + us.length) c) (l++us):=by
 subst hv
 refine .inr ⟨b,c,rest',by rw [List.length_append],by rw [upd_same,flat_app],by rw [hr,List.length_append],by rw [List.length_append];exact hc,hm⟩
theorem RowH.mono {v:Value} {l:List α} {q:Hp} (h:RowH E t p v l) (hk:∀ b o,blkOf v = some b→p b = some o→q b = some o):RowH E t q v l:=by
 rcases h with ⟨h1,h2⟩ | ⟨b,c,rest,rfl,hb,h⟩
 ·exact .inl ⟨h1,h2⟩
 ·exact .inr ⟨b,c,rest,rfl,hk _ _ rfl hb,h⟩
end
theorem RowH.typ {α:Type} {E:El α} {t:TypeId} {p:Hp} {v:Value} {l:List α} (h:RowH E t p v l) {b:Nat} {cs:Array Value} {t':TypeId} {x:Nat × Nat} (hb:blkOf v = some b) (e:p b = some (.cells cs t' x)):t' = t:=by
 rcases h with ⟨rfl,_⟩ | ⟨b',c,rest,rfl,h,_⟩
 ·cases hb
 ·cases hb
  rw [h] at e;cases e;rfl
theorem RowH.sl {α:Type} {E:El α} {t:TypeId} {p:Hp} {v:Value} {l:List α} (h:RowH E t p v l):∃ a c,v = .slice a l.length c:=by
 rcases h with ⟨rfl,rfl⟩ | ⟨b',c',rest,rfl,_⟩<;>exact ⟨_,_,rfl⟩
theorem RowH.off {α:Type} {E:El α} {t:TypeId} {p:Hp} {v:Value} {l:List α} (h:RowH E t p v l) {b:Nat} {o:Option Obj} (hb:blkOf v≠some b):RowH E t (upd p b o) v l :=
 h.mono fun k o' e1 e2=>by rw [upd_other _ _ (fun he=>hb (by rw [he] at e1;exact e1))];exact e2
end Go.Pal

namespace Go.Proofs.Ytefnikpoimaiiaa
open Go.Pal Go Go.RowKit
set_option maxRecDepth 100000
abbrev I (n:Int):Value:=.int .i64 n
abbrev U (n:Int):Value:=.int .u16 n
abbrev st4L (y:St4):List Value:=[I y.h,I y.t,I y.s, .bool y.o]
abbrev st4V (y:St4):Value:=.agg (st4L y).toArray
theorem st4V_inj {x y:St4} (h:st4V x = st4V y):x = y:=by
 cases x;cases y
 simp only [st4V,st4L,Value.agg.injEq] at h
 have:=congrArg Array.toList h
 simp at this
 simp [this]
structure Ok4 (y:St4):Prop where
 h:inR .i64 y.h
 t:inR .i64 y.t
 s:inR .i64 y.s
theorem Bd.ok {s:Sc} (hs:ScOk s) {y:St4} (h:Bd s y):Ok4 y:=by
 have h1:=h.h
 have h2:=h.t
 have h3:=h.s
 have h4:=hs.p
 exact ⟨by simp only [inR];omega,by simp only [inR];omega,by simp only [inR];omega⟩
theorem uST : Try.prog.underlying 124 = some (.struct #[{ name := "holder", type := 3, offset := 0, embedded := false, tag := "", pkgPath := "palantype/floor", byteOffset := 0 }, { name := "turn", type := 3, offset := 1, embedded := false, tag := "", pkgPath := "palantype/floor", byteOffset := 8 }, { name := "short", type := 3, offset := 2, embedded := false, tag := "", pkgPath := "palantype/floor", byteOffset := 16 }, { name := "own", type := 4, offset := 3, embedded := false, tag := "", pkgPath := "palantype/floor", byteOffset := 24 }]) := by kernel_rfl
theorem cST:Try.prog.cellsOf 124 = 4:=by kernel_rfl
theorem u3:Try.prog.underlying 3 = some (.int .i64):=by kernel_rfl
theorem u4:Try.prog.underlying 4 = some .bool:=by kernel_rfl
theorem c3:Try.prog.cellsOf 3 = 1:=by kernel_rfl
theorem c4:Try.prog.cellsOf 4 = 1:=by kernel_rfl
theorem wf_i64 {a:Int} (h:inR .i64 a):(Lit.int .i64 a).wf = true:=by
 simp only [inR] at h
 simp only [Lit.wf,Bool.and_eq_true,decide_eq_true_eq]
 exact h
theorem keyLits_int {D:Nat} {a:Int} (h:inR .i64 a):Try.prog.keyLits (D + 1) 3 [I a] = some [.int .i64 a]:=by
 simp only [Program.keyLits,u3]
 rw [if_pos ⟨trivial,wf_i64 h⟩]
theorem keyLits_bool {D:Nat} {a:Bool}:Try.prog.keyLits (D + 1) 4 [.bool a] = some [.bool a]:=by
 simp only [Program.keyLits,u4]
theorem st4_keyOf {y:St4} (h:Ok4 y):∃ l,keyOf Try.prog 124 (st4V y) = some l:=by
 have kt:Try.prog.keyType 124 = true:=by kernel_rfl
 obtain ⟨m,hs⟩:∃ m,Try.prog.types.size + 1 = m + 2:=by
  have hs:Try.prog.types.size + 1 = (Try.prog.types.size - 1) + 2:=by kernel_rfl
  exact ⟨_,hs⟩
 have hf:(st4V y).formed Try.prog 124 = true:=by
  simp only [st4V,Value.formed,uST,cST];rfl
 have key:keyOf Try.prog 124 (st4V y) = some (.string (keyBytes [.int .i64 y.h, .int .i64 y.t, .int .i64 y.s, .bool y.o])):=by
  unfold keyOf
  simp only [uST,kt,hf,Bool.and_self,if_true]
  rw [hs]
  unfold Program.keyLits
  simp only [uST]
  rw [if_pos ⟨by rw [cST];rfl,by kernel_rfl⟩]
  simp [Value.cells,c3,c4,keyLits_int h.h,keyLits_int h.t,keyLits_int h.s,keyLits_bool]
 exact ⟨_,key⟩
theorem lawST:WideMaps.KeyLaw Try.prog 124:=deep_law (m:=5) (by decide) (by kernel_rfl) (by kernel_rfl) (by rw [uST])
theorem st4_same (y:St4):Instr.sameBits 10000 (st4V y) (st4V y) = true:=by
 show Instr.sameBits (9999 + 1) (.agg _) (.agg _) = true
 simp [Instr.sameBits]
structure MS (es:Array MapEntry) (clock:Nat) (S:St4→Prop):Prop where
 st:MapKept.Stamped es clock
 ent:∀ e∈es.toList, ∃ y,S y∧e.key = st4V y∧e.val = .bool true
 mem:∀ y,S y→∃ e∈es.toList,e.key = st4V y
 ok:∀ y,S y→Ok4 y
section
variable {es:Array MapEntry} {clock:Nat} {S:St4→Prop}
theorem MS.nil {c:Nat}:MS #[] c (fun _=>False):=⟨MapKept.stamped_empty c,fun e h=>by simp at h,fun y h=>h.elim,fun y h=>h.elim⟩
theorem MS.imp {S':St4→Prop} (h:MS es clock S) (hi:∀ y,S y↔S' y):MS es clock S':=⟨h.st,fun e he=>let ⟨y,h1,h2⟩:=h.ent e he;⟨y,(hi y).1 h1,h2⟩,fun y hy=>h.mem y ((hi y).2 hy),fun y hy=>h.ok y ((hi y).2 hy)⟩
theorem MS.nd (h:MS es clock S):(es.toList.map (·.key)).Nodup:=by
 have:=((MapKept.stamped_iff es clock).1 h.st).2.2
 rw [List.nodup_iff_pairwise_ne,List.pairwise_map]
 exact this
theorem MS.find (h:MS es clock S) {y:St4} (hy:Ok4 y):∃ r,KeyFind Try.prog 124 (st4V y) es r∧(lookV (.bool false) false es r = .bool true↔S y)∧(lookV (.bool false) false es r = .bool true∨lookV (.bool false) false es r = .bool false) ∧
  MS (putE es clock (st4V y) (.bool true) r).1 (putE es clock (st4V y) (.bool true) r).2 (fun z=>S z∨z = y)∧MS (delE es r) clock (fun z=>S z∧z≠y)∧(delE es r).toList.Sublist es.toList:=by
 obtain ⟨l,hl⟩:=st4_keyOf hy
 rcases keyFind_of lawST hl (st4_same y) (es:=es) (fun e he=>by obtain ⟨t,ht,e1,_⟩:=h.ent e he;rw [e1];exact st4_keyOf (h.ok t ht)) h.nd with ⟨h1,h2⟩ | ⟨j,e,h1,h2,h3⟩
 ·have hn:¬ S y:=fun hin=>by
   obtain ⟨e,he,e1⟩:=h.mem y hin
   exact h2 e he e1
  refine ⟨none,h1,⟨fun h=>(by cases h),fun h=>absurd h hn⟩, .inr rfl, ?_, ?_,List.Sublist.refl _⟩
  ·refine ⟨MapKept.stamped_push h.st h2,fun e he=>?_,fun z hz=>?_,fun z hz=>?_⟩
   ·simp only [putE,Array.toList_push,List.mem_append,List.mem_singleton] at he
    rcases he with he | rfl
    ·obtain ⟨z,q1,q2⟩:=h.ent e he
     exact ⟨z, .inl q1,q2⟩
    ·exact ⟨y, .inr rfl,rfl,rfl⟩
   ·simp only [putE,Array.toList_push,List.mem_append,List.mem_singleton]
    rcases hz with hz | rfl
    ·obtain ⟨e,he,e1⟩:=h.mem z hz
     exact ⟨e, .inl he,e1⟩
    ·exact ⟨_, .inr rfl,rfl⟩
   ·rcases hz with hz | rfl
    ·exact h.ok z hz
    ·exact hy
  ·exact h.imp fun z=>⟨fun hz=>⟨hz,fun e=>hn (e ▸ hz)⟩,fun hz=>hz.1⟩
 ·have h2':es.toList[j]? = some e:=by simpa using h2
  have hem:=List.mem_of_getElem? h2'
  obtain ⟨t,ht,e1,e2⟩:=h.ent e hem
  obtain rfl:y = t:=st4V_inj (h3.symm.trans e1)
  have hjl:=(List.getElem?_eq_some_iff.1 h2').1
  refine ⟨some j,h1,⟨fun _=>ht,fun _=>by simp [lookV,mapAt,h2,e2]⟩, .inl (by simp [lookV,mapAt,h2,e2]), ?_, ?_⟩
  ·have hmod:(putE es clock (st4V y) (.bool true) (some j)).1 = es:=by
    apply Array.ext'
    apply List.ext_getElem?
    intro i
    simp only [putE,Array.getElem?_toList,Array.getElem?_modify]
    split
    ·rename_i hij
     subst hij
     rw [h2]
     simp only [Option.map_some,Option.some.injEq]
     obtain ⟨_,_,_⟩:=e
     simp_all
    ·rfl
   have hm:MS es clock (fun z=>S z∨z = y):=h.imp fun z=>⟨.inl,fun hz=>hz.elim id fun e=>e ▸ ht⟩
   rw [hmod];exact hm
  ·have hlist:(delE es (some j)).toList = es.toList.eraseIdx j:=by
    simp only [delE]
    unfold Array.eraseIdxIfInBounds
    rw [dif_pos (by simpa using hjl)]
    simp
   refine ⟨⟨MapKept.stamped_erase h.st j,fun e' he'=>?_,fun z hz=>?_,fun z hz=>h.ok z hz.1⟩,by rw [hlist];exact List.eraseIdx_sublist _ _⟩
   ·rw [hlist,List.mem_eraseIdx_iff_getElem?] at he'
    obtain ⟨i,hne,hi⟩:=he'
    obtain ⟨z,q1,q2,q3⟩:=h.ent e' (List.mem_of_getElem? hi)
    refine ⟨z,⟨q1,fun e4=>hne ?_⟩,q2,q3⟩
    have k1:(es.toList.map (·.key))[i]? = some (st4V y):=by simp [List.getElem?_map,hi,q2,e4]
    have k2:(es.toList.map (·.key))[j]? = some (st4V y):=by simp [List.getElem?_map,h2',e1]
    exact (List.getElem?_inj (List.getElem?_eq_some_iff.1 k1).1 h.nd).1 (k1.trans k2.symm)
   ·obtain ⟨e',he',q⟩:=h.mem z hz.1
    obtain ⟨i,hi⟩:=List.getElem?_of_mem he'
    refine ⟨e', ?_,q⟩
    rw [hlist,List.mem_eraseIdx_iff_getElem?]
    refine ⟨i,fun e4=>hz.2 ?_,hi⟩
    subst e4
    rw [h2'] at hi;cases hi
    exact st4V_inj (q.symm.trans e1)
structure Vis (es:Array MapEntry) (seen:Array Nat) (D:St4→Prop):Prop where
 iff:∀ e∈es.toList, ∀ y,e.key = st4V y→(seen.contains e.born = true↔D y)
theorem Vis.nil:Vis es #[] (fun _=>False):=⟨fun e _ y _=>by simp⟩
theorem Vis.sub {seen:Array Nat} {D:St4→Prop} {es':Array MapEntry} (h:Vis es seen D) (hs:es'.toList.Sublist es.toList):Vis es' seen D:=⟨fun e he y hy=>h.iff e (hs.subset he) y hy⟩
theorem Vis.push (hm:MS es clock S) {seen:Array Nat} {D:St4→Prop} (h:Vis es seen D) {e:MapEntry} (he:e∈es.toList) {y:St4} (hy:e.key = st4V y):Vis es (seen.push e.born) (fun z=>D z∨z = y):=⟨fun e' he' z hz=>by
 have hst:=(MapKept.stamped_iff es clock).1 hm.st
 rw [contains_push,Bool.or_eq_true,h.iff e' he' z hz,beq_iff_eq]
 refine or_congr Iff.rfl ⟨fun hb=>?_,fun hzy=>?_⟩
 ·have:=born_inj hst.2.1 he' he hb
  subst this
  exact st4V_inj (hz.symm.trans hy)
 ·subst hzy
  have:e' = e:=by
   obtain ⟨i,hi⟩:=List.getElem?_of_mem he'
   obtain ⟨j,hj⟩:=List.getElem?_of_mem he
   have k1:(es.toList.map (·.key))[i]? = some (st4V z):=by simp [List.getElem?_map,hi,hz]
   have k2:(es.toList.map (·.key))[j]? = some (st4V z):=by simp [List.getElem?_map,hj,hy]
   have:=(List.getElem?_inj (List.getElem?_eq_some_iff.1 k1).1 hm.nd).1 (k1.trans k2.symm)
   subst this
   rw [hi] at hj;cases hj;rfl
  rw [this]⟩
theorem Vis.all (hm:MS es clock S) {seen:Array Nat} {D:St4→Prop} (h:Vis es seen D) (ha:∀ e∈es.toList,seen.contains e.born = true):∀ y,S y→D y:=fun y hy=>by
 obtain ⟨e,he,hk⟩:=hm.mem y hy
 exact (h.iff e he y hk).1 (ha e he)
theorem left_lt {seen:Array Nat} {e:MapEntry} (he:e∈es.toList) (hn:seen.contains e.born = false):(leftOf es (seen.push e.born)).size < (leftOf es seen).size:=left_shrinks es seen e (by
 unfold leftOf
 simp only [Array.mem_toList_iff,Array.mem_filter,Bool.not_eq_true']
 exact ⟨by simpa using he,hn⟩)
theorem left_le {seen:Array Nat} {es':Array MapEntry} (hs:es'.toList.Sublist es.toList):(leftOf es' seen).size≤(leftOf es seen).size:=by
 have e1:∀ a:Array MapEntry,(leftOf a seen).size = (a.toList.filter fun e=>!seen.contains e.born).length:=fun a=>by
  unfold leftOf
  rw [← Array.toList_filter,Array.length_toList]
 rw [e1,e1]
 exact (hs.filter _).length_le
end
end Go.Proofs.Ytefnikpoimaiiaa

namespace Go.Proofs.Ytefnikpoimaiiaa
open Go.Pal Go.RowKit
set_option maxRecDepth 100000
theorem Mo.ext' {x y:Mo} (h1:x.f = y.f) (h2:x.h = y.h):x = y:=by cases x;cases y;simp_all
def moE:El Mo:=⟨2,fun m=>[U m.f,U m.h],fun {x y} h=>by cases x;cases y;simp at h;simp [h],fun _=>rfl,fun _ v hv=>by simp at hv;rcases hv with rfl | rfl<;>rfl⟩
abbrev scL (s:Sc) (w:Value):List Value:=[I s.persons,I s.least,I s.most,I s.short,w]
def ScV (G:Hp) (v:Value) (s:Sc):Prop:=∃ w,v = .agg (scL s w).toArray∧SlV moE G w s.ms
theorem ScV.grow {G G':Hp} (hg:Grow G G') {v:Value} {s:Sc} (h:ScV G v s):ScV G' v s:=let ⟨w,h1,h2⟩:=h;⟨w,h1,h2.grow hg⟩
def scRd:Rd Sc:=⟨ScV,fun {_ _ x y} ⟨w,h,h1⟩ ⟨w',h',h1'⟩=>by
  subst h
  simp only [scL,Value.agg.injEq,Array.mk.injEq,List.cons.injEq,Value.int.injEq,true_and,and_true] at h'
  obtain ⟨e1,e2,e3,e4,e5⟩:=h'
  subst e5
  have:=h1.uniq h1'
  cases x;cases y;simp_all,fun hg h=>h.grow hg⟩
def ScB (G:Hp) (b:Nat) (s:Sc):Prop:=∃ w,CellsAt G b 0 (scL s w)∧SlV moE G w s.ms
theorem ScB.grow {G G':Hp} (hg:Grow G G') {b:Nat} {s:Sc} (h:ScB G b s):ScB G' b s:=let ⟨w,h1,h2⟩:=h;⟨w,h1.grow hg,h2.grow hg⟩
structure MoOk (m:Mo):Prop where
 f:0≤m.f∧m.f < 65536
 h:0≤m.h∧m.h < 65536
abbrev ptr (b:Nat):Value:=.pointer (some ⟨b,0,none⟩)
theorem pur_and16 {a b:Int} (h1:0≤a) (h2:a < 65536) (h3:0≤b) (h4:b < 65536):∀ w,((POp.bin .and 37).sem [U a,U b]).run Try.prog w = .ok (U ((a.toNat &&& b.toNat:Nat):Int)) w:=fun w=>by
 have e:(POp.bin .and 37).sem [U a,U b] = (do eqGuard .and 37 (.tmp 0) (.tmp 0) (U a) (U b);Op.intBits .and .u16 a b):=rfl
 rw [e,show Op.intBits .and .u16 a b = pure (.int .u16 (bits .and .u16 a b)) from rfl,u16_and a b h1 h2 h3 h4]
 rfl
theorem pur_or16 {a b:Int} (h1:0≤a) (h2:a < 65536) (h3:0≤b) (h4:b < 65536):∀ w,((POp.bin .or 37).sem [U a,U b]).run Try.prog w = .ok (U ((a.toNat ||| b.toNat:Nat):Int)) w:=fun w=>by
 have e:(POp.bin .or 37).sem [U a,U b] = (do eqGuard .or 37 (.tmp 0) (.tmp 0) (U a) (U b);Op.intBits .or .u16 a b):=rfl
 rw [e,show Op.intBits .or .u16 a b = pure (.int .u16 (bits .or .u16 a b)) from rfl,u16_or a b h1 h2 h3 h4]
 rfl
theorem pur_andNot16 {a b:Int} (h1:0≤a) (h2:a < 65536) (h3:0≤b) (h4:b < 65536):∀ w,((POp.bin .andNot 37).sem [U a,U b]).run Try.prog w = .ok (U ((a.toNat &&& (65535 - b.toNat):Nat):Int)) w:=fun w=>by
 have e:(POp.bin .andNot 37).sem [U a,U b] = (do eqGuard .andNot 37 (.tmp 0) (.tmp 0) (U a) (U b);Op.intBits .andNot .u16 a b):=rfl
 rw [e,show Op.intBits .andNot .u16 a b = pure (.int .u16 (bits .andNot .u16 a b)) from rfl,u16_andNot a b h1 h2 h3 h4]
 rfl
theorem pur_shl16 {p:Nat} (h:p≤12):∀ w,((POp.bin .shl 37).sem [U 1,I (p:Nat)]).run Try.prog w = .ok (U ((2 ^ p:Nat):Int)) w:=fun w=>by
 rcases (by omega:p = 0∨p = 1∨p = 2∨p = 3∨p = 4∨p = 5∨p = 6∨p = 7∨p = 8∨p = 9∨p = 10∨p = 11∨p = 12) with rfl | rfl | rfl | rfl | rfl | rfl | rfl | rfl | rfl | rfl | rfl | rfl | rfl<;>rfl
theorem bitF_nat {p:Nat}:bitF (p:Int) = ((2 ^ p:Nat):Int):=by
 unfold bitF
 rw [if_neg (by omega)]
 simp
theorem bitF_lt {p:Int} (h1:-1≤p) (h2:p < 13):0≤bitF p∧bitF p < 65536:=by
 by_cases e:p = -1
 ·subst e;decide
 ·obtain ⟨k,rfl⟩:∃ k:Nat,p = k:=⟨p.toNat,by omega⟩
  rw [bitF_nat]
  have:2 ^ k≤2 ^ 12:=Nat.pow_le_pow_right (by decide) (by omega)
  exact ⟨Int.natCast_nonneg _,Int.ofNat_lt.2 (Nat.lt_of_le_of_lt this (by decide))⟩
def bitV:List Value→Value
 | [.int _ p]=>U (bitF p)
 | _=>undef
theorem bit41:Sound Try.prog 41 id (.fn (fun args _=>∃ p:Int,args = [I p]∧-1≤p∧p < 12) bitV):=by
 refine comp41.fn (Tab.nil _) (fun args G h=>?_) (fun args G h=>?_)
 ·obtain ⟨p,rfl,_⟩:=h;simp
 ·obtain ⟨p,rfl,h1,h2⟩:=h
  (conv=>whnf)
  refine IteP.mk (fun e=>W.mk ?_) (fun e=>W.mk ?_)<;>(conv=>whnf)
  ·obtain rfl:p = -1:=e
   exact FinP.mk rfl
  ·have e:¬ p = -1:=e
   obtain ⟨k,rfl⟩:∃ k:Nat,p = k:=⟨p.toNat,by omega⟩
   refine PurP.of _ (pur_shl16 (by omega)) (W.mk ?_)
   (conv=>whnf)
   refine FinP.mk ?_
   show U _ = U (bitF (k:Int))
   rw [bitF_nat]
theorem inK_pre {set:Int} {i j:Nat} (h:i≤j):∃ t,inK set j = inK set i++t:=by
 induction j with
 | zero=>exact ⟨[],by rw [show i = 0 by omega];simp⟩
 | succ j ih =>
  by_cases he:i = j + 1
  ·exact ⟨[],by rw [he];simp⟩
  ·obtain ⟨t,ht⟩:=ih (by omega)
   simp only [inK]
   split
   ·exact ⟨t++[(j:Int) - 1],by rw [ht,List.append_assoc]⟩
   ·exact ⟨t,ht⟩
def inS (bs bu:Nat) (s:Sc) (set:Int):PSpec:=.seq (fun l args G Ys=>args = [.func (.yield l) #[] #[]]∧ScB G bs s∧CellsAt G bu 0 [U set]∧(0≤set∧set < 65536)∧ScOk s∧Ys = (inL s set).map fun p=>[I p]) (fun _ _=>True)
def tabS1:Tab Try.prog:=Tab.cons 41 _ bit41 body41 (Tab.nil _)
theorem in102 (bs bu:Nat) (s:Sc) (set:Int):Sound Try.prog 102 (fun args=>(#[]:Array Value).toList++args++(#[ptr bs,ptr bu]:Array Value).toList) (inS bs bu s set):=by
 refine comp102.seq tabS1 (fun l args G Ys h=>?_) (fun l Y k args G Ys h hseg=>?_)
 ·obtain ⟨rfl,_⟩:=h;simp
 ·obtain ⟨rfl,⟨w,hc,hsl⟩,hu,⟨hs0,hs1⟩,hok,rfl⟩:=h
  have hpp:=hok.p
  have hpi:inR .i64 s.persons:=by simp only [inR];omega
  obtain ⟨N,hN⟩:∃ N:Nat,N = (s.persons + 1).toNat:=⟨_,rfl⟩
  have hNp:(N:Int) = s.persons + 1:=by omega
  have hL:inL s set = inK set N:=by rw [inL,hN]
  rw [hL] at hseg
  (conv=>whnf)
  refine LoopP.of { α:=Nat × Unit,fr:=fun y=>[(0, .v (.func (.yield l) #[] #[])),(1, .v (ptr bs)),(2, .v (ptr bu)),(4, .v (I ((y.1:Int) - 1))),(POS, .c (.pos (k + (inK set y.1).length) false))],H:=fun _=>[],ok:=fun y _=>y.1≤N,m:=fun y=>N - y.1 }
   (0,()) (HeadP.of [] ⟨rfl,rfl,rfl,rfl,rfl,trivial⟩ trivial) (Nat.zero_le _) (fun _=>⟨rfl,rfl⟩) (fun y G1 hg1 hx=>W.mk ?_)
  obtain ⟨i,_⟩:=y
  dsimp only at hx
  dsimp only
  have hc1:=hc.grow hg1
  have hu1:=hu.grow hg1
  (conv=>whnf)
  refine RdP.at (cs:=[I s.persons]) (CellsAt.drop (d:=0) (n:=1) hc1) rfl (W.mk ?_)
  (conv=>whnf)
  refine IteP.mk (fun hlt=>W.mk ?_) (fun hge=>W.mk ?_)<;>(conv=>whnf)
  ·have hlt:(i:Int) - 1 < s.persons:=hlt
   have hsu:inK set (i + 1) = if hasB set ((i:Int) - 1) then inK set i++[(i:Int) - 1] else inK set i:=rfl
   have hb:=bitF_lt (p:=(i:Int) - 1) (by omega) (by omega)
   (first | (refine ra ‹_› (by rfl) ?_;(conv=>whnf)) | (refine rb ‹_› (by rfl) ?_;(conv=>whnf)) | (refine rc ‹_› (by rfl) ?_;(conv=>whnf)) | (refine rd ‹_› (by rfl) ?_;(conv=>whnf)))
   refine OblP.mk ⟨_,rfl,by omega,by omega⟩ (W.mk ?_)
   (conv=>whnf)
   refine PurP.of _ (pur_and16 hs0 hs1 hb.1 hb.2) (W.mk ?_)
   (conv=>whnf)
   refine IteP.mk (fun hz=>W.mk ?_) (fun hz=>W.mk ?_)<;>(conv=>whnf)
   ·have hz:((set.toNat &&& (bitF ((i:Int) - 1)).toNat:Nat):Int) = 0:=hz
    rw [if_neg (by unfold hasB;simp;omega)] at hsu
    (refine ob ?_ ?_;(first | trivial | omega | (simp only [inR];omega) | exact ble (by rfl) | exact SlR.some ‹_› (by omega));(conv=>whnf))
    exact RoundP.of (i + 1,()) (HeadP.of [] ⟨rfl,rfl,rfl,congrArg (fun z=>SV.v (I z)) (by show ((i + 1:Nat):Int) - 1 = (i:Int) - 1 + 1;omega),by rw [hsu];rfl,trivial⟩ trivial (h5:=by show SV.c (.pos (k + (inK set i).length) false) = SV.c (.pos (k + (inK set (i + 1)).length) false);rw [hsu])) (by show i + 1≤N;omega) (by show N - (i + 1) < N - i;omega)
   ·have hz:¬ ((set.toNat &&& (bitF ((i:Int) - 1)).toNat:Nat):Int) = 0:=hz
    rw [if_pos (by unfold hasB;simp;omega)] at hsu
    refine CallvP.yl rfl (W.mk ?_)
    (conv=>whnf)
    refine YieldP.mk ?_ (fun G2 hg2=>W.mk ?_) (fun G2 hg2=>W.mk ?_)
    ·obtain ⟨t,ht⟩:=inK_pre (set:=set) (show i + 1≤N by omega)
     rw [hsu] at ht
     rw [seg_get hseg (by rw [List.length_map,ht];simp),List.getElem?_map,ht,List.append_assoc,List.getElem?_append_right (Nat.le_refl _)]
     simp
    ·(conv=>whnf)
     (refine ob ?_ ?_;(first | trivial | omega | (simp only [inR];omega) | exact ble (by rfl) | exact SlR.some ‹_› (by omega));(conv=>whnf))
     exact RoundP.of (i + 1,()) (HeadP.of [] ⟨rfl,rfl,rfl,congrArg (fun z=>SV.v (I z)) (by show ((i + 1:Nat):Int) - 1 = (i:Int) - 1 + 1;omega),by rw [hsu,List.length_append];rfl,trivial⟩ trivial (h5:=by show SV.c (.pos (k + (inK set i).length + 1) false) = SV.c (.pos (k + (inK set (i + 1)).length) false);rw [hsu,List.length_append];rfl)) (by show i + 1≤N;omega) (by show N - (i + 1) < N - i;omega)
    ·(conv=>whnf)
     refine FinP.mk ⟨trivial,fun h=>by cases h⟩
  ·have hge:¬ (i:Int) - 1 < s.persons:=hge
   obtain rfl:i = N:=by omega
   refine FinP.mk ⟨trivial,fun _=>?_⟩
   rw [List.length_map,hL]
def InV (G:Hp) (v:Value) (s:Sc) (set:Int):Prop:=∃ bs bu,v = .func (.func 102) #[] #[ptr bs,ptr bu]∧ScB G bs s∧CellsAt G bu 0 [U set]
theorem InV.grow {G G':Hp} (hg:Grow G G') {v:Value} {s:Sc} {set:Int} (h:InV G v s set):InV G' v s set:=let ⟨bs,bu,h1,h2,h3⟩:=h;⟨bs,bu,h1,h2.grow hg,h3.grow hg⟩
def u16Rd:Rd Int:=⟨fun _ v x=>v = U x,fun {_ _ _ _} h h'=>by rw [h] at h';cases h';rfl,fun {_ _ _ _} _ h=>h⟩
theorem in71:Sound Try.prog 71 id (grel (args2 scRd u16Rd fun _ _=>True) fun g v G=>InV G v g.1 g.2):=by
 refine comp71.grel (Tab.nil _) (ok2 _ _ _) (fun args G s h=>?_) (fun x v G G' hg h=>h.grow hg) (fun args G g h=>?_)
 ·obtain ⟨v,w,rfl,_⟩:=h;simp
 ·obtain ⟨v,u,rfl,⟨w,rfl,hsl⟩,rfl,_⟩:=h
  obtain ⟨a,n,c,rfl,hw,hwn⟩:=id hsl
  (conv=>whnf)
  refine NameP.mk (fun b1=>W.mk ?_)
  (conv=>whnf)
  refine NameP.mk (fun b2=>W.mk ?_)
  (conv=>whnf)
  refine PubAnyP.mk ⟨[0,1], ?_⟩
  (conv=>whnf)
  intro G1 hg1 _ hcs
  (conv=>whnf)
  intro G2 hg2 _ hcu
  refine W.mk ?_
  (conv=>whnf)
  exact FinP.mk ⟨b1,b2,rfl,⟨_,hcs.grow hg2,hsl.grow (hg1.trans hg2)⟩,hcu⟩
end Go.Proofs.Ytefnikpoimaiiaa

namespace Go.Proofs.Ytefnikpoimaiiaa
open Go.Pal Go.RowKit
set_option maxRecDepth 100000
def ptV (p:Pt):Value:=.agg #[I p.h,I p.v]
theorem ptV_inj {x y:Pt} (h:ptV x = ptV y):x = y:=by
 cases x;cases y
 simp only [ptV,Value.agg.injEq] at h
 have:=congrArg Array.toList h
 simp at this
 simp [this]
structure PtOk (s:Sc) (p:Pt):Prop where
 h:-1≤p.h∧p.h < s.persons
 v:-1≤p.v∧p.v < s.persons
def stR (s:Sc) (v:Value):GRel (St4 × Pt):=fun args G y=>args = [st4V y.1,ptV y.2]∧ScV G v s∧Bd s y.1∧PtOk s y.2
theorem stR_ok (s:Sc) (v:Value):GOk (stR s v):=⟨fun _ _ x y ⟨h,_⟩ ⟨h',_⟩=>by
  rw [h] at h'
  simp only [List.cons.injEq,and_true] at h'
  exact Prod.ext (st4V_inj h'.1) (ptV_inj h'.2),fun _ _ _ _ hg ⟨h,h1,h2⟩=>⟨h,h1.grow hg,h2⟩⟩
def stQ (s:Sc) (y:St4 × Pt) (r:Value):Prop:=r = .tuple #[st4V (stepF s y.1 y.2).1, .bool (stepF s y.1 y.2).2]
set_option maxHeartbeats 4000000 in
theorem step69 (s:Sc) (hs:ScOk s) (v:Value):Sound Try.prog 69 (fun args=>(#[v]:Array Value).toList++args++(#[]:Array Value).toList) (gsca (stR s v) (stQ s)):=by
 refine comp69.sca (Tab.nil _) (fun args G h=>?_) (fun args G h=>?_)
 ·obtain ⟨y,rfl,_⟩:=h;simp
 ·obtain ⟨⟨⟨xh,xt,xs,xo⟩,⟨ph,pv⟩⟩,rfl,⟨w,rfl,hsl⟩,hb,hp⟩:=h
  obtain ⟨a,n,c,rfl,hw,hwn⟩:=id hsl
  obtain ⟨k1,k2,k3,k4⟩:=id hs
  obtain ⟨b1,b2,b3⟩:=id hb
  obtain ⟨p1,p2⟩:=id hp
  dsimp only at b1 b2 b3 p1 p2
  cases xo<;>(conv=>whnf)
  repeat' (first | (refine IteP.mk (fun _=>W.mk ?_) (fun _=>W.mk ?_)<;>(conv=>whnf)) | (refine ob ?_ ?_;(first | trivial | omega | (simp only [inR];omega) | exact ble (by rfl) | exact SlR.some ‹_› (by omega));(conv=>whnf)) | (refine ForkP.mk (fun e=>W.mk ?_) (fun e=>W.mk ?_)<;>(conv=>whnf)) | (refine DrawP.mk monoT_nil rfl (W.mk ?_);(conv=>whnf)))
  all_goals focus
   refine FinP.mk ⟨(⟨xh,xt,xs,_⟩,⟨ph,pv⟩),⟨rfl,⟨_,rfl,hsl⟩,hb,hp⟩, ?_⟩
   show Value.tuple #[Value.agg #[_,_,_,_],Value.bool _] = Value.tuple #[st4V _,Value.bool _]
   clear hb hp hsl hw hwn
   try dsimp only at *
   simp only [stepF,endF,okF,st4V,st4L]
   (repeat' split)<;>first | (exfalso;omega) | (simp_all;done) | (simp_all;omega)
end Go.Proofs.Ytefnikpoimaiiaa

namespace Go.Proofs.Ytefnikpoimaiiaa
open Go.Pal Go.RowKit
set_option maxRecDepth 100000
def parF (s:Sc) (x:St4) (hs vs:List Int):List (Pt × St4):=hs.flatMap fun h=>withF s x h vs
theorem parts_eq (s:Sc) (x:St4) (m:Mo):partsF s x m = parF s x (inL s m.f) (inL s m.h):=rfl
theorem withF_snoc (s:Sc) (x:St4) (h:Int) (vs:List Int) (v:Int):withF s x h (vs++[v]) = withF s x h vs++(if (stepF s x ⟨h,v⟩).2 then [(⟨h,v⟩,(stepF s x ⟨h,v⟩).1)] else []):=by
 unfold withF
 rw [List.filterMap_append]
 congr 1
 simp only [List.filterMap_cons,List.filterMap_nil]
 split<;>simp_all
theorem take_succ' {α:Type} {l:List α} {i:Nat} {a:α} (h:l[i]? = some a):l.take (i + 1) = l.take i++[a]:=by
 rw [List.take_add_one,h];rfl
theorem parF_snoc (s:Sc) (x:St4) (hs vs:List Int) (h:Int):parF s x (hs++[h]) vs = parF s x hs vs++withF s x h vs:=by
 simp [parF]
def preF (s:Sc) (x:St4) (hs vs:List Int) (i j:Nat) (h:Int):List (Pt × St4):=parF s x (hs.take i) vs++withF s x h (vs.take j)
theorem preF_zero (s:Sc) (x:St4) (hs vs:List Int) (i:Nat) (h:Int):preF s x hs vs i 0 h = parF s x (hs.take i) vs:=by simp [preF,withF]
theorem preF_end {s:Sc} {x:St4} {hs vs:List Int} {i:Nat} {h:Int} (he:hs[i]? = some h):preF s x hs vs i vs.length h = parF s x (hs.take (i + 1)) vs:=by
 rw [preF,take_succ' he,parF_snoc,List.take_length]
theorem preF_succ {s:Sc} {x:St4} {hs vs:List Int} {i j:Nat} {h v:Int} (he:vs[j]? = some v):preF s x hs vs i (j + 1) h = preF s x hs vs i j h++(if (stepF s x ⟨h,v⟩).2 then [(⟨h,v⟩,(stepF s x ⟨h,v⟩).1)] else []):=by
 rw [preF,preF,take_succ' he,withF_snoc,List.append_assoc]
theorem preF_pre {s:Sc} {x:St4} {hs vs:List Int} {i:Nat} {h:Int} (he:hs[i]? = some h) (j:Nat):∃ t,parF s x hs vs = preF s x hs vs i j h++t:=by
 have h1:hs = hs.take i++h :: hs.drop (i + 1):=by
  have:=(List.getElem?_eq_some_iff.1 he)
  obtain ⟨hl,e⟩:=this
  rw [← e, ← List.drop_eq_getElem_cons hl,List.take_append_drop]
 have h2:vs = vs.take j++vs.drop j:=(List.take_append_drop j vs).symm
 have e1:parF s x hs vs = parF s x (hs.take i) vs++(withF s x h vs++parF s x (hs.drop (i + 1)) vs):=by
  conv=>lhs;rw [h1]
  simp [parF]
 have e2:withF s x h vs = withF s x h (vs.take j)++withF s x h (vs.drop j):=by
  conv=>lhs;rw [h2]
  unfold withF
  rw [List.filterMap_append]
 exact ⟨_,by rw [e1,e2,preF,List.append_assoc,List.append_assoc]⟩
def parV (e:Pt × St4):List Value:=[ptV e.1,st4V e.2]
structure PB where
 b1:Nat
 b2:Nat
 b3:Nat
 b4:Nat
def PB.caps (B:PB):Array Value:=#[ptr B.b1,ptr B.b2,ptr B.b3,ptr B.b4]
structure PbC (G:Hp) (B:PB) (s:Sc) (x:St4) (m:Mo):Prop where
 sc:ScB G B.b1 s
 m:CellsAt G B.b2 0 [U m.f,U m.h]
 f:∃ v,CellsAt G B.b3 0 [.func (.func 69) #[v] #[]]∧ScV G v s
 x:CellsAt G B.b4 0 (st4L x)
theorem PbC.grow {G G':Hp} (hg:Grow G G') {B:PB} {s:Sc} {x:St4} {m:Mo} (h:PbC G B s x m):PbC G' B s x m :=
 ⟨h.sc.grow hg,h.m.grow hg,let ⟨v,h1,h2⟩:=h.f;⟨v,h1.grow hg,h2.grow hg⟩,h.x.grow hg⟩
def parS (B:PB) (s:Sc) (x:St4) (m:Mo):PSpec:=.seq (fun l args G Ys=>args = [.func (.yield l) #[] #[]]∧PbC G B s x m∧MoOk m∧ScOk s∧Bd s x∧Ys = (partsF s x m).map parV) (fun _ _=>True)
def tabS2:Tab Try.prog:=Tab.cons 71 _ in71 body71 tabS1
theorem inL_ok {s:Sc} (hs:ScOk s) {set:Int} {p:Int} (h:p∈inL s set):-1≤p∧p < s.persons:=by
 obtain ⟨h1,h2,_⟩:=inK_mem h
 have:=hs.p
 have:(((s.persons + 1).toNat:Nat):Int) = s.persons + 1:=by omega
 omega
theorem mv_of_mem {α β:Type} {f:α→β} {l:List α} {i:Nat} {y:β} (h:(l.map f)[i]? = some y):∃ a,l[i]? = some a∧y = f a:=by
 rw [List.getElem?_map,Option.map_eq_some_iff] at h
 obtain ⟨a,h1,h2⟩:=h
 exact ⟨a,h1,h2.symm⟩
theorem parts70 (B:PB) (s:Sc) (x:St4) (m:Mo):Sound Try.prog 70 (fun args=>(#[]:Array Value).toList++args++B.caps.toList) (parS B s x m):=by
 refine comp70.seq tabS2 (fun l args G Ys h=>?_) (fun l Y k args G Ys h hseg=>?_)
 ·obtain ⟨rfl,_⟩:=h;simp [PB.caps]
 ·obtain ⟨rfl,hc,hmo,hok,hbd,rfl⟩:=h
  obtain ⟨w,hcs,hsl⟩:=id hc.sc
  have hcm:=hc.m
  rw [parts_eq] at hseg ⊢
  generalize hHS:inL s m.f = hs at hseg
  generalize hVS:inL s m.h = vs at hseg
  obtain ⟨wa,wn,wc,rfl,hw1,hw2⟩:=id hsl
  (conv=>whnf)
  refine RdP.at hcs rfl (W.mk ?_)
  (conv=>whnf)
  refine RdP.at (cs:=[U m.f]) (CellsAt.drop (d:=0) (n:=1) hcm) rfl (W.mk ?_)
  (conv=>whnf)
  refine RelP.g (ok2 scRd u16Rd fun _ _=>True) (x:=(s,m.f)) ⟨_,_,rfl,⟨_,rfl,hsl⟩,rfl,trivial⟩ (Grow.refl _) (fun v G1 hg1 hq1=>W.mk ?_)
  obtain ⟨c1,c2,rfl,hi1,hi2⟩:=hq1
  (conv=>whnf)
  have hc1:=hc.grow hg1
  refine RangeP.of (hs.map fun p=>[I p]) { α:=Nat × Unit,fr:=[(1, .v (ptr B.b1)),(2, .v (ptr B.b2)),(3, .v (ptr B.b3)),(4, .v (ptr B.b4)),(5, .c (.ptr 0 0)),(POS, .c (.pos k false))],k:=fun y=>y.1,H:=fun y=>[(0, .cells .anon [.val (.func (.yield l) #[] #[])] 187)],ok:=fun y _=>y.1≤hs.length,pos:=fun y=>.c (.pos (k + (parF s x (hs.take y.1) vs).length) false) }
   (0,()) (SoundFn.of body102 (in102 c1 c2 s m.f)) (fun l=>⟨rfl,hi1,hi2,hmo.f,hok,by rw [hHS]⟩) (fun y hy=>by obtain ⟨p,_,rfl⟩:=List.mem_map.1 hy;rfl) rfl (HeadP.of [] ⟨rfl,rfl,rfl,rfl,rfl,rfl,trivial⟩ ⟨rfl,trivial⟩) (Nat.zero_le _) ⟨rfl,fun _=>rfl⟩ (fun _ _ _ _ h=>h)
   (fun y e G2 hg2 hk he=>W.mk ?_) (fun y G2 hg2 hk hke=>W.mk ?_)
  ·obtain ⟨i,_⟩:=y
   dsimp only at hk he
   obtain ⟨h,hhe,rfl⟩:=mv_of_mem he
   have hil:=(List.getElem?_eq_some_iff.1 hhe).1
   have hhm:h∈inL s m.f:=by rw [hHS];exact List.mem_of_getElem? hhe
   have hho:=inL_ok hok hhm
   dsimp only
   have hc2:=hc1.grow hg2
   obtain ⟨w',hcs2,hsl2⟩:=id hc2.sc
   obtain ⟨wa',wn',wc',rfl,hw1',hw2'⟩:=id hsl2
   (conv=>whnf)
   refine RdP.at hcs2 rfl (W.mk ?_)
   (conv=>whnf)
   refine RdP.at (cs:=[U m.h]) (CellsAt.drop (d:=1) (n:=1) hc2.m) rfl (W.mk ?_)
   (conv=>whnf)
   refine RelP.g (ok2 scRd u16Rd fun _ _=>True) (x:=(s,m.h)) ⟨_,_,rfl,⟨_,rfl,hsl2⟩,rfl,trivial⟩ (Grow.refl _) (fun v G3 hg3 hq3=>W.mk ?_)
   obtain ⟨d1,d2,rfl,hj1,hj2⟩:=hq3
   (conv=>whnf)
   have hc3:=hc2.grow hg3
   refine RangeP.of (vs.map fun p=>[I p]) { α:=Nat × Unit,fr:=[(1, .v (ptr B.b1)),(2, .v (ptr B.b2)),(3, .v (ptr B.b3)),(4, .v (ptr B.b4)),(5, .c (.ptr 0 0)),(6, .c (.ptr 5 0)),(POS, .c (.pos (k + (parF s x (hs.take i) vs).length) false))],k:=fun y=>y.1,H:=fun y=>[(0, .cells .anon [.val (.func (.yield l) #[] #[])] 187),(5, .cells .anon [.val (I h)] 3)],ok:=fun y _=>y.1≤vs.length,pos:=fun y=>.c (.pos (k + (preF s x hs vs i y.1 h).length) false) }
    (0,()) (SoundFn.of body102 (in102 d1 d2 s m.h)) (fun l=>⟨rfl,hj1,hj2,hmo.h,hok,by rw [hVS]⟩) (fun y hy=>by obtain ⟨p,_,rfl⟩:=List.mem_map.1 hy;rfl) rfl (HeadP.of [] ⟨rfl,rfl,rfl,rfl,rfl,rfl,rfl,trivial⟩ ⟨rfl,rfl,trivial⟩) (Nat.zero_le _) ⟨rfl,fun _=>rfl⟩ (fun _ _ _ _ h=>h)
    (fun y e G4 hg4 hk4 he4=>W.mk ?_) (fun y G4 hg4 hk4 hke4=>W.mk ?_) (h8:=by show SV.c (.pos (k + (preF s x hs vs i 0 h).length) false) = SV.c (.pos (k + (parF s x (hs.take i) vs).length) false);rw [preF_zero])
   ·obtain ⟨j,_⟩:=y
    dsimp only at hk4 he4
    obtain ⟨v,hve,rfl⟩:=mv_of_mem he4
    have hjl:=(List.getElem?_eq_some_iff.1 hve).1
    have hvm:v∈inL s m.h:=by rw [hVS];exact List.mem_of_getElem? hve
    have hvo:=inL_ok hok hvm
    have hc4:=hc3.grow hg4
    obtain ⟨fv,hf1,hf2⟩:=hc4.f
    have hsu:=preF_succ (s:=s) (x:=x) (hs:=hs) (vs:=vs) (i:=i) (h:=h) hve
    dsimp only
    (conv=>whnf)
    refine RdP.at hf1 rfl (W.mk ?_)
    (conv=>whnf)
    refine RdP.at hc4.x rfl (W.mk ?_)
    (conv=>whnf)
    refine CallvP.fn _ (SoundFn.of body69 (step69 s hok fv)) (W.mk ?_)
    (conv=>whnf)
    refine ScaP.g (stR_ok s fv) (x:=(x,⟨h,v⟩)) ⟨rfl,hf2,hbd,hho,hvo⟩ (fun r hr=>W.mk ?_)
    subst hr
    (conv=>whnf)
    refine ForkP.mk (fun hy=>W.mk ?_) (fun hy=>W.mk ?_)<;>(conv=>whnf)
    ·have hy:(stepF s x ⟨h,v⟩).2 = true:=hy
     rw [if_pos hy] at hsu
     refine CallvP.yl rfl (W.mk ?_)
     (conv=>whnf)
     refine YieldP.mk ?_ (fun G5 hg5=>W.mk ?_) (fun G5 hg5=>W.mk ?_)
     ·obtain ⟨t,ht⟩:=preF_pre (s:=s) (x:=x) (vs:=vs) hhe (j + 1)
      rw [hsu] at ht
      rw [seg_get hseg (by rw [List.length_map,ht];simp),List.getElem?_map,ht,List.append_assoc,List.getElem?_append_right (Nat.le_refl _)]
      simp
      rfl
     ·(conv=>whnf)
      exact RoundR.mk ⟨(j + 1,()),⟨[],⟨rfl,rfl,trivial⟩,rfl,rfl⟩,hjl,rfl,by show SV.c (.pos (k + (preF s x hs vs i j h).length + 1) false) = SV.c (.pos (k + (preF s x hs vs i (j + 1) h).length) false);rw [hsu,List.length_append];rfl⟩
     ·(conv=>whnf)
      refine ExitR.mk (fun G6 hg6=>W.mk ?_)
      (conv=>whnf)
      refine ExitR.mk (fun G7 hg7=>W.mk ?_)
      (conv=>whnf)
      refine FinP.mk ⟨trivial,fun h=>by cases h⟩
    ·have hy:¬ (stepF s x ⟨h,v⟩).2 = true:=by rw [show (stepF s x ⟨h,v⟩).2 = false from hy];simp
     rw [if_neg hy,List.append_nil] at hsu
     exact RoundR.mk ⟨(j + 1,()),⟨[],⟨rfl,rfl,trivial⟩,rfl,rfl⟩,hjl,rfl,by show SV.c (.pos (k + (preF s x hs vs i j h).length) false) = SV.c (.pos (k + (preF s x hs vs i (j + 1) h).length) false);rw [hsu]⟩
   ·obtain ⟨j,_⟩:=y
    have hj:j = vs.length:=by have:=hke4;rw [List.length_map] at this;exact this
    subst hj
    have hpe:=preF_end (s:=s) (x:=x) (vs:=vs) hhe
    dsimp only
    (conv=>whnf)
    exact RoundR.mk ⟨(i + 1,()),⟨[],⟨rfl,trivial⟩,rfl,rfl⟩,hil,rfl,by show SV.c (.pos (k + (preF s x hs vs i vs.length h).length) false) = SV.c (.pos (k + (parF s x (hs.take (i + 1)) vs).length) false);rw [hpe]⟩
  ·obtain ⟨i,_⟩:=y
   have hi:i = hs.length:=by have:=hke;rw [List.length_map] at this;exact this
   subst hi
   dsimp only
   (conv=>whnf)
   refine FinP.mk ⟨trivial,fun _=>?_⟩
   rw [List.length_map,List.take_length]
end Go.Proofs.Ytefnikpoimaiiaa

namespace Go.Proofs.Ytefnikpoimaiiaa
open Go.Pal Go.RowKit
set_option maxRecDepth 100000
def st4Rd:Rd St4:=⟨fun _ v x=>v = st4V x,fun {_ _ _ _} h h'=>st4V_inj (h.symm.trans h'),fun {_ _ _ _} _ h=>h⟩
abbrev moV (m:Mo):Value:=.agg #[U m.f,U m.h]
def moRd:Rd Mo:=⟨fun _ v x=>v = moV x,fun {_ _ x y} h h'=>by rw [h] at h';cases x;cases y;simp at h';simp [h'],fun {_ _ _ _} _ h=>h⟩
def PartsV (G:Hp) (v:Value) (s:Sc) (x:St4) (m:Mo):Prop:=∃ B:PB,v = .func (.func 70) #[] B.caps∧PbC G B s x m
theorem PartsV.grow {G G':Hp} (hg:Grow G G') {v:Value} {s:Sc} {x:St4} {m:Mo} (h:PartsV G v s x m):PartsV G' v s x m:=let ⟨B,h1,h2⟩:=h;⟨B,h1,h2.grow hg⟩
theorem parts40:Sound Try.prog 40 id (grel (args3 scRd st4Rd moRd fun _ _ _=>True) fun g v G=>PartsV G v g.1 g.2.1 g.2.2):=by
 refine comp40.grel (Tab.nil _) (ok3 _ _ _ _) (fun args G s h=>?_) (fun x v G G' hg h=>h.grow hg) (fun args G g h=>?_)
 ·obtain ⟨u,v,w,rfl,_⟩:=h;simp
 ·obtain ⟨u,v,w,rfl,⟨sl,rfl,hsl⟩,rfl,rfl,_⟩:=h
  obtain ⟨a,n,c,rfl,hw,hwn⟩:=id hsl
  obtain ⟨s,x,m⟩:=g
  dsimp only at hsl hw
  (conv=>whnf)
  refine NameP.mk (fun b1=>W.mk ?_)
  (conv=>whnf)
  refine NameP.mk (fun b2=>W.mk ?_)
  (conv=>whnf)
  refine NameP.mk (fun b3=>W.mk ?_)
  (conv=>whnf)
  refine NameP.mk (fun b4=>W.mk ?_)
  (conv=>whnf)
  refine PubAnyP.mk ⟨[0,2,6,1], ?_⟩
  (conv=>whnf)
  intro G1 hg1 _ hcs
  (conv=>whnf)
  intro G2 hg2 _ hcm
  (conv=>whnf)
  intro G3 hg3 _ hcf
  (conv=>whnf)
  intro G4 hg4 _ hcx
  refine W.mk ?_
  (conv=>whnf)
  have hg34:=hg3.trans hg4
  have hg24:=hg2.trans hg34
  exact FinP.mk ⟨⟨b1,b2,b3,b4⟩,rfl,⟨⟨_,hcs.grow hg24,hsl.grow (hg1.trans hg24)⟩,hcm.grow hg34,⟨_,hcf.grow hg4,⟨_,rfl,hsl.grow (hg1.trans hg24)⟩⟩,hcx⟩⟩
theorem begin39:Sound Try.prog 39 id (.fn (fun args _=>args = []) fun _=>st4V begin4):=by
 refine comp39.fn (Tab.nil _) (fun args G h=>?_) (fun args G h=>?_)
 ·subst h;simp
 ·subst h
  (conv=>whnf)
  exact FinP.mk rfl
end Go.Proofs.Ytefnikpoimaiiaa

namespace Go.Pal
open Go.RowKit
section
variable {P:Program}
theorem sat_startHy {n:Nat} {args:List Value} (hn:args.length≤n) {G p:Hp} {W:World} (hsub:Sub G W) (hp:∀ b o,p b = some o→W.heap[b]? = some o∧G b = none):Sat ⟨W,dom p,[]⟩ G n (fun k=>k < 2000) (fun _=>undef) ⟨argFr args,heapS p,G⟩ { tmps:=args.toArray++Array.replicate (n - args.toArray.size) undef,defers:=[] } W:=by
 refine ⟨⟨Beneath.refl ⟨W,_,[]⟩,hsub,fun b o h=>.inl h,fun h ob e=>?_,fun h ob v e e2=>?_,fun h ob e _ b hb=>?_,fun h ob h' ob' b e e2 _ _ _=>?_⟩,fun i=>argFr_ment _ args i,fun h ob e=>?_,fun i=>args_frame _ i,by simp;omega,rfl⟩
 ·obtain ⟨_,rfl⟩:=heapS_some e;exact fun b o ho=>⟨.inr ⟨o,ho⟩,(hp b o ho).1⟩
 ·obtain ⟨_,rfl⟩:=heapS_some e;cases e2
 ·obtain ⟨_,rfl⟩:=heapS_some e;obtain ⟨o,ho⟩:=hb;exact (hp b o ho).2
 ·obtain ⟨rfl,_⟩:=heapS_some e;obtain ⟨rfl,_⟩:=heapS_some e2;rfl
 ·obtain ⟨rfl,rfl⟩:=heapS_some e;exact ⟨Nat.le_of_ble_eq_true rfl,trivial⟩
def hyVC (P:Program) (tab:FuncId→Option PSpec) (ic:IC) (rs:List IRes) (args:List Value) (p G:Hp) (K:Value→Hp→Hp→Prop):Prop :=
 vc P tab (.no []) ic 2000 ⟨argFr args,heapS p,G⟩ fun o _ σ=>match o with
  | .norm=>finHp rs σ K
  | .ret=>finHp rs σ K
  | .exit _=>False
theorem CompAt.callsHy {f:FuncId} {ic:IC} {rs:List IRes} {nt:Nat} (C:CompAt P f 2000 ic rs nt) (T:Tab P) {args:List Value} {p G:Hp} {W:World} {K:Value→Hp→Hp→Prop} (hn:args.length≤nt) (hsub:Sub G W) (hp:∀ b o,p b = some o→W.heap[b]? = some o∧G b = none) (h:hyVC P T.get ic rs args p G K) :
  Calls P f args.toArray W fun e W'=>∃ v p' G',e = .returned v∧K v p' G'∧(∀ b o,p' b = some o→W'.heap[b]? = some o∧G' b = none∧((∃ o,p b = some o)∨W.heap.size≤b))∧Grow G G'∧Sub G' W'∧(∀ b o,G' b = some o→G b = some o∨(∃ o,p b = some o)∨W.heap.size≤b)∧Beneath ⟨W,dom p,[]⟩ W':=by
 obtain ⟨fn,c,b2,h1,h2,h3,h4,rfl⟩:=C.ex
 have hs:SatE (baseEnv (dom p) G W) [] fn.ntmps 2000 (fun _=>False) (fun _=>undef) ⟨argFr args,heapS p,G⟩ { tmps:=args.toArray++Array.replicate (fn.ntmps - args.toArray.size) undef,defers:=[] } W :=
  SatE.of (r:=⟨W,dom p,[]⟩) (G0:=G) (fun _ h=>h) (fun _ h=>h.elim) (Agree.refl _ _) ⟨baseEnv_at.2 ⟨Beneath.refl ⟨W,_,[]⟩,fun b o h=>.inl h,fun b h=>h.elim (fun h=>.inr h.1) (fun ⟨d,hd,_⟩=>by cases hd)⟩,fun b ⟨o,hb⟩=>(Array.getElem?_eq_some_iff.1 (hp b o hb).1).1,hsub,marks_start⟩ (Grow.refl _) (sat_startHy hn hsub hp)
 refine body_soundN T baseEnv_ok h1 h2 h3 h4 (K:=fun _ vs H G=>FinHp H fun p=>K (wrapV vs) p G) hs h ?_
 intro σ' W' M E vs H' G' ⟨p',hhp,k1⟩ hg hd
 exact hp_fin hhp k1 hg hd
theorem CompAt.hy {f:FuncId} {ic:IC} {rs:List IRes} {nt:Nat} (C:CompAt P f 2000 ic rs nt) (T:Tab P) {sh:List Value→List Value} {pre:List Value→Hp→Hp→Prop} {post:List Value→Hp→Value→Hp→Hp→Prop} (hn:∀ args p G,pre args p G→(sh args).length≤nt)
  (hm:∀ args p v p' G G',Grow G G'→post args p v p' G→post args p v p' G') (h:∀ args p G,pre args p G→hyVC P T.get ic rs (sh args) p G fun v p' G'=>post args p v p' G'):Sound P f sh (.hp pre post) :=
 ⟨hm,fun args p G W hs hp hpre=>(C.callsHy T (hn args p G hpre) hs hp (h args p G hpre)).mono fun e W' ⟨v,p',G',h1,h2,h3,h4,h5,h6,h7⟩=>⟨v,p',G',h1,h2,h3,h4,h5,h6,h7⟩⟩
end
end Go.Pal

namespace Go.Proofs.Ytefnikpoimaiiaa
open Go.Pal Go.RowKit
set_option maxRecDepth 100000
def mapE:El Nat:=⟨1,fun b=>[.map (some b)],fun {x y} h=>by simp at h;exact h,fun _=>rfl,fun _ v hv=>by simp at hv;rw [hv];rfl⟩
structure SeenH (p G:Hp) (bx:Nat) (s:Sc) (bs:List Nat) (r:Int) (S:Nat→St4→Prop):Prop where
 x:∃ w v,p bx = some (.cells (scL s w++[v,I r]).toArray 132 (0,0))∧SlV moE G w s.ms∧RowH mapE 129 p v bs
 m:∀ i b,bs[i]? = some b→∃ es c,p b = some (.map es c)∧MS es c (S i)
 nd:bs.Nodup
theorem SeenH.grow {p G G':Hp} (hg:Grow G G') {bx:Nat} {s:Sc} {bs:List Nat} {r:Int} {S:Nat→St4→Prop} (h:SeenH p G bx s bs r S):SeenH p G' bx s bs r S :=
 ⟨let ⟨w,v,h1,h2,h3⟩:=h.x;⟨w,v,h1,h2.grow hg,h3⟩,h.m,h.nd⟩
theorem SeenH.up {p p' G:Hp} (hk:∀ b o,p b = some o→p' b = some o) {bx:Nat} {s:Sc} {bs:List Nat} {r:Int} {S:Nat→St4→Prop} (h:SeenH p G bx s bs r S):SeenH p' G bx s bs r S :=
 ⟨let ⟨w,v,h1,h2,h3⟩:=h.x;⟨w,v,hk _ _ h1,h2,h3.mono fun b o _ e=>hk b o e⟩,fun i b e=>let ⟨es,c,h1,h2⟩:=h.m i b e;⟨es,c,hk _ _ h1,h2⟩,h.nd⟩
def MsOk (s:Sc):Prop:=∀ m∈s.ms,MoOk m
def LeadsOn (s:Sc) (y:St4) (m:Mo) (Q:St4→Prop):Prop:=∃ e∈partsF s y m,Q e.2
def tabS3:Tab Try.prog:=Tab.cons 40 _ parts40 body40 (Tab.nil _)
set_option maxHeartbeats 1000000 in
theorem leads101 (s:Sc) (hs:ScOk s) (hms:MsOk s) (bx:Nat) (i:Nat) (y:St4) (m:Mo) (hm:s.ms[i]? = some m) (hy:Bd s y) (bs:List Nat) (hi:i + 1 < bs.length) (r:Int) (S:Nat→St4→Prop) :
  Sound Try.prog 101 id (.hp (fun args p G=>args = [ptr bx,I i,st4V y]∧SeenH p G bx s bs r S) fun _ p v p' _=>p' = p∧∃ b,v = .bool b∧(b = true↔LeadsOn s y m (S (i + 1)))):=by
 refine comp101.hp tabS3 (fun args p G h=>?_) (fun args p v p' G G' hg h=>h) (fun args p G h=>?_)
 ·obtain ⟨rfl,_⟩:=h;simp
 ·obtain ⟨rfl,hx⟩:=h
  obtain ⟨w,v,hbx,hsl,hrow⟩:=id hx.x
  obtain ⟨wa,wn,wc,rfl,hw,hwn⟩:=id hsl
  have hwl:wn = s.ms.length:=hw.len.symm
  have hil:=(List.getElem?_eq_some_iff.1 hm).1
  have hsn:=hs.n
  have hel:=hw.el hil
  rw [(List.getElem?_eq_some_iff.1 hm).2] at hel
  obtain ⟨yh,yt,ys,yo⟩:=y
  (conv=>whnf)
  refine RdhP.h hbx rfl (W.mk ?_)
  (conv=>whnf)
  refine RdhP.h hbx rfl (W.mk ?_)
  (conv=>whnf)
  refine OblP.mk ⟨by omega,by omega⟩ (W.mk ?_)
  (conv=>whnf)
  refine OblP.mk (hw.some (by omega)) (W.mk ?_)
  (conv=>whnf)
  refine RdhP.g (cs:=[U m.f,U m.h]) hel rfl (W.mk ?_)
  (conv=>whnf)
  refine RelP.g (ok3 scRd st4Rd moRd fun _ _ _=>True) (x:=(s,⟨yh,yt,ys,yo⟩,m)) ⟨_,_,_,rfl,⟨_,rfl,hsl⟩,rfl,rfl,trivial⟩ (Grow.refl _) (fun v1 G1 hg1 hq1=>W.mk ?_)
  obtain ⟨B,rfl,hB⟩:=hq1
  (conv=>whnf)
  have hmo:=hms m (List.mem_of_getElem? hm)
  obtain ⟨L,hL⟩:∃ L,L = partsF s ⟨yh,yt,ys,yo⟩ m:=⟨_,rfl⟩
  refine RangeP.of (L.map parV) { α:=Nat × Unit,fr:=[(3, .c (.ptr 1000 0)),(4, .c (.ptr 1001 0)),(6, .c (.ptr 1003 0))],k:=fun z=>z.1,H:=fun z=>[(0, .heap p),(1000, .cells .anon [.val (ptr bx)] 120),(1001, .cells .anon [.val (I i)] 3),(1003, .cells .anon [.val (.bool false)] 4)],ok:=fun z _=>z.1≤L.length∧∀ e∈L.take z.1, ¬ S (i + 1) e.2 }
   (0,()) (SoundFn.of body70 (parts70 B s ⟨yh,yt,ys,yo⟩ m)) (fun l=>⟨rfl,hB,hmo,hs,hy,by rw [hL]⟩) (fun z hz=>by obtain ⟨e,_,rfl⟩:=List.mem_map.1 hz;rfl) rfl (HeadP.of [] ⟨rfl,rfl,rfl,trivial⟩ ⟨rfl,rfl,rfl,rfl,trivial⟩) ⟨Nat.zero_le _,by simp⟩ ⟨rfl,fun _=>rfl⟩ (fun _ _ _ _ h=>h)
   (fun z e G2 hg2 hk he=>W.mk ?_) (fun z G2 hg2 hk hke=>W.mk ?_)
  ·obtain ⟨k,_⟩:=z
   obtain ⟨hk1,hk2⟩:=hk
   dsimp only at hk1 hk2 he
   obtain ⟨⟨⟨ph,pv⟩,⟨zh,zt,zs,zo⟩⟩,he2,rfl⟩:=mv_of_mem he
   have hkl:=(List.getElem?_eq_some_iff.1 he2).1
   have hmem:((⟨ph,pv⟩,⟨zh,zt,zs,zo⟩):Pt × St4)∈partsF s ⟨yh,yt,ys,yo⟩ m:=by rw [← hL];exact List.mem_of_getElem? he2
   have hbz:=(bd_parts hs hy hmem).ok hs
   rcases hrow with ⟨rfl,h0⟩ | ⟨br,c,rest,rfl,hbr,hr1,hr2,hr3⟩
   ·rw [h0] at hi;simp at hi
   dsimp only [parV]
   (conv=>whnf)
   refine RdhP.h hbx rfl (W.mk ?_)
   (conv=>whnf)
   have hi40:i < 40:=by omega
   refine OblP.mk (by simp only [inR];omega) (W.mk ?_)
   (conv=>whnf)
   refine OblP.mk ⟨by omega,by omega⟩ (W.mk ?_)
   (conv=>whnf)
   refine OblP.mk rfl (W.mk ?_)
   (conv=>whnf)
   have hat:=flat_at mapE bs rest (i:=i + 1) hi
   refine RowH.cells hbr (cs:=[.map (some bs[i + 1])]) (by show List.take 1 (List.drop (0 + ((i:Int) + 1).toNat * 1) _) = _;rw [show (0:Nat) + ((i:Int) + 1).toNat * 1 = (i + 1) * mapE.k by show 0 + ((i:Int) + 1).toNat * 1 = (i + 1) * 1;omega];exact hat) rfl (W.mk ?_)
   (conv=>whnf)
   obtain ⟨es,ck,he1,hMS⟩:=hx.m (i + 1) _ (List.getElem?_eq_getElem hi)
   refine OblP.mk ⟨_,_,he1⟩ (W.mk ?_)
   (conv=>whnf)
   obtain ⟨q,hf,hlk,hor,_⟩:=hMS.find hbz
   refine KeyP.mk ⟨q,by rw [he1];exact hf,W.mk ?_⟩
   rw [he1]
   dsimp only [mapEs]
   have htk:=take_succ' he2
   rcases hor with hv | hv
   ·rw [hv]
    (conv=>whnf)
    refine ForkP.mk (fun _=>W.mk ?_) (fun h=>by cases h)
    (conv=>whnf)
    refine ExitR.mk (fun G3 hg3=>W.mk ?_)
    (conv=>whnf)
    refine NmP.mk ⟨[],W.mk ?_⟩
    (conv=>whnf)
    refine FinHp.of rfl ⟨rfl,true,rfl,fun _=>⟨_,hmem,hlk.1 hv⟩,fun _=>rfl⟩
   ·rw [hv]
    (conv=>whnf)
    refine ForkP.mk (fun h=>by cases h) (fun _=>W.mk ?_)
    (conv=>whnf)
    refine RoundR.mk ⟨(k + 1,()),⟨[],⟨rfl,rfl,rfl,rfl,trivial⟩,rfl,rfl⟩,⟨hkl, ?_⟩,rfl,rfl⟩
    intro e he3
    rw [htk] at he3
    rcases List.mem_append.1 he3 with h | h
    ·exact hk2 e h
    ·have:e = (⟨ph,pv⟩,⟨zh,zt,zs,zo⟩):=by simpa using h
     subst this
     intro hS
     have:=hlk.2 hS
     rw [hv] at this;cases this
  ·obtain ⟨k,_⟩:=z
   obtain ⟨hk1,hk2⟩:=hk
   have hke:k = (L.map parV).length:=hke
   rw [List.length_map] at hke
   subst hke
   dsimp only at hk2
   rw [List.take_length] at hk2
   dsimp only
   (conv=>whnf)
   refine NmP.mk ⟨[],W.mk ?_⟩
   (conv=>whnf)
   refine FinHp.of rfl ⟨rfl,false,rfl,(fun h=>by cases h),fun ⟨e,h1,h2⟩=>absurd h2 (hk2 e (by rw [hL];exact h1))⟩
end Go.Proofs.Ytefnikpoimaiiaa

namespace Go.Proofs.Ytefnikpoimaiiaa
open Go.Pal Go.RowKit
set_option maxRecDepth 100000
/-! ### Plain -/
theorem rs_back {s:Sc} {i:Nat}:(∃ y,Rs s (i + 1) y)→∃ y,Rs s i y:=fun ⟨_,x,hx,_⟩=>⟨x,hx⟩
theorem rs_none {s:Sc} {i j:Nat} (h:¬ ∃ y,Rs s i y) (hij:i≤j):¬ ∃ y,Rs s j y:=by
 induction j with
 | zero=>rw [show i = 0 by omega] at h;exact h
 | succ j ih =>
  by_cases e:i = j + 1
  ·rw [← e];exact h
  ·exact fun h2=>ih (by omega) (rs_back h2)
def Sj (s:Sc) (j k:Nat) (y:St4):Prop:=if j≤k then Gd s (s.ms.length - k) k y else Rs s k y
theorem sj_top (s:Sc) {k:Nat} (hk:k≤s.ms.length) (y:St4):Sj s s.ms.length k y↔Rs s k y:=by
 unfold Sj
 split
 ·rename_i h
  rw [show k = s.ms.length by omega,Nat.sub_self]
  exact Iff.rfl
 ·exact Iff.rfl
theorem gd_step {s:Sc} {k:Nat} {m:Mo} (hm:s.ms[k]? = some m) (y:St4):Gd s (s.ms.length - k) k y↔Rs s k y∧LeadsOn s y m (Gd s (s.ms.length - (k + 1)) (k + 1)):=by
 have hk:=(List.getElem?_eq_some_iff.1 hm).1
 obtain ⟨d,hd⟩:∃ d,s.ms.length - k = d + 1:=⟨s.ms.length - k - 1,by omega⟩
 rw [hd,show s.ms.length - (k + 1) = d by omega]
 constructor
 ·rintro ⟨h1,m',hm',p,y',h2,h3⟩
  rw [hm] at hm';cases hm'
  exact ⟨h1,(p,y'),h2,h3⟩
 ·rintro ⟨h1,⟨p,y'⟩,h2,h3⟩
  exact ⟨h1,m,hm,p,y',h2,h3⟩
/-! ### The own heap -/
theorem up_new {p:Hp} {b:Nat} {o:Option Obj} (h:p b = none):∀ k x,p k = some x→upd p b o k = some x:=fun k x e=>by
 rw [upd_other _ _ (fun he=>by rw [he,h] at e;cases e)];exact e
theorem ne_of {p:Hp} {a b:Nat} {x y:Obj} (h1:p a = some x) (h2:p b = some y) (h:x≠y):a≠b:=fun e=>by subst e;rw [h1] at h2;exact h (Option.some.inj h2)
theorem ne_none {p:Hp} {a b:Nat} {x:Obj} (h1:p a = some x) (h2:p b = none):a≠b:=fun e=>by subst e;rw [h1] at h2;cases h2
theorem SeenH.set {p G:Hp} {bx:Nat} {s:Sc} {bs:List Nat} {r:Int} {S:Nat→St4→Prop} (h:SeenH p G bx s bs r S) {b:Nat} {o:Option Obj} (h1:∀ cs t,p b≠some (.cells cs t (0,0))) (h2:b ∉ bs):SeenH (upd p b o) G bx s bs r S:=by
 obtain ⟨⟨w,v,k1,k2,k3⟩,hm,hn⟩:=h
 refine ⟨⟨w,v, ?_,k2, ?_⟩,fun i c hc=>?_,hn⟩
 ·rw [upd_other _ _ (fun e=>h1 _ _ (e ▸ k1))];exact k1
 ·exact k3.mono fun k o' e1 e2=>by
   rw [upd_other _ _ (fun e=>?_)];exact e2
   subst e
   rcases k3 with ⟨rfl,_⟩ | ⟨br,c,rest,rfl,hbr,_⟩
   ·cases e1
   ·cases e1;exact h1 _ _ hbr
 ·obtain ⟨es,ck,q1,q2⟩:=hm i c hc
  exact ⟨es,ck,(upd_other _ _ (fun e:c = b=>h2 (by rw [← e];exact List.mem_of_getElem? hc))).trans q1,q2⟩
theorem SeenH.imp {p G:Hp} {bx:Nat} {s:Sc} {bs:List Nat} {r:Int} {S S':Nat→St4→Prop} (h:SeenH p G bx s bs r S) (hi:∀ i y,i < bs.length→(S i y↔S' i y)):SeenH p G bx s bs r S' :=
 ⟨h.x,fun i b e=>let ⟨es,c,h1,h2⟩:=h.m i b e;⟨es,c,h1,h2.imp fun y=>hi i y (List.getElem?_eq_some_iff.1 e).1⟩,h.nd⟩
theorem SeenH.put {p G:Hp} {bx:Nat} {s:Sc} {bs:List Nat} {r:Int} {S S':Nat→St4→Prop} (h:SeenH p G bx s bs r S) {k b:Nat} (hb:bs[k]? = some b) {es:Array MapEntry} {c:Nat} (hm:MS es c (S' k)) (hs:∀ i y,i≠k→(S i y↔S' i y)):SeenH (upd p b (some (.map es c))) G bx s bs r S':=by
 obtain ⟨⟨w,v,k1,k2,k3⟩,hmm,hn⟩:=h
 obtain ⟨es0,c0,q1,_⟩:=hmm k b hb
 refine ⟨⟨w,v, ?_,k2, ?_⟩,fun i c' hc=>?_,hn⟩
 ·rw [upd_other _ _ (fun e=>by subst e;rw [q1] at k1;cases k1)];exact k1
 ·exact k3.mono fun k o' e1 e2=>by
   rw [upd_other _ _ (fun e=>?_)];exact e2
   subst e
   rcases k3 with ⟨rfl,_⟩ | ⟨br,c,rest,rfl,hbr,_⟩
   ·cases e1
   ·cases e1;rw [q1] at hbr;cases hbr
 ·by_cases hik:i = k
  ·subst hik
   rw [hb] at hc;cases hc
   exact ⟨es,c,upd_same _ _ _,hm⟩
  ·obtain ⟨es',ck,q3,q4⟩:=hmm i c' hc
   refine ⟨es',ck, ?_,q4.imp fun y=>hs i y hik⟩
   rw [upd_other _ _ (fun e=>hik ?_)]
   ·exact q3
   ·have hl:=(List.getElem?_eq_some_iff.1 hc).1
    subst e
    exact (List.getElem?_inj hl hn).1 (hc.trans hb.symm)
theorem SeenH.notIn {p G:Hp} {bx:Nat} {s:Sc} {bs:List Nat} {r:Int} {S:Nat→St4→Prop} (h:SeenH p G bx s bs r S) {b:Nat} (hb:∀ es c,p b≠some (.map es c)):b ∉ bs:=fun hm=>by
 obtain ⟨i,hi⟩:=List.getElem?_of_mem hm
 obtain ⟨es,c,h1,_⟩:=h.m i b hi
 exact hb _ _ h1
def lookPost (s:Sc) (p G:Hp) (v:Value):Prop:=∃ (bx r:Nat) (bs:List Nat) (S:Nat→St4→Prop),v = ptr bx∧SeenH p G bx s bs r S∧bs.length = r + 1 ∧
 ((r = s.ms.length∧(∀ k y,k≤s.ms.length→(S k y↔Gd s (s.ms.length - k) k y))∧∃ y,Rs s s.ms.length y)∨(r < s.ms.length∧¬ ∃ y,Rs s s.ms.length y))
theorem lookPost.grow {s:Sc} {p G G':Hp} {v:Value} (hg:Grow G G') (h:lookPost s p G v):lookPost s p G' v:=let ⟨bx,r,bs,S,h1,h2,h3⟩:=h;⟨bx,r,bs,S,h1,h2.grow hg,h3⟩
theorem SeenH.app {q q' G:Hp} {bx:Nat} {s:Sc} {bs:List Nat} {r r':Int} {S:Nat→St4→Prop} (h:SeenH q G bx s bs r S) {bn:Nat} {es:Array MapEntry} {c:Nat} (hb:q bn = some (.map es c)) (hm:MS es c (S bs.length)) (hn:bn ∉ bs)
  {w v':Value} (h1:q' bx = some (.cells (scL s w++[v',I r']).toArray 132 (0,0))) (h2:SlV moE G w s.ms) (h3:RowH mapE 129 q' v' (bs++[bn])) (hk:∀ b es c,q b = some (.map es c)→q' b = some (.map es c)):SeenH q' G bx s (bs++[bn]) r' S:=by
 refine ⟨⟨w,v',h1,h2,h3⟩,fun i b e=>?_,List.nodup_append.2 ⟨h.nd,by simp,fun a ha b hb'=>?_⟩⟩
 ·rw [List.getElem?_append] at e
  split at e
  ·obtain ⟨es0,c0,k1,k2⟩:=h.m i b e
   exact ⟨es0,c0,hk _ _ _ k1,k2⟩
  ·rename_i hlt
   have hi:i - bs.length = 0:=by
    have:=(List.getElem?_eq_some_iff.1 e).1
    simp at this;omega
   rw [hi] at e
   have e:bn = b:=by simpa using e
   subst e
   rw [show i = bs.length by omega]
   exact ⟨es,c,hk _ _ _ hb,hm⟩
 ·have:b = bn:=by simpa using hb'
  subst this
  exact fun e=>hn (e ▸ ha)
structure L3 (s:Sc) (G:Hp) (bx:Nat) (bs:List Nat) (i:Nat) (bq bn bi:Nat) (es:Array MapEntry) (ck:Nat) (T:St4→Prop) (q:Hp) (sn:Array Nat):Prop where
 seen:SeenH q G bx s bs i (Rs s)
 qm:q bq = some (.map es ck)
 qi:q bi = some (.mapIter (some bq) ck sn ck)
 qn:∃ es' c',q bn = some (.map es' c')∧MS es' c' T
theorem L3.grow {s:Sc} {G G':Hp} (hg:Grow G G') {bx:Nat} {bs:List Nat} {i:Nat} {bq bn bi:Nat} {es:Array MapEntry} {ck:Nat} {T:St4→Prop} {q:Hp} {sn:Array Nat} (h:L3 s G bx bs i bq bn bi es ck T q sn):L3 s G' bx bs i bq bn bi es ck T q sn:=⟨h.seen.grow hg,h.qm,h.qi,h.qn⟩
structure L2 (s:Sc) (G:Hp) (bx:Nat) (bs:List Nat) (i:Nat) (bq bn bi:Nat) (es:Array MapEntry) (ck:Nat) (T:(St4→Prop)→St4→Prop) (q:Hp) (sn:Array Nat) (c0:Nat):Prop where
 seen:SeenH q G bx s bs i (Rs s)
 qm:q bq = some (.map es ck)
 qi:q bi = some (.mapIter (some bq) ck sn c0)
 c:ck≤c0
 qn:∃ es' c' D,q bn = some (.map es' c')∧MS es' c' (T D)∧Vis es sn D
theorem L2.grow {s:Sc} {G G':Hp} (hg:Grow G G') {bx:Nat} {bs:List Nat} {i:Nat} {bq bn bi:Nat} {es:Array MapEntry} {ck:Nat} {T:(St4→Prop)→St4→Prop} {q:Hp} {sn:Array Nat} {c0:Nat} (h:L2 s G bx bs i bq bn bi es ck T q sn c0):L2 s G' bx bs i bq bn bi es ck T q sn c0:=⟨h.seen.grow hg,h.qm,h.qi,h.c,h.qn⟩
def Nx (s:Sc) (i:Nat) (m:Mo) (D:St4→Prop) (z:St4):Prop:=∃ y,D y∧Rs s i y∧∃ pt,(pt,z)∈partsF s y m
def S4 (s:Sc) (k:Nat) (m:Mo) (D:St4→Prop) (k':Nat) (y:St4):Prop:=if k' = k then Rs s k y∧(D y→LeadsOn s y m (Gd s (s.ms.length - (k + 1)) (k + 1))) else Sj s (k + 1) k' y
structure L4 (s:Sc) (G:Hp) (bx:Nat) (bs:List Nat) (k:Nat) (m:Mo) (bq bi ck:Nat) (q:Hp) (es:Array MapEntry) (sn:Array Nat) (c0:Nat):Prop where
 qm:q bq = some (.map es ck)
 qi:q bi = some (.mapIter (some bq) ck sn c0)
 c:ck≤c0
 d:∃ D,SeenH q G bx s bs s.ms.length (S4 s k m D)∧Vis es sn D
theorem L4.grow {s:Sc} {G G':Hp} (hg:Grow G G') {bx:Nat} {bs:List Nat} {k:Nat} {m:Mo} {bq bi ck:Nat} {q:Hp} {es:Array MapEntry} {sn:Array Nat} {c0:Nat} (h:L4 s G bx bs k m bq bi ck q es sn c0):L4 s G' bx bs k m bq bi ck q es sn c0 :=
 ⟨h.qm,h.qi,h.c,let ⟨D,h1,h2⟩:=h.d;⟨D,h1.grow hg,h2⟩⟩
theorem SeenH.ms {p G:Hp} {bx:Nat} {s:Sc} {bs:List Nat} {r:Int} {S:Nat→St4→Prop} (h:SeenH p G bx s bs r S) {k b:Nat} (hb:bs[k]? = some b) {es:Array MapEntry} {c:Nat} (he:p b = some (.map es c)):MS es c (S k):=by
 obtain ⟨es',c',h1,h2⟩:=h.m k b hb
 rw [he] at h1;cases h1
 exact h2
theorem s4_done {s:Sc} {k:Nat} {m:Mo} (hm:s.ms[k]? = some m) {D:St4→Prop} (hD:∀ y,S4 s k m D k y→D y) (k':Nat) (y:St4):S4 s k m D k' y↔Sj s k k' y:=by
 have hk:=(List.getElem?_eq_some_iff.1 hm).1
 by_cases e:k' = k
 ·subst e
  have:=hD y
  unfold S4 at this ⊢
  rw [if_pos rfl] at this ⊢
  unfold Sj
  rw [if_pos (Nat.le_refl _),gd_step hm]
  exact ⟨fun h=>⟨h.1,h.2 (this h)⟩,fun h=>⟨h.1,fun _=>h.2⟩⟩
 ·unfold S4 Sj
  rw [if_neg e]
  by_cases h:k≤k'
  ·rw [if_pos h,if_pos (by omega)]
  ·rw [if_neg h,if_neg (by omega)]
theorem s4_start {s:Sc} {k:Nat} {m:Mo} (k':Nat) (y:St4):Sj s (k + 1) k' y↔S4 s k m (fun _=>False) k' y:=by
 unfold S4
 by_cases e:k' = k
 ·subst e
  rw [if_pos rfl]
  unfold Sj
  rw [if_neg (by omega)]
  exact ⟨fun h=>⟨h,False.elim⟩,fun h=>h.1⟩
 ·rw [if_neg e]
theorem s4_next {s:Sc} {k:Nat} {m:Mo} {D:St4→Prop}:S4 s k m D (k + 1) = Gd s (s.ms.length - (k + 1)) (k + 1):=by
 funext y
 unfold S4 Sj
 rw [if_neg (by omega),if_pos (Nat.le_refl _)]
def tabS4:Tab Try.prog:=Tab.cons 39 _ begin39 body39 (Tab.nil _)
set_option maxHeartbeats 4000000 in
theorem look67 (s:Sc) (hs:ScOk s) (hms:MsOk s):Sound Try.prog 67 id (.hp (fun args p G=>(∃ v,args = [v]∧ScV G v s)∧p = fun _=>none) fun _ _ v p' G'=>lookPost s p' G' v):=by
 refine comp67.hy tabS4 (fun args p G h=>?_) (fun args p v p' G G' hg h=>h.grow hg) (fun args p G h=>?_)
 ·obtain ⟨⟨v,rfl,_⟩,_⟩:=h;simp
 ·obtain ⟨⟨v,rfl,⟨w,rfl,hsl⟩⟩,rfl⟩:=h
  obtain ⟨wa,wn,wc,rfl,hw,hwn⟩:=id hsl
  have hwl:wn = s.ms.length:=hw.len.symm
  have hsn:=hs.n
  (conv=>whnf)
  refine DrawP.mk (monoT_cons rfl (fun _ _ _ _ h=>h) monoT_nil) rfl (W.mk ?_)
  (conv=>whnf)
  refine NewhP.mk (fun bm hbm=>W.mk ?_)
  (conv=>whnf)
  refine OblP.mk rfl (W.mk ?_)
  (conv=>whnf)
  refine OblP.mk ⟨#[],0,upd_same _ _ _⟩ (W.mk ?_)
  (conv=>whnf)
  obtain ⟨q0,hq0,_,_,hM0,_⟩:=(MS.nil (c:=0)).find (bd_begin hs |>.ok hs)
  refine KeyP.mk ⟨q0,by rw [upd_same];exact hq0,W.mk ?_⟩
  rw [upd_same]
  (conv=>whnf)
  obtain ⟨es1,he1⟩:∃ es1,es1 = (putE #[] 0 (st4V begin4) (.bool true) q0).1:=⟨_,rfl⟩
  obtain ⟨ck1,hc1⟩:∃ ck1,ck1 = (putE #[] 0 (st4V begin4) (.bool true) q0).2:=⟨_,rfl⟩
  rw [← he1, ← hc1] at hM0
  obtain ⟨p1,hp1⟩:∃ p1:Hp,p1 = upd (upd (fun _=>none) bm (some (.map #[] 0))) bm (some (.map es1 ck1)):=⟨_,rfl⟩
  have hp1m:p1 bm = some (.map es1 ck1):=by rw [hp1,upd_same]
  rw [he1,hc1] at hp1
  change NewhP (upd (upd (fun _=>none) bm (some (.map #[] 0))) bm (some (.map (putE #[] 0 (st4V begin4) (.bool true) q0).1 (putE #[] 0 (st4V begin4) (.bool true) q0).2))) _
  rw [← hp1]
  refine NewhP.mk (fun br hbr=>W.mk ?_)
  (conv=>whnf)
  refine NewhP.mk (fun bx hbx=>W.mk ?_)
  (conv=>whnf)
  obtain ⟨p0,hp0⟩:∃ p0:Hp,p0 = upd (upd p1 br (some (.cells #[.map (some bm)] 129 (0,0)))) bx (some (.cells (scL s (.slice wa wn wc)++[.slice (some ⟨br,0,none⟩) 1 1,I 0]).toArray 132 (0,0))):=⟨_,rfl⟩
  have hbx':upd p1 br (some (.cells #[.map (some bm)] 129 (0,0))) bx = none:=by rw [hp1];exact hbx
  have nbr:br≠bx:=fun e=>by rw [e,upd_same] at hbx';cases hbx'
  have nbm:bm≠br:=ne_none hp1m hbr
  have nbm2:bm≠bx:=fun e=>by rw [← e,upd_other _ _ nbm,hp1m] at hbx';cases hbx'
  have hseen0:SeenH p0 G bx s [bm] 0 (Rs s):=by
   refine ⟨⟨.slice wa wn wc, .slice (some ⟨br,0,none⟩) 1 1,by rw [hp0,upd_same],hsl, .inr ⟨br,1,[],rfl, ?_,rfl,Nat.le_refl _,by decide⟩⟩,fun i b hb=>?_,by simp⟩
   ·rw [hp0,upd_other _ _ nbr,upd_same];rfl
   ·rcases i with _ | i
    ·have hb:bm = b:=by simpa using hb
     subst hb
     exact ⟨es1,ck1,by rw [hp0,upd_other _ _ nbm2,upd_other _ _ nbm];exact hp1m,hM0.imp fun y=>⟨fun h=>h.elim False.elim id, .inr⟩⟩
    ·simp at hb
  refine LoopP.of { α:=Nat × Hp × List Nat,fr:=fun x=>[(1, .c (.ptr 2000 0)),(2, .v (.pointer none)),(3, .v (ptr bx)),(20, .v (.slice wa wn wc)),(21, .v (I wn)),(22, .v (I x.1))],H:=fun x=>[(0, .heap x.2.1),(2000, .cells .anon ((scL s (.slice wa wn wc)).map .val) 34)],ok:=fun x G=>x.1≤s.ms.length∧SeenH x.2.1 G bx s x.2.2 x.1 (Rs s)∧x.2.2.length = x.1 + 1∧∃ y,Rs s x.1 y,m:=fun x=>wn - x.1 }
   (0,p0,[bm]) (HeadP.of [] ⟨rfl,rfl,rfl,rfl,rfl,rfl,trivial⟩ ⟨by show OB.heap p0 = _;rw [hp0,hp1];rfl,rfl,trivial⟩) ⟨Nat.zero_le _,hseen0,rfl,_,rfl⟩ (fun _=>⟨rfl,rfl⟩) (fun x G1 hg1 hx=>W.mk ?_)
  clear hseen0 hp0 hp1 hbx hbx' hp1m hM0 he1 hc1 hq0
  obtain ⟨i,p2,bs⟩:=x
  obtain ⟨hi,hx,hbl,hne⟩:=hx
  dsimp only at hi hx hbl hne
  dsimp only
  have hw1:SlR moE.k moE.R G1 wa wn wc s.ms:=SlR.grow (G:=G) (G':=G1) (fun _ _ h=>h) hw hg1
  (conv=>whnf)
  refine IteP.mk (fun hlt=>W.mk ?_) (fun hge=>W.mk ?_)<;>(conv=>whnf)
  ·have hlt:i < s.ms.length:=by have hlt:(i:Int) < wn:=hlt;omega
   obtain ⟨m,hm⟩:∃ m,s.ms[i]? = some m:=⟨_,List.getElem?_eq_getElem hlt⟩
   have hmo:=hms m (List.mem_of_getElem? hm)
   have hel:=hw1.el hlt
   rw [(List.getElem?_eq_some_iff.1 hm).2] at hel
   have hi40:i < 40:=by omega
   (refine ob ?_ ?_;(first | trivial | omega | (simp only [inR];omega) | exact ble (by rfl) | exact SlR.some ‹_› (by omega));(conv=>whnf))
   (refine ob ?_ ?_;(first | trivial | omega | (simp only [inR];omega) | exact ble (by rfl) | exact SlR.some ‹_› (by omega));(conv=>whnf))
   refine RdhP.g (cs:=[U m.f,U m.h]) hel rfl (W.mk ?_)
   (conv=>whnf)
   refine MapP.move (NewP.mk fun bn hbn=>W.mk ?_)
   (conv=>whnf)
   obtain ⟨p3,hp3⟩:∃ p3:Hp,p3 = upd p2 bn (some (.map #[] 0)):=⟨_,rfl⟩
   rw [← hp3]
   have hx3:SeenH p3 G1 bx s bs i (Rs s):=by rw [hp3];exact hx.up (up_new hbn)
   have hn3:p3 bn = some (.map #[] 0):=by rw [hp3,upd_same]
   have hnin:bn ∉ bs:=hx.notIn (fun es c e=>by rw [hbn] at e;cases e)
   obtain ⟨w3,v3,hbx3,hsl3,hrow3⟩:=id hx3.x
   rcases hrow3 with ⟨rfl,h0⟩ | ⟨br',c',rest,rfl,hbr',hr1,hr2,hr3⟩
   ·rw [h0] at hbl;simp at hbl
   refine RdhP.h hbx3 rfl (W.mk ?_)
   (conv=>whnf)
   refine RdhP.h hbx3 rfl (W.mk ?_)
   (conv=>whnf)
   refine OblP.mk ⟨by omega,by omega⟩ (W.mk ?_)
   (conv=>whnf)
   refine OblP.mk rfl (W.mk ?_)
   (conv=>whnf)
   have hib:i < bs.length:=by omega
   have hat:=flat_at mapE bs rest (i:=i) hib
   refine RowH.cells hbr' (cs:=[.map (some bs[i])]) (by show List.take 1 (List.drop (0 + (i:Int).toNat * 1) _) = _;rw [show (0:Nat) + (i:Int).toNat * 1 = i * mapE.k by show 0 + (i:Int).toNat * 1 = i * 1;omega];exact hat) rfl (W.mk ?_)
   (conv=>whnf)
   obtain ⟨bq,hbq⟩:∃ bq,bs[i]? = some bq:=⟨_,List.getElem?_eq_getElem hib⟩
   rw [show bs[i] = bq from (List.getElem?_eq_some_iff.1 hbq).2]
   obtain ⟨es,ck,hqm,hMS⟩:=hx3.m i bq hbq
   refine RngP.mk ⟨es,ck,hqm,fun bi hbi=>W.mk ?_⟩
   (conv=>whnf)
   have nni:bn≠bi:=ne_none hn3 hbi
   have nqi:bq≠bi:=ne_none hqm hbi
   have nnq:bn≠bq:=fun e=>hnin (by rw [e];exact List.mem_of_getElem? hbq)
   have hstamp:=(MapKept.stamped_iff es ck).1 hMS.st
   have hL2:L2 s G1 bx bs i bq bn bi es ck (Nx s i m) (upd p3 bi (some (.mapIter (some bq) ck #[] ck))) #[] ck :=
    ⟨hx3.up (up_new hbi),by rw [upd_other _ _ nqi];exact hqm,upd_same _ _ _,Nat.le_refl _, #[],0,fun _=>False,by rw [upd_other _ _ nni];exact hn3,MS.nil.imp fun y=>⟨False.elim,fun ⟨_,h,_⟩=>h⟩,Vis.nil⟩
   refine LoopP.of { α:=Hp × Array Nat × Nat,fr:=fun x=>[(1, .c (.ptr 2000 0)),(2, .v (.pointer none)),(3, .v (ptr bx)),(5, .c (.ptr 2018 0)),(6, .c (.ptr 2021 0)),(20, .v (.slice wa wn wc)),(21, .v (I wn)),(22, .v (I i)),(37, .v (ptr bi))],H:=fun x=>[(0, .heap x.1),(2000, .cells .anon ((scL s (.slice wa wn wc)).map .val) 34),(2018, .cells .anon [.val (U m.f), .val (U m.h)] 39),(2021, .cells .anon [.val (.map (some bn))] 129)],ok:=fun x G=>L2 s G bx bs i bq bn bi es ck (Nx s i m) x.1 x.2.1 x.2.2,m:=fun x=>(leftOf es x.2.1).size }
    (upd p3 bi (some (.mapIter (some bq) ck #[] ck)), #[],ck) (HeadP.of [] ⟨rfl,rfl,rfl,rfl,rfl,rfl,rfl,rfl,rfl,trivial⟩ ⟨rfl,rfl,rfl,rfl,trivial⟩) hL2 (fun _=>⟨rfl,rfl⟩) (fun x G2 hg2 hy=>W.mk ?_)
   clear hL2 hbi hqm hx3 hn3 hp3 hbx3 hbr' hat hx hbn
   obtain ⟨q,sn,c0⟩:=x
   dsimp only at hy
   dsimp only
   (conv=>whnf)
   refine NxtP.mk ⟨bq,ck,sn,c0,es,ck,hy.qi,hy.qm,hstamp.1,hy.c,fun hall=>W.mk ?_,fun e he hns=>W.mk ?_⟩
   ·(conv=>whnf)
    refine ForkP.mk (fun h=>by cases h) (fun _=>W.mk ?_)
    (conv=>whnf)
    obtain ⟨es',c',D,hqn,hMn,hV⟩:=hy.qn
    have hNx:∀ z,Nx s i m D z↔Rs s (i + 1) z:=fun z=>⟨fun ⟨y,_,h2,pt,h3⟩=>⟨y,h2,m,hm,pt,h3⟩,fun ⟨y,h2,m',hm',pt,h3⟩=>by
     rw [hm] at hm';cases hm'
     exact ⟨y,hV.all hMS hall y h2,h2,pt,h3⟩⟩
    have hMn2:=hMn.imp hNx
    refine OblP.mk ⟨_,_,hqn⟩ (W.mk ?_)
    rw [hqn]
    dsimp only [mapEs]
    (conv=>whnf)
    refine IteP.mk (fun h0=>W.mk ?_) (fun h0=>W.mk ?_)<;>(conv=>whnf)
    ·have h0:(es'.size:Int) = 0:=h0
     refine NmP.mk ⟨[],W.mk ?_⟩
     (conv=>whnf)
     refine FinHp.of rfl ⟨bx,i,bs,Rs s,rfl,hy.seen,hbl, .inr ⟨hlt,rs_none (i:=i + 1) (fun ⟨y,hy1⟩=>?_) (by omega)⟩⟩
     obtain ⟨e,he,_⟩:=hMn2.mem y hy1
     have:es'.toList = []:=List.eq_nil_of_length_eq_zero (by rw [Array.length_toList];omega)
     rw [this] at he;cases he
    ·have h0:¬ (es'.size:Int) = 0:=h0
     have hne2:∃ y,Rs s (i + 1) y:=by
      obtain ⟨e,he⟩:∃ e,e∈es'.toList:=List.exists_mem_of_length_pos (by rw [Array.length_toList];omega)
      obtain ⟨y,h1,_⟩:=hMn2.ent e he
      exact ⟨y,h1⟩
     obtain ⟨w4,v4,hbx4,hsl4,hrow4⟩:=id hy.seen.x
     rcases hrow4 with ⟨rfl,h0⟩ | ⟨br4,c4,rest4,rfl,hbr4,hr41,hr42,hr43⟩
     ·rw [h0] at hbl;simp at hbl
     have nxr:bx≠br4:=ne_of hbx4 hbr4 (fun h=>by injection h with _ h2;exact absurd h2 (by decide))
     refine RdhP.h hbx4 rfl (W.mk ?_)
     (conv=>whnf)
     have hon:(flat mapE bs++rest4).length = c4 * 1:=by rw [List.length_append,flat_len,hr41,show mapE.k = 1 from rfl];omega
     have hone:∀ u∈(flat mapE bs++rest4).take (bs.length * 1),u.oneCell' = true:=by
      have e:=take_flat (E:=mapE) (l:=bs) (rest:=rest4)
      rw [show bs.length * mapE.k = bs.length * 1 from rfl] at e
      rw [e];exact flat_one _ _
     refine HpkP.mk ⟨_,129,hbr4,W.mk ?_⟩
     (conv=>whnf)
     refine OblP.mk ⟨rfl,rfl,hon,hr42,hr43,hone⟩ (W.mk ?_)
     (conv=>whnf)
     refine OblP.mk rfl (W.mk ?_)
     (conv=>whnf)
     refine OblP.mk ⟨by omega, .inl (by decide)⟩ (W.mk ?_)
     (conv=>whnf)
     have hb41:bs.length≤41:=by omega
     refine IteP.mk (fun hcap=>W.mk ?_) (fun hcap=>W.mk ?_)<;>(conv=>whnf)
     ·have hcap:((bs.length + 1:Nat):Int)≤c4:=hcap
      have hrow:=RowH.appIn (t:=129) (p:=q) (b:=br4) (us:=[bn]) hr41 (by simp only [List.length_singleton];omega) hr43
      refine HpkP.mk ⟨_,132,(upd_other _ _ nxr).trans hbx4,W.mk ?_⟩
      (conv=>whnf)
      refine OblP.mk (by show 6≤7;decide) (W.mk ?_)
      (conv=>whnf)
      refine RdhP.h (upd_same _ _ _) rfl (W.mk ?_)
      (conv=>whnf)
      refine OblP.mk (by simp only [inR];omega) (W.mk ?_)
      (conv=>whnf)
      refine HpkP.mk ⟨_,132,upd_same _ _ _,W.mk ?_⟩
      (conv=>whnf)
      refine OblP.mk (by show 7≤7;decide) (W.mk ?_)
      (conv=>whnf)
      (refine ob ?_ ?_;(first | trivial | omega | (simp only [inR];omega) | exact ble (by rfl) | exact SlR.some ‹_› (by omega));(conv=>whnf))
      refine RoundP.of (i + 1,_,bs++[bn]) (HeadP.of [] ⟨rfl,rfl,rfl,rfl,rfl,rfl,trivial⟩ ⟨rfl,rfl,trivial⟩) ⟨hlt,hy.seen.app (w:=w4) (v':=.slice (some ⟨br4,0,none⟩) (bs.length + 1) c4) hqn (by rw [hbl];exact hMn2) hnin ((upd_same _ _ _).trans rfl) hsl4 ?_ (fun b es c hb=>?_),by rw [List.length_append,hbl];rfl,hne2⟩ (by show wn - (i + 1) < wn - i;omega)
      ·exact RowH.mono hrow fun k o e1 e2=>by
        cases e1
        show upd (upd (upd q _ _) bx _) bx _ _ = _
        exact (upd_other _ _ nxr.symm).trans ((upd_other _ _ nxr.symm).trans e2)
      ·have nb:b≠bx:=ne_of hb hbx4 (fun h=>by cases h)
       show upd (upd (upd q _ _) bx _) bx _ _ = _
       exact (upd_other _ _ nb).trans ((upd_other _ _ nb).trans ((upd_other _ _ (ne_of hb hbr4 (fun h=>by cases h))).trans hb))
     ·have hcap:¬ ((bs.length + 1:Nat):Int)≤c4:=hcap
      refine AppnP.mk (fun b' cap rest' hb1 hb2 hb3 hb4=>W.mk ?_)
      (conv=>whnf)
      have hrow:=RowH.appNew (t:=129) (p:=q) (b:=b') (c:=cap) (l:=bs) (us:=[bn]) (vs:=(flat mapE bs++rest4).take (bs.length * mapE.k)) (rest':=rest') take_flat hb4 hb2 hb3
      refine HpkP.mk ⟨_,132,(upd_other _ _ (ne_none hbx4 hb1)).trans hbx4,W.mk ?_⟩
      (conv=>whnf)
      refine OblP.mk (by show 6≤7;decide) (W.mk ?_)
      (conv=>whnf)
      refine RdhP.h (upd_same _ _ _) rfl (W.mk ?_)
      (conv=>whnf)
      refine OblP.mk (by simp only [inR];omega) (W.mk ?_)
      (conv=>whnf)
      refine HpkP.mk ⟨_,132,upd_same _ _ _,W.mk ?_⟩
      (conv=>whnf)
      refine OblP.mk (by show 7≤7;decide) (W.mk ?_)
      (conv=>whnf)
      (refine ob ?_ ?_;(first | trivial | omega | (simp only [inR];omega) | exact ble (by rfl) | exact SlR.some ‹_› (by omega));(conv=>whnf))
      refine RoundP.of (i + 1,_,bs++[bn]) (HeadP.of [] ⟨rfl,rfl,rfl,rfl,rfl,rfl,trivial⟩ ⟨rfl,rfl,trivial⟩) ⟨hlt,hy.seen.app (w:=w4) (v':=.slice (some ⟨b',0,none⟩) (bs.length + 1) cap) hqn (by rw [hbl];exact hMn2) hnin ((upd_same _ _ _).trans rfl) hsl4 ?_ (fun b es c hb=>?_),by rw [List.length_append,hbl];rfl,hne2⟩ (by show wn - (i + 1) < wn - i;omega)
      ·exact RowH.mono hrow fun k o e1 e2=>by
        cases e1
        show upd (upd (upd q _ _) bx _) bx _ _ = _
        exact (upd_other _ _ (ne_none hbx4 hb1).symm).trans ((upd_other _ _ (ne_none hbx4 hb1).symm).trans e2)
      ·have nb:b≠bx:=ne_of hb hbx4 (fun h=>by cases h)
       show upd (upd (upd q _ _) bx _) bx _ _ = _
       exact (upd_other _ _ nb).trans ((upd_other _ _ nb).trans ((upd_other _ _ (ne_none hb hb1)).trans hb))
   ·obtain ⟨y,hSy,hke,hve⟩:=hMS.ent e he
    obtain ⟨ek,ev,eb⟩:=e
    dsimp only at hke hve hns
    subst hke;subst hve
    have hby:=bd_rs hs hSy
    obtain ⟨y0,hy0⟩:∃ y0:St4,y0 = y:=⟨_,rfl⟩
    obtain ⟨yh,yt,ys,yo⟩:=y
    (conv=>whnf)
    refine ForkP.mk (fun _=>W.mk ?_) (fun h=>by cases h)
    (conv=>whnf)
    refine EtyP.mk ⟨bq,ck,sn,es,ck,_,upd_same _ _ _,(upd_other _ _ nqi).trans hy.qm,he,hstamp.2.1,W.mk ?_⟩
    (conv=>whnf)
    refine CallH.mk _ parts40 body40 (W.mk ?_)
    (conv=>whnf)
    have hsl2:SlV moE G2 (.slice wa wn wc) s.ms:=hsl.grow (hg1.trans hg2)
    refine RelP.g (ok3 scRd st4Rd moRd fun _ _ _=>True) (x:=(s,⟨yh,yt,ys,yo⟩,m)) ⟨_,_,_,rfl,⟨_,rfl,hsl2⟩,rfl,rfl,trivial⟩ (Grow.refl _) (fun v1 G3 hg3 hq1=>W.mk ?_)
    obtain ⟨B,rfl,hB⟩:=hq1
    (conv=>whnf)
    obtain ⟨L,hL⟩:∃ L,L = partsF s ⟨yh,yt,ys,yo⟩ m:=⟨_,rfl⟩
    obtain ⟨es',c',D,hqn,hMn,hV⟩:=hy.qn
    have hL3:L3 s G3 bx bs i bq bn bi es ck (fun z=>Nx s i m D z∨∃ e∈L.take 0,e.2 = z) (upd q bi (some (.mapIter (some bq) ck (sn.push eb) ck))) (sn.push eb) :=
     ⟨(hy.seen.grow hg3).set (fun cs t h=>by rw [hy.qi] at h;cases h) (hy.seen.notIn fun es c h=>by rw [hy.qi] at h;cases h),(upd_other _ _ nqi).trans hy.qm,upd_same _ _ _,es',c',(upd_other _ _ nni).trans hqn,hMn.imp fun z=>⟨.inl,fun h=>h.elim id fun ⟨_,h,_⟩=>by simp at h⟩⟩
    refine RangeP.of (L.map parV) { α:=Nat × Hp,fr:=[(1, .c (.ptr 2000 0)),(2, .v (.pointer none)),(3, .v (ptr bx)),(5, .c (.ptr 2018 0)),(6, .c (.ptr 2021 0)),(20, .v (.slice wa wn wc)),(21, .v (I wn)),(22, .v (I i)),(37, .v (ptr bi))],k:=fun z=>z.1,H:=fun z=>[(0, .heap z.2),(2000, .cells .anon ((scL s (.slice wa wn wc)).map .val) 34),(2018, .cells .anon [.val (U m.f), .val (U m.h)] 39),(2021, .cells .anon [.val (.map (some bn))] 129)],ok:=fun z G=>z.1≤L.length∧L3 s G bx bs i bq bn bi es ck (fun y=>Nx s i m D y∨∃ e∈L.take z.1,e.2 = y) z.2 (sn.push eb) }
     (0,upd q bi (some (.mapIter (some bq) ck (sn.push eb) ck))) (SoundFn.of body70 (parts70 B s ⟨yh,yt,ys,yo⟩ m)) (fun l=>⟨rfl,hB,hmo,hs,hby,by rw [hL]⟩) (fun z hz=>by obtain ⟨e,_,rfl⟩:=List.mem_map.1 hz;rfl) rfl (HeadP.of [] ⟨rfl,rfl,rfl,rfl,rfl,rfl,rfl,rfl,rfl,trivial⟩ ⟨rfl,rfl,rfl,rfl,trivial⟩) ⟨Nat.zero_le _,hL3⟩ ⟨rfl,fun _=>rfl⟩ (fun _ _ _ hg h=>⟨h.1,h.2.grow hg⟩)
     (fun z e G4 hg4 hk he4=>W.mk ?_) (fun z G4 hg4 hk hke=>W.mk ?_)
    ·obtain ⟨k,q4⟩:=z
     obtain ⟨hk1,hk2⟩:=hk
     dsimp only at hk1 hk2 he4
     obtain ⟨⟨⟨ph,pv⟩,⟨zh,zt,zs,zo⟩⟩,he2,rfl⟩:=mv_of_mem he4
     have hkl:=(List.getElem?_eq_some_iff.1 he2).1
     have hmem:((⟨ph,pv⟩,⟨zh,zt,zs,zo⟩):Pt × St4)∈partsF s ⟨yh,yt,ys,yo⟩ m:=by rw [← hL];exact List.mem_of_getElem? he2
     have hbz:=(bd_parts hs hby hmem).ok hs
     have htk:=take_succ' he2
     obtain ⟨es4,c4,hqn4,hM4⟩:=hk2.qn
     obtain ⟨r4,hf4,_,_,hM5,_⟩:=hM4.find hbz
     dsimp only [parV]
     (conv=>whnf)
     refine OblP.mk ⟨_,_,hqn4⟩ (W.mk ?_)
     (conv=>whnf)
     refine KeyP.mk ⟨r4,by rw [hqn4];exact hf4,W.mk ?_⟩
     rw [hqn4]
     (conv=>whnf)
     refine RoundR.mk ⟨(k + 1,upd q4 bn (some (.map (putE es4 c4 (st4V ⟨zh,zt,zs,zo⟩) (.bool true) r4).1 (putE es4 c4 (st4V ⟨zh,zt,zs,zo⟩) (.bool true) r4).2))),⟨[],⟨rfl,rfl,rfl,rfl,trivial⟩,rfl,rfl⟩,⟨hkl,hk2.seen.set (fun cs t h=>by rw [hqn4] at h;cases h) hnin,(upd_other _ _ nnq.symm).trans hk2.qm,(upd_other _ _ nni.symm).trans hk2.qi,_,_,upd_same _ _ _,hM5.imp fun z=>?_⟩,rfl,rfl⟩
     rw [htk]
     constructor
     ·rintro ((h | ⟨e,h1,h2⟩) | rfl)
      ·exact .inl h
      ·exact .inr ⟨e,List.mem_append.2 (.inl h1),h2⟩
      ·exact .inr ⟨(⟨ph,pv⟩,⟨zh,zt,zs,zo⟩),List.mem_append.2 (.inr (by simp)),rfl⟩
     ·rintro (h | ⟨e,h1,h2⟩)
      ·exact .inl (.inl h)
      ·rcases List.mem_append.1 h1 with h1 | h1
       ·exact .inl (.inr ⟨e,h1,h2⟩)
       ·refine .inr ?_
        have:e = (⟨ph,pv⟩,⟨zh,zt,zs,zo⟩):=by simpa using h1
        rw [← h2,this]
    ·obtain ⟨k,q4⟩:=z
     obtain ⟨hk1,hk2⟩:=hk
     have hke:k = (L.map parV).length:=hke
     rw [List.length_map] at hke
     subst hke
     dsimp only at hk2
     rw [List.take_length] at hk2
     dsimp only
     (conv=>whnf)
     obtain ⟨es4,c4,hqn4,hM4⟩:=hk2.qn
     refine RoundP.of (q4,sn.push eb,ck) (HeadP.of [] ⟨rfl,rfl,rfl,rfl,rfl,rfl,rfl,rfl,rfl,trivial⟩ ⟨rfl,rfl,rfl,rfl,trivial⟩) ⟨hk2.seen,hk2.qm,hk2.qi,Nat.le_refl _,es4,c4,fun z=>D z∨z = y0,hqn4,hM4.imp fun z=>?_, ?_⟩ (left_lt he hns)
     ·subst hy0
      constructor
      ·rintro (⟨y,h1,h2,h3⟩ | ⟨⟨pt,z'⟩,h1,rfl⟩)
       ·exact ⟨y, .inl h1,h2,h3⟩
       ·exact ⟨_, .inr rfl,hSy,pt,by rw [← hL];exact h1⟩
      ·rintro ⟨y,h1 | h1,h2,pt,h3⟩
       ·exact .inl ⟨y,h1,h2,pt,h3⟩
       ·subst h1
        exact .inr ⟨(pt,z),by rw [hL];exact h3,rfl⟩
     ·subst hy0
      exact hV.push hMS he rfl
  ·have hin:i = s.ms.length:=by have hge:¬ (i:Int) < wn:=hge;omega
   subst hin
   obtain ⟨w3,v3,hbx3,hsl3,hrow3⟩:=id hx.x
   refine RdhP.h hbx3 rfl (W.mk ?_)
   (conv=>whnf)
   refine OblP.mk (by simp only [inR];omega) (W.mk ?_)
   (conv=>whnf)
   refine LoopP.of { α:=Nat × Hp,fr:=fun x=>[(3, .v (ptr bx)),(10, .v (I ((x.1:Int) - 1)))],H:=fun x=>[(0, .heap x.2)],ok:=fun x G=>x.1≤s.ms.length∧SeenH x.2 G bx s bs s.ms.length (Sj s x.1),m:=fun x=>x.1 }
    (s.ms.length,p2) (HeadP.of [] ⟨rfl,rfl,trivial⟩ ⟨rfl,trivial⟩) ⟨Nat.le_refl _,hx.imp fun k y hk=>(sj_top s (by omega) y).symm⟩ (fun _=>⟨rfl,rfl⟩) (fun x G2 hg2 hj=>W.mk ?_)
   clear hx hbx3 hrow3
   obtain ⟨j,q⟩:=x
   obtain ⟨hjn,hx⟩:=hj
   dsimp only at hjn hx
   dsimp only
   have hg02:=hg1.trans hg2
   rcases j with _ | k
   ·(conv=>whnf)
    refine IteP.mk (fun h=>absurd h (by decide)) (fun _=>W.mk ?_)
    (conv=>whnf)
    refine NmP.mk ⟨[],W.mk ?_⟩
    (conv=>whnf)
    exact FinHp.of rfl ⟨bx,s.ms.length,bs,Sj s 0,rfl,hx,hbl, .inl ⟨rfl,fun k y _=>by unfold Sj;rw [if_pos (Nat.zero_le _)],hne⟩⟩
   ·rw [show ((k + 1:Nat):Int) - 1 = (k:Int) by omega]
    have hk40:k < 40:=by omega
    (conv=>whnf)
    refine IteP.mk (fun _=>W.mk ?_) (fun h=>absurd (show (k:Int) ≥ 0 by omega) h)
    (conv=>whnf)
    have hkb:k < bs.length:=by omega
    obtain ⟨m,hm⟩:∃ m,s.ms[k]? = some m:=⟨_,List.getElem?_eq_getElem (by omega)⟩
    obtain ⟨bq,hbq⟩:∃ bq,bs[k]? = some bq:=⟨_,List.getElem?_eq_getElem hkb⟩
    obtain ⟨w3,v3,hbx3,hsl3,hrow3⟩:=id hx.x
    rcases hrow3 with ⟨rfl,h0⟩ | ⟨br',c',rest,rfl,hbr',hr1,hr2,hr3⟩
    ·rw [h0] at hbl;simp at hbl
    refine RdhP.h hbx3 rfl (W.mk ?_)
    (conv=>whnf)
    refine OblP.mk ⟨by omega,by omega⟩ (W.mk ?_)
    (conv=>whnf)
    refine OblP.mk rfl (W.mk ?_)
    (conv=>whnf)
    have hat:=flat_at mapE bs rest (i:=k) hkb
    rw [show bs[k] = bq from (List.getElem?_eq_some_iff.1 hbq).2] at hat
    refine RowH.cells hbr' (cs:=[.map (some bq)]) (by show List.take 1 (List.drop (0 + (k:Int).toNat * 1) _) = _;rw [show (0:Nat) + (k:Int).toNat * 1 = k * mapE.k by show 0 + (k:Int).toNat * 1 = k * 1;omega];exact hat) rfl (W.mk ?_)
    (conv=>whnf)
    obtain ⟨es,ck,hqm,_⟩:=hx.m k bq hbq
    refine RngP.mk ⟨es,ck,hqm,fun bi hbi=>W.mk ?_⟩
    (conv=>whnf)
    have nqi:bq≠bi:=ne_none hqm hbi
    have hL4:L4 s G2 bx bs k m bq bi ck (upd q bi (some (.mapIter (some bq) ck #[] ck))) es #[] ck :=
     ⟨(upd_other _ _ nqi).trans hqm,upd_same _ _ _,Nat.le_refl _,fun _=>False,(hx.up (up_new hbi)).imp fun k' y _=>s4_start k' y,Vis.nil⟩
    refine LoopP.of { α:=Hp × Array MapEntry × Array Nat × Nat,fr:=fun x=>[(3, .v (ptr bx)),(10, .v (I k)),(88, .v (ptr bi))],H:=fun x=>[(0, .heap x.1)],ok:=fun x G=>L4 s G bx bs k m bq bi ck x.1 x.2.1 x.2.2.1 x.2.2.2,m:=fun x=>(leftOf x.2.1 x.2.2.1).size }
     (upd q bi (some (.mapIter (some bq) ck #[] ck)),es, #[],ck) (HeadP.of [] ⟨rfl,rfl,rfl,trivial⟩ ⟨rfl,trivial⟩) hL4 (fun _=>⟨rfl,rfl⟩) (fun x G3 hg3 hy=>W.mk ?_)
    clear hL4 hbi hqm hx hbx3 hbr' hat
    obtain ⟨q3,es3,sn,c0⟩:=x
    dsimp only at hy
    dsimp only
    obtain ⟨D,hx,hV⟩:=hy.d
    have hMS:=hx.ms hbq hy.qm
    have hstamp:=(MapKept.stamped_iff es3 ck).1 hMS.st
    (conv=>whnf)
    refine NxtP.mk ⟨bq,ck,sn,c0,es3,ck,hy.qi,hy.qm,hstamp.1,hy.c,fun hall=>W.mk ?_,fun e he hns=>W.mk ?_⟩
    ·(conv=>whnf)
     refine ForkP.mk (fun h=>by cases h) (fun _=>W.mk ?_)
     (conv=>whnf)
     (refine ob ?_ ?_;(first | trivial | omega | (simp only [inR];omega) | exact ble (by rfl) | exact SlR.some ‹_› (by omega));(conv=>whnf))
     exact RoundP.of (k,q3) (HeadP.of [] ⟨rfl,rfl,trivial⟩ ⟨rfl,trivial⟩) ⟨by omega,hx.imp fun k' y _=>s4_done hm (hV.all hMS hall) k' y⟩ (by show k < k + 1;omega)
    ·obtain ⟨y,hSy,hke,hve⟩:=hMS.ent e he
     obtain ⟨ek,ev,eb⟩:=e
     dsimp only at hke hve hns
     subst hke;subst hve
     have hRy:Rs s k y:=by unfold S4 at hSy;rw [if_pos rfl] at hSy;exact hSy.1
     have hby:=bd_rs hs hRy
     have hnD:¬ D y:=fun h=>by have:=(hV.iff _ he y rfl).2 h;rw [hns] at this;cases this
     have hVp:=hV.push hMS he rfl
     have hkb1:k + 1 < bs.length:=by omega
     have hlead:=leads101 s hs hms bx k y m hm hby bs hkb1 s.ms.length (S4 s k m D)
     rw [s4_next] at hlead
     have hx4:SeenH (upd q3 bi (some (.mapIter (some bq) ck (sn.push eb) ck))) G3 bx s bs s.ms.length (S4 s k m D):=hx.set (fun cs t h=>by rw [hy.qi] at h;cases h) (hx.notIn fun es c h=>by rw [hy.qi] at h;cases h)
     obtain ⟨r4,hf4,_,_,_,hMd,hsub⟩:=hMS.find (hby.ok hs)
     obtain ⟨y0,hy0⟩:∃ y0:St4,y0 = y:=⟨_,rfl⟩
     obtain ⟨yh,yt,ys,yo⟩:=y
     (conv=>whnf)
     refine ForkP.mk (fun _=>W.mk ?_) (fun h=>by cases h)
     (conv=>whnf)
     refine EtyP.mk ⟨bq,ck,sn,es3,ck,_,upd_same _ _ _,(upd_other _ _ nqi).trans hy.qm,he,hstamp.2.1,W.mk ?_⟩
     (conv=>whnf)
     refine CallH.mk _ hlead body101 (W.mk ?_)
     (conv=>whnf)
     refine HpcP.mk ⟨rfl,hx4⟩ (fun v p5 G5 hg5 hq5=>W.mk ?_)
     obtain ⟨rfl,b,rfl,hb⟩:=hq5
     (conv=>whnf)
     refine ForkP.mk (fun hbt=>W.mk ?_) (fun hbf=>W.mk ?_)<;>(conv=>whnf)
     ·have hlo:=hb.1 hbt
      refine RoundP.of (_,es3,sn.push eb,ck) (HeadP.of [] ⟨rfl,rfl,rfl,trivial⟩ ⟨rfl,trivial⟩) ⟨(upd_other _ _ nqi).trans hy.qm,upd_same _ _ _,Nat.le_refl _,fun z=>D z∨z = y0,(hx4.grow hg5).imp fun k' z _=>?_,by subst hy0;exact hVp⟩ (left_lt he hns)
      subst hy0
      unfold S4
      split
      ·exact ⟨fun h=>⟨h.1,fun h2=>h2.elim h.2 fun e=>e ▸ hlo⟩,fun h=>⟨h.1,fun h2=>h.2 (.inl h2)⟩⟩
      ·exact Iff.rfl
     ·have hno:¬ LeadsOn s ⟨yh,yt,ys,yo⟩ m (Gd s (s.ms.length - (k + 1)) (k + 1)):=fun h=>by rw [hb.2 h] at hbf;cases hbf
      have hx5:=hx4.grow hg5
      obtain ⟨w6,v6,hbx6,hsl6,hrow6⟩:=id hx5.x
      rcases hrow6 with ⟨rfl,h0⟩ | ⟨br6,c6,rest6,rfl,hbr6,hr61,hr62,hr63⟩
      ·rw [h0] at hbl;simp at hbl
      have hqm6:upd q3 bi (some (.mapIter (some bq) ck (sn.push eb) ck)) bq = some (.map es3 ck):=(upd_other _ _ nqi).trans hy.qm
      refine RdhP.h hbx6 rfl (W.mk ?_)
      (conv=>whnf)
      refine OblP.mk ⟨by omega,by omega⟩ (W.mk ?_)
      (conv=>whnf)
      refine OblP.mk rfl (W.mk ?_)
      (conv=>whnf)
      have hat6:=flat_at mapE bs rest6 (i:=k) hkb
      rw [show bs[k] = bq from (List.getElem?_eq_some_iff.1 hbq).2] at hat6
      refine RowH.cells hbr6 (cs:=[.map (some bq)]) (by show List.take 1 (List.drop (0 + (k:Int).toNat * 1) _) = _;rw [show (0:Nat) + (k:Int).toNat * 1 = k * mapE.k by show 0 + (k:Int).toNat * 1 = k * 1;omega];exact hat6) rfl (W.mk ?_)
      (conv=>whnf)
      refine OblP.mk ⟨_,_,hqm6⟩ (W.mk ?_)
      (conv=>whnf)
      refine KeyP.mk ⟨r4,by rw [hqm6];exact hf4,W.mk ?_⟩
      rw [hqm6]
      (conv=>whnf)
      refine RoundP.of (upd (upd q3 bi (some (.mapIter (some bq) ck (sn.push eb) ck))) bq (some (.map (delE es3 r4) ck)),delE es3 r4,sn.push eb,ck) (HeadP.of [] ⟨rfl,rfl,rfl,trivial⟩ ⟨rfl,trivial⟩)
       ⟨upd_same _ _ _,(upd_other _ _ nqi.symm).trans (upd_same _ _ _),Nat.le_refl _,fun z=>D z∨z = y0,hx5.put hbq (hMd.imp fun z=>?_) (fun k' z hk'=>?_),by subst hy0;exact hVp.sub hsub⟩ (Nat.lt_of_le_of_lt (left_le hsub) (left_lt he hns))
      ·subst hy0
       unfold S4
       rw [if_pos rfl,if_pos rfl]
       constructor
       ·rintro ⟨⟨h1,h2⟩,h3⟩
        exact ⟨h1,fun h4=>h4.elim h2 fun e=>absurd e h3⟩
       ·rintro ⟨h1,h2⟩
        exact ⟨⟨h1,fun h4=>h2 (.inl h4)⟩,fun e=>hno (e ▸ h2 (.inr e))⟩
      ·unfold S4
       rw [if_neg hk',if_neg hk']
end Go.Proofs.Ytefnikpoimaiiaa

namespace Go.Pal
open Go.RowKit

theorem Sound.first {P:Program} {f:FuncId} {pre:List Value→Hp→Prop} {post:List Value→Hp→Value→Prop} (w:Value) (h:Sound P f id (.sca pre post)) :
  Sound P f (fun a=>(#[w]:Array Value).toList++a++(#[]:Array Value).toList) (.sca (fun a G=>pre (w :: a) G) (fun a G v=>post (w :: a) G v)):=fun args G W hs hp=>by
 have:=h (w :: args) G W hs hp
 simpa using this
/-! ### Maps -/
theorem keyFind_of' {P:Program} {k:TypeId} (L:Maps.Keyed P k) {x:Value} {lx:Lit} (hx:keyOf P k x = some lx) (hs:Instr.sameBits 10000 x x = true) {es:Array MapEntry} (hall:∀ e∈es.toList, ∃ l,keyOf P k e.key = some l) (hnd:(es.toList.map (·.key)).Nodup) :
  (KeyFind P k x es none∧∀ e∈es.toList,e.key≠x)∨∃ (j:Nat) (e:MapEntry),KeyFind P k x es (some j)∧es[j]? = some e∧e.key = x:=by
 by_cases hex:∃ e∈es.toList,e.key = x
 ·right
  obtain ⟨e,he,hk⟩:=hex
  obtain ⟨j,hj,hje⟩:=List.getElem_of_mem he
  have hj':es.toList[j]? = some e:=by rw [List.getElem?_eq_getElem hj,hje]
  refine ⟨j,e,⟨fun W em=>L.check W em hx,fun W=>?_,fun i hi=>?_⟩,by simpa using hj',hk⟩
  ·rcases L.find W hx es.toList hall with ⟨_,h2⟩ | ⟨i,e',h1,h2,h3⟩
   ·exact absurd hk (h2 e he)
   ·have k1:(es.toList.map (·.key))[i]? = some x:=by simp only [List.getElem?_map,h2,Option.map_some,h3]
    have k2:(es.toList.map (·.key))[j]? = some x:=by simp only [List.getElem?_map,hj',Option.map_some,hk]
    have l1:=(List.getElem?_eq_some_iff.1 k1).1
    have:i = j:=(List.getElem?_inj l1 hnd).1 (k1.trans k2.symm)
    subst this
    rw [h1]
    have h2':es[i]? = some e':=by simpa using h2
    simp [mapAt,h2']
  ·cases hi
   have hj'':es[j]? = some e:=by simpa using hj'
   simp only [hj'',Option.map_some,Option.getD_some,hk];exact hs
 ·left
  have hno:∀ e∈es.toList,e.key≠x:=fun e he hk=>hex ⟨e,he,hk⟩
  refine ⟨⟨fun W em=>L.check W em hx,fun W=>?_,fun i hi=>by cases hi⟩,hno⟩
  rcases L.find W hx es.toList hall with ⟨h1,_⟩ | ⟨i,e',h1,h2,h3⟩
  ·exact h1
  ·exact absurd h3 (hno e' (List.mem_of_getElem? h2))
structure MapIs {κ:Type} (P:Program) (k:TypeId) (val:κ→Value) (es:Array MapEntry) (m:κ→Option Value):Prop where
 ex:∃ D:List (κ × Value),es.toList.map (fun e=>(e.key,e.val)) = D.map (fun p=>(val p.1,p.2))∧(∀ p∈D, ∃ l,keyOf P k (val p.1) = some l)∧(D.map (·.1)).Nodup∧(∀ p∈D,m p.1 = some p.2)∧∀ x,(∀ p∈D,p.1≠x)→m x = none
theorem MapIs.nil {κ:Type} {P:Program} {k:TypeId} {val:κ→Value}:MapIs P k val #[] (fun _=>none):=⟨[],rfl,(fun p h=>by cases h),List.nodup_nil,(fun p h=>by cases h),fun _ _=>rfl⟩
def lookD (z:Value) (ok:Bool):Option Value→Value
 | some v=>match ok with
  | true=>.tuple #[v, .bool true]
  | false=>v
 | none=>match ok with
  | true=>.tuple #[z, .bool false]
  | false=>z
theorem MapIs.find {κ:Type} [DecidableEq κ] {P:Program} {k:TypeId} {val:κ→Value} (L:Maps.Keyed P k) (hinj:∀ x y,val x = val y→x = y) {es:Array MapEntry} {m:κ→Option Value} (h:MapIs P k val es m) {x:κ} {lx:Lit} (hx:keyOf P k (val x) = some lx) (hs:Instr.sameBits 10000 (val x) (val x) = true) :
  ∃ r,KeyFind P k (val x) es r∧(∀ z ok,lookV z ok es r = lookD z ok (m x))∧∀ c v,MapIs P k val (putE es c (val x) v r).1 (fun y=>if y = x then some v else m y):=by
 obtain ⟨D,h1,h2,h3,h4,h5⟩:=h.ex
 have hmem:∀ e∈es.toList, ∃ p∈D,e.key = val p.1∧e.val = p.2:=fun e he=>by
  have:(e.key,e.val)∈es.toList.map (fun e=>(e.key,e.val)):=List.mem_map.2 ⟨e,he,rfl⟩
  rw [h1] at this
  obtain ⟨p,hp,e1⟩:=List.mem_map.1 this
  simp only [Prod.mk.injEq] at e1
  exact ⟨p,hp,e1.1.symm,e1.2.symm⟩
 have hkeys:es.toList.map (·.key) = D.map fun p=>val p.1:=by
  have:=congrArg (List.map Prod.fst) h1
  simpa [List.map_map,Function.comp_def] using this
 have hnd:(es.toList.map (·.key)).Nodup:=by
  rw [hkeys]
  have:(D.map fun p=>val p.1) = (D.map (·.1)).map val:=by simp [List.map_map,Function.comp_def]
  rw [this]
  exact h3.map _ (fun a b hab e=>hab (hinj _ _ e))
 have hall:∀ e∈es.toList, ∃ l,keyOf P k e.key = some l:=fun e he=>by
  obtain ⟨p,hp,e1,_⟩:=hmem e he
  rw [e1];exact h2 p hp
 rcases keyFind_of' L hx hs hall hnd with ⟨k1,k2⟩ | ⟨j,e,k1,k2,k3⟩
 ·have hno:∀ p∈D,p.1≠x:=fun p hp e=>by
   have:val p.1∈es.toList.map (·.key):=by rw [hkeys];exact List.mem_map.2 ⟨p,hp,rfl⟩
   obtain ⟨e',he',e1⟩:=List.mem_map.1 this
   exact k2 e' he' (by rw [e1,e])
  have hn:=h5 x hno
  refine ⟨none,k1,fun z ok=>by rw [hn];cases ok<;>rfl,fun c v=>⟨D++[(x,v)], ?_,fun p hp=>?_, ?_,fun p hp=>?_,fun y hy=>?_⟩⟩
  ·simp only [putE,Array.toList_push,List.map_append,h1,List.map_cons,List.map_nil]
  ·rcases List.mem_append.1 hp with hp | hp
   ·exact h2 p hp
   ·simp at hp;subst hp;exact ⟨_,hx⟩
  ·simp only [List.map_append,List.map_cons,List.map_nil]
   rw [List.nodup_append]
   refine ⟨h3,by simp,fun a ha b hb=>?_⟩
   simp at hb;subst hb
   obtain ⟨p,hp,rfl⟩:=List.mem_map.1 ha
   exact hno p hp
  ·rcases List.mem_append.1 hp with hp | hp
   ·rw [if_neg (hno p hp)];exact h4 p hp
   ·simp at hp;subst hp;simp
  ·have hyx:y≠x:=fun e=>hy (x,v) (by simp) e.symm
   rw [if_neg hyx]
   exact h5 y fun p hp=>hy p (by simp [hp])
 ·have k2':es.toList[j]? = some e:=by simpa using k2
  have hj:D[j]? = some (x,e.val):=by
   have:=congrArg (·[j]?) h1
   simp only [List.getElem?_map,k2',Option.map_some] at this
   cases hd:D[j]? with
   | none=>rw [hd] at this;cases this
   | some p =>
    rw [hd] at this
    simp only [Option.map_some,Option.some.injEq,Prod.mk.injEq] at this
    have e1:p.1 = x:=hinj _ _ (by rw [← this.1,k3])
    rw [show p = (p.1,p.2) from rfl,e1, ← this.2]
  have hm:=h4 _ (List.mem_of_getElem? hj)
  refine ⟨some j,k1,fun z ok=>by rw [hm];cases ok<;>simp [lookV,lookD,mapAt,k2],fun c v=>⟨D.set j (x,v), ?_,fun p hp=>?_, ?_,fun p hp=>?_,fun y hy=>?_⟩⟩
  ·apply List.ext_getElem?
   intro i
   have hi:=congrArg (·[i]?) h1
   simp only [List.getElem?_map] at hi
   simp only [putE,List.getElem?_map,Array.getElem?_toList,Array.getElem?_modify,List.getElem?_set]
   by_cases hij:j = i
   ·subst hij
    have hlt:j < D.length:=(List.getElem?_eq_some_iff.1 hj).1
    simp [k2,hlt]
   ·rw [if_neg hij,if_neg hij]
    rw [← hi];simp
  ·rcases List.mem_or_eq_of_mem_set hp with hp | rfl
   ·exact h2 p hp
   ·exact ⟨_,hx⟩
  ·have:(D.set j (x,v)).map (·.1) = D.map (·.1):=by
    rw [List.map_set]
    apply List.ext_getElem?
    intro i
    rw [List.getElem?_set]
    split
    ·rename_i hij
     subst hij
     simp only [List.getElem?_map,hj,Option.map_some,List.length_map]
     rw [if_pos (List.getElem?_eq_some_iff.1 hj).1]
    ·rfl
   rw [this];exact h3
  ·obtain ⟨i,hi⟩:=List.getElem?_of_mem hp
   rw [List.getElem?_set] at hi
   split at hi
   ·split at hi
    ·cases hi;simp
    ·cases hi
   ·rename_i hij
    have hpx:p.1≠x:=fun e=>by
     have q1:(D.map (·.1))[i]? = some x:=by simp [hi,e]
     have q2:(D.map (·.1))[j]? = some x:=by simp [hj]
     exact hij ((List.getElem?_inj (List.getElem?_eq_some_iff.1 q2).1 h3).1 (q2.trans q1.symm))
    rw [if_neg hpx]
    exact h4 p (List.mem_of_getElem? hi)
  ·have hyx:y≠x:=fun e=>hy (x,v) (List.mem_of_getElem? (by rw [List.getElem?_set,if_pos rfl,if_pos (List.getElem?_eq_some_iff.1 hj).1])) e.symm
   rw [if_neg hyx]
   refine h5 y fun p hp e=>?_
   obtain ⟨i,hi⟩:=List.getElem?_of_mem hp
   by_cases hij:j = i
   ·subst hij;rw [hj] at hi;cases hi;exact hyx e.symm
   ·exact hy p (List.mem_of_getElem? (by rw [List.getElem?_set,if_neg hij];exact hi)) e
def ISet (P:Program) (k:TypeId) (es:Array MapEntry) (s:Int→Bool):Prop:=MapIs P k I es (fun x=>if s x then some (.bool true) else none)
theorem wf_i64' {a:Int} (h:inR .i64 a):(Lit.int .i64 a).wf = true:=by
 simp only [inR] at h
 simp only [Lit.wf,Bool.and_eq_true,decide_eq_true_eq]
 exact h
theorem ISet.nil {P:Program} {k:TypeId}:ISet P k #[] (fun _=>false):=MapIs.nil
theorem ISet.find {P:Program} {k:TypeId} (hk:P.underlying k = some (.int .i64)) {es:Array MapEntry} {s:Int→Bool} (h:ISet P k es s) {x:Int} (hx:inR .i64 x) :
  ∃ r,KeyFind P k (I x) es r∧lookV (.bool false) false es r = .bool (s x)∧∀ c,ISet P k (putE es c (I x) (.bool true) r).1 (fun y=>s y || decide (y = x)):=by
 obtain ⟨r,h1,h2,h3⟩:=MapIs.find (Maps.int_keyed hk) (fun x y e=>by cases e;rfl) h (Maps.keyOf_int_mk hk (wf_i64' hx)) (by simp [Instr.sameBits])
 refine ⟨r,h1, ?_,fun c=>?_⟩
 ·rw [h2];cases s x<;>rfl
 ·have:=h3 c (.bool true)
  unfold ISet
  have e:(fun y=>if (s y || decide (y = x)) = true then some (Value.bool true) else none) = fun y=>if y = x then some (Value.bool true) else if s y then some (Value.bool true) else none:=by
   funext y
   by_cases hy:y = x<;>simp [hy]
  rw [e];exact this
end Go.Pal

namespace Go.Proofs.Ytefnikpoimaiiaa
open Go.Pal
set_option maxRecDepth 100000
abbrev bptr (b:Nat):Value:=.pointer (some ⟨b,0,none⟩)
def TestS {α:Type} (val:α→Value) (p:α→Bool) (q:α→Prop) (J:Hp→Prop) (ls:List LE):PSpec :=
 .st (fun args l G=>l = ls∧J G∧∃ x,args = [val x]∧q x) (fun args l v ns _=>ns = []∧∃ x,args = [val x]∧v = .bool (p x))
def AllS {α:Type} (e:El α) (right:Value) (r:List α→Value) (q:α→Prop) (J:Hp→Prop) (ls:List LE):PSpec :=
 .st (fun args l G=>l = ls∧J G∧∃ w xs,args = [w,right]∧SlV e G w xs∧∀ x∈xs,q x) (fun args l v ns G=>ns = []∧∃ w xs,args = [w,right]∧SlV e G w xs∧v = r xs)
def idxP {α:Type} (p:α→Bool) (l:List α) (k:Nat):Int:=match l with
 | []=>-1
 | r :: t=>if p r then idxP p t (k + 1) else (k:Int)
theorem idxP_all {α:Type} (p:α→Bool):∀ (l:List α) (k:Nat),decide (0≤idxP p l k) = !(l.all p)
 | [],k=>rfl
 | r :: t,k=>by
  unfold idxP
  cases hf:p r with
  | true=>simp only [if_true,List.all_cons,hf,Bool.true_and];exact idxP_all p t _
  | false=>simp [hf]
def moVal (x:Mo):Value:=.agg #[U x.f,U x.h]
/-! ### 100 -/
theorem inj100:∀ x y:Mo,(moVal) x = (moVal) y→x = y:=fun x y h=>by cases x;cases y;simp [moVal] at h;simp [h]
theorem not143 (g:FuncId) (fi ca:Array Value) (p:Mo→Bool) (q:Mo→Prop) (J:Hp→Prop) (bk:Nat) (kn:Int) (b:Nat) (hr:SoundFn Try.prog (.func (.func g) fi ca) (TestS moVal p q J [⟨bk,false, .cells [U kn] 37⟩])):Sound Try.prog 143 (fun a=>(#[]:Array Value).toList++a++(#[bptr b]:Array Value).toList) (TestS moVal (fun x=>!p x) q J [⟨bk,false, .cells [U kn] 37⟩,⟨b,false, .cells [.func (.func g) fi ca] 226⟩]):=by
 refine ⟨fun args ls v ns G G' hg h=>h,fun args ls G Wd hsub hls hnd hpre=>?_⟩
 obtain ⟨rfl,hj,x,rfl,hx⟩:=hpre
 refine st_sound (Tab.nil _) comp143 (svs:=[.agg [.val (U x.f), .val (U x.h)], .c (.ptr 1 0)]) (obs:=[.cells (.named bk) [.val (U kn)] 37, .cells (.named b) [.val (.func (.func g) fi ca)] 226]) (by simp) hsub hls hnd (Nat.le_of_ble_eq_true rfl) ?_ ?_ ?_
 ·exact ⟨⟨[U x.f,U x.h],rfl,relL_vals _ [U x.f,U x.h]⟩,(by intro c hc;simp at hc;rcases hc with rfl | rfl<;>trivial),⟨_,rfl,rfl⟩,(Nat.le_of_ble_eq_true rfl:1 < 2),trivial⟩
 ·exact ⟨⟨_,rfl,relL_vals _ [U kn],(by intro c hc;simp at hc;subst hc;trivial)⟩,⟨_,rfl,relL_vals _ [.func (.func g) fi ca],(by intro c hc;simp at hc;subst hc;trivial)⟩,trivial⟩
 ·(conv=>whnf)
  refine CallvP.fn _ hr (W.mk ?_)
  (conv=>whnf)
  refine StP.mk ⟨[(0,⟨bk,false, .cells [U kn] 37⟩)],⟨⟨_,rfl,rfl⟩,trivial⟩,(by show ([0]:List Nat).Nodup;decide),⟨rfl,hj,x,rfl,hx⟩,fun v ns G3 hg3 hpost=>W.mk ?_⟩
  obtain ⟨rfl,y,q1,rfl⟩:=hpost
  have hxy:=inj100 x y (List.cons.inj q1).1
  subst hxy
  (conv=>whnf)
  refine ForkP.mk (fun hm=>W.mk ?_) (fun hm=>W.mk ?_)<;>(conv=>whnf)<;>refine FinS.mk ⟨[],⟨.cells [U kn] 37,⟨_,rfl,rfl⟩,trivial,rfl, .cells [.func (.func g) fi ca] 226,⟨_,rfl,rfl⟩,trivial,rfl,rfl⟩,rfl,x,rfl, ?_⟩<;>(show Value.bool _ = Value.bool (!p x);rw [hm];rfl)
theorem idx182 (g:FuncId) (fi ca:Array Value) (p:Mo→Bool) (q:Mo→Prop) (J:Hp→Prop) (bk:Nat) (kn:Int) (b:Nat) (hJ:∀ G G',Grow G G'→J G→J G') (hr:SoundFn Try.prog (.func (.func g) fi ca) (TestS moVal p q J [⟨bk,false, .cells [U kn] 37⟩])):Sound Try.prog 182 id (AllS moE (.func (.func 143) #[] #[bptr b]) (fun xs=>I (idxP p xs 0)) q J [⟨bk,false, .cells [U kn] 37⟩,⟨b,false, .cells [.func (.func g) fi ca] 226⟩]):=by
 refine ⟨fun args ls v ns G G' hg h=>?_,fun args ls G Wd hsub hls hnd hpre=>?_⟩
 ·obtain ⟨h0,w,xs,h1,h2,h3⟩:=h;exact ⟨h0,w,xs,h1,h2.grow hg,h3⟩
 obtain ⟨rfl,hj,w,l,rfl,⟨a,n,c,rfl,hl,hn⟩,hq⟩:=hpre
 refine st_sound (Tab.nil _) comp182 (svs:=[.v (.slice a n c), .v (.func (.func 143) #[] #[bptr b])]) (obs:=[.cells (.named bk) [.val (U kn)] 37, .cells (.named b) [.val (.func (.func g) fi ca)] 226]) (by simp) hsub hls hnd (Nat.le_of_ble_eq_true rfl) ?_ ?_ ?_
 ·exact ⟨rfl,trivial,rfl,trivial,trivial⟩
 ·exact ⟨⟨_,rfl,relL_vals _ [U kn],(by intro c hc;simp at hc;subst hc;trivial)⟩,⟨_,rfl,relL_vals _ [.func (.func g) fi ca],(by intro c hc;simp at hc;subst hc;trivial)⟩,trivial⟩
 ·have hlen:=hl.len
  (conv=>whnf)
  refine LoopP.of { α:=Nat,fr:=fun x=>[(0, .v (.slice a n c)),(1, .v (.func (.func 143) #[] #[bptr b])),(7, .v (I n)),(8, .v (I x))],H:=fun _=>[(0, .cells (.named bk) [.val (U kn)] 37),(1, .cells (.named b) [.val (.func (.func g) fi ca)] 226)],ok:=fun i _=>i≤l.length∧idxP p (l.drop i) i = idxP p l 0,m:=fun x=>l.length - x }
   0 (HeadP.of [] ⟨rfl,rfl,rfl,rfl,trivial⟩ ⟨rfl,rfl,trivial⟩) ⟨Nat.zero_le _,rfl⟩ (fun _=>⟨rfl,rfl⟩) (fun (i:Nat) G' hG hx=>W.mk ?_)
  obtain ⟨hi,hx⟩:=hx
  replace hl:=SlR.grow (G:=G) (G':=G') (fun _ _ h=>h) hl hG
  replace hj:=hJ _ _ hG hj
  (conv=>whnf)
  refine IteP.mk (fun hlt=>W.mk ?_) (fun hge=>W.mk ?_)<;>(conv=>whnf)
  ·have hlt:i < l.length:=by omega
   have hc:=hl.el hlt
   have hqi:=hq _ (List.getElem_mem hlt)
   rw [List.drop_eq_getElem_cons hlt,idxP] at hx
   repeat' (first | (refine ob ?_ ?_;(first | trivial | omega | (simp only [inR];omega) | exact ble (by rfl) | exact SlR.some ‹_› (by omega));(conv=>whnf)) | (first | (refine ra ‹_› (by rfl) ?_;(conv=>whnf)) | (refine rb ‹_› (by rfl) ?_;(conv=>whnf)) | (refine rc ‹_› (by rfl) ?_;(conv=>whnf)) | (refine rd ‹_› (by rfl) ?_;(conv=>whnf))))
   refine CallvP.fn _ (SoundFn.of body143 (not143 g fi ca p q J bk kn b hr)) (W.mk ?_)
   (conv=>whnf)
   refine StP.mk ⟨[(0,⟨bk,false, .cells [U kn] 37⟩),(1,⟨b,false, .cells [.func (.func g) fi ca] 226⟩)],⟨⟨_,rfl,rfl⟩,⟨_,rfl,rfl⟩,trivial⟩,(by show ([0,1]:List Nat).Nodup;decide),⟨rfl,hj,l[i],rfl,hqi⟩,fun v ns G3 hg3 hpost=>W.mk ?_⟩
   obtain ⟨rfl,y,q1,rfl⟩:=hpost
   have hxy:=inj100 _ y (List.cons.inj q1).1
   subst hxy
   (conv=>whnf)
   refine ForkP.mk (fun hm=>W.mk ?_) (fun hm=>W.mk ?_)<;>(conv=>whnf)
   ·refine FinS.mk ⟨[],⟨.cells [U kn] 37,⟨_,rfl,rfl⟩,trivial,rfl, .cells [.func (.func g) fi ca] 226,⟨_,rfl,rfl⟩,trivial,rfl,rfl⟩,rfl,_,l,rfl,⟨a,n,c,rfl,SlR.grow (G:=G') (G':=G3) (fun _ _ h=>h) hl hg3,hn⟩, ?_⟩
    rw [if_neg (by simpa using hm)] at hx
    show I (i:Int) = I (idxP p l 0);rw [← hx]
   ·(refine ob ?_ ?_;(first | trivial | omega | (simp only [inR];omega) | exact ble (by rfl) | exact SlR.some ‹_› (by omega));(conv=>whnf))
    rw [if_pos (by simpa using hm)] at hx
    exact RoundP.of (i + 1) (HeadP.of [] ⟨rfl,rfl,rfl,rfl,trivial⟩ ⟨rfl,rfl,trivial⟩) ⟨hlt,hx⟩ (by simp only;omega)
  ·have:i = l.length:=by omega
   subst this
   rw [List.drop_length] at hx
   refine FinS.mk ⟨[],⟨.cells [U kn] 37,⟨_,rfl,rfl⟩,trivial,rfl, .cells [.func (.func g) fi ca] 226,⟨_,rfl,rfl⟩,trivial,rfl,rfl⟩,rfl,_,l,rfl,⟨a,n,c,rfl,hl,hn⟩, ?_⟩
   show I (-1) = I (idxP p l 0);rw [← hx];rfl
theorem con142 (g:FuncId) (fi ca:Array Value) (p:Mo→Bool) (q:Mo→Prop) (J:Hp→Prop) (bk:Nat) (kn:Int) (b:Nat) (hJ:∀ G G',Grow G G'→J G→J G') (hr:SoundFn Try.prog (.func (.func g) fi ca) (TestS moVal p q J [⟨bk,false, .cells [U kn] 37⟩])):Sound Try.prog 142 id (AllS moE (.func (.func 143) #[] #[bptr b]) (fun xs=>.bool (!(xs.all p))) q J [⟨bk,false, .cells [U kn] 37⟩,⟨b,false, .cells [.func (.func g) fi ca] 226⟩]):=by
 refine ⟨fun args ls v ns G G' hg h=>?_,fun args ls G Wd hsub hls hnd hpre=>?_⟩
 ·obtain ⟨h0,w,xs,h1,h2,h3⟩:=h;exact ⟨h0,w,xs,h1,h2.grow hg,h3⟩
 obtain ⟨rfl,hj,w,l,rfl,⟨a,n,c,rfl,hl,hn⟩,hq⟩:=hpre
 refine st_sound (Tab.cons 182 _ (idx182 g fi ca p q J bk kn b hJ hr) body182 (Tab.nil _)) comp142 (svs:=[.v (.slice a n c), .v (.func (.func 143) #[] #[bptr b])]) (obs:=[.cells (.named bk) [.val (U kn)] 37, .cells (.named b) [.val (.func (.func g) fi ca)] 226]) (by simp) hsub hls hnd (Nat.le_of_ble_eq_true rfl) ?_ ?_ ?_
 ·exact ⟨rfl,trivial,rfl,trivial,trivial⟩
 ·exact ⟨⟨_,rfl,relL_vals _ [U kn],(by intro c hc;simp at hc;subst hc;trivial)⟩,⟨_,rfl,relL_vals _ [.func (.func g) fi ca],(by intro c hc;simp at hc;subst hc;trivial)⟩,trivial⟩
 ·(conv=>whnf)
  refine StP.mk ⟨[(0,⟨bk,false, .cells [U kn] 37⟩),(1,⟨b,false, .cells [.func (.func g) fi ca] 226⟩)],⟨⟨_,rfl,rfl⟩,⟨_,rfl,rfl⟩,trivial⟩,(by show ([0,1]:List Nat).Nodup;decide),⟨rfl,hj,_,l,rfl,⟨a,n,c,rfl,hl,hn⟩,hq⟩,fun v ns G3 hg3 hpost=>W.mk ?_⟩
  obtain ⟨rfl,w',l',q1,q2,rfl⟩:=hpost
  simp only [List.cons.injEq,and_true] at q1
  subst q1
  have:l' = l:=q2.uniq (SlV.grow hg3 ⟨a,n,c,rfl,hl,hn⟩)
  subst this
  have hall:=idxP_all p l' 0
  (conv=>whnf)
  refine IteP.mk (fun hq=>W.mk ?_) (fun hq=>W.mk ?_)<;>(conv=>whnf)<;>refine FinS.mk ⟨[],⟨.cells [U kn] 37,⟨_,rfl,rfl⟩,trivial,rfl, .cells [.func (.func g) fi ca] 226,⟨_,rfl,rfl⟩,trivial,rfl,rfl⟩,rfl,_,l',rfl,q2, ?_⟩<;>show Value.bool _ = Value.bool (!(l'.all p))<;>rw [← hall]<;>simp [*]
theorem all100 (g:FuncId) (fi ca:Array Value) (p:Mo→Bool) (q:Mo→Prop) (J:Hp→Prop) (bk:Nat) (kn:Int) (hJ:∀ G G',Grow G G'→J G→J G') (hr:SoundFn Try.prog (.func (.func g) fi ca) (TestS moVal p q J [⟨bk,false, .cells [U kn] 37⟩])):Sound Try.prog 100 id (AllS moE (.func (.func g) fi ca) (fun xs=>.bool (xs.all p)) q J [⟨bk,false, .cells [U kn] 37⟩]):=by
 refine ⟨fun args ls v ns G G' hg h=>?_,fun args ls G Wd hsub hls hnd hpre=>?_⟩
 ·obtain ⟨h0,w,xs,h1,h2,h3⟩:=h;exact ⟨h0,w,xs,h1,h2.grow hg,h3⟩
 obtain ⟨rfl,hj,w,l,rfl,⟨a,n,c,rfl,hl,hn⟩,hq⟩:=hpre
 refine st_sound (Tab.nil _) comp100 (svs:=[.v (.slice a n c), .v (.func (.func g) fi ca)]) (obs:=[.cells (.named bk) [.val (U kn)] 37]) (by simp) hsub hls hnd (Nat.le_of_ble_eq_true rfl) ?_ ?_ ?_
 ·exact ⟨rfl,trivial,rfl,trivial,trivial⟩
 ·exact ⟨⟨_,rfl,relL_vals _ [U kn],(by intro c hc;simp at hc;subst hc;trivial)⟩,trivial⟩
 ·(conv=>whnf)
  refine NameP.mk (fun b=>W.mk ?_)
  (conv=>whnf)
  refine CallN.mk ⟨_,con142 g fi ca p q J bk kn b hJ hr,body142,W.mk ?_⟩
  (conv=>whnf)
  refine StP.mk ⟨[(0,⟨bk,false, .cells [U kn] 37⟩),(1,⟨b,false, .cells [.func (.func g) fi ca] 226⟩)],⟨⟨_,rfl,rfl⟩,⟨_,rfl,rfl⟩,trivial⟩,(by show ([0,1]:List Nat).Nodup;decide),⟨rfl,hj,_,l,rfl,⟨a,n,c,rfl,hl,hn⟩,hq⟩,fun v ns G3 hg3 hpost=>W.mk ?_⟩
  obtain ⟨rfl,w',l',q1,q2,rfl⟩:=hpost
  simp only [List.cons.injEq,and_true] at q1
  subst q1
  have:l' = l:=q2.uniq (SlV.grow hg3 ⟨a,n,c,rfl,hl,hn⟩)
  subst this
  (conv=>whnf)
  refine ForkP.mk (fun hm=>W.mk ?_) (fun hm=>W.mk ?_)<;>(conv=>whnf)<;>refine FinS.mk ⟨[],⟨.cells [U kn] 37,⟨_,rfl,rfl⟩,trivial,rfl,rfl⟩,rfl,_,l',rfl,q2, ?_⟩<;>(refine congrArg Value.bool ?_;simpa using hm)
end Go.Proofs.Ytefnikpoimaiiaa

namespace Go.Proofs.Ytefnikpoimaiiaa
open Go.Pal Go.RowKit
set_option maxRecDepth 100000
def MsFit (s:Sc):Prop:=∀ m∈s.ms, ∀ i:Nat,s.persons≤i→i < 15→m.f.toNat.testBit i = false∧m.h.toNat.testBit i = false
def kn (s:Sc):Int:=((32768 ||| (2 ^ s.persons.toNat - 1):Nat):Int)
theorem mask_bit:∀ p:Nat,p≤12→∀ i:Nat,i < 16→(65535 - (32768 ||| (2 ^ p - 1))).testBit i = (decide (p≤i) && decide (i < 15)):=by decide +kernel
theorem mask_zero {p f h:Nat} (hp:p≤12) (hf:∀ i,p≤i→i < 15→f.testBit i = false∧h.testBit i = false):(f ||| h) &&& (65535 - (32768 ||| (2 ^ p - 1))) = 0:=by
 apply Nat.eq_of_testBit_eq
 intro i
 rw [Nat.testBit_and,Nat.testBit_or,Nat.zero_testBit]
 by_cases hi:i < 16
 ·rw [mask_bit p hp i hi]
  by_cases h1:p≤i
  ·by_cases h2:i < 15
   ·obtain ⟨a,b⟩:=hf i h1 h2
    rw [a,b];rfl
   ·simp [h2]
  ·simp [h1]
 ·have:(65535 - (32768 ||| (2 ^ p - 1))).testBit i = false:=Nat.testBit_lt_two_pow (Nat.lt_of_lt_of_le (Nat.lt_of_le_of_lt (Nat.sub_le _ _) (by decide:65535 < 2 ^ 16)) (Nat.pow_le_pow_right (by decide) (by omega)))
  rw [this,Bool.and_false]
theorem kn_lt {s:Sc} (hs:ScOk s):0≤kn s∧kn s < 65536:=by
 have hp:=hs.p
 have:∀ p:Nat,p≤12→(32768 ||| (2 ^ p - 1):Nat) < 65536:=by decide +kernel
 have:=this s.persons.toNat (by omega)
 unfold kn
 exact ⟨Int.natCast_nonneg _,Int.ofNat_lt.2 this⟩
def rightF (k:Int) (m:Mo):Bool:=decide ((((m.f.toNat ||| m.h.toNat:Nat):Int).toNat &&& (65535 - k.toNat)) = 0)
theorem right98 (J:Hp→Prop) (bk:Nat) (k:Int) (hk:0≤k∧k < 65536):Sound Try.prog 98 (fun a=>(#[]:Array Value).toList++a++(#[ptr bk]:Array Value).toList) (TestS moVal (rightF k) MoOk J [⟨bk,false, .cells [U k] 37⟩]):=by
 refine ⟨fun args ls v ns G G' hg h=>h,fun args ls G Wd hsub hls hnd hpre=>?_⟩
 obtain ⟨rfl,hj,x,rfl,hx⟩:=hpre
 refine st_sound (Tab.nil _) comp98 (svs:=[.agg [.val (U x.f), .val (U x.h)], .c (.ptr 0 0)]) (obs:=[.cells (.named bk) [.val (U k)] 37]) (by simp) hsub hls hnd (Nat.le_of_ble_eq_true rfl) ?_ ?_ ?_
 ·exact ⟨⟨[U x.f,U x.h],rfl,relL_vals _ [U x.f,U x.h]⟩,(by intro c hc;simp at hc;rcases hc with rfl | rfl<;>trivial),⟨_,rfl,rfl⟩,(Nat.le_of_ble_eq_true rfl:0 < 1),trivial⟩
 ·exact ⟨⟨_,rfl,relL_vals _ [U k],(by intro c hc;simp at hc;subst hc;trivial)⟩,trivial⟩
 ·obtain ⟨h1,h2⟩:=hx
  have hor:(x.f.toNat ||| x.h.toNat) < 65536:=Nat.or_lt_two_pow (n:=16) (by omega) (by omega)
  (conv=>whnf)
  refine PurP.of _ (pur_or16 h1.1 h1.2 h2.1 h2.2) (W.mk ?_)
  (conv=>whnf)
  refine PurP.of _ (pur_andNot16 (Int.natCast_nonneg _) (Int.ofNat_lt.2 hor) hk.1 hk.2) (W.mk ?_)
  (conv=>whnf)
  refine IteP.mk (fun e=>W.mk ?_) (fun e=>W.mk ?_)<;>(conv=>whnf)
  ·have e:(((((x.f.toNat ||| x.h.toNat:Nat):Int).toNat &&& (65535 - k.toNat)):Nat):Int) = 0:=e
   refine FinS.mk ⟨[],⟨.cells [U k] 37,⟨_,rfl,rfl⟩,trivial,rfl,rfl⟩,rfl,x,rfl, ?_⟩
   show Value.bool true = .bool (rightF k x)
   rw [rightF,decide_eq_true (by omega)]
  ·have e:¬ (((((x.f.toNat ||| x.h.toNat:Nat):Int).toNat &&& (65535 - k.toNat)):Nat):Int) = 0:=e
   refine FinS.mk ⟨[],⟨.cells [U k] 37,⟨_,rfl,rfl⟩,trivial,rfl,rfl⟩,rfl,x,rfl, ?_⟩
   show Value.bool false = .bool (rightF k x)
   rw [rightF,decide_eq_false (by omega)]
theorem within99:Sound Try.prog 99 id (.fn (fun args _=>∃ n lo hi:Int,args = [I n,I lo,I hi]) fun args=>match args with
  | [.int _ n, .int _ lo, .int _ hi]=>.bool (decide (lo≤n) && decide (n≤hi))
  | _=>undef):=by
 refine comp99.fn (Tab.nil _) (fun args G h=>?_) (fun args G h=>?_)
 ·obtain ⟨n,lo,hi,rfl⟩:=h;simp
 ·obtain ⟨n,lo,hi,rfl⟩:=h
  (conv=>whnf)
  refine IteP.mk (fun e=>W.mk ?_) (fun e=>W.mk ?_)<;>(conv=>whnf)
  ·have e:lo≤n:=e
   refine IteP.mk (fun e2=>W.mk ?_) (fun e2=>W.mk ?_)<;>(conv=>whnf)
   ·have e2:n≤hi:=e2
    refine FinP.mk ?_
    show Value.bool true = .bool _
    rw [decide_eq_true e,decide_eq_true e2];rfl
   ·have e2:¬ n≤hi:=e2
    refine FinP.mk ?_
    show Value.bool false = .bool _
    rw [decide_eq_false e2,Bool.and_false]
  ·have e:¬ lo≤n:=e
   refine FinP.mk ?_
   show Value.bool false = .bool _
   rw [decide_eq_false e,Bool.false_and]
structure ScAll (s:Sc):Prop where
 ok:ScOk s
 ms:MsOk s
 fit:MsFit s
def tabS5:Tab Try.prog:=Tab.cons 99 _ within99 body99 (Tab.nil _)
theorem check66:Sound Try.prog 66 id (gsca (args1 scRd ScAll) fun _ v=>v = I 0):=by
 refine comp66.gsca tabS5 (fun args G s h=>?_) (fun args G s h=>?_)
 ·obtain ⟨v,rfl,_⟩:=h;simp
 ·obtain ⟨v,rfl,⟨w,rfl,hsl⟩,hall⟩:=h
  obtain ⟨a,n,c,rfl,hw,hwn⟩:=id hsl
  obtain ⟨p1,p2,p3,p4,p5⟩:=id hall.ok
  have hln:=hw.len
  (conv=>whnf)
  obtain ⟨P,hP⟩:∃ P:Nat,P = s.persons.toNat:=⟨_,rfl⟩
  have hPs:s.persons = (P:Int):=by omega
  have hP12:P≤12:=by omega
  rw [show max 0 (min s.persons 12) = (P:Int) by omega]
  refine PurP.of _ (pur_shl16 hP12) (W.mk ?_)
  (conv=>whnf)
  have h2P:1≤2 ^ P∧2 ^ P≤4096:=⟨Nat.one_le_two_pow,Nat.le_trans (Nat.pow_le_pow_right (by decide) hP12) (by decide)⟩
  have e2P:((2 ^ P:Nat):Int) - 1 = ((2 ^ P - 1:Nat):Int):=by omega
  refine OblP.mk (by show inR .u16 (((2 ^ P:Nat):Int) - 1);simp only [inR];omega) (W.mk ?_)
  rw [e2P]
  (conv=>whnf)
  refine PurP.of _ (pur_or16 (by decide) (by decide) (by omega) (by omega)) (W.mk ?_)
  have ekn:((((32768:Int).toNat ||| ((2 ^ P - 1:Nat):Int).toNat:Nat):Int)) = kn s:=by
   rw [Int.toNat_natCast];unfold kn;rw [← hP];rfl
  rw [ekn]
  (conv=>whnf)
  refine NameP.mk (fun bk=>W.mk ?_)
  (conv=>whnf)
  refine IteP.mk (fun h=>absurd (show (n:Int) > 40 from h) (by omega)) (fun _=>W.mk ?_)
  (conv=>whnf)
  refine OblP.mk ⟨_,_,_,rfl⟩ (W.mk ?_)
  (conv=>whnf)
  refine ForkP.mk (fun _=>W.mk ?_) (fun h=>by simp at h;omega)
  (conv=>whnf)
  refine OblP.mk ⟨_,_,_,rfl⟩ (W.mk ?_)
  (conv=>whnf)
  refine ForkP.mk (fun _=>W.mk ?_) (fun h=>by simp at h;omega)
  (conv=>whnf)
  refine OblP.mk ⟨_,_,_,rfl⟩ (W.mk ?_)
  (conv=>whnf)
  refine ForkP.mk (fun _=>W.mk ?_) (fun h=>by simp at h;omega)
  (conv=>whnf)
  refine OblP.mk ⟨_,_,_,rfl⟩ (W.mk ?_)
  (conv=>whnf)
  refine ForkP.mk (fun _=>W.mk ?_) (fun h=>by simp at h;omega)
  (conv=>whnf)
  refine CallN.mk ⟨_,all100 98 #[] #[ptr bk] (rightF (kn s)) MoOk (fun _=>True) bk (kn s) (fun _ _ _ _=>trivial) (SoundFn.of body98 (right98 _ bk _ (kn_lt hall.ok))),body100,W.mk ?_⟩
  (conv=>whnf)
  refine StP.mk ⟨[(9,⟨bk,false, .cells [U (kn s)] 37⟩)],⟨⟨_,rfl,rfl⟩,trivial⟩,(by show ([9]:List Nat).Nodup;decide),⟨rfl,trivial,_,s.ms,rfl,hsl,hall.ms⟩,fun v ns G3 hg3 hpost=>W.mk ?_⟩
  obtain ⟨rfl,w',l',q1,q2,rfl⟩:=hpost
  simp only [List.cons.injEq,and_true] at q1
  subst q1
  have hl':l' = s.ms:=q2.uniq (SlV.grow hg3 hsl)
  subst hl'
  have hall1:s.ms.all (rightF (kn s)) = true:=by
   rw [List.all_eq_true]
   intro m hm
   unfold rightF kn
   rw [Int.toNat_natCast,Int.toNat_natCast]
   exact decide_eq_true (mask_zero (by omega) fun i h1 h2=>hall.fit m hm i (by omega) h2)
  (conv=>whnf)
  refine ForkP.mk (fun _=>W.mk ?_) (fun h=>by have h:s.ms.all (rightF (kn s)) = false:=h;rw [hall1] at h;cases h)
  (conv=>whnf)
  exact FinP.mk rfl
end Go.Proofs.Ytefnikpoimaiiaa

namespace Go.Proofs.Ytefnikpoimaiiaa
open Go.Pal Go.RowKit
set_option maxRecDepth 100000
theorem whole68 (s:Sc) (hs:ScOk s) (bx:Nat) (bs:List Nat) (r:Nat) (S:Nat→St4→Prop):Sound Try.prog 68 id (.hp (fun args p G=>args = [ptr bx]∧SeenH p G bx s bs r S) fun _ p v p' _=>p' = p∧v = .bool (decide (r = s.ms.length))):=by
 refine comp68.hp (Tab.nil _) (fun args p G h=>?_) (fun args p v p' G G' hg h=>h) (fun args p G h=>?_)
 ·obtain ⟨rfl,_⟩:=h;simp
 ·obtain ⟨rfl,hx⟩:=h
  obtain ⟨w,v,hbx,hsl,hrow⟩:=id hx.x
  obtain ⟨wa,wn,wc,rfl,hw,hwn⟩:=id hsl
  have hwl:s.ms.length = wn:=hw.len
  (conv=>whnf)
  refine RdhP.h hbx rfl (W.mk ?_)
  (conv=>whnf)
  refine RdhP.h hbx rfl (W.mk ?_)
  (conv=>whnf)
  refine IteP.mk (fun e=>W.mk ?_) (fun e=>W.mk ?_)<;>(conv=>whnf)
  ·have e:(r:Int) = wn:=e
   refine NmP.mk ⟨[],W.mk ?_⟩
   (conv=>whnf)
   exact FinHp.of rfl ⟨rfl,by rw [decide_eq_true (by omega)];rfl⟩
  ·have e:¬ (r:Int) = wn:=e
   refine NmP.mk ⟨[],W.mk ?_⟩
   (conv=>whnf)
   exact FinHp.of rfl ⟨rfl,by rw [decide_eq_false (by omega)];rfl⟩
def ckPost (s:Sc) (p G:Hp) (v:Value):Prop:=∃ (bx:Nat) (e:Int),v = .tuple #[ptr bx,I e]∧((e = 10∧¬ ∃ y,Rs s s.ms.length y) ∨
 (e = 0∧(∃ y,Rs s s.ms.length y)∧∃ bs,SeenH p G bx s bs s.ms.length (fun k y=>Gd s (s.ms.length - k) k y)∧bs.length = s.ms.length + 1))
theorem ckPost.grow {s:Sc} {p G G':Hp} {v:Value} (hg:Grow G G') (h:ckPost s p G v):ckPost s p G' v:=by
 obtain ⟨bx,e,h1,h2 | ⟨h2,h3,bs,h4,h5⟩⟩:=h
 ·exact ⟨bx,e,h1, .inl h2⟩
 ·exact ⟨bx,e,h1, .inr ⟨h2,h3,bs,h4.grow hg,h5⟩⟩
theorem checked38 (s:Sc) (hs:ScAll s):Sound Try.prog 38 id (.hp (fun args p G=>(∃ v,args = [v]∧ScV G v s)∧p = fun _=>none) fun _ _ v p' G'=>ckPost s p' G' v):=by
 refine comp38.hp (Tab.nil _) (fun args p G h=>?_) (fun args p v p' G G' hg h=>h.grow hg) (fun args p G h=>?_)
 ·obtain ⟨⟨v,rfl,_⟩,_⟩:=h;simp
 ·obtain ⟨⟨v,rfl,⟨w,rfl,hsl⟩⟩,rfl⟩:=h
  obtain ⟨wa,wn,wc,rfl,hw,hwn⟩:=id hsl
  (conv=>whnf)
  refine CallH.mk _ check66 body66 (W.mk ?_)
  (conv=>whnf)
  refine ScaP.g (ok1 scRd ScAll) (x:=s) ⟨_,rfl,⟨_,rfl,hsl⟩,hs⟩ (fun v hv=>W.mk ?_)
  subst hv
  (conv=>whnf)
  refine IteP.mk (fun _=>W.mk ?_) (fun h=>absurd rfl h)
  (conv=>whnf)
  refine CallH.mk _ (look67 s hs.ok hs.ms) body67 (W.mk ?_)
  (conv=>whnf)
  refine HpcP.mk ⟨⟨_,rfl,⟨_,rfl,hsl⟩⟩,rfl⟩ (fun v p1 G1 hg1 hq=>W.mk ?_)
  obtain ⟨bx,r,bs,S,rfl,hx,hbl,hend⟩:=hq
  (conv=>whnf)
  refine CallH.mk _ (whole68 s hs.ok bx bs r S) body68 (W.mk ?_)
  (conv=>whnf)
  refine HpcP.mk ⟨rfl,hx⟩ (fun v p2 G2 hg2 hq=>W.mk ?_)
  obtain ⟨rfl,rfl⟩:=hq
  (conv=>whnf)
  refine ForkP.mk (fun ht=>W.mk ?_) (fun ht=>W.mk ?_)<;>(conv=>whnf)
  ·have hr:r = s.ms.length:=of_decide_eq_true ht
   subst hr
   refine NmP.mk ⟨[],W.mk ?_⟩
   (conv=>whnf)
   rcases hend with ⟨_,h1,h2⟩ | ⟨h1,_⟩
   ·exact FinHp.of rfl ⟨bx,0,rfl, .inr ⟨rfl,h2,bs,(hx.grow hg2).imp fun k y hk=>h1 k y (by omega),hbl⟩⟩
   ·omega
  ·have hr:¬ r = s.ms.length:=of_decide_eq_false ht
   refine NmP.mk ⟨[],W.mk ?_⟩
   (conv=>whnf)
   rcases hend with ⟨h1,_⟩ | ⟨_,h1⟩
   ·exact absurd h1 hr
   ·exact FinHp.of rfl ⟨bx,10,rfl, .inl ⟨rfl,h1⟩⟩
end Go.Proofs.Ytefnikpoimaiiaa

namespace Go.Proofs.Ytefnikpoimaiiaa
open Go.Pal Go.RowKit
set_option maxRecDepth 100000
def ptE:El Pt:=⟨2,fun p=>[I p.h,I p.v],fun {x y} h=>by cases x;cases y;simp at h;simp [h],fun _=>rfl,fun _ v hv=>by simp at hv;rcases hv with rfl | rfl<;>rfl⟩
def Tel (s:Sc):Nat→List Pt→St4→Prop
 | 0,l,y=>l = []∧y = begin4
 | i + 1,l,y=>∃ l' x m p,l = l'++[p]∧Tel s i l' x∧s.ms[i]? = some m∧(p,y)∈partsF s x m
theorem Tel.len {s:Sc}:∀ {i:Nat} {l:List Pt} {y:St4},Tel s i l y→l.length = i
 | 0,l,y,h=>by rw [h.1];rfl
 | i + 1,l,y,⟨l',x,m,p,h1,h2,_⟩=>by rw [h1,List.length_append,h2.len];rfl
theorem Tel.at {s:Sc}:∀ {i:Nat} {l:List Pt} {y:St4},Tel s i l y→∀ k p,l[k]? = some p→∃ x m y',s.ms[k]? = some m∧(p,y')∈partsF s x m∧(k = 0→x = begin4)
 | 0,l,y,h,k,p,hp=>by rw [h.1] at hp;simp at hp
 | i + 1,l,y,⟨l',x,m,p',h1,h2,h3,h4⟩,k,p,hp=>by
  subst h1
  by_cases hk:k < l'.length
  ·rw [List.getElem?_append_left hk] at hp
   exact h2.at k p hp
  ·have hkl:=(List.getElem?_eq_some_iff.1 hp).1
   rw [List.length_append] at hkl
   have hk2:k = l'.length:=by simp at hkl;omega
   subst hk2
   rw [List.getElem?_append_right (Nat.le_refl _),Nat.sub_self] at hp
   have hp:p' = p:=by simpa using hp
   subst hp
   rw [h2.len]
   refine ⟨x,m,y,h3,h4,fun h0=>?_⟩
   subst h0
   exact h2.2
def tellPost (s:Sc) (p:Hp) (v:Value):Prop:=∃ (w:Value) (e:Int),v = .tuple #[w,I e]∧((e = 10∧w = .slice none 0 0∧¬ ∃ y,Rs s s.ms.length y)∨(e = 0∧(∃ y,Rs s s.ms.length y)∧∃ out y,RowH ptE 58 p w out∧Tel s s.ms.length out y))
theorem SeenH.setT {p G:Hp} {bx:Nat} {s:Sc} {bs:List Nat} {r:Int} {S:Nat→St4→Prop} (h:SeenH p G bx s bs r S) {b:Nat} {cs:Array Value} {t:TypeId} (hb:p b = some (.cells cs t (0,0))) (h1:t≠132) (h2:t≠129) {o:Option Obj}:SeenH (upd p b o) G bx s bs r S:=by
 have hn:b ∉ bs:=h.notIn fun es c e=>by rw [hb] at e;cases e
 obtain ⟨⟨w,v,k1,k2,k3⟩,hm,hnd⟩:=h
 refine ⟨⟨w,v,(upd_other _ _ fun e=>?_).trans k1,k2,k3.mono fun k o' e1 e2=>(upd_other _ _ fun e=>?_).trans e2⟩,fun i c hc=>?_,hnd⟩
 ·rw [e,hb] at k1
  injection k1 with k1
  injection k1 with _ k1
  exact h1 k1
 ·subst e
  exact h2 (k3.typ e1 hb)
 ·obtain ⟨es,ck,q1,q2⟩:=hm i c hc
  exact ⟨es,ck,(upd_other _ _ (fun e:c = b=>hn (by rw [← e];exact List.mem_of_getElem? hc))).trans q1,q2⟩
set_option maxHeartbeats 2000000 in
theorem tell12h (s:Sc) (hs:ScAll s):Sound Try.prog 12 id (.hp (fun args p G=>(∃ v,args = [v]∧ScV G v s)∧p = fun _=>none) fun _ _ v p' _=>tellPost s p' v):=by
 refine comp12.hp (Tab.nil _) (fun args p G h=>?_) (fun args p v p' G G' hg h=>h) (fun args p G h=>?_)
 ·obtain ⟨⟨v,rfl,_⟩,_⟩:=h;simp
 ·obtain ⟨⟨v,rfl,⟨w,rfl,hsl⟩⟩,rfl⟩:=h
  obtain ⟨wa,wn,wc,rfl,hw,hwn⟩:=id hsl
  have hwl:wn = s.ms.length:=hw.len.symm
  have hsn:=hs.ok.n
  (conv=>whnf)
  refine CallH.mk _ (checked38 s hs) body38 (W.mk ?_)
  (conv=>whnf)
  refine HpcP.mk ⟨⟨_,rfl,⟨_,rfl,hsl⟩⟩,rfl⟩ (fun v p1 G1 hg1 hq=>W.mk ?_)
  obtain ⟨bx,e,rfl,hend⟩:=hq
  (conv=>whnf)
  refine IteP.mk (fun he=>W.mk ?_) (fun he=>W.mk ?_)<;>(conv=>whnf)
  rotate_left
  ·have he:¬ e = 0:=he
   rcases hend with ⟨rfl,h1⟩ | ⟨h1,_⟩
   ·refine NmP.mk ⟨[],W.mk ?_⟩
    (conv=>whnf)
    exact FinHp.of rfl ⟨_,10,rfl, .inl ⟨rfl,rfl,h1⟩⟩
   ·exact absurd h1 he
  ·have he:e = 0:=he
   subst he
   rcases hend with ⟨h1,_⟩ | ⟨_,hne,bs,hx0,hbl⟩
   ·exact absurd h1 (by decide)
   refine CallH.mk _ begin39 body39 (W.mk ?_)
   (conv=>whnf)
   refine OblP.mk rfl (W.mk ?_)
   (conv=>whnf)
   refine LoopP.of { α:=Nat × Hp × Value × List Pt × St4,fr:=fun x=>[(1, .c (.ptr 1000 0)),(4, .c (.ptr 1008 0)),(6, .c (.ptr 1016 0)),(7, .c (.ptr 1018 0)),(22, .v (.slice wa wn wc)),(23, .v (I wn)),(24, .v (I x.1))],H:=fun x=>[(0, .heap x.2.1),(1000, .cells .anon ((scL s (.slice wa wn wc)).map .val) 34),(1008, .cells .anon [.val (ptr bx)] 120),(1016, .cells .anon [.val x.2.2.1] 40),(1018, .cells .anon ((st4L x.2.2.2.2).map .val) 124)],ok:=fun x G=>x.1≤s.ms.length∧SeenH x.2.1 G bx s bs s.ms.length (fun k y=>Gd s (s.ms.length - k) k y)∧RowH ptE 58 x.2.1 x.2.2.1 x.2.2.2.1∧Tel s x.1 x.2.2.2.1 x.2.2.2.2∧Gd s (s.ms.length - x.1) x.1 x.2.2.2.2,m:=fun x=>wn - x.1 }
    (0,p1, .slice none 0 0,[],begin4) (HeadP.of [] ⟨rfl,rfl,rfl,rfl,rfl,rfl,rfl,trivial⟩ ⟨rfl,rfl,rfl,rfl,rfl,trivial⟩) ⟨Nat.zero_le _,hx0,RowH.nil,⟨rfl,rfl⟩,gd_begin hne⟩ (fun _=>⟨rfl,rfl⟩) (fun x G2 hg2 hj=>W.mk ?_)
   obtain ⟨i,p2,v0,out,⟨ah,at_,as_,ao_⟩⟩:=x
   obtain ⟨hi,hx,hrow0,htel,hat⟩:=hj
   dsimp only at hi hx hrow0 htel hat
   dsimp only
   have hw1:SlR moE.k moE.R G2 wa wn wc s.ms:=SlR.grow (G:=G) (G':=G2) (fun _ _ h=>h) hw (hg1.trans hg2)
   (conv=>whnf)
   refine IteP.mk (fun hlt=>W.mk ?_) (fun hge=>W.mk ?_)<;>(conv=>whnf)
   ·have hlt:i < s.ms.length:=by have hlt:(i:Int) < wn:=hlt;omega
    have hi40:i < 40:=by omega
    have hby:=bd_rs hs.ok hat.rs
    obtain ⟨m,hm,gp,gy,hgm,hgg⟩:=gd_next hlt hat
    have hmo:=hs.ms m (List.mem_of_getElem? hm)
    have hel:=hw1.el hlt
    rw [(List.getElem?_eq_some_iff.1 hm).2] at hel
    (refine ob ?_ ?_;(first | trivial | omega | (simp only [inR];omega) | exact ble (by rfl) | exact SlR.some ‹_› (by omega));(conv=>whnf))
    (refine ob ?_ ?_;(first | trivial | omega | (simp only [inR];omega) | exact ble (by rfl) | exact SlR.some ‹_› (by omega));(conv=>whnf))
    refine RdhP.g (cs:=[U m.f,U m.h]) hel rfl (W.mk ?_)
    (conv=>whnf)
    refine CallH.mk _ parts40 body40 (W.mk ?_)
    (conv=>whnf)
    have hsl2:SlV moE G2 (.slice wa wn wc) s.ms:=hsl.grow (hg1.trans hg2)
    refine RelP.g (ok3 scRd st4Rd moRd fun _ _ _=>True) (x:=(s,⟨ah,at_,as_,ao_⟩,m)) ⟨_,_,_,rfl,⟨_,rfl,hsl2⟩,rfl,rfl,trivial⟩ (Grow.refl _) (fun v1 G3 hg3 hq1=>W.mk ?_)
    obtain ⟨B,rfl,hB⟩:=hq1
    (conv=>whnf)
    obtain ⟨L,hL⟩:∃ L,L = partsF s ⟨ah,at_,as_,ao_⟩ m:=⟨_,rfl⟩
    have hib:i + 1 < bs.length:=by omega
    refine RangeP.of (L.map parV) { α:=Nat × Unit,fr:=[(1, .c (.ptr 1000 0)),(4, .c (.ptr 1008 0)),(6, .c (.ptr 1016 0)),(7, .c (.ptr 1018 0)),(8, .c (.ptr 1028 0)),(22, .v (.slice wa wn wc)),(23, .v (I wn)),(24, .v (I i))],k:=fun z=>z.1,H:=fun z=>[(0, .heap p2),(1000, .cells .anon ((scL s (.slice wa wn wc)).map .val) 34),(1008, .cells .anon [.val (ptr bx)] 120),(1016, .cells .anon [.val v0] 40),(1018, .cells .anon [.val (I ah), .val (I at_), .val (I as_), .val (.bool ao_)] 124),(1028, .cells .anon [.val (I i)] 3)],ok:=fun z G=>z.1≤L.length∧(∀ e∈L.take z.1, ¬ Gd s (s.ms.length - (i + 1)) (i + 1) e.2)∧SeenH p2 G bx s bs s.ms.length (fun k y=>Gd s (s.ms.length - k) k y) }
     (0,()) (SoundFn.of body70 (parts70 B s ⟨ah,at_,as_,ao_⟩ m)) (fun l=>⟨rfl,hB,hmo,hs.ok,hby,by rw [hL]⟩) (fun z hz=>by obtain ⟨e,_,rfl⟩:=List.mem_map.1 hz;rfl) rfl (HeadP.of [] ⟨rfl,rfl,rfl,rfl,rfl,rfl,rfl,rfl,trivial⟩ ⟨rfl,rfl,rfl,rfl,rfl,rfl,trivial⟩) ⟨Nat.zero_le _,by simp,hx.grow hg3⟩ ⟨rfl,fun _=>rfl⟩ (fun _ _ _ hg h=>⟨h.1,h.2.1,h.2.2.grow hg⟩)
     (fun z e G4 hg4 hk he=>W.mk ?_) (fun z G4 hg4 hk hke=>W.mk ?_)
    ·obtain ⟨k,_⟩:=z
     obtain ⟨hk1,hk2,hx3⟩:=hk
     dsimp only at hk1 hk2 he
     obtain ⟨⟨⟨ph,pv⟩,⟨zh,zt,zs,zo⟩⟩,he2,rfl⟩:=mv_of_mem he
     have hkl:=(List.getElem?_eq_some_iff.1 he2).1
     have hmem:((⟨ph,pv⟩,⟨zh,zt,zs,zo⟩):Pt × St4)∈partsF s ⟨ah,at_,as_,ao_⟩ m:=by rw [← hL];exact List.mem_of_getElem? he2
     have hbz:=(bd_parts hs.ok hby hmem).ok hs.ok
     obtain ⟨w3,v3,hbx3,hsl3,hrow3⟩:=id hx3.x
     rcases hrow3 with ⟨rfl,h0⟩ | ⟨br,c,rest,rfl,hbr,hr1,hr2,hr3⟩
     ·rw [h0] at hib;simp at hib
     dsimp only [parV]
     (conv=>whnf)
     refine RdhP.h hbx3 rfl (W.mk ?_)
     (conv=>whnf)
     refine OblP.mk (by simp only [inR];omega) (W.mk ?_)
     (conv=>whnf)
     refine OblP.mk ⟨by omega,by omega⟩ (W.mk ?_)
     (conv=>whnf)
     refine OblP.mk rfl (W.mk ?_)
     (conv=>whnf)
     have hfa:=flat_at mapE bs rest (i:=i + 1) hib
     refine RowH.cells hbr (cs:=[.map (some bs[i + 1])]) (by show List.take 1 (List.drop (0 + ((i:Int) + 1).toNat * 1) _) = _;rw [show (0:Nat) + ((i:Int) + 1).toNat * 1 = (i + 1) * mapE.k by show 0 + ((i:Int) + 1).toNat * 1 = (i + 1) * 1;omega];exact hfa) rfl (W.mk ?_)
     (conv=>whnf)
     obtain ⟨es,ck,he1,hMS⟩:=hx3.m (i + 1) _ (List.getElem?_eq_getElem hib)
     refine OblP.mk ⟨_,_,he1⟩ (W.mk ?_)
     (conv=>whnf)
     obtain ⟨q,hf,hlk,hor,_⟩:=hMS.find hbz
     refine KeyP.mk ⟨q,by rw [he1];exact hf,W.mk ?_⟩
     rw [he1]
     dsimp only [mapEs]
     have htk:=take_succ' he2
     rcases hor with hv | hv
     ·have hgd:=hlk.1 hv
      rw [hv]
      (conv=>whnf)
      refine ForkP.mk (fun _=>W.mk ?_) (fun h=>by cases h)
      (conv=>whnf)
      refine DrawP.mk monoT_nil rfl (W.mk ?_)
      rcases hrow0 with ⟨rfl,rfl⟩ | ⟨bo,co,resto,rfl,hbo,ho1,ho2,ho3⟩
      ·(conv=>whnf)
       refine OblP.mk rfl (W.mk ?_)
       (conv=>whnf)
       refine OblP.mk ⟨by omega,by omega⟩ (W.mk ?_)
       (conv=>whnf)
       refine AppnP.mk (fun b' cap rest' hb1 hb2 hb3 hb4=>W.mk ?_)
       have hrow:=RowH.appNew (E:=ptE) (t:=58) (p:=p2) (b:=b') (c:=cap) (l:=[]) (us:=[⟨ph,pv⟩]) (vs:=[]) (rest':=rest') rfl hb4 hb2 hb3
       (conv=>whnf)
       refine ExitR.mk (fun G6 hg6=>W.mk ?_)
       (conv=>whnf)
       (refine ob ?_ ?_;(first | trivial | omega | (simp only [inR];omega) | exact ble (by rfl) | exact SlR.some ‹_› (by omega));(conv=>whnf))
       exact RoundP.of (i + 1,_,_,([]:List Pt)++[Pt.mk ph pv],St4.mk zh zt zs zo) (HeadP.of [] ⟨rfl,rfl,rfl,rfl,rfl,rfl,rfl,trivial⟩ ⟨rfl,rfl,rfl,rfl,rfl,trivial⟩) ⟨hlt,(SeenH.grow hg6 hx3).up (up_new hb1),hrow,⟨([]:List Pt),_,m,⟨ph,pv⟩,rfl,htel,hm,hmem⟩,hgd⟩ (by show wn - (i + 1) < wn - i;omega)
      ·have hol:=htel.len
       have hon:(flat ptE out++resto).length = co * 2:=by rw [List.length_append,flat_len,ho1,show ptE.k = 2 from rfl];omega
       have hone:∀ u∈(flat ptE out++resto).take (out.length * 2),u.oneCell' = true:=by
        have e:=take_flat (E:=ptE) (l:=out) (rest:=resto)
        rw [show out.length * ptE.k = out.length * 2 from rfl] at e
        rw [e];exact flat_one _ _
       (conv=>whnf)
       refine HpkP.mk ⟨_,58,hbo,W.mk ?_⟩
       (conv=>whnf)
       refine OblP.mk ⟨rfl,rfl,hon,ho2,ho3,hone⟩ (W.mk ?_)
       (conv=>whnf)
       refine OblP.mk rfl (W.mk ?_)
       (conv=>whnf)
       refine OblP.mk ⟨by omega, .inl (by decide)⟩ (W.mk ?_)
       (conv=>whnf)
       refine IteP.mk (fun hcap=>W.mk ?_) (fun hcap=>W.mk ?_)
       ·have hcap:((out.length + 1:Nat):Int)≤co:=hcap
        have hrow:=RowH.appIn (E:=ptE) (t:=58) (p:=p2) (b:=bo) (us:=[⟨ph,pv⟩]) ho1 (by simp only [List.length_singleton];omega) ho3
        (conv=>whnf)
        refine ExitR.mk (fun G6 hg6=>W.mk ?_)
        (conv=>whnf)
        (refine ob ?_ ?_;(first | trivial | omega | (simp only [inR];omega) | exact ble (by rfl) | exact SlR.some ‹_› (by omega));(conv=>whnf))
        exact RoundP.of (i + 1,_,_,out++[Pt.mk ph pv],St4.mk zh zt zs zo) (HeadP.of [] ⟨rfl,rfl,rfl,rfl,rfl,rfl,rfl,trivial⟩ ⟨rfl,rfl,rfl,rfl,rfl,trivial⟩) ⟨hlt,(SeenH.grow hg6 hx3).setT hbo (by decide) (by decide),hrow,⟨out,_,m,⟨ph,pv⟩,rfl,htel,hm,hmem⟩,hgd⟩ (by show wn - (i + 1) < wn - i;omega)
       ·(conv=>whnf)
        refine AppnP.mk (fun b' cap rest' hb1 hb2 hb3 hb4=>W.mk ?_)
        have hrow:=RowH.appNew (E:=ptE) (t:=58) (p:=p2) (b:=b') (c:=cap) (l:=out) (us:=[⟨ph,pv⟩]) (vs:=(flat ptE out++resto).take (out.length * ptE.k)) (rest':=rest') take_flat hb4 hb2 hb3
        (conv=>whnf)
        refine ExitR.mk (fun G6 hg6=>W.mk ?_)
        (conv=>whnf)
        (refine ob ?_ ?_;(first | trivial | omega | (simp only [inR];omega) | exact ble (by rfl) | exact SlR.some ‹_› (by omega));(conv=>whnf))
        exact RoundP.of (i + 1,_,_,out++[Pt.mk ph pv],St4.mk zh zt zs zo) (HeadP.of [] ⟨rfl,rfl,rfl,rfl,rfl,rfl,rfl,trivial⟩ ⟨rfl,rfl,rfl,rfl,rfl,trivial⟩) ⟨hlt,(SeenH.grow hg6 hx3).up (up_new hb1),hrow,⟨out,_,m,⟨ph,pv⟩,rfl,htel,hm,hmem⟩,hgd⟩ (by show wn - (i + 1) < wn - i;omega)
     ·rw [hv]
      (conv=>whnf)
      refine ForkP.mk (fun h=>by cases h) (fun _=>W.mk ?_)
      (conv=>whnf)
      refine RoundR.mk ⟨(k + 1,()),⟨[],⟨rfl,rfl,rfl,rfl,rfl,rfl,trivial⟩,rfl,rfl⟩,⟨hkl, ?_,hx3⟩,rfl,rfl⟩
      intro e he3
      rw [htk] at he3
      rcases List.mem_append.1 he3 with h | h
      ·exact hk2 e h
      ·have:e = (⟨ph,pv⟩,⟨zh,zt,zs,zo⟩):=by simpa using h
       subst this
       intro hS
       have:=hlk.2 hS
       rw [hv] at this;cases this
    ·obtain ⟨k,_⟩:=z
     obtain ⟨hk1,hk2,_⟩:=hk
     have hke:k = (L.map parV).length:=hke
     rw [List.length_map] at hke
     subst hke
     dsimp only at hk2
     rw [List.take_length] at hk2
     exact absurd hgg (hk2 (gp,gy) (by rw [hL];exact hgm))
   ·have hin:i = s.ms.length:=by have hge:¬ (i:Int) < wn:=hge;omega
    subst hin
    refine NmP.mk ⟨[],W.mk ?_⟩
    (conv=>whnf)
    exact FinHp.of rfl ⟨_,0,rfl, .inr ⟨rfl,⟨_,hat.rs⟩,out,_,hrow0,htel⟩⟩
end Go.Proofs.Ytefnikpoimaiiaa

namespace Go.Proofs.Ytefnikpoimaiiaa
open Go.Pal Go.RowKit
set_option maxRecDepth 100000
def toE:El (Int × Int):=⟨2,fun p=>[U p.1,U p.2],fun {x y} h=>by obtain ⟨_,_⟩:=x;obtain ⟨_,_⟩:=y;simp at h;simp [h],fun _=>rfl,fun _ v hv=>by simp at hv;rcases hv with rfl | rfl<;>rfl⟩
def nbAt (s:Sc) (k:Nat):Prop:=s.ms[k]? = some ⟨32768,32768⟩
structure WOk (s:Sc) (i:Nat) (ws:List (Int × Int)):Prop where
 len:ws.length = s.ms.length
 rng:∀ (k:Nat) (a b:Int),ws[k]? = some (a,b)→(0≤a∧a < 65536)∧0≤b∧b < 65536
 lo:∀ (k:Nat),k < i→nbAt s k→ws[k]? = some (32768,32768)
 hi:∀ (k:Nat),i < k→k < s.ms.length→ws[k]? = some (0,0)
 mid:nbAt s i→ws[i]? = some (0,0)∨ws[i]? = some (32768,32768)
theorem WOk.set {s:Sc} {i:Nat} {ws:List (Int × Int)} (h:WOk s i ws) (hi:i < s.ms.length) {a b:Int} (ha:0≤a∧a < 65536) (hb:0≤b∧b < 65536) (hm:nbAt s i→a = 32768∧b = 32768):WOk s i (ws.set i (a,b)):=by
 have hl:=h.len
 refine ⟨by rw [List.length_set];exact hl,fun k c d e=>?_,fun k hk hn=>?_,fun k h1 h2=>?_,fun hn=>.inr ?_⟩
 ·by_cases hki:i = k
  ·subst hki
   rw [List.getElem?_set_self (by omega)] at e
   cases e;exact ⟨ha,hb⟩
  ·rw [List.getElem?_set_ne hki] at e
   exact h.rng k c d e
 ·rw [List.getElem?_set_ne (by omega)];exact h.lo k hk hn
 ·rw [List.getElem?_set_ne (by omega)];exact h.hi k h1 h2
 ·rw [List.getElem?_set_self (by omega)]
  obtain ⟨rfl,rfl⟩:=hm hn;rfl
theorem WOk.next {s:Sc} {i:Nat} {ws:List (Int × Int)} (h:WOk s i ws) (hf:nbAt s i→ws[i]? = some (32768,32768)):WOk s (i + 1) ws:=by
 refine ⟨h.len,h.rng,fun k hk hn=>?_,fun k h1 h2=>h.hi k (by omega) h2,fun hn=>.inl (h.hi (i + 1) (by omega) (List.getElem?_eq_some_iff.1 hn).1)⟩
 by_cases e:k = i
 ·subst e;exact hf hn
 ·exact h.lo k (by omega) hn
theorem WOk.start {s:Sc}:WOk s 0 (List.replicate s.ms.length (0,0)):=by
 refine ⟨by simp,fun k a b e=>?_,fun k hk=>absurd hk (Nat.not_lt_zero _),fun k _ h2=>by rw [List.getElem?_replicate,if_pos h2],fun hn=>.inl ?_⟩
 ·rw [List.getElem?_replicate] at e
  split at e
  ·cases e;decide
  ·cases e
 ·rw [List.getElem?_replicate,if_pos (List.getElem?_eq_some_iff.1 hn).1]
structure L5 (s:Sc) (G:Hp) (bx:Nat) (bs:List Nat) (i:Nat) (bq bi:Nat) (es:Array MapEntry) (ck:Nat) (q:Hp) (sn:Array Nat) (c0:Nat) (ws:List (Int × Int)) (vs:List Value):Prop where
 seen:SeenH q G bx s bs s.ms.length (fun k y=>Gd s (s.ms.length - k) k y)
 qm:q bq = some (.map es ck)
 qi:q bi = some (.mapIter (some bq) ck sn c0)
 c:ck≤c0
 ok:WOk s i ws
 row:vs = flat toE ws
 d:∃ D,Vis es sn D∧∀ y,D y→Gd s (s.ms.length - i) i y→nbAt s i→ws[i]? = some (32768,32768)
theorem L5.grow {s:Sc} {G G':Hp} (hg:Grow G G') {bx:Nat} {bs:List Nat} {i:Nat} {bq bi:Nat} {es:Array MapEntry} {ck:Nat} {q:Hp} {sn:Array Nat} {c0:Nat} {ws:List (Int × Int)} {vs:List Value} (h:L5 s G bx bs i bq bi es ck q sn c0 ws vs):L5 s G' bx bs i bq bi es ck q sn c0 ws vs:=⟨h.seen.grow hg,h.qm,h.qi,h.c,h.ok,h.row,h.d⟩
def whoPost (s:Sc) (p G:Hp) (v:Value):Prop:=∃ (w:Value) (e:Int),v = .tuple #[w,I e]∧((e = 10∧w = .slice none 0 0∧¬ ∃ y,Rs s s.ms.length y)∨(e = 0∧(∃ y,Rs s s.ms.length y)∧∃ ws,SlV toE G w ws∧WOk s s.ms.length ws))
theorem whoPost.grow {s:Sc} {p G G':Hp} {v:Value} (hg:Grow G G') (h:whoPost s p G v):whoPost s p G' v:=by
 obtain ⟨w,e,h1,h2 | ⟨h2,h3,ws,h4,h5⟩⟩:=h
 ·exact ⟨w,e,h1, .inl h2⟩
 ·exact ⟨w,e,h1, .inr ⟨h2,h3,ws,h4.grow hg,h5⟩⟩
def tabS6:Tab Try.prog:=Tab.cons 41 _ bit41 body41 (Tab.nil _)
set_option maxHeartbeats 4000000 in
theorem who13h (s:Sc) (hs:ScAll s):Sound Try.prog 13 id (.hp (fun args p G=>(∃ v,args = [v]∧ScV G v s)∧p = fun _=>none) fun _ _ v p' G'=>whoPost s p' G' v):=by
 refine comp13.hp tabS6 (fun args p G h=>?_) (fun args p v p' G G' hg h=>h.grow hg) (fun args p G h=>?_)
 ·obtain ⟨⟨v,rfl,_⟩,_⟩:=h;simp
 ·obtain ⟨⟨v,rfl,⟨w,rfl,hsl⟩⟩,rfl⟩:=h
  obtain ⟨wa,wn,wc,rfl,hw,hwn⟩:=id hsl
  have hwl:wn = s.ms.length:=hw.len.symm
  have hsn:=hs.ok.n
  (conv=>whnf)
  refine CallH.mk _ (checked38 s hs) body38 (W.mk ?_)
  (conv=>whnf)
  refine HpcP.mk ⟨⟨_,rfl,⟨_,rfl,hsl⟩⟩,rfl⟩ (fun v p1 G1 hg1 hq=>W.mk ?_)
  obtain ⟨bx,e,rfl,hend⟩:=hq
  (conv=>whnf)
  refine IteP.mk (fun he=>W.mk ?_) (fun he=>W.mk ?_)<;>(conv=>whnf)
  rotate_left
  ·have he:¬ e = 0:=he
   rcases hend with ⟨rfl,h1⟩ | ⟨h1,_⟩
   ·refine NmP.mk ⟨[],W.mk ?_⟩
    (conv=>whnf)
    exact FinHp.of rfl ⟨_,10,rfl, .inl ⟨rfl,rfl,h1⟩⟩
   ·exact absurd h1 he
  ·have he:e = 0:=he
   subst he
   rcases hend with ⟨h1,_⟩ | ⟨_,hne,bs,hx0,hbl⟩
   ·exact absurd h1 (by decide)
   refine OblP.mk ⟨by omega,by omega⟩ (W.mk ?_)
   (conv=>whnf)
   refine LoopP.of { α:=Nat × Hp × List (Int × Int) × List Value,fr:=fun x=>[(1, .c (.ptr 1000 0)),(4, .c (.ptr 1008 0)),(6, .c (.ptr 1020 0)),(25, .v (.slice wa wn wc)),(26, .v (I wn)),(27, .v (I x.1))],H:=fun x=>[(0, .heap x.2.1),(1000, .cells .anon ((scL s (.slice wa wn wc)).map .val) 34),(1008, .cells .anon [.val (ptr bx)] 120),(1019, .row none wn x.2.2.2 59 2),(1020, .cells .anon [.row 1019 wn] 44)],ok:=fun x G=>x.1≤s.ms.length∧SeenH x.2.1 G bx s bs s.ms.length (fun k y=>Gd s (s.ms.length - k) k y)∧WOk s x.1 x.2.2.1∧x.2.2.2 = flat toE x.2.2.1∧Gd s s.ms.length 0 begin4∧(x.1 = s.ms.length∨∃ y,Gd s (s.ms.length - x.1) x.1 y),m:=fun x=>wn - x.1 }
    (0,p1,List.replicate s.ms.length (0,0),(List.replicate wn [U 0,U 0]).flatten) (HeadP.of [] ⟨rfl,rfl,rfl,rfl,rfl,rfl,trivial⟩ ⟨rfl,rfl,rfl,rfl,rfl,trivial⟩) ⟨Nat.zero_le _,hx0,WOk.start,by rw [hwl];simp [flat,toE],gd_begin hne, .inr ⟨_,gd_begin hne⟩⟩ (fun _=>⟨rfl,rfl⟩) (fun x G2 hg2 hj=>W.mk ?_)
   obtain ⟨i,p2,ws,vs⟩:=x
   obtain ⟨hi,hx,hok,hvs,hgb,hgn⟩:=hj
   dsimp only at hi hx hok hvs hgn
   dsimp only
   have hw1:SlR moE.k moE.R G2 wa wn wc s.ms:=SlR.grow (G:=G) (G':=G2) (fun _ _ h=>h) hw (hg1.trans hg2)
   (conv=>whnf)
   refine IteP.mk (fun hlt=>W.mk ?_) (fun hge=>W.mk ?_)<;>(conv=>whnf)
   ·have hlt:i < s.ms.length:=by have hlt:(i:Int) < wn:=hlt;omega
    have hi40:i < 40:=by omega
    obtain ⟨y1,hy1⟩:∃ y,Gd s (s.ms.length - i) i y:=hgn.elim (fun e=>by omega) id
    obtain ⟨m,hm,gp,gy,hgm,hgg⟩:=gd_next hlt hy1
    have hmo:=hs.ms m (List.mem_of_getElem? hm)
    have hel:=hw1.el hlt
    rw [(List.getElem?_eq_some_iff.1 hm).2] at hel
    have hib:i < bs.length:=by omega
    have hib1:i + 1 < bs.length:=by omega
    (refine ob ?_ ?_;(first | trivial | omega | (simp only [inR];omega) | exact ble (by rfl) | exact SlR.some ‹_› (by omega));(conv=>whnf))
    (refine ob ?_ ?_;(first | trivial | omega | (simp only [inR];omega) | exact ble (by rfl) | exact SlR.some ‹_› (by omega));(conv=>whnf))
    refine RdhP.g (cs:=[U m.f,U m.h]) hel rfl (W.mk ?_)
    (conv=>whnf)
    obtain ⟨bq,hbq⟩:∃ bq,bs[i]? = some bq:=⟨_,List.getElem?_eq_getElem hib⟩
    obtain ⟨w3,v3,hbx3,hsl3,hrow3⟩:=id hx.x
    rcases hrow3 with ⟨rfl,h0⟩ | ⟨br',c',rest,rfl,hbr',hr1,hr2,hr3⟩
    ·rw [h0] at hbl;simp at hbl
    refine RdhP.h hbx3 rfl (W.mk ?_)
    (conv=>whnf)
    refine OblP.mk ⟨by omega,by omega⟩ (W.mk ?_)
    (conv=>whnf)
    refine OblP.mk rfl (W.mk ?_)
    (conv=>whnf)
    have hat:=flat_at mapE bs rest (i:=i) hib
    rw [show bs[i] = bq from (List.getElem?_eq_some_iff.1 hbq).2] at hat
    refine RowH.cells hbr' (cs:=[.map (some bq)]) (by show List.take 1 (List.drop (0 + (i:Int).toNat * 1) _) = _;rw [show (0:Nat) + (i:Int).toNat * 1 = i * mapE.k by show 0 + (i:Int).toNat * 1 = i * 1;omega];exact hat) rfl (W.mk ?_)
    (conv=>whnf)
    obtain ⟨es,ck,hqm,hMS⟩:=hx.m i bq hbq
    refine RngP.mk ⟨es,ck,hqm,fun bi hbi=>W.mk ?_⟩
    (conv=>whnf)
    have nqi:bq≠bi:=ne_none hqm hbi
    have hstamp:=(MapKept.stamped_iff es ck).1 hMS.st
    have hL5:L5 s G2 bx bs i bq bi es ck (upd p2 bi (some (.mapIter (some bq) ck #[] ck))) #[] ck ws vs :=
     ⟨hx.up (up_new hbi),(upd_other _ _ nqi).trans hqm,upd_same _ _ _,Nat.le_refl _,hok,hvs,fun _=>False,Vis.nil,fun _ h=>h.elim⟩
    refine LoopP.of { α:=Hp × Array Nat × Nat × List (Int × Int) × List Value,fr:=fun x=>[(1, .c (.ptr 1000 0)),(4, .c (.ptr 1008 0)),(6, .c (.ptr 1020 0)),(7, .c (.ptr 1030 0)),(8, .c (.ptr 1031 0)),(25, .v (.slice wa wn wc)),(26, .v (I wn)),(27, .v (I i)),(39, .v (ptr bi))],H:=fun x=>[(0, .heap x.1),(1000, .cells .anon ((scL s (.slice wa wn wc)).map .val) 34),(1008, .cells .anon [.val (ptr bx)] 120),(1019, .row none wn x.2.2.2.2 59 2),(1020, .cells .anon [.row 1019 wn] 44),(1030, .cells .anon [.val (I i)] 3),(1031, .cells .anon [.val (U m.f), .val (U m.h)] 39)],ok:=fun x G=>L5 s G bx bs i bq bi es ck x.1 x.2.1 x.2.2.1 x.2.2.2.1 x.2.2.2.2,m:=fun x=>(leftOf es x.2.1).size }
     (upd p2 bi (some (.mapIter (some bq) ck #[] ck)), #[],ck,ws,vs) (HeadP.of [] ⟨rfl,rfl,rfl,rfl,rfl,rfl,rfl,rfl,rfl,trivial⟩ ⟨rfl,rfl,rfl,rfl,rfl,rfl,rfl,trivial⟩) hL5 (fun _=>⟨rfl,rfl⟩) (fun x G3 hg3 hy=>W.mk ?_)
    clear hL5 hbi hqm hx hbx3 hbr' hat hok hvs
    obtain ⟨q,sn,c0,ws,vs⟩:=x
    dsimp only at hy
    dsimp only
    (conv=>whnf)
    refine NxtP.mk ⟨bq,ck,sn,c0,es,ck,hy.qi,hy.qm,hstamp.1,hy.c,fun hall=>W.mk ?_,fun e he hns=>W.mk ?_⟩
    ·(conv=>whnf)
     refine ForkP.mk (fun h=>by cases h) (fun _=>W.mk ?_)
     (conv=>whnf)
     (refine ob ?_ ?_;(first | trivial | omega | (simp only [inR];omega) | exact ble (by rfl) | exact SlR.some ‹_› (by omega));(conv=>whnf))
     obtain ⟨D,hV,hD⟩:=hy.d
     refine RoundP.of (i + 1,q,ws,vs) (HeadP.of [] ⟨rfl,rfl,rfl,rfl,rfl,rfl,trivial⟩ ⟨rfl,rfl,rfl,rfl,rfl,trivial⟩) ⟨hlt,hy.seen,hy.ok.next (hD y1 (hV.all hMS hall y1 hy1) hy1),hy.row,hgb, .inr ⟨gy,hgg⟩⟩ (by show wn - (i + 1) < wn - i;omega)
    ·obtain ⟨y,hSy,hke,hve⟩:=hMS.ent e he
     obtain ⟨ek,ev,eb⟩:=e
     dsimp only at hke hve hns
     subst hke;subst hve
     have hby:=bd_rs hs.ok hSy.rs
     obtain ⟨y0,hy0⟩:∃ y0:St4,y0 = y:=⟨_,rfl⟩
     obtain ⟨yh,yt,ys,yo⟩:=y
     (conv=>whnf)
     refine ForkP.mk (fun _=>W.mk ?_) (fun h=>by cases h)
     (conv=>whnf)
     refine EtyP.mk ⟨bq,ck,sn,es,ck,_,upd_same _ _ _,(upd_other _ _ nqi).trans hy.qm,he,hstamp.2.1,W.mk ?_⟩
     (conv=>whnf)
     refine CallH.mk _ parts40 body40 (W.mk ?_)
     (conv=>whnf)
     have hsl2:SlV moE G3 (.slice wa wn wc) s.ms:=hsl.grow ((hg1.trans hg2).trans hg3)
     refine RelP.g (ok3 scRd st4Rd moRd fun _ _ _=>True) (x:=(s,⟨yh,yt,ys,yo⟩,m)) ⟨_,_,_,rfl,⟨_,rfl,hsl2⟩,rfl,rfl,trivial⟩ (Grow.refl _) (fun v1 G4 hg4 hq1=>W.mk ?_)
     obtain ⟨B,rfl,hB⟩:=hq1
     (conv=>whnf)
     obtain ⟨L,hL⟩:∃ L,L = partsF s ⟨yh,yt,ys,yo⟩ m:=⟨_,rfl⟩
     obtain ⟨D,hV,hD⟩:=hy.d
     have hVp:=hV.push hMS he rfl
     have hx4:SeenH (upd q bi (some (.mapIter (some bq) ck (sn.push eb) ck))) G4 bx s bs s.ms.length (fun k y=>Gd s (s.ms.length - k) k y):=(hy.seen.grow hg4).set (fun cs t h=>by rw [hy.qi] at h;cases h) (hy.seen.notIn fun es c h=>by rw [hy.qi] at h;cases h)
     refine RangeP.of (L.map parV) { α:=Nat × List (Int × Int) × List Value,fr:=[(1, .c (.ptr 1000 0)),(4, .c (.ptr 1008 0)),(6, .c (.ptr 1020 0)),(7, .c (.ptr 1030 0)),(8, .c (.ptr 1031 0)),(25, .v (.slice wa wn wc)),(26, .v (I wn)),(27, .v (I i)),(39, .v (ptr bi))],k:=fun z=>z.1,H:=fun z=>[(0, .heap (upd q bi (some (.mapIter (some bq) ck (sn.push eb) ck)))),(1000, .cells .anon ((scL s (.slice wa wn wc)).map .val) 34),(1008, .cells .anon [.val (ptr bx)] 120),(1019, .row none wn z.2.2 59 2),(1020, .cells .anon [.row 1019 wn] 44),(1030, .cells .anon [.val (I i)] 3),(1031, .cells .anon [.val (U m.f), .val (U m.h)] 39)],ok:=fun z G=>z.1≤L.length∧SeenH (upd q bi (some (.mapIter (some bq) ck (sn.push eb) ck))) G bx s bs s.ms.length (fun k y=>Gd s (s.ms.length - k) k y)∧WOk s i z.2.1∧z.2.2 = flat toE z.2.1∧(∀ y,D y→Gd s (s.ms.length - i) i y→nbAt s i→z.2.1[i]? = some (32768,32768))∧((∃ e∈L.take z.1,Gd s (s.ms.length - (i + 1)) (i + 1) e.2)→nbAt s i→z.2.1[i]? = some (32768,32768)) }
      (0,ws,vs) (SoundFn.of body70 (parts70 B s ⟨yh,yt,ys,yo⟩ m)) (fun l=>⟨rfl,hB,hmo,hs.ok,hby,by rw [hL]⟩) (fun z hz=>by obtain ⟨e,_,rfl⟩:=List.mem_map.1 hz;rfl) rfl (HeadP.of [] ⟨rfl,rfl,rfl,rfl,rfl,rfl,rfl,rfl,rfl,trivial⟩ ⟨rfl,rfl,rfl,rfl,rfl,rfl,rfl,trivial⟩) ⟨Nat.zero_le _,hx4,hy.ok,hy.row,hD,fun ⟨e,h,_⟩=>by simp at h⟩ ⟨rfl,fun _=>rfl⟩ (fun _ _ _ hg h=>⟨h.1,h.2.1.grow hg,h.2.2⟩)
      (fun z e G5 hg5 hk he=>W.mk ?_) (fun z G5 hg5 hk hke=>W.mk ?_)
     ·obtain ⟨k,ws5,vs5⟩:=z
      obtain ⟨hk1,hx5,hok5,hvs5,hD5,hL5⟩:=hk
      dsimp only at hk1 hx5 hok5 hvs5 hD5 hL5 he
      obtain ⟨⟨⟨ph,pv⟩,⟨zh,zt,zs,zo⟩⟩,he2,rfl⟩:=mv_of_mem he
      have hkl:=(List.getElem?_eq_some_iff.1 he2).1
      have hmem:((⟨ph,pv⟩,⟨zh,zt,zs,zo⟩):Pt × St4)∈partsF s ⟨yh,yt,ys,yo⟩ m:=by rw [← hL];exact List.mem_of_getElem? he2
      have hbz:=(bd_parts hs.ok hby hmem).ok hs.ok
      obtain ⟨w6,v6,hbx6,hsl6,hrow6⟩:=id hx5.x
      rcases hrow6 with ⟨rfl,h0⟩ | ⟨br6,c6,rest6,rfl,hbr6,hr61,hr62,hr63⟩
      ·rw [h0] at hbl;simp at hbl
      dsimp only [parV]
      (conv=>whnf)
      refine RdhP.h hbx6 rfl (W.mk ?_)
      (conv=>whnf)
      refine OblP.mk (by simp only [inR];omega) (W.mk ?_)
      (conv=>whnf)
      refine OblP.mk ⟨by omega,by omega⟩ (W.mk ?_)
      (conv=>whnf)
      refine OblP.mk rfl (W.mk ?_)
      (conv=>whnf)
      have hfa:=flat_at mapE bs rest6 (i:=i + 1) hib1
      refine RowH.cells hbr6 (cs:=[.map (some bs[i + 1])]) (by show List.take 1 (List.drop (0 + ((i:Int) + 1).toNat * 1) _) = _;rw [show (0:Nat) + ((i:Int) + 1).toNat * 1 = (i + 1) * mapE.k by show 0 + ((i:Int) + 1).toNat * 1 = (i + 1) * 1;omega];exact hfa) rfl (W.mk ?_)
      (conv=>whnf)
      obtain ⟨es6,ck6,he6,hMS6⟩:=hx5.m (i + 1) _ (List.getElem?_eq_getElem hib1)
      refine OblP.mk ⟨_,_,he6⟩ (W.mk ?_)
      (conv=>whnf)
      obtain ⟨q6,hf6,hlk,hor,_⟩:=hMS6.find hbz
      refine KeyP.mk ⟨q6,by rw [he6];exact hf6,W.mk ?_⟩
      rw [he6]
      dsimp only [mapEs]
      have htk:=take_succ' he2
      rcases hor with hv | hv
      ·have hgd:=hlk.1 hv
       rw [hv]
       (conv=>whnf)
       refine ForkP.mk (fun _=>W.mk ?_) (fun h=>by cases h)
       (conv=>whnf)
       subst hvs5
       have hil5:i < ws5.length:=by rw [hok5.len];exact hlt
       obtain ⟨a,b,hab⟩:∃ a b,ws5[i] = (a,b):=⟨_,_,rfl⟩
       have hab':ws5[i]? = some (a,b):=by rw [List.getElem?_eq_getElem hil5,hab]
       obtain ⟨ha,hb⟩:=hok5.rng i a b hab'
       obtain ⟨hpm1,hpm2,_,_⟩:=parts_mem hmem
       have hpo1:=inL_ok hs.ok hpm1
       have hpo2:=inL_ok hs.ok hpm2
       dsimp only at hpo1 hpo2
       have hpp:=hs.ok.p
       have hbf1:=bitF_lt (p:=ph) (by omega) (by omega)
       have hbf2:=bitF_lt (p:=pv) (by omega) (by omega)
       have hfl:(flat toE ws5).length = ws5.length * 2:=flat_len toE ws5
       obtain ⟨a',ha'⟩:∃ a':Int,a' = ((a.toNat ||| (bitF ph).toNat:Nat):Int):=⟨_,rfl⟩
       obtain ⟨b',hb'⟩:∃ b':Int,b' = ((b.toNat ||| (bitF pv).toNat:Nat):Int):=⟨_,rfl⟩
       have ha2:0≤a'∧a' < 65536:=by rw [ha'];exact ⟨Int.natCast_nonneg _,Int.ofNat_lt.2 (Nat.or_lt_two_pow (n:=16) (by omega) (by omega))⟩
       have hb2:0≤b'∧b' < 65536:=by rw [hb'];exact ⟨Int.natCast_nonneg _,Int.ofNat_lt.2 (Nat.or_lt_two_pow (n:=16) (by omega) (by omega))⟩
       have e1:=flat_sub toE ws5 [] (i:=i) (d:=0) (n:=1) hil5 (by decide)
       rw [List.append_nil,hab] at e1
       have s1:=flat_set toE ws5 [] [U a'] (i:=i) (d:=0) (n:=1) (x:=(a',b)) hil5 (by decide) (by rw [hab];rfl)
       rw [List.append_nil,List.append_nil] at s1
       obtain ⟨ws7,hw7⟩:∃ ws7,ws7 = ws5.set i (a',b):=⟨_,rfl⟩
       rw [← hw7] at s1
       have hil7:i < ws7.length:=by rw [hw7,List.length_set];exact hil5
       have hab7:ws7[i] = (a',b):=by subst hw7;rw [List.getElem_set_self]
       have e2:=flat_sub toE ws7 [] (i:=i) (d:=1) (n:=1) hil7 (by decide)
       rw [List.append_nil,hab7] at e2
       have s2:=flat_set toE ws7 [] [U b'] (i:=i) (d:=1) (n:=1) (x:=(a',b')) hil7 (by decide) (by rw [hab7];rfl)
       rw [List.append_nil,List.append_nil,hw7,List.set_set, ← hw7] at s2
       have hfl7:(flat toE ws7).length = ws7.length * 2:=flat_len toE ws7
       refine OblP.mk ⟨by omega,by omega⟩ (W.mk ?_)
       (conv=>whnf)
       refine OblP.mk rfl (W.mk ?_)
       (conv=>whnf)
       refine EqP.mk ⟨[U a],e1,rfl,W.mk ?_⟩
       (conv=>whnf)
       refine OblP.mk (fun _ _=>⟨ph,rfl,by omega,by omega⟩) (W.mk ?_)
       (conv=>whnf)
       refine PurP.of (U a') (by rw [ha'];exact pur_or16 ha.1 ha.2 hbf1.1 hbf1.2) (W.mk ?_)
       (conv=>whnf)
       refine OblP.mk ⟨by omega,by omega⟩ (W.mk ?_)
       (conv=>whnf)
       refine OblP.mk rfl (W.mk ?_)
       (conv=>whnf)
       refine OblP.mk (by show i * 2 + 0 + 1≤_;omega) (W.mk ?_)
       (conv=>whnf)
       refine OblP.mk ⟨by omega,by omega⟩ (W.mk ?_)
       (conv=>whnf)
       refine OblP.mk rfl (W.mk ?_)
       (conv=>whnf)
       refine EqP.mk ⟨[U b],(congrArg (fun l=>(l.drop (i * 2 + 1)).take 1) s1).trans e2,rfl,W.mk ?_⟩
       (conv=>whnf)
       refine OblP.mk (fun _ _=>⟨pv,rfl,by omega,by omega⟩) (W.mk ?_)
       (conv=>whnf)
       refine PurP.of (U b') (by rw [hb'];exact pur_or16 hb.1 hb.2 hbf2.1 hbf2.2) (W.mk ?_)
       (conv=>whnf)
       refine OblP.mk ⟨by omega,by omega⟩ (W.mk ?_)
       (conv=>whnf)
       refine OblP.mk rfl (W.mk ?_)
       (conv=>whnf)
       refine OblP.mk (by have:=congrArg List.length s1;show i * 2 + 1 + 1≤List.length _;refine Nat.le_trans ?_ (Nat.le_of_eq this.symm);omega) (W.mk ?_)
       (conv=>whnf)
       have hnb:nbAt s i→a' = 32768∧b' = 32768:=fun hn=>by
        have hm8:m = ⟨32768,32768⟩:=by unfold nbAt at hn;rw [hm] at hn;exact Option.some.inj hn
        subst hm8
        have hpq:=parts_nobody hs.ok hmem
        simp only [Pt.mk.injEq] at hpq
        obtain ⟨rfl,rfl⟩:=hpq
        rcases hok5.mid hn with h | h<;>(rw [hab'] at h;cases h;subst ha' hb';exact ⟨by decide,by decide⟩)
       have hset:=hok5.set hlt ha2 hb2 hnb
       refine RoundR.mk ⟨(k + 1,ws5.set i (a',b'),flat toE (ws5.set i (a',b'))),⟨[],⟨rfl,rfl,rfl,congrArg (fun v=>OB.row none wn v 59 2) ((congrArg (fun l=>l.take (i * 2 + 1)++[U b']++l.drop (i * 2 + 1 + 1)) s1).trans s2).symm,rfl,rfl,rfl,trivial⟩,rfl,rfl⟩,⟨hkl,hx5,hset,rfl,fun y h1 h2 hn=>?_,fun _ hn=>?_⟩,rfl,rfl⟩
       all_goals (obtain ⟨rfl,rfl⟩:=hnb hn;exact List.getElem?_set_self hil5)
      ·rw [hv]
       (conv=>whnf)
       refine ForkP.mk (fun h=>by cases h) (fun _=>W.mk ?_)
       (conv=>whnf)
       refine RoundR.mk ⟨(k + 1,ws5,vs5),⟨[],⟨rfl,rfl,rfl,rfl,rfl,rfl,rfl,trivial⟩,rfl,rfl⟩,⟨hkl,hx5,hok5,hvs5,hD5,fun ⟨e,he3,hS⟩=>?_⟩,rfl,rfl⟩
       rw [htk] at he3
       rcases List.mem_append.1 he3 with h | h
       ·exact hL5 ⟨e,h,hS⟩
       ·have:e = (⟨ph,pv⟩,⟨zh,zt,zs,zo⟩):=by simpa using h
        subst this
        have:=hlk.2 hS
        rw [hv] at this;cases this
     ·obtain ⟨k,ws5,vs5⟩:=z
      obtain ⟨hk1,hx5,hok5,hvs5,hD5,hL5⟩:=hk
      have hke:k = (L.map parV).length:=hke
      rw [List.length_map] at hke
      subst hke
      dsimp only at hx5 hok5 hvs5 hD5 hL5
      rw [List.take_length] at hL5
      dsimp only
      (conv=>whnf)
      refine RoundP.of (_,sn.push eb,ck,ws5,vs5) (HeadP.of [] ⟨rfl,rfl,rfl,rfl,rfl,rfl,rfl,rfl,rfl,trivial⟩ ⟨rfl,rfl,rfl,rfl,rfl,rfl,rfl,trivial⟩) ⟨hx5,(upd_other _ _ nqi).trans hy.qm,upd_same _ _ _,Nat.le_refl _,hok5,hvs5,_,hVp,fun z hz hgz hnb=>?_⟩ (left_lt he hns)
      rcases hz with hz | rfl
      ·exact hD5 z hz hgz hnb
      ·obtain ⟨m',hm',p',y',h1,h2⟩:=gd_next hlt hgz
       rw [hm] at hm';cases hm'
       exact hL5 ⟨(p',y'),by rw [hL];exact h1,h2⟩ hnb
   ·have hin:i = s.ms.length:=by have hge:¬ (i:Int) < wn:=hge;omega
    subst hin
    refine NmP.mk ⟨[],W.mk ?_⟩
    (conv=>whnf)
    refine PubP.mk (fun a3 c3 G3 hg3 hp=>W.mk ?_)
    (conv=>whnf)
    refine FinHp.of rfl ⟨_,0,rfl, .inr ⟨rfl,hne,ws,hp.slV hvs (by rw [hok.len,hwl]) (by omega),hok⟩⟩
end Go.Proofs.Ytefnikpoimaiiaa

namespace Go.Proofs.Ytefnikpoimaiiaa
open Go.Pal Go.RowKit
set_option maxRecDepth 100000
theorem Sound.relG {P:Program} {f:FuncId} {sh:List Value→List Value} {α:Type} {R:GRel α} {q:α→Value→Hp→Prop} (ok:GOk R) (hm:∀ x v G G',Grow G G'→q x v G→q x v G') (h:∀ x,Sound P f sh (.rel (fun args G=>R args G x) fun _ v G=>q x v G)):Sound P f sh (grel R q) :=
 ⟨fun args v G G' hg ⟨x,h1,h2⟩=>⟨x,ok.grow _ _ _ _ hg h1,hm _ _ _ _ hg h2⟩,fun args G W hsub ⟨x,hx⟩=>((h x).2 args G W hsub hx).mono fun e W' ⟨v,G',h1,h2,h3,h4⟩=>⟨v,G',h1,⟨x,ok.grow _ _ _ _ h3 hx,h2⟩,h3,h4⟩⟩
def TellV (s:Sc) (v:Value) (G:Hp):Prop:=∃ (w:Value) (e:Int),v = .tuple #[w,I e]∧((e = 10∧w = .slice none 0 0∧¬ ∃ y,Rs s s.ms.length y)∨(e = 0∧(∃ y,Rs s s.ms.length y)∧∃ out y,SlV ptE G w out∧Tel s s.ms.length out y))
theorem TellV.grow {s:Sc} {v:Value} {G G':Hp} (hg:Grow G G') (h:TellV s v G):TellV s v G':=by
 obtain ⟨w,e,h1,h2 | ⟨h2,h3,o,y,h4,h5⟩⟩:=h
 ·exact ⟨w,e,h1, .inl h2⟩
 ·exact ⟨w,e,h1, .inr ⟨h2,h3,o,y,h4.grow hg,h5⟩⟩
theorem tell12:Sound Try.prog 12 id (grel (args1 scRd ScAll) TellV) :=
 Sound.relG (ok1 _ _) (fun _ _ _ _ hg h=>h.grow hg) fun s=>by
  by_cases hs:ScAll s
  ·refine Sound.hpRel (tell12h s hs) (fun args G ⟨v,h1,h2,_⟩=>⟨⟨v,h1,h2⟩,rfl⟩) (fun args v p' G' G'' hg hp ⟨w,e,h1,h2⟩=>⟨w,e,h1, ?_⟩) (fun _ _ _ _ hg h=>h.grow hg)
   rcases h2 with h2 | ⟨a,b,o,y,c,d⟩
   ·exact .inl h2
   ·exact .inr ⟨a,b,o,y,c.slV hp (by rw [d.len];have:=hs.ok.n;omega),d⟩
  ·exact ⟨fun _ _ _ _ hg h=>h.grow hg,fun args G W _ ⟨v,_,_,h⟩=>absurd h hs⟩
def WhoV (s:Sc) (v:Value) (G:Hp):Prop:=∃ (w:Value) (e:Int),v = .tuple #[w,I e]∧((e = 10∧w = .slice none 0 0∧¬ ∃ y,Rs s s.ms.length y)∨(e = 0∧(∃ y,Rs s s.ms.length y)∧∃ ws,SlV toE G w ws∧WOk s s.ms.length ws))
theorem WhoV.grow {s:Sc} {v:Value} {G G':Hp} (hg:Grow G G') (h:WhoV s v G):WhoV s v G':=by
 obtain ⟨w,e,h1,h2 | ⟨h2,h3,o,h4,h5⟩⟩:=h
 ·exact ⟨w,e,h1, .inl h2⟩
 ·exact ⟨w,e,h1, .inr ⟨h2,h3,o,h4.grow hg,h5⟩⟩
theorem who13:Sound Try.prog 13 id (grel (args1 scRd ScAll) WhoV) :=
 Sound.relG (ok1 _ _) (fun _ _ _ _ hg h=>h.grow hg) fun s=>by
  by_cases hs:ScAll s
  ·refine Sound.hpRel (who13h s hs) (fun args G ⟨v,h1,h2,_⟩=>⟨⟨v,h1,h2⟩,rfl⟩) (fun args v p' G' G'' hg hp ⟨w,e,h1,h2⟩=>WhoV.grow hg ⟨w,e,h1, ?_⟩) (fun _ _ _ _ hg h=>h.grow hg)
   exact h2
  ·exact ⟨fun _ _ _ _ hg h=>h.grow hg,fun args G W _ ⟨v,_,_,h⟩=>absurd h hs⟩
theorem TellV.sl {s:Sc} {w:Value} {e:Int} {G:Hp} (h:(e = 10∧w = .slice none 0 0∧¬ ∃ y,Rs s s.ms.length y)∨(e = 0∧(∃ y,Rs s s.ms.length y)∧∃ out y,SlV ptE G w out∧Tel s s.ms.length out y)) :
  ∃ a n c,w = .slice a n c:=by
 rcases h with ⟨_,rfl,_⟩ | ⟨_,_,_,_,⟨a,n,c,rfl,_⟩,_⟩
 ·exact ⟨_,_,_,rfl⟩
 ·exact ⟨_,_,_,rfl⟩
theorem WhoV.sl {s:Sc} {w:Value} {e:Int} {G:Hp} (h:(e = 10∧w = .slice none 0 0∧¬ ∃ y,Rs s s.ms.length y)∨(e = 0∧(∃ y,Rs s s.ms.length y)∧∃ ws,SlV toE G w ws∧WOk s s.ms.length ws)) :
  ∃ a n c,w = .slice a n c:=by
 rcases h with ⟨_,rfl,_⟩ | ⟨_,_,_,⟨a,n,c,rfl,_⟩,_⟩
 ·exact ⟨_,_,_,rfl⟩
 ·exact ⟨_,_,_,rfl⟩
/-! ### The reference's scene,as it is drawn -/
def ScU (G:Hp) (v:Value) (s:Sc):Prop:=∃ a n c,v = .agg (scL s (.slice a n c)).toArray∧SlR moE.k moE.R G a n c s.ms
theorem ScU.grow {G G':Hp} (hg:Grow G G') {v:Value} {s:Sc} (h:ScU G v s):ScU G' v s:=let ⟨a,n,c,h1,h2⟩:=h;⟨a,n,c,h1,SlR.grow (G:=G) (G':=G') (fun _ _ h=>h) h2 hg⟩
def scuRd:Rd Sc:=⟨ScU,fun {_ _ x y} ⟨a,n,c,h,h1⟩ ⟨a',n',c',h',h1'⟩=>by
  subst h
  simp only [scL,Value.agg.injEq,Array.mk.injEq,List.cons.injEq,Value.int.injEq,true_and,and_true,Value.slice.injEq] at h'
  obtain ⟨e1,e2,e3,e4,e5,e6,e7⟩:=h'
  subst e5;subst e6;subst e7
  have:=h1.uniq (fun cs x y h h'=>moE.inj (h.symm.trans h')) h1'
  cases x;cases y;simp_all,fun hg h=>h.grow hg⟩
theorem thin6:Sound Try.prog 6 id (gsca (args1 scuRd fun _=>True) fun s v=>v = .bool (decide (s.ms.length≤45))):=by
 refine comp6.gsca (Tab.nil _) (fun args G s h=>?_) (fun args G s h=>?_)
 ·obtain ⟨v,rfl,_⟩:=h;simp
 ·obtain ⟨v,rfl,⟨a,n,c,rfl,hl⟩,_⟩:=h
  have hln:=hl.len
  (conv=>whnf)
  refine IteP.mk (fun e=>W.mk ?_) (fun e=>W.mk ?_)<;>(conv=>whnf)
  ·have e:(n:Int)≤45:=e
   exact FinP.mk (by rw [decide_eq_true (by omega)];rfl)
  ·have e:¬ (n:Int)≤45:=e
   exact FinP.mk (by rw [decide_eq_false (by omega)];rfl)
theorem in33:Sound Try.prog 33 id (.fn (fun args _=>∃ n lo hi:Int,args = [I n,I lo,I hi]) fun args=>match args with
  | [.int _ n, .int _ lo, .int _ hi]=>.bool (decide (lo≤n) && decide (n≤hi))
  | _=>undef):=by
 refine comp33.fn (Tab.nil _) (fun args G h=>?_) (fun args G h=>?_)
 ·obtain ⟨n,lo,hi,rfl⟩:=h;simp
 ·obtain ⟨n,lo,hi,rfl⟩:=h
  (conv=>whnf)
  refine IteP.mk (fun e=>W.mk ?_) (fun e=>W.mk ?_)<;>(conv=>whnf)
  ·have e:lo≤n:=e
   refine IteP.mk (fun e2=>W.mk ?_) (fun e2=>W.mk ?_)<;>(conv=>whnf)
   ·have e2:n≤hi:=e2
    refine FinP.mk ?_
    show Value.bool true = .bool _
    rw [decide_eq_true e,decide_eq_true e2];rfl
   ·have e2:¬ n≤hi:=e2
    refine FinP.mk ?_
    show Value.bool false = .bool _
    rw [decide_eq_false e2,Bool.and_false]
  ·have e:¬ lo≤n:=e
   refine FinP.mk ?_
   show Value.bool false = .bool _
   rw [decide_eq_false e,Bool.false_and]
theorem pur_shl16u {p:Nat} (h:p≤14):∀ w,((POp.bin .shl 37).sem [U 1, .int .u64 (p:Nat)]).run Try.prog w = .ok (U ((2 ^ p:Nat):Int)) w:=fun w=>by
 rcases (by omega:p = 0∨p = 1∨p = 2∨p = 3∨p = 4∨p = 5∨p = 6∨p = 7∨p = 8∨p = 9∨p = 10∨p = 11∨p = 12∨p = 13∨p = 14) with rfl | rfl | rfl | rfl | rfl | rfl | rfl | rfl | rfl | rfl | rfl | rfl | rfl | rfl | rfl<;>rfl
theorem bit97:Sound Try.prog 97 id (.fn (fun args _=>∃ p:Nat,args = [I p]∧p < 15) fun args=>match args with
  | [.int _ p]=>U ((2 ^ p.toNat:Nat):Int)
  | _=>undef):=by
 refine comp97.fn (Tab.nil _) (fun args G h=>?_) (fun args G h=>?_)
 ·obtain ⟨p,rfl,_⟩:=h;simp
 ·obtain ⟨p,rfl,h1⟩:=h
  (conv=>whnf)
  refine IteP.mk (fun e=>absurd (show (p:Int) < 0 from e) (by omega)) (fun e=>W.mk ?_)
  (conv=>whnf)
  refine OblP.mk (by simp only [inR];omega) (W.mk ?_)
  (conv=>whnf)
  refine PurP.of _ (pur_shl16u (by omega)) (W.mk ?_)
  (conv=>whnf)
  exact FinP.mk rfl
theorem two_lt {p:Nat} (h:p < 15):2 ^ p < 65536:=Nat.lt_of_le_of_lt (Nat.pow_le_pow_right (by decide) (by omega:p≤14)) (by decide)
theorem and_two (n i:Nat):n &&& 2 ^ i = 0↔n.testBit i = false:=by
 constructor
 ·intro h
  have:=congrArg (fun x=>x.testBit i) h
  simp [Nat.testBit_and,Nat.testBit_two_pow_self] at this
  exact this
 ·intro h
  apply Nat.eq_of_testBit_eq
  intro j
  rw [Nat.testBit_and,Nat.zero_testBit,Nat.testBit_two_pow]
  by_cases e:i = j
  ·subst e;simp [h]
  ·simp [e]
theorem has64:Sound Try.prog 64 id (.fn (fun args _=>∃ (m:Int) (p:Nat),args = [U m,I p]∧p < 15∧0≤m∧m < 65536) fun args=>match args with
  | [.int _ m, .int _ p]=>.bool (m.toNat.testBit p.toNat)
  | _=>undef):=by
 refine comp64.fn (Tab.cons 97 _ bit97 body97 (Tab.nil _)) (fun args G h=>?_) (fun args G h=>?_)
 ·obtain ⟨m,p,rfl,_⟩:=h;simp
 ·obtain ⟨m,p,rfl,h1,h2,h3⟩:=h
  have h4:=two_lt h1
  have h5:=and_two m.toNat p
  (conv=>whnf)
  refine OblP.mk ⟨p,rfl,h1⟩ (W.mk ?_)
  (conv=>whnf)
  refine PurP.of _ (pur_and16 h2 h3 (Int.natCast_nonneg _) (Int.ofNat_lt.2 h4)) (W.mk ?_)
  (conv=>whnf)
  refine IteP.mk (fun e=>W.mk ?_) (fun e=>W.mk ?_)<;>(conv=>whnf)
  ·have e:((m.toNat &&& ((2 ^ p:Nat):Int).toNat:Nat):Int) = 0:=e
   rw [Int.toNat_natCast] at e
   refine FinP.mk ?_
   show Value.bool false = .bool (m.toNat.testBit p)
   rw [h5.1 (by omega)]
  ·have e:¬ ((m.toNat &&& ((2 ^ p:Nat):Int).toNat:Nat):Int) = 0:=e
   rw [Int.toNat_natCast] at e
   refine FinP.mk ?_
   show Value.bool true = .bool (m.toNat.testBit p)
   cases hb:m.toNat.testBit p with
   | true=>rfl
   | false=>exact absurd (h5.2 hb) (by omega)
end Go.Proofs.Ytefnikpoimaiiaa

namespace Go.Proofs.Ytefnikpoimaiiaa
open Go.Pal Go.RowKit
set_option maxRecDepth 100000
def setF (m p:Nat):Bool:=(List.range 15).all fun i=>decide (i < p) || !m.testBit i
theorem setF_iff {m p:Nat}:setF m p = true↔∀ i,p≤i→i < 15→m.testBit i = false:=by
 simp only [setF,List.all_eq_true,List.mem_range,Bool.or_eq_true,decide_eq_true_eq,Bool.not_eq_true']
 exact ⟨fun h i h1 h2=>(h i h2).resolve_left (by omega),fun h i h2=>by
  by_cases h1:i < p
  ·exact .inl h1
  ·exact .inr (h i (by omega) h2)⟩
theorem set34:Sound Try.prog 34 id (.fn (fun args _=>∃ (m:Int) (p:Nat),args = [U m,I p]∧p≤15∧0≤m∧m < 65536) fun args=>match args with
  | [.int _ m, .int _ p]=>.bool (setF m.toNat p.toNat)
  | _=>undef):=by
 refine comp34.fn (Tab.cons 64 _ has64 body64 (Tab.nil _)) (fun args G h=>?_) (fun args G h=>?_)
 ·obtain ⟨m,p,rfl,_⟩:=h;simp
 ·obtain ⟨m,p,rfl,h1,h2,h3⟩:=h
  (conv=>whnf)
  refine LoopP.of { α:=Nat × Unit,fr:=fun x=>[(0, .v (U m)),(1, .v (I p)),(5, .v (I x.1))],H:=fun _=>[],ok:=fun x _=>p≤x.1∧x.1≤15∧∀ i,p≤i→i < x.1→m.toNat.testBit i = false,m:=fun x=>15 - x.1 }
   (p,()) (HeadP.of [] ⟨rfl,rfl,rfl,trivial⟩ trivial) ⟨Nat.le_refl _,h1,fun i a b=>by omega⟩ (fun _=>⟨rfl,rfl⟩) (fun x G' hG hx=>W.mk ?_)
  obtain ⟨i,_⟩:=x
  obtain ⟨k1,k2,k3⟩:=hx
  dsimp only at k1 k2 k3
  dsimp only
  (conv=>whnf)
  refine IteP.mk (fun hlt=>W.mk ?_) (fun hge=>W.mk ?_)<;>(conv=>whnf)
  ·have hlt:(i:Int) < 15:=hlt
   refine OblP.mk ⟨m,i,rfl,by omega,h2,h3⟩ (W.mk ?_)
   (conv=>whnf)
   refine ForkP.mk (fun hb=>W.mk ?_) (fun hb=>W.mk ?_)<;>(conv=>whnf)
   ·have hb:m.toNat.testBit i = true:=hb
    refine FinP.mk ?_
    show Value.bool false = .bool (setF m.toNat p)
    cases hs:setF m.toNat p with
    | false=>rfl
    | true=>have:=setF_iff.1 hs i k1 (by omega);rw [hb] at this;cases this
   ·have hb:m.toNat.testBit i = false:=hb
    (refine ob ?_ ?_;(first | trivial | omega | (simp only [inR];omega) | exact ble (by rfl) | exact SlR.some ‹_› (by omega));(conv=>whnf))
    refine RoundP.of (i + 1,()) (HeadP.of [] ⟨rfl,rfl,rfl,trivial⟩ trivial) ⟨by show p≤i + 1;omega,by show i + 1≤15;omega,fun j a b=>?_⟩ (by show 15 - (i + 1) < 15 - i;omega)
    by_cases e:j = i
    ·subst e;exact hb
    ·exact k3 j a (by have b:j < i + 1:=b;omega)
  ·have hge:¬ (i:Int) < 15:=hge
   refine FinP.mk ?_
   show Value.bool true = .bool (setF m.toNat p)
   rw [setF_iff.2 fun j a b=>k3 j a (by omega)]
structure RefOk (s:Sc):Prop where
 ok:ScOk s
 fit:MsFit s
def tabF7:Tab Try.prog:=Tab.cons 33 _ in33 body33 (Tab.cons 34 _ set34 body34 (Tab.nil _))
theorem fault7:Sound Try.prog 7 id (gsca (args1 scuRd MsOk) fun s v=>∃ e,v = I e∧(e = 0→RefOk s)):=by
 refine comp7.gsca tabF7 (fun args G s h=>?_) (fun args G s h=>?_)
 ·obtain ⟨v,rfl,_⟩:=h;simp
 ·obtain ⟨v,rfl,⟨a,n,c,rfl,hl⟩,hms⟩:=h
  have hln:=hl.len
  (conv=>whnf)
  refine IteP.mk (fun e=>W.mk ?_) (fun e=>W.mk ?_)<;>(conv=>whnf)
  ·exact FinP.mk ⟨_,rfl,fun h=>absurd h (by decide)⟩
  have e:¬ (n:Int) > 40:=e
  refine OblP.mk ⟨_,_,_,rfl⟩ (W.mk ?_)
  (conv=>whnf)
  refine ForkP.mk (fun hb=>W.mk ?_) (fun hb=>W.mk ?_)<;>(conv=>whnf)
  rotate_left
  ·exact FinP.mk ⟨_,rfl,fun h=>absurd h (by decide)⟩
  have b1:(decide (1≤s.persons) && decide (s.persons≤12)) = true:=hb
  refine OblP.mk ⟨_,_,_,rfl⟩ (W.mk ?_)
  (conv=>whnf)
  refine ForkP.mk (fun hb=>W.mk ?_) (fun hb=>W.mk ?_)<;>(conv=>whnf)
  rotate_left
  ·exact FinP.mk ⟨_,rfl,fun h=>absurd h (by decide)⟩
  have b2:(decide (1≤s.most) && decide (s.most≤20)) = true:=hb
  refine OblP.mk ⟨_,_,_,rfl⟩ (W.mk ?_)
  (conv=>whnf)
  refine ForkP.mk (fun hb=>W.mk ?_) (fun hb=>W.mk ?_)<;>(conv=>whnf)
  rotate_left
  ·exact FinP.mk ⟨_,rfl,fun h=>absurd h (by decide)⟩
  have b3:(decide (1≤s.least) && decide (s.least≤s.most)) = true:=hb
  refine OblP.mk ⟨_,_,_,rfl⟩ (W.mk ?_)
  (conv=>whnf)
  refine ForkP.mk (fun hb=>W.mk ?_) (fun hb=>W.mk ?_)<;>(conv=>whnf)
  rotate_left
  ·exact FinP.mk ⟨_,rfl,fun h=>absurd h (by decide)⟩
  have b4:(decide (0≤s.short) && decide (s.short≤20)) = true:=hb
  simp only [Bool.and_eq_true,decide_eq_true_eq] at b1 b2 b3 b4
  have hok:ScOk s:=⟨b1,b2,b3,b4,by omega⟩
  obtain ⟨P,hP⟩:∃ P:Nat,s.persons = (P:Int):=⟨s.persons.toNat,by omega⟩
  refine LoopP.of { α:=Nat × Unit,fr:=fun x=>[(1, .c (.ptr 0 0)),(3, .v (I x.1))],H:=fun _=>[(0, .cells .anon ((scL s (.slice a n c)).map .val) 27)],ok:=fun x _=>x.1≤n∧∀ k m,k < x.1→s.ms[k]? = some m→setF m.f.toNat P = true∧setF m.h.toNat P = true,m:=fun x=>n - x.1 }
   (0,()) (HeadP.of [] ⟨rfl,rfl,trivial⟩ ⟨rfl,trivial⟩) ⟨Nat.zero_le _,fun k m h=>absurd h (Nat.not_lt_zero _)⟩ (fun _=>⟨rfl,rfl⟩) (fun x G' hG hx=>W.mk ?_)
  obtain ⟨i,_⟩:=x
  obtain ⟨k1,k2⟩:=hx
  dsimp only at k1 k2
  dsimp only
  replace hl:=SlR.grow (G:=G) (G':=G') (fun _ _ h=>h) hl hG
  (conv=>whnf)
  refine IteP.mk (fun hlt=>W.mk ?_) (fun hge=>W.mk ?_)<;>(conv=>whnf)
  ·have hlt:i < s.ms.length:=by have hlt:(i:Int) < n:=hlt;omega
   have hel:=hl.el hlt
   obtain ⟨m,hm⟩:∃ m,s.ms[i]? = some m:=⟨_,List.getElem?_eq_getElem hlt⟩
   rw [(List.getElem?_eq_some_iff.1 hm).2] at hel
   have hmo:=hms m (List.mem_of_getElem? hm)
   refine OblP.mk ⟨by omega,by omega⟩ (W.mk ?_)
   (conv=>whnf)
   refine OblP.mk (hl.some (by omega)) (W.mk ?_)
   (conv=>whnf)
   refine RdP.at (cs:=[U m.f]) (CellsAt.drop (d:=0) (n:=1) hel) rfl (W.mk ?_)
   (conv=>whnf)
   refine OblP.mk ⟨m.f,P,by rw [hP],by omega,hmo.f.1,hmo.f.2⟩ (W.mk ?_)
   rw [hP]
   (conv=>whnf)
   refine ForkP.mk (fun hb=>W.mk ?_) (fun hb=>W.mk ?_)<;>(conv=>whnf)
   rotate_left
   ·exact FinP.mk ⟨_,rfl,fun h=>absurd h (by decide)⟩
   have hb1:setF m.f.toNat P = true:=hb
   refine OblP.mk ⟨by omega,by omega⟩ (W.mk ?_)
   (conv=>whnf)
   refine OblP.mk (hl.some (by omega)) (W.mk ?_)
   (conv=>whnf)
   refine RdP.at (cs:=[U m.h]) (CellsAt.drop (d:=1) (n:=1) hel) rfl (W.mk ?_)
   (conv=>whnf)
   refine OblP.mk ⟨m.h,P,by rw [hP],by omega,hmo.h.1,hmo.h.2⟩ (W.mk ?_)
   rw [hP]
   (conv=>whnf)
   refine ForkP.mk (fun hb=>W.mk ?_) (fun hb=>W.mk ?_)<;>(conv=>whnf)
   rotate_left
   ·exact FinP.mk ⟨_,rfl,fun h=>absurd h (by decide)⟩
   have hb2:setF m.h.toNat P = true:=hb
   (refine ob ?_ ?_;(first | trivial | omega | (simp only [inR];omega) | exact ble (by rfl) | exact SlR.some ‹_› (by omega));(conv=>whnf))
   refine RoundP.of (i + 1,()) (HeadP.of [] ⟨rfl,rfl,trivial⟩ ⟨by rw [← hP];rfl,trivial⟩) ⟨by show i + 1≤n;omega,fun k m' hk hm'=>?_⟩ (by show n - (i + 1) < n - i;omega)
   by_cases e:k = i
   ·subst e
    rw [hm] at hm';cases hm'
    exact ⟨hb1,hb2⟩
   ·exact k2 k m' (by have hk:k < i + 1:=hk;omega) hm'
  ·have hge:¬ (i:Int) < n:=hge
   refine FinP.mk ⟨0,rfl,fun _=>⟨hok,fun m hm j hj hj2=>?_⟩⟩
   obtain ⟨k,hk⟩:=List.getElem?_of_mem hm
   have hkl:=(List.getElem?_eq_some_iff.1 hk).1
   obtain ⟨q1,q2⟩:=k2 k m (by show k < i;omega) hk
   exact ⟨setF_iff.1 q1 j (by omega) hj2,setF_iff.1 q2 j (by omega) hj2⟩
theorem scene10h (s:Sc) (hn:s.ms.length≤45):Sound Try.prog 10 id (.hp (fun args p G=>(∃ v,args = [v]∧ScU G v s)∧p = fun _=>none) fun _ _ v p' _=>∃ w,v = .agg (scL s w).toArray∧RowH moE 39 p' w s.ms):=by
 refine comp10.hp (Tab.nil _) (fun args p G h=>?_) (fun args p v p' G G' hg h=>h) (fun args p G h=>?_)
 ·obtain ⟨⟨v,rfl,_⟩,_⟩:=h;simp
 ·obtain ⟨⟨v,rfl,a,n,c,rfl,hl⟩,rfl⟩:=h
  have hln:=hl.len
  (conv=>whnf)
  refine LoopP.of { α:=Nat × Hp × Value,fr:=fun x=>[(1, .c (.ptr 1000 0)),(2, .c (.ptr 1001 0)),(3, .c (.ptr 1011 0)),(4, .v (I x.1))],H:=fun x=>[(0, .heap x.2.1),(1000, .cells .anon ((scL s (.slice a n c)).map .val) 27),(1001, .cells .anon [.val (I 0), .val (I 0), .val (I 0), .val (I 0), .val (.slice none 0 0)] 34),(1011, .cells .anon ((scL s x.2.2).map .val) 34)],ok:=fun x _=>x.1≤s.ms.length∧RowH moE 39 x.2.1 x.2.2 (s.ms.take x.1),m:=fun x=>n - x.1 }
   (0,(fun _=>none), .slice none 0 0) (HeadP.of [] ⟨rfl,rfl,rfl,rfl,trivial⟩ ⟨rfl,rfl,rfl,rfl,trivial⟩) ⟨Nat.zero_le _,RowH.nil⟩ (fun _=>⟨rfl,rfl⟩) (fun x G' hG hx=>W.mk ?_)
  obtain ⟨i,p,w⟩:=x
  obtain ⟨hi,hrow0⟩:=hx
  dsimp only at hi hrow0
  dsimp only
  replace hl:=SlR.grow (G:=G) (G':=G') (fun _ _ h=>h) hl hG
  (conv=>whnf)
  refine IteP.mk (fun hlt=>W.mk ?_) (fun hge=>W.mk ?_)<;>(conv=>whnf)
  ·have hlt:i < s.ms.length:=by have hlt:(i:Int) < n:=hlt;omega
   have hel:=hl.el hlt
   obtain ⟨m,hm⟩:∃ m,s.ms[i]? = some m:=⟨_,List.getElem?_eq_getElem hlt⟩
   rw [(List.getElem?_eq_some_iff.1 hm).2] at hel
   have htl:(s.ms.take i).length = i:=by rw [List.length_take];omega
   refine OblP.mk ⟨by omega,by omega⟩ (W.mk ?_)
   (conv=>whnf)
   refine OblP.mk (hl.some (by omega)) (W.mk ?_)
   (conv=>whnf)
   refine RdhP.g (cs:=[U m.f]) (CellsAt.drop (d:=0) (n:=1) hel) rfl (W.mk ?_)
   (conv=>whnf)
   refine OblP.mk ⟨by omega,by omega⟩ (W.mk ?_)
   (conv=>whnf)
   refine OblP.mk (hl.some (by omega)) (W.mk ?_)
   (conv=>whnf)
   refine RdhP.g (cs:=[U m.h]) (CellsAt.drop (d:=1) (n:=1) hel) rfl (W.mk ?_)
   rcases hrow0 with ⟨rfl,h0⟩ | ⟨bo,co,resto,rfl,hbo,ho1,ho2,ho3⟩
   ·(conv=>whnf)
    refine OblP.mk rfl (W.mk ?_)
    (conv=>whnf)
    refine OblP.mk ⟨by omega,by omega⟩ (W.mk ?_)
    (conv=>whnf)
    refine AppnP.mk (fun b' cap rest' hb1 hb2 hb3 hb4=>W.mk ?_)
    have hrow:=RowH.appNew (E:=moE) (t:=39) (p:=p) (b:=b') (c:=cap) (l:=[]) (us:=[m]) (vs:=[]) (rest':=rest') rfl hb4 hb2 hb3
    (conv=>whnf)
    (refine ob ?_ ?_;(first | trivial | omega | (simp only [inR];omega) | exact ble (by rfl) | exact SlR.some ‹_› (by omega));(conv=>whnf))
    exact RoundP.of (i + 1,_,_) (HeadP.of [] ⟨rfl,rfl,rfl,rfl,trivial⟩ ⟨rfl,rfl,rfl,rfl,trivial⟩) ⟨hlt,by show RowH moE 39 _ _ (s.ms.take (i + 1));rw [take_succ' hm,h0];exact hrow⟩ (by show n - (i + 1) < n - i;omega)
   ·have hon:(flat moE (s.ms.take i)++resto).length = co * 2:=by rw [List.length_append,flat_len,ho1,show moE.k = 2 from rfl];omega
    have hone:∀ u∈(flat moE (s.ms.take i)++resto).take ((s.ms.take i).length * 2),u.oneCell' = true:=by
     have e:=take_flat (E:=moE) (l:=s.ms.take i) (rest:=resto)
     rw [show (s.ms.take i).length * moE.k = (s.ms.take i).length * 2 from rfl] at e
     rw [e];exact flat_one _ _
    (conv=>whnf)
    refine HpkP.mk ⟨_,39,hbo,W.mk ?_⟩
    (conv=>whnf)
    refine OblP.mk ⟨rfl,rfl,hon,ho2,ho3,hone⟩ (W.mk ?_)
    (conv=>whnf)
    refine OblP.mk rfl (W.mk ?_)
    (conv=>whnf)
    refine OblP.mk ⟨by omega, .inl (by decide)⟩ (W.mk ?_)
    (conv=>whnf)
    refine IteP.mk (fun hcap=>W.mk ?_) (fun hcap=>W.mk ?_)
    ·have hcap:(((s.ms.take i).length + 1:Nat):Int)≤co:=hcap
     have hrow:=RowH.appIn (E:=moE) (t:=39) (p:=p) (b:=bo) (us:=[m]) ho1 (by simp only [List.length_singleton];omega) ho3
     (conv=>whnf)
     (refine ob ?_ ?_;(first | trivial | omega | (simp only [inR];omega) | exact ble (by rfl) | exact SlR.some ‹_› (by omega));(conv=>whnf))
     exact RoundP.of (i + 1,_,_) (HeadP.of [] ⟨rfl,rfl,rfl,rfl,trivial⟩ ⟨rfl,rfl,rfl,rfl,trivial⟩) ⟨hlt,by show RowH moE 39 _ _ (s.ms.take (i + 1));rw [take_succ' hm];exact hrow⟩ (by show n - (i + 1) < n - i;omega)
    ·(conv=>whnf)
     refine AppnP.mk (fun b' cap rest' hb1 hb2 hb3 hb4=>W.mk ?_)
     have hrow:=RowH.appNew (E:=moE) (t:=39) (p:=p) (b:=b') (c:=cap) (l:=s.ms.take i) (us:=[m]) (vs:=(flat moE (s.ms.take i)++resto).take ((s.ms.take i).length * moE.k)) (rest':=rest') take_flat hb4 hb2 hb3
     (conv=>whnf)
     (refine ob ?_ ?_;(first | trivial | omega | (simp only [inR];omega) | exact ble (by rfl) | exact SlR.some ‹_› (by omega));(conv=>whnf))
     exact RoundP.of (i + 1,_,_) (HeadP.of [] ⟨rfl,rfl,rfl,rfl,trivial⟩ ⟨rfl,rfl,rfl,rfl,trivial⟩) ⟨hlt,by show RowH moE 39 _ _ (s.ms.take (i + 1));rw [take_succ' hm];exact hrow⟩ (by show n - (i + 1) < n - i;omega)
  ·have hin:i = s.ms.length:=by have hge:¬ (i:Int) < n:=hge;omega
   subst hin
   rw [List.take_length] at hrow0
   obtain ⟨oa,oc,rfl⟩:=hrow0.sl
   (conv=>whnf)
   refine NmP.mk ⟨[],W.mk ?_⟩
   (conv=>whnf)
   exact FinHp.of rfl ⟨_,rfl,hrow0⟩
end Go.Proofs.Ytefnikpoimaiiaa

namespace Go.Proofs.Ytefnikpoimaiiaa.L
open Go.Pal

structure Span where
 fr:Int
 to:Int
deriving DecidableEq,Repr
structure Sit where
 len:Int
 ps:List Span
 long:Int
 short:Int
deriving DecidableEq,Repr
def spanE:El Span:=⟨2,fun p=>[I p.fr,I p.to],fun {x y} h=>by cases x;cases y;simp at h;simp [h],fun _=>rfl,fun _ v hv=>by simp at hv;rcases hv with rfl | rfl<;>rfl⟩
def SitV (G:Hp) (v:Value) (s:Sit):Prop:=∃ w,v = .agg #[I s.len,w,I s.long,I s.short]∧SlV spanE G w s.ps
def sitRd:Rd Sit:=⟨SitV,fun {_ _ x y} ⟨w,h,h1⟩ ⟨w',h',h1'⟩=>by
  subst h;simp at h';obtain ⟨e1,e2,e3,e4⟩:=h';subst e2;have:=h1.uniq h1';cases x;cases y;simp_all,fun hg ⟨w,h,h1⟩=>⟨w,h,h1.grow hg⟩⟩
def inF (n lo hi:Int):Bool:=decide (lo≤n∧n≤hi)
def inS:PSpec:=.fn (fun args _=>∃ n lo hi,args = [I n,I lo,I hi]) (fun args=>match args with | [.int _ n, .int _ lo, .int _ hi]=>.bool (inF n lo hi) | _=>undef)
set_option maxRecDepth 100000
theorem in36:Sound Try.prog 37 id inS:=by
 refine comp36.fn (Tab.nil _) (fun args G h=>?_) (fun args G h=>?_)
 ·obtain ⟨n,lo,hi,rfl⟩:=h;simp
 ·obtain ⟨n,lo,hi,rfl⟩:=h
  (conv=>whnf)
  repeat' (first | (refine IteP.mk (fun _=>W.mk ?_) (fun _=>W.mk ?_)<;>(conv=>whnf)) | (refine ob ?_ ?_;(first | trivial | omega | (simp only [inR];omega) | exact ble (by rfl) | exact SlR.some ‹_› (by omega));(conv=>whnf)) | (refine ForkP.mk (fun _=>W.mk ?_) (fun _=>W.mk ?_)<;>(conv=>whnf)) | (refine ra ‹_› (by rfl) ?_;(conv=>whnf)) | (refine rb ‹_› (by rfl) ?_;(conv=>whnf)) | (refine rc ‹_› (by rfl) ?_;(conv=>whnf)) | (refine rd ‹_› (by rfl) ?_;(conv=>whnf)) | (refine FinP.mk ?_))
  all_goals (refine congrArg Value.bool ?_;simp [inF, *])
theorem in37:Sound Try.prog 43 id inS:=by
 refine comp37.fn (Tab.nil _) (fun args G h=>?_) (fun args G h=>?_)
 ·obtain ⟨n,lo,hi,rfl⟩:=h;simp
 ·obtain ⟨n,lo,hi,rfl⟩:=h
  (conv=>whnf)
  repeat' (first | (refine IteP.mk (fun _=>W.mk ?_) (fun _=>W.mk ?_)<;>(conv=>whnf)) | (refine ob ?_ ?_;(first | trivial | omega | (simp only [inR];omega) | exact ble (by rfl) | exact SlR.some ‹_› (by omega));(conv=>whnf)) | (refine ForkP.mk (fun _=>W.mk ?_) (fun _=>W.mk ?_)<;>(conv=>whnf)) | (refine ra ‹_› (by rfl) ?_;(conv=>whnf)) | (refine rb ‹_› (by rfl) ?_;(conv=>whnf)) | (refine rc ‹_› (by rfl) ?_;(conv=>whnf)) | (refine rd ‹_› (by rfl) ?_;(conv=>whnf)) | (refine FinP.mk ?_))
  all_goals (refine congrArg Value.bool ?_;simp [inF, *])
def longS:PSpec:=.fn (fun args _=>∃ a b:Int,args = [.agg #[I a,I b]]∧inR .i64 (b - a)) (fun args=>match args with | [v]=>(match lst v with | [.int _ a, .int _ b]=>I (b - a) | _=>undef) | _=>undef)
theorem long61:Sound Try.prog 103 id longS:=by
 refine comp61.fn (Tab.nil _) (fun args G h=>?_) (fun args G h=>?_)
 ·obtain ⟨a,b,rfl,_⟩:=h;simp
 ·obtain ⟨a,b,rfl,hb⟩:=h
  simp only [inR] at hb
  (conv=>whnf)
  repeat' (first | (refine IteP.mk (fun _=>W.mk ?_) (fun _=>W.mk ?_)<;>(conv=>whnf)) | (refine ob ?_ ?_;(first | trivial | omega | (simp only [inR];omega) | exact ble (by rfl) | exact SlR.some ‹_› (by omega));(conv=>whnf)) | (refine ForkP.mk (fun _=>W.mk ?_) (fun _=>W.mk ?_)<;>(conv=>whnf)) | (refine ra ‹_› (by rfl) ?_;(conv=>whnf)) | (refine rb ‹_› (by rfl) ?_;(conv=>whnf)) | (refine rc ‹_› (by rfl) ?_;(conv=>whnf)) | (refine rd ‹_› (by rfl) ?_;(conv=>whnf)) | (refine FinP.mk ?_))
  all_goals rfl
def hasF (a b n:Int):Bool:=decide (a≤n∧n < b)
def hasS:PSpec:=.fn (fun args _=>∃ a b n:Int,args = [.agg #[I a,I b],I n]) (fun args=>match args with | [v, .int _ n]=>(match lst v with | [.int _ a, .int _ b]=>.bool (hasF a b n) | _=>undef) | _=>undef)
theorem has40:Sound Try.prog 46 id hasS:=by
 refine comp40.fn (Tab.nil _) (fun args G h=>?_) (fun args G h=>?_)
 ·obtain ⟨a,b,n,rfl⟩:=h;simp
 ·obtain ⟨a,b,n,rfl⟩:=h
  (conv=>whnf)
  repeat' (first | (refine IteP.mk (fun _=>W.mk ?_) (fun _=>W.mk ?_)<;>(conv=>whnf)) | (refine ob ?_ ?_;(first | trivial | omega | (simp only [inR];omega) | exact ble (by rfl) | exact SlR.some ‹_› (by omega));(conv=>whnf)) | (refine ForkP.mk (fun _=>W.mk ?_) (fun _=>W.mk ?_)<;>(conv=>whnf)) | (refine ra ‹_› (by rfl) ?_;(conv=>whnf)) | (refine rb ‹_› (by rfl) ?_;(conv=>whnf)) | (refine rc ‹_› (by rfl) ?_;(conv=>whnf)) | (refine rd ‹_› (by rfl) ?_;(conv=>whnf)) | (refine FinP.mk ?_))
  all_goals (refine congrArg Value.bool ?_;simp [hasF, *])
end Go.Proofs.Ytefnikpoimaiiaa.L

namespace Go.Proofs.Ytefnikpoimaiiaa.L
open Go.Pal

set_option maxRecDepth 100000

def tabA:Tab Try.prog:=Tab.cons 37 inS in36 body36 (Tab.cons 43 inS in37 body37 (Tab.cons 103 longS long61 body61 (Tab.cons 46 hasS has40 body40 (Tab.nil _))))

def goodSpan (last len:Int) (p:Span):Bool:=!(p.fr≤last || p.fr < 0 || p.fr ≥ p.to || p.to > len)
def spansOk (len:Int):Int→List Span→Bool
 | _,[]=>true
 | last,p :: r=>goodSpan last len p && spansOk len p.to r
def validF (s:Sit):Bool:=spansOk s.len (-1) s.ps && (inF s.len 1 36000 && (inF s.long 1 1200 && inF s.short 1 s.long))

theorem valid32:Sound Try.prog 35 id (gsca (args1 sitRd fun _=>True) fun s v=>v = .bool (validF s)):=by
 refine comp32.gsca tabA (fun args G s h=>?_) (fun args G s h=>?_)
 ·obtain ⟨v,rfl,_⟩:=h;simp
 ·obtain ⟨v,rfl,⟨w,rfl,a,n,c,rfl,hl,hn⟩,_⟩:=h
  (conv=>whnf)
  refine LoopP.of { α:=Nat × Int,fr:=fun x=>[(1, .c (.ptr 0 0)),(3, .v (I x.2)),(4, .v (I x.1))],H:=fun _=>[(0, .cells .anon [.val (I s.len), .val (.slice a n c), .val (I s.long), .val (I s.short)] 24)],ok:=fun x _=>x.1≤s.ps.length∧spansOk s.len (-1) s.ps = spansOk s.len x.2 (s.ps.drop x.1),m:=fun x=>s.ps.length - x.1 }
   (0, -1) (HeadP.of [] ⟨rfl,rfl,rfl,trivial⟩ ⟨rfl,trivial⟩) ⟨Nat.zero_le _,rfl⟩ (fun _=>⟨rfl,rfl⟩) (fun x G' hG hx=>W.mk ?_)
  obtain ⟨i,last⟩:=x
  obtain ⟨hi,hx⟩:=hx
  simp only at hi hx
  replace hl:=SlR.grow (G:=G) (G':=G') (fun _ _ h=>h) hl hG
  have hlen:=hl.len
  (conv=>whnf)
  refine IteP.mk (fun hlt=>W.mk ?_) (fun hge=>W.mk ?_)<;>(conv=>whnf)
  ·have hlt:i < s.ps.length:=by omega
   have hc:=hl.el hlt
   rw [List.drop_eq_getElem_cons hlt] at hx
   repeat' (first | (refine IteP.mk (fun _=>W.mk ?_) (fun _=>W.mk ?_)<;>(conv=>whnf)) | (refine ob ?_ ?_;(first | trivial | omega | (simp only [inR];omega) | exact ble (by rfl) | exact SlR.some ‹_› (by omega));(conv=>whnf)) | (refine ForkP.mk (fun _=>W.mk ?_) (fun _=>W.mk ?_)<;>(conv=>whnf)) | (refine ra ‹_› (by rfl) ?_;(conv=>whnf)) | (refine rb ‹_› (by rfl) ?_;(conv=>whnf)) | (refine rc ‹_› (by rfl) ?_;(conv=>whnf)) | (refine rd ‹_› (by rfl) ?_;(conv=>whnf)) | (refine FinP.mk ?_))
   all_goals first
    | (refine congrArg Value.bool ?_;simp only [validF,hx,spansOk,goodSpan];simp [*];done)
    | skip
   ·refine RoundP.of (i + 1,s.ps[i].to) (HeadP.of [] ⟨rfl,rfl,rfl,trivial⟩ ⟨rfl,trivial⟩) ⟨by simp only;omega, ?_⟩ (by simp only;omega)
    simp only [hx,spansOk,goodSpan]
    simp [*]
  ·have:i = s.ps.length:=by omega
   subst this
   simp only [List.drop_length,spansOk] at hx
   repeat' (first | (refine OblP.mk ⟨_,_,_,rfl⟩ (W.mk ?_);(conv=>whnf)) | (refine ForkP.mk (fun _=>W.mk ?_) (fun _=>W.mk ?_)<;>(conv=>whnf)) | (refine FinP.mk ?_))
   all_goals (refine congrArg Value.bool ?_;simp only [validF,hx];simp [*])
end Go.Proofs.Ytefnikpoimaiiaa.L
